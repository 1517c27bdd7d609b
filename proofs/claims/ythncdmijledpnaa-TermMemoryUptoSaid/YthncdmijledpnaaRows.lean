/-
  NARROWER THAN 'FOR EVERY INPUT', by the rows' own cells (each row's printed sentence says how): UnifyMemory: loops · TermLeast: loops · TermSays: loops · TermMemory: loops · GrammarMemory: loops · TermActs: loops · BaseMemory: loops.
  DERIVED. THE GIVEN ROWS OF THIS SEAT. 7 by the template 'for every input the law returns true; each argument reads behind the call as it read before'; 0 by the template 'total and deterministic' (their statements: YthncdmijledpnaaTotals.lean).
  GIVEN WITH THE SEED: the statements are not yours to turn. If you find one false, say at which input.
  Laid BY PROGRAM, IN A SANDBOX (cutbox-rows.mjs): the forced cells as the released guide's own fill.sh prints them over the translation 64f700ede64a1cf5… (all of the seat's roots in one cut). By AI agents, Wed Nov 11 2026. No macro, syntax, notation, axiom, sorry.
-/
import Derived.Test.YthncdmijledpnaaChecked
import GoSem.Claim
import GoSem.ClaimJoined
import GoSem.ClaimMapViews
import Derived.JoinedTies
import Derived.KernelRfl
namespace Go.Proofs.Ythncdmijledpnaa
/- THE CELL 'sum', in the pinned program and in every row, IS THE sha256 OF THE DUMP (.gsa) THAT YthncdmijledpnaaProg.lean LOADS. Nothing in Lean hashes anything: it is a label: what it is worth is what the hold of that sum in a sandbox is worth. -/
noncomputable def Try.pinned : Pinned := { name := "ythncdmijledpnaa", sum := "64f700ede64a1cf548c12e51fdcf4b714b1eb5845e2d6a73bb579ef9d07cfeaa", checked := Try.checked }
namespace Rows
def none {H : Type} : Left H := { results := [], args := [] }

/-- 'hornkeep.UnifyMemory': WHATEVER THE INPUT: true; the input reads as it did. -/
def unifyMemorySpec : ChangeSpec := { name := "unifyMemory", fn := fun _ => fun
  | [d1, d2] => { results := [.lit (.bool true)], args := [d1, d2] }
  | _ => none }
def unifyMemoryRow : OpenClaim := { program := "ythncdmijledpnaa", sum := "64f700ede64a1cf548c12e51fdcf4b714b1eb5845e2d6a73bb579ef9d07cfeaa", func := "hornbook/hornkeep.UnifyMemory", spec := "unifyMemory", unfollowed := true, recurses := true, loops := true, plainKeys := false, apart := false }
def UnifyMemorySaid : Prop := unifyMemoryRow.holds Try.pinned (OpenSpec.ofChange unifyMemorySpec)

/-- ITS FALSE NEIGHBOUR: 'it returns false'. Refute it at one input. -/
def unifyMemoryWrong : ChangeSpec := { name := "unifyMemory", fn := fun _ => fun
  | [d1, d2] => { results := [.lit (.bool false)], args := [d1, d2] }
  | _ => none }
def UnifyMemoryWrongFalsely : Prop := unifyMemoryRow.holds Try.pinned (OpenSpec.ofChange unifyMemoryWrong)

/-- 'hornkeep.TermLeast': WHATEVER THE INPUT: true; the input reads as it did. -/
def termLeastSpec : ChangeSpec := { name := "termLeast", fn := fun _ => fun
  | [d1, d2, d3] => { results := [.lit (.bool true)], args := [d1, d2, d3] }
  | _ => none }
def termLeastRow : OpenClaim := { program := "ythncdmijledpnaa", sum := "64f700ede64a1cf548c12e51fdcf4b714b1eb5845e2d6a73bb579ef9d07cfeaa", func := "hornbook/hornkeep.TermLeast", spec := "termLeast", inPlace := ["internal/bytealg.abigen_runtime_cmpstring"], unfollowed := true, recurses := true, loops := true, plainKeys := false, apart := false }
def TermLeastSaid : Prop := termLeastRow.holds Try.pinned (OpenSpec.ofChange termLeastSpec)

/-- ITS FALSE NEIGHBOUR: 'it returns false'. Refute it at one input. -/
def termLeastWrong : ChangeSpec := { name := "termLeast", fn := fun _ => fun
  | [d1, d2, d3] => { results := [.lit (.bool false)], args := [d1, d2, d3] }
  | _ => none }
def TermLeastWrongFalsely : Prop := termLeastRow.holds Try.pinned (OpenSpec.ofChange termLeastWrong)

/-- 'hornlaw.TermSays': WHATEVER THE INPUT: true; the input reads as it did. -/
def termSaysSpec : ChangeSpec := { name := "termSays", fn := fun _ => fun
  | [d1, d2, d3, d4] => { results := [.lit (.bool true)], args := [d1, d2, d3, d4] }
  | _ => none }
def termSaysRow : OpenClaim := { program := "ythncdmijledpnaa", sum := "64f700ede64a1cf548c12e51fdcf4b714b1eb5845e2d6a73bb579ef9d07cfeaa", func := "hornbook/hornlaw.TermSays", spec := "termSays", inPlace := ["internal/bytealg.abigen_runtime_cmpstring"], unfollowed := true, recurses := true, loops := true, plainKeys := false, apart := false }
def TermSaysSaid : Prop := termSaysRow.holds Try.pinned (OpenSpec.ofChange termSaysSpec)

/-- ITS FALSE NEIGHBOUR: 'it returns false'. Refute it at one input. -/
def termSaysWrong : ChangeSpec := { name := "termSays", fn := fun _ => fun
  | [d1, d2, d3, d4] => { results := [.lit (.bool false)], args := [d1, d2, d3, d4] }
  | _ => none }
def TermSaysWrongFalsely : Prop := termSaysRow.holds Try.pinned (OpenSpec.ofChange termSaysWrong)

/-- 'hornkeep.TermMemory': WHATEVER THE INPUT: true; the input reads as it did. -/
def termMemorySpec : ChangeSpec := { name := "termMemory", fn := fun _ => fun
  | [d1, d2, d3, d4, d5] => { results := [.lit (.bool true)], args := [d1, d2, d3, d4, d5] }
  | _ => none }
def termMemoryRow : OpenClaim := { program := "ythncdmijledpnaa", sum := "64f700ede64a1cf548c12e51fdcf4b714b1eb5845e2d6a73bb579ef9d07cfeaa", func := "hornbook/hornkeep.TermMemory", spec := "termMemory", inPlace := ["internal/bytealg.abigen_runtime_cmpstring"], unfollowed := true, recurses := true, loops := true, plainKeys := false, apart := false }
def TermMemorySaid : Prop := termMemoryRow.holds Try.pinned (OpenSpec.ofChange termMemorySpec)

/-- ITS FALSE NEIGHBOUR: 'it returns false'. Refute it at one input. -/
def termMemoryWrong : ChangeSpec := { name := "termMemory", fn := fun _ => fun
  | [d1, d2, d3, d4, d5] => { results := [.lit (.bool false)], args := [d1, d2, d3, d4, d5] }
  | _ => none }
def TermMemoryWrongFalsely : Prop := termMemoryRow.holds Try.pinned (OpenSpec.ofChange termMemoryWrong)

/-- 'hornkeep.GrammarMemory': WHATEVER THE INPUT: true; the input reads as it did. -/
def grammarMemorySpec : ChangeSpec := { name := "grammarMemory", fn := fun _ => fun
  | [d1, d2, d3, d4] => { results := [.lit (.bool true)], args := [d1, d2, d3, d4] }
  | _ => none }
def grammarMemoryRow : OpenClaim := { program := "ythncdmijledpnaa", sum := "64f700ede64a1cf548c12e51fdcf4b714b1eb5845e2d6a73bb579ef9d07cfeaa", func := "hornbook/hornkeep.GrammarMemory", spec := "grammarMemory", unfollowed := true, recurses := true, loops := true, plainKeys := false, apart := false }
def GrammarMemorySaid : Prop := grammarMemoryRow.holds Try.pinned (OpenSpec.ofChange grammarMemorySpec)

/-- ITS FALSE NEIGHBOUR: 'it returns false'. Refute it at one input. -/
def grammarMemoryWrong : ChangeSpec := { name := "grammarMemory", fn := fun _ => fun
  | [d1, d2, d3, d4] => { results := [.lit (.bool false)], args := [d1, d2, d3, d4] }
  | _ => none }
def GrammarMemoryWrongFalsely : Prop := grammarMemoryRow.holds Try.pinned (OpenSpec.ofChange grammarMemoryWrong)

/-- 'hornkeep.TermActs': WHATEVER THE INPUT: true; the input reads as it did. -/
def termActsSpec : ChangeSpec := { name := "termActs", fn := fun _ => fun
  | [d1, d2, d3, d4] => { results := [.lit (.bool true)], args := [d1, d2, d3, d4] }
  | _ => none }
def termActsRow : OpenClaim := { program := "ythncdmijledpnaa", sum := "64f700ede64a1cf548c12e51fdcf4b714b1eb5845e2d6a73bb579ef9d07cfeaa", func := "hornbook/hornkeep.TermActs", spec := "termActs", inPlace := ["internal/bytealg.abigen_runtime_cmpstring"], unfollowed := true, recurses := true, loops := true, plainKeys := false, apart := false }
def TermActsSaid : Prop := termActsRow.holds Try.pinned (OpenSpec.ofChange termActsSpec)

/-- ITS FALSE NEIGHBOUR: 'it returns false'. Refute it at one input. -/
def termActsWrong : ChangeSpec := { name := "termActs", fn := fun _ => fun
  | [d1, d2, d3, d4] => { results := [.lit (.bool false)], args := [d1, d2, d3, d4] }
  | _ => none }
def TermActsWrongFalsely : Prop := termActsRow.holds Try.pinned (OpenSpec.ofChange termActsWrong)

/-- 'hornkeep.BaseMemory': WHATEVER THE INPUT: true; the input reads as it did. -/
def baseMemorySpec : ChangeSpec := { name := "baseMemory", fn := fun _ => fun
  | [d1, d2] => { results := [.lit (.bool true)], args := [d1, d2] }
  | _ => none }
def baseMemoryRow : OpenClaim := { program := "ythncdmijledpnaa", sum := "64f700ede64a1cf548c12e51fdcf4b714b1eb5845e2d6a73bb579ef9d07cfeaa", func := "hornbook/hornkeep.BaseMemory", spec := "baseMemory", inPlace := ["internal/bytealg.abigen_runtime_cmpstring", "slices.overlaps[int]"], unfollowed := true, recurses := true, loops := true, plainKeys := false, apart := false }
def BaseMemorySaid : Prop := baseMemoryRow.holds Try.pinned (OpenSpec.ofChange baseMemorySpec)

/-- ITS FALSE NEIGHBOUR: 'it returns false'. Refute it at one input. -/
def baseMemoryWrong : ChangeSpec := { name := "baseMemory", fn := fun _ => fun
  | [d1, d2] => { results := [.lit (.bool false)], args := [d1, d2] }
  | _ => none }
def BaseMemoryWrongFalsely : Prop := baseMemoryRow.holds Try.pinned (OpenSpec.ofChange baseMemoryWrong)

/- THE SECOND FORM. 'bulk': how many values and letters a reading holds, each counted each time it is reached (what is shared counts as often as it is met; a slice's spare places count too). A statement '..UptoSaid' is the law's where the arguments, and the package variables that the reading takes, are together of bulk at most 1048576: NARROWER than '..Said'. Prove '..Said' where nothing that the law and all that it calls make is longer than what came in: it says more and counts as full. Else prove '..UptoSaid'. A law counts once. -/
mutual
def uptoBulk {H : Type} : DataW H → Nat
  | .lit (.string bytes) => bytes.length + 1
  | .lit _ => 1
  | .nil => 1
  | .ptr d => uptoBulk d + 1
  | .slice elems spare => uptoBulkAll elems + uptoBulkAll spare + 1
  | .agg parts => uptoBulkAll parts + 1
  | .iface _ d => uptoBulk d + 1
  | .map entries => uptoBulkEntries entries + 1
  | .held _ => 1
def uptoBulkAll {H : Type} : List (DataW H) → Nat
  | [] => 0
  | d :: r => uptoBulk d + uptoBulkAll r
def uptoBulkEntries {H : Type} : List (Lit × DataW H) → Nat
  | [] => 0
  | x :: r => uptoBulkEntry x + uptoBulkEntries r
def uptoBulkEntry {H : Type} : Lit × DataW H → Nat
  | (.string bytes, d) => bytes.length + uptoBulk d + 1
  | (_, d) => uptoBulk d + 1
 end
def uptoSmall : (H : Type) → List (DataW H) → Bool := fun _ ds => decide (uptoBulkAll ds ≤ 1048576)
def OpenSpec.upto (s : _root_.Go.ChangeSpec) : _root_.Go.OpenSpec := { _root_.Go.OpenSpec.ofChange s with cond := some uptoSmall }

/-- 'hornkeep.UnifyMemory', WHERE WHAT IT READS IS OF BULK AT MOST 1048576: true; the input reads as it did. -/
def unifyMemoryUptoRow : OpenClaim := { program := "ythncdmijledpnaa", sum := "64f700ede64a1cf548c12e51fdcf4b714b1eb5845e2d6a73bb579ef9d07cfeaa", func := "hornbook/hornkeep.UnifyMemory", spec := "unifyMemory", unfollowed := true, recurses := true, loops := true, plainKeys := false, apart := false, narrowed := true }
def UnifyMemoryUptoSaid : Prop := unifyMemoryUptoRow.holds Try.pinned (OpenSpec.upto unifyMemorySpec)

/-- 'hornkeep.TermLeast', WHERE WHAT IT READS IS OF BULK AT MOST 1048576: true; the input reads as it did. -/
def termLeastUptoRow : OpenClaim := { program := "ythncdmijledpnaa", sum := "64f700ede64a1cf548c12e51fdcf4b714b1eb5845e2d6a73bb579ef9d07cfeaa", func := "hornbook/hornkeep.TermLeast", spec := "termLeast", inPlace := ["internal/bytealg.abigen_runtime_cmpstring"], unfollowed := true, recurses := true, loops := true, plainKeys := false, apart := false, narrowed := true }
def TermLeastUptoSaid : Prop := termLeastUptoRow.holds Try.pinned (OpenSpec.upto termLeastSpec)

/-- 'hornlaw.TermSays', WHERE WHAT IT READS IS OF BULK AT MOST 1048576: true; the input reads as it did. -/
def termSaysUptoRow : OpenClaim := { program := "ythncdmijledpnaa", sum := "64f700ede64a1cf548c12e51fdcf4b714b1eb5845e2d6a73bb579ef9d07cfeaa", func := "hornbook/hornlaw.TermSays", spec := "termSays", inPlace := ["internal/bytealg.abigen_runtime_cmpstring"], unfollowed := true, recurses := true, loops := true, plainKeys := false, apart := false, narrowed := true }
def TermSaysUptoSaid : Prop := termSaysUptoRow.holds Try.pinned (OpenSpec.upto termSaysSpec)

/-- 'hornkeep.TermMemory', WHERE WHAT IT READS IS OF BULK AT MOST 1048576: true; the input reads as it did. -/
def termMemoryUptoRow : OpenClaim := { program := "ythncdmijledpnaa", sum := "64f700ede64a1cf548c12e51fdcf4b714b1eb5845e2d6a73bb579ef9d07cfeaa", func := "hornbook/hornkeep.TermMemory", spec := "termMemory", inPlace := ["internal/bytealg.abigen_runtime_cmpstring"], unfollowed := true, recurses := true, loops := true, plainKeys := false, apart := false, narrowed := true }
def TermMemoryUptoSaid : Prop := termMemoryUptoRow.holds Try.pinned (OpenSpec.upto termMemorySpec)

/-- 'hornkeep.GrammarMemory', WHERE WHAT IT READS IS OF BULK AT MOST 1048576: true; the input reads as it did. -/
def grammarMemoryUptoRow : OpenClaim := { program := "ythncdmijledpnaa", sum := "64f700ede64a1cf548c12e51fdcf4b714b1eb5845e2d6a73bb579ef9d07cfeaa", func := "hornbook/hornkeep.GrammarMemory", spec := "grammarMemory", unfollowed := true, recurses := true, loops := true, plainKeys := false, apart := false, narrowed := true }
def GrammarMemoryUptoSaid : Prop := grammarMemoryUptoRow.holds Try.pinned (OpenSpec.upto grammarMemorySpec)

/-- 'hornkeep.TermActs', WHERE WHAT IT READS IS OF BULK AT MOST 1048576: true; the input reads as it did. -/
def termActsUptoRow : OpenClaim := { program := "ythncdmijledpnaa", sum := "64f700ede64a1cf548c12e51fdcf4b714b1eb5845e2d6a73bb579ef9d07cfeaa", func := "hornbook/hornkeep.TermActs", spec := "termActs", inPlace := ["internal/bytealg.abigen_runtime_cmpstring"], unfollowed := true, recurses := true, loops := true, plainKeys := false, apart := false, narrowed := true }
def TermActsUptoSaid : Prop := termActsUptoRow.holds Try.pinned (OpenSpec.upto termActsSpec)

/-- 'hornkeep.BaseMemory', WHERE WHAT IT READS IS OF BULK AT MOST 1048576: true; the input reads as it did. -/
def baseMemoryUptoRow : OpenClaim := { program := "ythncdmijledpnaa", sum := "64f700ede64a1cf548c12e51fdcf4b714b1eb5845e2d6a73bb579ef9d07cfeaa", func := "hornbook/hornkeep.BaseMemory", spec := "baseMemory", inPlace := ["internal/bytealg.abigen_runtime_cmpstring", "slices.overlaps[int]"], unfollowed := true, recurses := true, loops := true, plainKeys := false, apart := false, narrowed := true }
def BaseMemoryUptoSaid : Prop := baseMemoryUptoRow.holds Try.pinned (OpenSpec.upto baseMemorySpec)

end Rows
end Go.Proofs.Ythncdmijledpnaa
