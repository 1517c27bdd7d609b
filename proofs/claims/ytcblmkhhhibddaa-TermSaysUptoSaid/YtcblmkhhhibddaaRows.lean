/-
  NARROWER THAN 'FOR EVERY INPUT', by the rows' own cells (each row's printed sentence says how): UnifyMemory: loops · TermLeast: loops · TermSays: loops · TermMemory: loops.
  DERIVED. THE GIVEN ROWS OF THIS SEAT. 10 by the template 'for every input the law returns true; each argument reads behind the call as it read before'; 0 by the template 'total and deterministic' (their statements: YtcblmkhhhibddaaTotals.lean).
  GIVEN WITH THE SEED: the statements are not yours to turn. If you find one false, say at which input.
  Laid BY PROGRAM, IN A SANDBOX (cutbox-rows.mjs): the forced cells as the released guide's own fill.sh prints them over the translation c32ecce0878b9779… (all of the seat's roots in one cut). By AI agents, Wed Nov 11 2026. No macro, syntax, notation, axiom, sorry.
-/
import Derived.Test.YtcblmkhhhibddaaChecked
import GoSem.Claim
import GoSem.ClaimJoined
import GoSem.ClaimMapViews
import Derived.JoinedTies
import Derived.KernelRfl
namespace Go.Proofs.Ytcblmkhhhibddaa
/- THE CELL 'sum', in the pinned program and in every row, IS THE sha256 OF THE DUMP (.gsa) THAT YtcblmkhhhibddaaProg.lean LOADS. Nothing in Lean hashes anything: it is a label: what it is worth is what the hold of that sum in a sandbox is worth. -/
noncomputable def Try.pinned : Pinned := { name := "ytcblmkhhhibddaa", sum := "c32ecce0878b9779764de50baea61ff84a5d8fda7b458f485bed801c351cb07b", checked := Try.checked }
namespace Rows
def none {H : Type} : Left H := { results := [], args := [] }

/-- 'hornkeep.UnifyMemory': WHATEVER THE INPUT: true; the input reads as it did. -/
def unifyMemorySpec : ChangeSpec := { name := "unifyMemory", fn := fun _ => fun
  | [d1, d2] => { results := [.lit (.bool true)], args := [d1, d2] }
  | _ => none }
def unifyMemoryRow : OpenClaim := { program := "ytcblmkhhhibddaa", sum := "c32ecce0878b9779764de50baea61ff84a5d8fda7b458f485bed801c351cb07b", func := "hornbook/hornkeep.UnifyMemory", spec := "unifyMemory", unfollowed := true, recurses := true, loops := true, apart := false }
def UnifyMemorySaid : Prop := unifyMemoryRow.holds Try.pinned (OpenSpec.ofChange unifyMemorySpec)

/-- ITS FALSE NEIGHBOUR: 'it returns false'. Refute it at one input. -/
def unifyMemoryWrong : ChangeSpec := { name := "unifyMemory", fn := fun _ => fun
  | [d1, d2] => { results := [.lit (.bool false)], args := [d1, d2] }
  | _ => none }
def UnifyMemoryWrongFalsely : Prop := unifyMemoryRow.holds Try.pinned (OpenSpec.ofChange unifyMemoryWrong)

/-- 'hornkeep.TermLeast': WHATEVER THE INPUT: true; the input reads as it did. -/
def termLeastSpec : ChangeSpec := { name := "termLeast", fn := fun _ => fun
  | [d1, d2, d3] => { results := [.lit (.bool true)], args := [d1, d2, d3] }
  | _ => none }
def termLeastRow : OpenClaim := { program := "ytcblmkhhhibddaa", sum := "c32ecce0878b9779764de50baea61ff84a5d8fda7b458f485bed801c351cb07b", func := "hornbook/hornkeep.TermLeast", spec := "termLeast", inPlace := ["internal/bytealg.abigen_runtime_cmpstring"], unfollowed := true, recurses := true, loops := true, apart := false }
def TermLeastSaid : Prop := termLeastRow.holds Try.pinned (OpenSpec.ofChange termLeastSpec)

/-- ITS FALSE NEIGHBOUR: 'it returns false'. Refute it at one input. -/
def termLeastWrong : ChangeSpec := { name := "termLeast", fn := fun _ => fun
  | [d1, d2, d3] => { results := [.lit (.bool false)], args := [d1, d2, d3] }
  | _ => none }
def TermLeastWrongFalsely : Prop := termLeastRow.holds Try.pinned (OpenSpec.ofChange termLeastWrong)

/-- 'hornlaw.TermSays': WHATEVER THE INPUT: true; the input reads as it did. -/
def termSaysSpec : ChangeSpec := { name := "termSays", fn := fun _ => fun
  | [d1, d2, d3, d4] => { results := [.lit (.bool true)], args := [d1, d2, d3, d4] }
  | _ => none }
def termSaysRow : OpenClaim := { program := "ytcblmkhhhibddaa", sum := "c32ecce0878b9779764de50baea61ff84a5d8fda7b458f485bed801c351cb07b", func := "hornbook/hornlaw.TermSays", spec := "termSays", inPlace := ["internal/bytealg.abigen_runtime_cmpstring"], unfollowed := true, recurses := true, loops := true, apart := false }
def TermSaysSaid : Prop := termSaysRow.holds Try.pinned (OpenSpec.ofChange termSaysSpec)

/-- ITS FALSE NEIGHBOUR: 'it returns false'. Refute it at one input. -/
def termSaysWrong : ChangeSpec := { name := "termSays", fn := fun _ => fun
  | [d1, d2, d3, d4] => { results := [.lit (.bool false)], args := [d1, d2, d3, d4] }
  | _ => none }
def TermSaysWrongFalsely : Prop := termSaysRow.holds Try.pinned (OpenSpec.ofChange termSaysWrong)

/-- 'hornkeep.TermMemory': WHATEVER THE INPUT: true; the input reads as it did. -/
def termMemorySpec : ChangeSpec := { name := "termMemory", fn := fun _ => fun
  | [d1, d2, d3, d4, d5] => { results := [.lit (.bool true)], args := [d1, d2, d3, d4, d5] }
  | _ => none }
def termMemoryRow : OpenClaim := { program := "ytcblmkhhhibddaa", sum := "c32ecce0878b9779764de50baea61ff84a5d8fda7b458f485bed801c351cb07b", func := "hornbook/hornkeep.TermMemory", spec := "termMemory", inPlace := ["internal/bytealg.abigen_runtime_cmpstring"], unfollowed := true, recurses := true, loops := true, apart := false }
def TermMemorySaid : Prop := termMemoryRow.holds Try.pinned (OpenSpec.ofChange termMemorySpec)

/-- ITS FALSE NEIGHBOUR: 'it returns false'. Refute it at one input. -/
def termMemoryWrong : ChangeSpec := { name := "termMemory", fn := fun _ => fun
  | [d1, d2, d3, d4, d5] => { results := [.lit (.bool false)], args := [d1, d2, d3, d4, d5] }
  | _ => none }
def TermMemoryWrongFalsely : Prop := termMemoryRow.holds Try.pinned (OpenSpec.ofChange termMemoryWrong)

/-- 'hornlaw.DomainReduces': WHATEVER THE INPUT: true; the input reads as it did. -/
def domainReducesSpec : ChangeSpec := { name := "domainReduces", fn := fun _ => fun
  | [d] => { results := [.lit (.bool true)], args := [d] }
  | _ => none }
def domainReducesRow : OpenClaim := { program := "ytcblmkhhhibddaa", sum := "c32ecce0878b9779764de50baea61ff84a5d8fda7b458f485bed801c351cb07b", func := "hornbook/hornlaw.DomainReduces", spec := "domainReduces", unfollowed := true, recurses := true, apart := false }
def DomainReducesSaid : Prop := domainReducesRow.holds Try.pinned (OpenSpec.ofChange domainReducesSpec)

/-- ITS FALSE NEIGHBOUR: 'it returns false'. Refute it at one input. -/
def domainReducesWrong : ChangeSpec := { name := "domainReduces", fn := fun _ => fun
  | [d] => { results := [.lit (.bool false)], args := [d] }
  | _ => none }
def DomainReducesWrongFalsely : Prop := domainReducesRow.holds Try.pinned (OpenSpec.ofChange domainReducesWrong)

/-- 'hornkeep.DomainKeeps': WHATEVER THE INPUT: true; the input reads as it did. -/
def domainKeepsSpec : ChangeSpec := { name := "domainKeeps", fn := fun _ => fun
  | [d1, d2] => { results := [.lit (.bool true)], args := [d1, d2] }
  | _ => none }
def domainKeepsRow : OpenClaim := { program := "ytcblmkhhhibddaa", sum := "c32ecce0878b9779764de50baea61ff84a5d8fda7b458f485bed801c351cb07b", func := "hornbook/hornkeep.DomainKeeps", spec := "domainKeeps", unfollowed := true, recurses := true, apart := false }
def DomainKeepsSaid : Prop := domainKeepsRow.holds Try.pinned (OpenSpec.ofChange domainKeepsSpec)

/-- ITS FALSE NEIGHBOUR: 'it returns false'. Refute it at one input. -/
def domainKeepsWrong : ChangeSpec := { name := "domainKeeps", fn := fun _ => fun
  | [d1, d2] => { results := [.lit (.bool false)], args := [d1, d2] }
  | _ => none }
def DomainKeepsWrongFalsely : Prop := domainKeepsRow.holds Try.pinned (OpenSpec.ofChange domainKeepsWrong)

/-- 'hornkeep.DomainOrder': WHATEVER THE INPUT: true; the input reads as it did. -/
def domainOrderSpec : ChangeSpec := { name := "domainOrder", fn := fun _ => fun
  | [d1, d2, d3] => { results := [.lit (.bool true)], args := [d1, d2, d3] }
  | _ => none }
def domainOrderRow : OpenClaim := { program := "ytcblmkhhhibddaa", sum := "c32ecce0878b9779764de50baea61ff84a5d8fda7b458f485bed801c351cb07b", func := "hornbook/hornkeep.DomainOrder", spec := "domainOrder", unfollowed := true, recurses := true, apart := false }
def DomainOrderSaid : Prop := domainOrderRow.holds Try.pinned (OpenSpec.ofChange domainOrderSpec)

/-- ITS FALSE NEIGHBOUR: 'it returns false'. Refute it at one input. -/
def domainOrderWrong : ChangeSpec := { name := "domainOrder", fn := fun _ => fun
  | [d1, d2, d3] => { results := [.lit (.bool false)], args := [d1, d2, d3] }
  | _ => none }
def DomainOrderWrongFalsely : Prop := domainOrderRow.holds Try.pinned (OpenSpec.ofChange domainOrderWrong)

/-- 'hornkeep.DomainFinds': WHATEVER THE INPUT: true; the input reads as it did. -/
def domainFindsSpec : ChangeSpec := { name := "domainFinds", fn := fun _ => fun
  | [d1, d2, d3] => { results := [.lit (.bool true)], args := [d1, d2, d3] }
  | _ => none }
def domainFindsRow : OpenClaim := { program := "ytcblmkhhhibddaa", sum := "c32ecce0878b9779764de50baea61ff84a5d8fda7b458f485bed801c351cb07b", func := "hornbook/hornkeep.DomainFinds", spec := "domainFinds", unfollowed := true, recurses := true, apart := false }
def DomainFindsSaid : Prop := domainFindsRow.holds Try.pinned (OpenSpec.ofChange domainFindsSpec)

/-- ITS FALSE NEIGHBOUR: 'it returns false'. Refute it at one input. -/
def domainFindsWrong : ChangeSpec := { name := "domainFinds", fn := fun _ => fun
  | [d1, d2, d3] => { results := [.lit (.bool false)], args := [d1, d2, d3] }
  | _ => none }
def DomainFindsWrongFalsely : Prop := domainFindsRow.holds Try.pinned (OpenSpec.ofChange domainFindsWrong)

/-- 'hornlaw.DomainSolves': WHATEVER THE INPUT: true; the input reads as it did. -/
def domainSolvesSpec : ChangeSpec := { name := "domainSolves", fn := fun _ => fun
  | [d1, d2, d3] => { results := [.lit (.bool true)], args := [d1, d2, d3] }
  | _ => none }
def domainSolvesRow : OpenClaim := { program := "ytcblmkhhhibddaa", sum := "c32ecce0878b9779764de50baea61ff84a5d8fda7b458f485bed801c351cb07b", func := "hornbook/hornlaw.DomainSolves", spec := "domainSolves", unfollowed := true, recurses := true, apart := false }
def DomainSolvesSaid : Prop := domainSolvesRow.holds Try.pinned (OpenSpec.ofChange domainSolvesSpec)

/-- ITS FALSE NEIGHBOUR: 'it returns false'. Refute it at one input. -/
def domainSolvesWrong : ChangeSpec := { name := "domainSolves", fn := fun _ => fun
  | [d1, d2, d3] => { results := [.lit (.bool false)], args := [d1, d2, d3] }
  | _ => none }
def DomainSolvesWrongFalsely : Prop := domainSolvesRow.holds Try.pinned (OpenSpec.ofChange domainSolvesWrong)

/-- 'hornkeep.DomainMemory': WHATEVER THE INPUT: true; the input reads as it did. -/
def domainMemorySpec : ChangeSpec := { name := "domainMemory", fn := fun _ => fun
  | [d1, d2, d3] => { results := [.lit (.bool true)], args := [d1, d2, d3] }
  | _ => none }
def domainMemoryRow : OpenClaim := { program := "ytcblmkhhhibddaa", sum := "c32ecce0878b9779764de50baea61ff84a5d8fda7b458f485bed801c351cb07b", func := "hornbook/hornkeep.DomainMemory", spec := "domainMemory", unfollowed := true, recurses := true, apart := false }
def DomainMemorySaid : Prop := domainMemoryRow.holds Try.pinned (OpenSpec.ofChange domainMemorySpec)

/-- ITS FALSE NEIGHBOUR: 'it returns false'. Refute it at one input. -/
def domainMemoryWrong : ChangeSpec := { name := "domainMemory", fn := fun _ => fun
  | [d1, d2, d3] => { results := [.lit (.bool false)], args := [d1, d2, d3] }
  | _ => none }
def DomainMemoryWrongFalsely : Prop := domainMemoryRow.holds Try.pinned (OpenSpec.ofChange domainMemoryWrong)

/- THE SECOND FORM. 'bulk': how many values and letters a reading holds, each counted each time it is reached (what is shared counts as often as it is met; a slice's spare places count too). A statement '..UptoSaid' is the law's where the arguments, and the package variables that the reading takes, are together of bulk at most 1048576: NARROWER than '..Said'. Prove '..Said' where nothing that the law and all that it calls make is longer than what came in: it says more and counts as full. Else prove '..UptoSaid'. A law counts once. -/
mutual
def uptoBulk {H : Type} : DataW H → Nat
  | .lit (.string bytes) => bytes.length + 1
  | .lit _ => 1
  | .nil => 1
  | .ptr d => uptoBulk d + 1
  | .slice elems spare => uptoBulkAll elems + uptoBulkAll spare + 1
  | .agg parts => uptoBulkAll parts + 1
  | .iface _ d => uptoBulk d + 1
  | .map entries => uptoBulkEntries entries + 1
  | .held _ => 1
def uptoBulkAll {H : Type} : List (DataW H) → Nat
  | [] => 0
  | d :: r => uptoBulk d + uptoBulkAll r
def uptoBulkEntries {H : Type} : List (Lit × DataW H) → Nat
  | [] => 0
  | x :: r => uptoBulkEntry x + uptoBulkEntries r
def uptoBulkEntry {H : Type} : Lit × DataW H → Nat
  | (.string bytes, d) => bytes.length + uptoBulk d + 1
  | (_, d) => uptoBulk d + 1
 end
def uptoSmall : (H : Type) → List (DataW H) → Bool := fun _ ds => decide (uptoBulkAll ds ≤ 1048576)
def OpenSpec.upto (s : _root_.Go.ChangeSpec) : _root_.Go.OpenSpec := { _root_.Go.OpenSpec.ofChange s with cond := some uptoSmall }

/-- 'hornkeep.UnifyMemory', WHERE WHAT IT READS IS OF BULK AT MOST 1048576: true; the input reads as it did. -/
def unifyMemoryUptoRow : OpenClaim := { program := "ytcblmkhhhibddaa", sum := "c32ecce0878b9779764de50baea61ff84a5d8fda7b458f485bed801c351cb07b", func := "hornbook/hornkeep.UnifyMemory", spec := "unifyMemory", unfollowed := true, recurses := true, loops := true, apart := false, narrowed := true }
def UnifyMemoryUptoSaid : Prop := unifyMemoryUptoRow.holds Try.pinned (OpenSpec.upto unifyMemorySpec)

/-- 'hornkeep.TermLeast', WHERE WHAT IT READS IS OF BULK AT MOST 1048576: true; the input reads as it did. -/
def termLeastUptoRow : OpenClaim := { program := "ytcblmkhhhibddaa", sum := "c32ecce0878b9779764de50baea61ff84a5d8fda7b458f485bed801c351cb07b", func := "hornbook/hornkeep.TermLeast", spec := "termLeast", inPlace := ["internal/bytealg.abigen_runtime_cmpstring"], unfollowed := true, recurses := true, loops := true, apart := false, narrowed := true }
def TermLeastUptoSaid : Prop := termLeastUptoRow.holds Try.pinned (OpenSpec.upto termLeastSpec)

/-- 'hornlaw.TermSays', WHERE WHAT IT READS IS OF BULK AT MOST 1048576: true; the input reads as it did. -/
def termSaysUptoRow : OpenClaim := { program := "ytcblmkhhhibddaa", sum := "c32ecce0878b9779764de50baea61ff84a5d8fda7b458f485bed801c351cb07b", func := "hornbook/hornlaw.TermSays", spec := "termSays", inPlace := ["internal/bytealg.abigen_runtime_cmpstring"], unfollowed := true, recurses := true, loops := true, apart := false, narrowed := true }
def TermSaysUptoSaid : Prop := termSaysUptoRow.holds Try.pinned (OpenSpec.upto termSaysSpec)

/-- 'hornkeep.TermMemory', WHERE WHAT IT READS IS OF BULK AT MOST 1048576: true; the input reads as it did. -/
def termMemoryUptoRow : OpenClaim := { program := "ytcblmkhhhibddaa", sum := "c32ecce0878b9779764de50baea61ff84a5d8fda7b458f485bed801c351cb07b", func := "hornbook/hornkeep.TermMemory", spec := "termMemory", inPlace := ["internal/bytealg.abigen_runtime_cmpstring"], unfollowed := true, recurses := true, loops := true, apart := false, narrowed := true }
def TermMemoryUptoSaid : Prop := termMemoryUptoRow.holds Try.pinned (OpenSpec.upto termMemorySpec)

/-- 'hornlaw.DomainReduces', WHERE WHAT IT READS IS OF BULK AT MOST 1048576: true; the input reads as it did. -/
def domainReducesUptoRow : OpenClaim := { program := "ytcblmkhhhibddaa", sum := "c32ecce0878b9779764de50baea61ff84a5d8fda7b458f485bed801c351cb07b", func := "hornbook/hornlaw.DomainReduces", spec := "domainReduces", unfollowed := true, recurses := true, apart := false, narrowed := true }
def DomainReducesUptoSaid : Prop := domainReducesUptoRow.holds Try.pinned (OpenSpec.upto domainReducesSpec)

/-- 'hornkeep.DomainKeeps', WHERE WHAT IT READS IS OF BULK AT MOST 1048576: true; the input reads as it did. -/
def domainKeepsUptoRow : OpenClaim := { program := "ytcblmkhhhibddaa", sum := "c32ecce0878b9779764de50baea61ff84a5d8fda7b458f485bed801c351cb07b", func := "hornbook/hornkeep.DomainKeeps", spec := "domainKeeps", unfollowed := true, recurses := true, apart := false, narrowed := true }
def DomainKeepsUptoSaid : Prop := domainKeepsUptoRow.holds Try.pinned (OpenSpec.upto domainKeepsSpec)

/-- 'hornkeep.DomainOrder', WHERE WHAT IT READS IS OF BULK AT MOST 1048576: true; the input reads as it did. -/
def domainOrderUptoRow : OpenClaim := { program := "ytcblmkhhhibddaa", sum := "c32ecce0878b9779764de50baea61ff84a5d8fda7b458f485bed801c351cb07b", func := "hornbook/hornkeep.DomainOrder", spec := "domainOrder", unfollowed := true, recurses := true, apart := false, narrowed := true }
def DomainOrderUptoSaid : Prop := domainOrderUptoRow.holds Try.pinned (OpenSpec.upto domainOrderSpec)

/-- 'hornkeep.DomainFinds', WHERE WHAT IT READS IS OF BULK AT MOST 1048576: true; the input reads as it did. -/
def domainFindsUptoRow : OpenClaim := { program := "ytcblmkhhhibddaa", sum := "c32ecce0878b9779764de50baea61ff84a5d8fda7b458f485bed801c351cb07b", func := "hornbook/hornkeep.DomainFinds", spec := "domainFinds", unfollowed := true, recurses := true, apart := false, narrowed := true }
def DomainFindsUptoSaid : Prop := domainFindsUptoRow.holds Try.pinned (OpenSpec.upto domainFindsSpec)

/-- 'hornlaw.DomainSolves', WHERE WHAT IT READS IS OF BULK AT MOST 1048576: true; the input reads as it did. -/
def domainSolvesUptoRow : OpenClaim := { program := "ytcblmkhhhibddaa", sum := "c32ecce0878b9779764de50baea61ff84a5d8fda7b458f485bed801c351cb07b", func := "hornbook/hornlaw.DomainSolves", spec := "domainSolves", unfollowed := true, recurses := true, apart := false, narrowed := true }
def DomainSolvesUptoSaid : Prop := domainSolvesUptoRow.holds Try.pinned (OpenSpec.upto domainSolvesSpec)

/-- 'hornkeep.DomainMemory', WHERE WHAT IT READS IS OF BULK AT MOST 1048576: true; the input reads as it did. -/
def domainMemoryUptoRow : OpenClaim := { program := "ytcblmkhhhibddaa", sum := "c32ecce0878b9779764de50baea61ff84a5d8fda7b458f485bed801c351cb07b", func := "hornbook/hornkeep.DomainMemory", spec := "domainMemory", unfollowed := true, recurses := true, apart := false, narrowed := true }
def DomainMemoryUptoSaid : Prop := domainMemoryUptoRow.holds Try.pinned (OpenSpec.upto domainMemorySpec)

end Rows
end Go.Proofs.Ytcblmkhhhibddaa
