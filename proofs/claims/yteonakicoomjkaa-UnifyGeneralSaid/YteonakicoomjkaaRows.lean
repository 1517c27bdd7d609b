/-
  NARROWER THAN 'FOR EVERY INPUT', by the rows' own cells (each row's printed sentence says how): ArithSays: loops · GrammarMemory: loops · BaseBack: loops · BaseView: loops · TermBinds: loops · UnifyGeneral: loops · UnifySays: loops · UnifyPlays: loops · UnifyOrder: loops · UnifyMemory: loops.
  DERIVED. THE GIVEN ROWS OF THIS SEAT. 10 by the template 'for every input the law returns true; each argument reads behind the call as it read before'; 0 by the template 'total and deterministic' (their statements: YteonakicoomjkaaTotals.lean).
  GIVEN WITH THE SEED: the statements are not yours to turn. If you find one false, say at which input.
  Laid BY PROGRAM, IN A SANDBOX (cutbox-rows.mjs): the forced cells as the released guide's own fill.sh prints them over the translation bef20bf8bef2610c… (all of the seat's roots in one cut). By AI agents, Wed Nov 11 2026. No macro, syntax, notation, axiom, sorry.
-/
import Derived.Test.YteonakicoomjkaaChecked
import GoSem.Claim
import GoSem.ClaimJoined
import GoSem.ClaimMapViews
import Derived.JoinedTies
import Derived.KernelRfl
namespace Go.Proofs.Yteonakicoomjkaa
/- THE CELL 'sum', in the pinned program and in every row, IS THE sha256 OF THE DUMP (.gsa) THAT YteonakicoomjkaaProg.lean LOADS. Nothing in Lean hashes anything: it is a label: what it is worth is what the hold of that sum in a sandbox is worth. -/
noncomputable def Try.pinned : Pinned := { name := "yteonakicoomjkaa", sum := "bef20bf8bef2610c096311b5c2ddf64bfedff961c1ebaedf59c44f7a3d542498", checked := Try.checked }
namespace Rows
def none {H : Type} : Left H := { results := [], args := [] }

/-- 'hornlaw.ArithSays': WHATEVER THE INPUT: true; the input reads as it did. -/
def arithSaysSpec : ChangeSpec := { name := "arithSays", fn := fun _ => fun
  | [d] => { results := [.lit (.bool true)], args := [d] }
  | _ => none }
def arithSaysRow : OpenClaim := { program := "yteonakicoomjkaa", sum := "bef20bf8bef2610c096311b5c2ddf64bfedff961c1ebaedf59c44f7a3d542498", func := "hornbook/hornlaw.ArithSays", spec := "arithSays", unfollowed := true, recurses := true, loops := true, plainKeys := false, apart := false }
def ArithSaysSaid : Prop := arithSaysRow.holds Try.pinned (OpenSpec.ofChange arithSaysSpec)

/-- ITS FALSE NEIGHBOUR: 'it returns false'. Refute it at one input. -/
def arithSaysWrong : ChangeSpec := { name := "arithSays", fn := fun _ => fun
  | [d] => { results := [.lit (.bool false)], args := [d] }
  | _ => none }
def ArithSaysWrongFalsely : Prop := arithSaysRow.holds Try.pinned (OpenSpec.ofChange arithSaysWrong)

/-- 'hornkeep.GrammarMemory': WHATEVER THE INPUT: true; the input reads as it did. -/
def grammarMemorySpec : ChangeSpec := { name := "grammarMemory", fn := fun _ => fun
  | [d1, d2, d3, d4] => { results := [.lit (.bool true)], args := [d1, d2, d3, d4] }
  | _ => none }
def grammarMemoryRow : OpenClaim := { program := "yteonakicoomjkaa", sum := "bef20bf8bef2610c096311b5c2ddf64bfedff961c1ebaedf59c44f7a3d542498", func := "hornbook/hornkeep.GrammarMemory", spec := "grammarMemory", unfollowed := true, recurses := true, loops := true, plainKeys := false, apart := false }
def GrammarMemorySaid : Prop := grammarMemoryRow.holds Try.pinned (OpenSpec.ofChange grammarMemorySpec)

/-- ITS FALSE NEIGHBOUR: 'it returns false'. Refute it at one input. -/
def grammarMemoryWrong : ChangeSpec := { name := "grammarMemory", fn := fun _ => fun
  | [d1, d2, d3, d4] => { results := [.lit (.bool false)], args := [d1, d2, d3, d4] }
  | _ => none }
def GrammarMemoryWrongFalsely : Prop := grammarMemoryRow.holds Try.pinned (OpenSpec.ofChange grammarMemoryWrong)

/-- 'hornkeep.BaseBack': WHATEVER THE INPUT: true; the input reads as it did. -/
def baseBackSpec : ChangeSpec := { name := "baseBack", fn := fun _ => fun
  | [d] => { results := [.lit (.bool true)], args := [d] }
  | _ => none }
def baseBackRow : OpenClaim := { program := "yteonakicoomjkaa", sum := "bef20bf8bef2610c096311b5c2ddf64bfedff961c1ebaedf59c44f7a3d542498", func := "hornbook/hornkeep.BaseBack", spec := "baseBack", inPlace := ["internal/bytealg.abigen_runtime_cmpstring", "slices.overlaps[int]"], unfollowed := true, recurses := true, loops := true, plainKeys := false, apart := false }
def BaseBackSaid : Prop := baseBackRow.holds Try.pinned (OpenSpec.ofChange baseBackSpec)

/-- ITS FALSE NEIGHBOUR: 'it returns false'. Refute it at one input. -/
def baseBackWrong : ChangeSpec := { name := "baseBack", fn := fun _ => fun
  | [d] => { results := [.lit (.bool false)], args := [d] }
  | _ => none }
def BaseBackWrongFalsely : Prop := baseBackRow.holds Try.pinned (OpenSpec.ofChange baseBackWrong)

/-- 'hornkeep.BaseView': WHATEVER THE INPUT: true; the input reads as it did. -/
def baseViewSpec : ChangeSpec := { name := "baseView", fn := fun _ => fun
  | [d1, d2, d3, d4] => { results := [.lit (.bool true)], args := [d1, d2, d3, d4] }
  | _ => none }
def baseViewRow : OpenClaim := { program := "yteonakicoomjkaa", sum := "bef20bf8bef2610c096311b5c2ddf64bfedff961c1ebaedf59c44f7a3d542498", func := "hornbook/hornkeep.BaseView", spec := "baseView", inPlace := ["internal/bytealg.abigen_runtime_cmpstring", "slices.overlaps[int]"], unfollowed := true, recurses := true, loops := true, plainKeys := false, apart := false }
def BaseViewSaid : Prop := baseViewRow.holds Try.pinned (OpenSpec.ofChange baseViewSpec)

/-- ITS FALSE NEIGHBOUR: 'it returns false'. Refute it at one input. -/
def baseViewWrong : ChangeSpec := { name := "baseView", fn := fun _ => fun
  | [d1, d2, d3, d4] => { results := [.lit (.bool false)], args := [d1, d2, d3, d4] }
  | _ => none }
def BaseViewWrongFalsely : Prop := baseViewRow.holds Try.pinned (OpenSpec.ofChange baseViewWrong)

/-- 'hornlaw.TermBinds': WHATEVER THE INPUT: true; the input reads as it did. -/
def termBindsSpec : ChangeSpec := { name := "termBinds", fn := fun _ => fun
  | [d1, d2, d3] => { results := [.lit (.bool true)], args := [d1, d2, d3] }
  | _ => none }
def termBindsRow : OpenClaim := { program := "yteonakicoomjkaa", sum := "bef20bf8bef2610c096311b5c2ddf64bfedff961c1ebaedf59c44f7a3d542498", func := "hornbook/hornlaw.TermBinds", spec := "termBinds", unfollowed := true, recurses := true, loops := true, plainKeys := false, apart := false }
def TermBindsSaid : Prop := termBindsRow.holds Try.pinned (OpenSpec.ofChange termBindsSpec)

/-- ITS FALSE NEIGHBOUR: 'it returns false'. Refute it at one input. -/
def termBindsWrong : ChangeSpec := { name := "termBinds", fn := fun _ => fun
  | [d1, d2, d3] => { results := [.lit (.bool false)], args := [d1, d2, d3] }
  | _ => none }
def TermBindsWrongFalsely : Prop := termBindsRow.holds Try.pinned (OpenSpec.ofChange termBindsWrong)

/-- 'hornkeep.UnifyGeneral': WHATEVER THE INPUT: true; the input reads as it did. -/
def unifyGeneralSpec : ChangeSpec := { name := "unifyGeneral", fn := fun _ => fun
  | [d1, d2] => { results := [.lit (.bool true)], args := [d1, d2] }
  | _ => none }
def unifyGeneralRow : OpenClaim := { program := "yteonakicoomjkaa", sum := "bef20bf8bef2610c096311b5c2ddf64bfedff961c1ebaedf59c44f7a3d542498", func := "hornbook/hornkeep.UnifyGeneral", spec := "unifyGeneral", unfollowed := true, recurses := true, loops := true, plainKeys := false, apart := false }
def UnifyGeneralSaid : Prop := unifyGeneralRow.holds Try.pinned (OpenSpec.ofChange unifyGeneralSpec)

/-- ITS FALSE NEIGHBOUR: 'it returns false'. Refute it at one input. -/
def unifyGeneralWrong : ChangeSpec := { name := "unifyGeneral", fn := fun _ => fun
  | [d1, d2] => { results := [.lit (.bool false)], args := [d1, d2] }
  | _ => none }
def UnifyGeneralWrongFalsely : Prop := unifyGeneralRow.holds Try.pinned (OpenSpec.ofChange unifyGeneralWrong)

/-- 'hornlaw.UnifySays': WHATEVER THE INPUT: true; the input reads as it did. -/
def unifySaysSpec : ChangeSpec := { name := "unifySays", fn := fun _ => fun
  | [d] => { results := [.lit (.bool true)], args := [d] }
  | _ => none }
def unifySaysRow : OpenClaim := { program := "yteonakicoomjkaa", sum := "bef20bf8bef2610c096311b5c2ddf64bfedff961c1ebaedf59c44f7a3d542498", func := "hornbook/hornlaw.UnifySays", spec := "unifySays", unfollowed := true, recurses := true, loops := true, plainKeys := false, apart := false }
def UnifySaysSaid : Prop := unifySaysRow.holds Try.pinned (OpenSpec.ofChange unifySaysSpec)

/-- ITS FALSE NEIGHBOUR: 'it returns false'. Refute it at one input. -/
def unifySaysWrong : ChangeSpec := { name := "unifySays", fn := fun _ => fun
  | [d] => { results := [.lit (.bool false)], args := [d] }
  | _ => none }
def UnifySaysWrongFalsely : Prop := unifySaysRow.holds Try.pinned (OpenSpec.ofChange unifySaysWrong)

/-- 'hornlaw.UnifyPlays': WHATEVER THE INPUT: true; the input reads as it did. -/
def unifyPlaysSpec : ChangeSpec := { name := "unifyPlays", fn := fun _ => fun
  | [d] => { results := [.lit (.bool true)], args := [d] }
  | _ => none }
def unifyPlaysRow : OpenClaim := { program := "yteonakicoomjkaa", sum := "bef20bf8bef2610c096311b5c2ddf64bfedff961c1ebaedf59c44f7a3d542498", func := "hornbook/hornlaw.UnifyPlays", spec := "unifyPlays", unfollowed := true, recurses := true, loops := true, plainKeys := false, apart := false }
def UnifyPlaysSaid : Prop := unifyPlaysRow.holds Try.pinned (OpenSpec.ofChange unifyPlaysSpec)

/-- ITS FALSE NEIGHBOUR: 'it returns false'. Refute it at one input. -/
def unifyPlaysWrong : ChangeSpec := { name := "unifyPlays", fn := fun _ => fun
  | [d] => { results := [.lit (.bool false)], args := [d] }
  | _ => none }
def UnifyPlaysWrongFalsely : Prop := unifyPlaysRow.holds Try.pinned (OpenSpec.ofChange unifyPlaysWrong)

/-- 'hornkeep.UnifyOrder': WHATEVER THE INPUT: true; the input reads as it did. -/
def unifyOrderSpec : ChangeSpec := { name := "unifyOrder", fn := fun _ => fun
  | [d1, d2] => { results := [.lit (.bool true)], args := [d1, d2] }
  | _ => none }
def unifyOrderRow : OpenClaim := { program := "yteonakicoomjkaa", sum := "bef20bf8bef2610c096311b5c2ddf64bfedff961c1ebaedf59c44f7a3d542498", func := "hornbook/hornkeep.UnifyOrder", spec := "unifyOrder", unfollowed := true, recurses := true, loops := true, plainKeys := false, apart := false }
def UnifyOrderSaid : Prop := unifyOrderRow.holds Try.pinned (OpenSpec.ofChange unifyOrderSpec)

/-- ITS FALSE NEIGHBOUR: 'it returns false'. Refute it at one input. -/
def unifyOrderWrong : ChangeSpec := { name := "unifyOrder", fn := fun _ => fun
  | [d1, d2] => { results := [.lit (.bool false)], args := [d1, d2] }
  | _ => none }
def UnifyOrderWrongFalsely : Prop := unifyOrderRow.holds Try.pinned (OpenSpec.ofChange unifyOrderWrong)

/-- 'hornkeep.UnifyMemory': WHATEVER THE INPUT: true; the input reads as it did. -/
def unifyMemorySpec : ChangeSpec := { name := "unifyMemory", fn := fun _ => fun
  | [d1, d2] => { results := [.lit (.bool true)], args := [d1, d2] }
  | _ => none }
def unifyMemoryRow : OpenClaim := { program := "yteonakicoomjkaa", sum := "bef20bf8bef2610c096311b5c2ddf64bfedff961c1ebaedf59c44f7a3d542498", func := "hornbook/hornkeep.UnifyMemory", spec := "unifyMemory", unfollowed := true, recurses := true, loops := true, plainKeys := false, apart := false }
def UnifyMemorySaid : Prop := unifyMemoryRow.holds Try.pinned (OpenSpec.ofChange unifyMemorySpec)

/-- ITS FALSE NEIGHBOUR: 'it returns false'. Refute it at one input. -/
def unifyMemoryWrong : ChangeSpec := { name := "unifyMemory", fn := fun _ => fun
  | [d1, d2] => { results := [.lit (.bool false)], args := [d1, d2] }
  | _ => none }
def UnifyMemoryWrongFalsely : Prop := unifyMemoryRow.holds Try.pinned (OpenSpec.ofChange unifyMemoryWrong)

/- THE SECOND FORM. 'bulk': how many values and letters a reading holds, each counted each time it is reached (what is shared counts as often as it is met; a slice's spare places count too). A statement '..UptoSaid' is the law's where the arguments, and the package variables that the reading takes, are together of bulk at most 1048576: NARROWER than '..Said'. Prove '..Said' where nothing that the law and all that it calls make is longer than what came in: it says more and counts as full. Else prove '..UptoSaid'. A law counts once. -/
mutual
def uptoBulk {H : Type} : DataW H → Nat
  | .lit (.string bytes) => bytes.length + 1
  | .lit _ => 1
  | .nil => 1
  | .ptr d => uptoBulk d + 1
  | .slice elems spare => uptoBulkAll elems + uptoBulkAll spare + 1
  | .agg parts => uptoBulkAll parts + 1
  | .iface _ d => uptoBulk d + 1
  | .map entries => uptoBulkEntries entries + 1
  | .held _ => 1
def uptoBulkAll {H : Type} : List (DataW H) → Nat
  | [] => 0
  | d :: r => uptoBulk d + uptoBulkAll r
def uptoBulkEntries {H : Type} : List (Lit × DataW H) → Nat
  | [] => 0
  | x :: r => uptoBulkEntry x + uptoBulkEntries r
def uptoBulkEntry {H : Type} : Lit × DataW H → Nat
  | (.string bytes, d) => bytes.length + uptoBulk d + 1
  | (_, d) => uptoBulk d + 1
 end
def uptoSmall : (H : Type) → List (DataW H) → Bool := fun _ ds => decide (uptoBulkAll ds ≤ 1048576)
def OpenSpec.upto (s : _root_.Go.ChangeSpec) : _root_.Go.OpenSpec := { _root_.Go.OpenSpec.ofChange s with cond := some uptoSmall }

/-- 'hornlaw.ArithSays', WHERE WHAT IT READS IS OF BULK AT MOST 1048576: true; the input reads as it did. -/
def arithSaysUptoRow : OpenClaim := { program := "yteonakicoomjkaa", sum := "bef20bf8bef2610c096311b5c2ddf64bfedff961c1ebaedf59c44f7a3d542498", func := "hornbook/hornlaw.ArithSays", spec := "arithSays", unfollowed := true, recurses := true, loops := true, plainKeys := false, apart := false, narrowed := true }
def ArithSaysUptoSaid : Prop := arithSaysUptoRow.holds Try.pinned (OpenSpec.upto arithSaysSpec)

/-- 'hornkeep.GrammarMemory', WHERE WHAT IT READS IS OF BULK AT MOST 1048576: true; the input reads as it did. -/
def grammarMemoryUptoRow : OpenClaim := { program := "yteonakicoomjkaa", sum := "bef20bf8bef2610c096311b5c2ddf64bfedff961c1ebaedf59c44f7a3d542498", func := "hornbook/hornkeep.GrammarMemory", spec := "grammarMemory", unfollowed := true, recurses := true, loops := true, plainKeys := false, apart := false, narrowed := true }
def GrammarMemoryUptoSaid : Prop := grammarMemoryUptoRow.holds Try.pinned (OpenSpec.upto grammarMemorySpec)

/-- 'hornkeep.BaseBack', WHERE WHAT IT READS IS OF BULK AT MOST 1048576: true; the input reads as it did. -/
def baseBackUptoRow : OpenClaim := { program := "yteonakicoomjkaa", sum := "bef20bf8bef2610c096311b5c2ddf64bfedff961c1ebaedf59c44f7a3d542498", func := "hornbook/hornkeep.BaseBack", spec := "baseBack", inPlace := ["internal/bytealg.abigen_runtime_cmpstring", "slices.overlaps[int]"], unfollowed := true, recurses := true, loops := true, plainKeys := false, apart := false, narrowed := true }
def BaseBackUptoSaid : Prop := baseBackUptoRow.holds Try.pinned (OpenSpec.upto baseBackSpec)

/-- 'hornkeep.BaseView', WHERE WHAT IT READS IS OF BULK AT MOST 1048576: true; the input reads as it did. -/
def baseViewUptoRow : OpenClaim := { program := "yteonakicoomjkaa", sum := "bef20bf8bef2610c096311b5c2ddf64bfedff961c1ebaedf59c44f7a3d542498", func := "hornbook/hornkeep.BaseView", spec := "baseView", inPlace := ["internal/bytealg.abigen_runtime_cmpstring", "slices.overlaps[int]"], unfollowed := true, recurses := true, loops := true, plainKeys := false, apart := false, narrowed := true }
def BaseViewUptoSaid : Prop := baseViewUptoRow.holds Try.pinned (OpenSpec.upto baseViewSpec)

/-- 'hornlaw.TermBinds', WHERE WHAT IT READS IS OF BULK AT MOST 1048576: true; the input reads as it did. -/
def termBindsUptoRow : OpenClaim := { program := "yteonakicoomjkaa", sum := "bef20bf8bef2610c096311b5c2ddf64bfedff961c1ebaedf59c44f7a3d542498", func := "hornbook/hornlaw.TermBinds", spec := "termBinds", unfollowed := true, recurses := true, loops := true, plainKeys := false, apart := false, narrowed := true }
def TermBindsUptoSaid : Prop := termBindsUptoRow.holds Try.pinned (OpenSpec.upto termBindsSpec)

/-- 'hornkeep.UnifyGeneral', WHERE WHAT IT READS IS OF BULK AT MOST 1048576: true; the input reads as it did. -/
def unifyGeneralUptoRow : OpenClaim := { program := "yteonakicoomjkaa", sum := "bef20bf8bef2610c096311b5c2ddf64bfedff961c1ebaedf59c44f7a3d542498", func := "hornbook/hornkeep.UnifyGeneral", spec := "unifyGeneral", unfollowed := true, recurses := true, loops := true, plainKeys := false, apart := false, narrowed := true }
def UnifyGeneralUptoSaid : Prop := unifyGeneralUptoRow.holds Try.pinned (OpenSpec.upto unifyGeneralSpec)

/-- 'hornlaw.UnifySays', WHERE WHAT IT READS IS OF BULK AT MOST 1048576: true; the input reads as it did. -/
def unifySaysUptoRow : OpenClaim := { program := "yteonakicoomjkaa", sum := "bef20bf8bef2610c096311b5c2ddf64bfedff961c1ebaedf59c44f7a3d542498", func := "hornbook/hornlaw.UnifySays", spec := "unifySays", unfollowed := true, recurses := true, loops := true, plainKeys := false, apart := false, narrowed := true }
def UnifySaysUptoSaid : Prop := unifySaysUptoRow.holds Try.pinned (OpenSpec.upto unifySaysSpec)

/-- 'hornlaw.UnifyPlays', WHERE WHAT IT READS IS OF BULK AT MOST 1048576: true; the input reads as it did. -/
def unifyPlaysUptoRow : OpenClaim := { program := "yteonakicoomjkaa", sum := "bef20bf8bef2610c096311b5c2ddf64bfedff961c1ebaedf59c44f7a3d542498", func := "hornbook/hornlaw.UnifyPlays", spec := "unifyPlays", unfollowed := true, recurses := true, loops := true, plainKeys := false, apart := false, narrowed := true }
def UnifyPlaysUptoSaid : Prop := unifyPlaysUptoRow.holds Try.pinned (OpenSpec.upto unifyPlaysSpec)

/-- 'hornkeep.UnifyOrder', WHERE WHAT IT READS IS OF BULK AT MOST 1048576: true; the input reads as it did. -/
def unifyOrderUptoRow : OpenClaim := { program := "yteonakicoomjkaa", sum := "bef20bf8bef2610c096311b5c2ddf64bfedff961c1ebaedf59c44f7a3d542498", func := "hornbook/hornkeep.UnifyOrder", spec := "unifyOrder", unfollowed := true, recurses := true, loops := true, plainKeys := false, apart := false, narrowed := true }
def UnifyOrderUptoSaid : Prop := unifyOrderUptoRow.holds Try.pinned (OpenSpec.upto unifyOrderSpec)

/-- 'hornkeep.UnifyMemory', WHERE WHAT IT READS IS OF BULK AT MOST 1048576: true; the input reads as it did. -/
def unifyMemoryUptoRow : OpenClaim := { program := "yteonakicoomjkaa", sum := "bef20bf8bef2610c096311b5c2ddf64bfedff961c1ebaedf59c44f7a3d542498", func := "hornbook/hornkeep.UnifyMemory", spec := "unifyMemory", unfollowed := true, recurses := true, loops := true, plainKeys := false, apart := false, narrowed := true }
def UnifyMemoryUptoSaid : Prop := unifyMemoryUptoRow.holds Try.pinned (OpenSpec.upto unifyMemorySpec)

end Rows
end Go.Proofs.Yteonakicoomjkaa
