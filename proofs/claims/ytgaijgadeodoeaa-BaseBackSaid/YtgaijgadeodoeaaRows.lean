/-
  NARROWER THAN 'FOR EVERY INPUT', by the rows' own cells (each row's printed sentence says how): TermOrder: loops · ArithHolds: loops · ArithFolds: loops · ArithSays: loops · GrammarMemory: loops · BaseBack: loops.
  DERIVED. THE GIVEN ROWS OF THIS SEAT. 9 by the template 'for every input the law returns true; each argument reads behind the call as it read before'; 0 by the template 'total and deterministic' (their statements: YtgaijgadeodoeaaTotals.lean).
  GIVEN WITH THE SEED: the statements are not yours to turn. If you find one false, say at which input.
  Laid BY PROGRAM, IN A SANDBOX (cutbox-rows.mjs): the forced cells as the released guide's own fill.sh prints them over the translation 75cc51bef820757b… (all of the seat's roots in one cut). By AI agents, Wed Nov 11 2026. No macro, syntax, notation, axiom, sorry.
-/
import Derived.Test.YtgaijgadeodoeaaChecked
import GoSem.Claim
import GoSem.ClaimJoined
import GoSem.ClaimMapViews
import Derived.JoinedTies
import Derived.KernelRfl
namespace Go.Proofs.Ytgaijgadeodoeaa
/- THE CELL 'sum', in the pinned program and in every row, IS THE sha256 OF THE DUMP (.gsa) THAT YtgaijgadeodoeaaProg.lean LOADS. Nothing in Lean hashes anything: it is a label: what it is worth is what the hold of that sum in a sandbox is worth. -/
noncomputable def Try.pinned : Pinned := { name := "ytgaijgadeodoeaa", sum := "75cc51bef820757b80733b1a7750994713ad7da0c0806c63c551fe4a0dae1834", checked := Try.checked }
namespace Rows
def none {H : Type} : Left H := { results := [], args := [] }

/-- 'hornlaw.Names': WHATEVER THE INPUT: true; the input reads as it did. -/
def namesSpec : ChangeSpec := { name := "names", fn := fun _ => fun
  | [] => { results := [.lit (.bool true)], args := [] }
  | _ => none }
def namesRow : OpenClaim := { program := "ytgaijgadeodoeaa", sum := "75cc51bef820757b80733b1a7750994713ad7da0c0806c63c551fe4a0dae1834", func := "hornbook/hornlaw.Names", spec := "names", recurses := true, plainKeys := false, apart := false }
def NamesSaid : Prop := namesRow.holds Try.pinned (OpenSpec.ofChange namesSpec)

/-- ITS FALSE NEIGHBOUR: 'it returns false'. Refute it at one input. -/
def namesWrong : ChangeSpec := { name := "names", fn := fun _ => fun
  | [] => { results := [.lit (.bool false)], args := [] }
  | _ => none }
def NamesWrongFalsely : Prop := namesRow.holds Try.pinned (OpenSpec.ofChange namesWrong)

/-- 'hornkeep.TermOrder': WHATEVER THE INPUT: true; the input reads as it did. -/
def termOrderSpec : ChangeSpec := { name := "termOrder", fn := fun _ => fun
  | [d1, d2, d3] => { results := [.lit (.bool true)], args := [d1, d2, d3] }
  | _ => none }
def termOrderRow : OpenClaim := { program := "ytgaijgadeodoeaa", sum := "75cc51bef820757b80733b1a7750994713ad7da0c0806c63c551fe4a0dae1834", func := "hornbook/hornkeep.TermOrder", spec := "termOrder", inPlace := ["internal/bytealg.abigen_runtime_cmpstring"], unfollowed := true, recurses := true, loops := true, plainKeys := false, apart := false }
def TermOrderSaid : Prop := termOrderRow.holds Try.pinned (OpenSpec.ofChange termOrderSpec)

/-- ITS FALSE NEIGHBOUR: 'it returns false'. Refute it at one input. -/
def termOrderWrong : ChangeSpec := { name := "termOrder", fn := fun _ => fun
  | [d1, d2, d3] => { results := [.lit (.bool false)], args := [d1, d2, d3] }
  | _ => none }
def TermOrderWrongFalsely : Prop := termOrderRow.holds Try.pinned (OpenSpec.ofChange termOrderWrong)

/-- 'hornkeep.ArithDivides': WHATEVER THE INPUT: true; the input reads as it did. -/
def arithDividesSpec : ChangeSpec := { name := "arithDivides", fn := fun _ => fun
  | [d1, d2, d3] => { results := [.lit (.bool true)], args := [d1, d2, d3] }
  | _ => none }
def arithDividesRow : OpenClaim := { program := "ytgaijgadeodoeaa", sum := "75cc51bef820757b80733b1a7750994713ad7da0c0806c63c551fe4a0dae1834", func := "hornbook/hornkeep.ArithDivides", spec := "arithDivides", unfollowed := true, recurses := true, plainKeys := false, apart := false }
def ArithDividesSaid : Prop := arithDividesRow.holds Try.pinned (OpenSpec.ofChange arithDividesSpec)

/-- ITS FALSE NEIGHBOUR: 'it returns false'. Refute it at one input. -/
def arithDividesWrong : ChangeSpec := { name := "arithDivides", fn := fun _ => fun
  | [d1, d2, d3] => { results := [.lit (.bool false)], args := [d1, d2, d3] }
  | _ => none }
def ArithDividesWrongFalsely : Prop := arithDividesRow.holds Try.pinned (OpenSpec.ofChange arithDividesWrong)

/-- 'hornkeep.ArithRing': WHATEVER THE INPUT: true; the input reads as it did. -/
def arithRingSpec : ChangeSpec := { name := "arithRing", fn := fun _ => fun
  | [d1, d2, d3] => { results := [.lit (.bool true)], args := [d1, d2, d3] }
  | _ => none }
def arithRingRow : OpenClaim := { program := "ytgaijgadeodoeaa", sum := "75cc51bef820757b80733b1a7750994713ad7da0c0806c63c551fe4a0dae1834", func := "hornbook/hornkeep.ArithRing", spec := "arithRing", unfollowed := true, recurses := true, plainKeys := false, apart := false }
def ArithRingSaid : Prop := arithRingRow.holds Try.pinned (OpenSpec.ofChange arithRingSpec)

/-- ITS FALSE NEIGHBOUR: 'it returns false'. Refute it at one input. -/
def arithRingWrong : ChangeSpec := { name := "arithRing", fn := fun _ => fun
  | [d1, d2, d3] => { results := [.lit (.bool false)], args := [d1, d2, d3] }
  | _ => none }
def ArithRingWrongFalsely : Prop := arithRingRow.holds Try.pinned (OpenSpec.ofChange arithRingWrong)

/-- 'hornlaw.ArithHolds': WHATEVER THE INPUT: true; the input reads as it did. -/
def arithHoldsSpec : ChangeSpec := { name := "arithHolds", fn := fun _ => fun
  | [d1, d2, d3] => { results := [.lit (.bool true)], args := [d1, d2, d3] }
  | _ => none }
def arithHoldsRow : OpenClaim := { program := "ytgaijgadeodoeaa", sum := "75cc51bef820757b80733b1a7750994713ad7da0c0806c63c551fe4a0dae1834", func := "hornbook/hornlaw.ArithHolds", spec := "arithHolds", unfollowed := true, recurses := true, loops := true, plainKeys := false, apart := false }
def ArithHoldsSaid : Prop := arithHoldsRow.holds Try.pinned (OpenSpec.ofChange arithHoldsSpec)

/-- ITS FALSE NEIGHBOUR: 'it returns false'. Refute it at one input. -/
def arithHoldsWrong : ChangeSpec := { name := "arithHolds", fn := fun _ => fun
  | [d1, d2, d3] => { results := [.lit (.bool false)], args := [d1, d2, d3] }
  | _ => none }
def ArithHoldsWrongFalsely : Prop := arithHoldsRow.holds Try.pinned (OpenSpec.ofChange arithHoldsWrong)

/-- 'hornkeep.ArithFolds': WHATEVER THE INPUT: true; the input reads as it did. -/
def arithFoldsSpec : ChangeSpec := { name := "arithFolds", fn := fun _ => fun
  | [d1, d2] => { results := [.lit (.bool true)], args := [d1, d2] }
  | _ => none }
def arithFoldsRow : OpenClaim := { program := "ytgaijgadeodoeaa", sum := "75cc51bef820757b80733b1a7750994713ad7da0c0806c63c551fe4a0dae1834", func := "hornbook/hornkeep.ArithFolds", spec := "arithFolds", unfollowed := true, recurses := true, loops := true, plainKeys := false, apart := false }
def ArithFoldsSaid : Prop := arithFoldsRow.holds Try.pinned (OpenSpec.ofChange arithFoldsSpec)

/-- ITS FALSE NEIGHBOUR: 'it returns false'. Refute it at one input. -/
def arithFoldsWrong : ChangeSpec := { name := "arithFolds", fn := fun _ => fun
  | [d1, d2] => { results := [.lit (.bool false)], args := [d1, d2] }
  | _ => none }
def ArithFoldsWrongFalsely : Prop := arithFoldsRow.holds Try.pinned (OpenSpec.ofChange arithFoldsWrong)

/-- 'hornlaw.ArithSays': WHATEVER THE INPUT: true; the input reads as it did. -/
def arithSaysSpec : ChangeSpec := { name := "arithSays", fn := fun _ => fun
  | [d] => { results := [.lit (.bool true)], args := [d] }
  | _ => none }
def arithSaysRow : OpenClaim := { program := "ytgaijgadeodoeaa", sum := "75cc51bef820757b80733b1a7750994713ad7da0c0806c63c551fe4a0dae1834", func := "hornbook/hornlaw.ArithSays", spec := "arithSays", unfollowed := true, recurses := true, loops := true, plainKeys := false, apart := false }
def ArithSaysSaid : Prop := arithSaysRow.holds Try.pinned (OpenSpec.ofChange arithSaysSpec)

/-- ITS FALSE NEIGHBOUR: 'it returns false'. Refute it at one input. -/
def arithSaysWrong : ChangeSpec := { name := "arithSays", fn := fun _ => fun
  | [d] => { results := [.lit (.bool false)], args := [d] }
  | _ => none }
def ArithSaysWrongFalsely : Prop := arithSaysRow.holds Try.pinned (OpenSpec.ofChange arithSaysWrong)

/-- 'hornkeep.GrammarMemory': WHATEVER THE INPUT: true; the input reads as it did. -/
def grammarMemorySpec : ChangeSpec := { name := "grammarMemory", fn := fun _ => fun
  | [d1, d2, d3, d4] => { results := [.lit (.bool true)], args := [d1, d2, d3, d4] }
  | _ => none }
def grammarMemoryRow : OpenClaim := { program := "ytgaijgadeodoeaa", sum := "75cc51bef820757b80733b1a7750994713ad7da0c0806c63c551fe4a0dae1834", func := "hornbook/hornkeep.GrammarMemory", spec := "grammarMemory", unfollowed := true, recurses := true, loops := true, plainKeys := false, apart := false }
def GrammarMemorySaid : Prop := grammarMemoryRow.holds Try.pinned (OpenSpec.ofChange grammarMemorySpec)

/-- ITS FALSE NEIGHBOUR: 'it returns false'. Refute it at one input. -/
def grammarMemoryWrong : ChangeSpec := { name := "grammarMemory", fn := fun _ => fun
  | [d1, d2, d3, d4] => { results := [.lit (.bool false)], args := [d1, d2, d3, d4] }
  | _ => none }
def GrammarMemoryWrongFalsely : Prop := grammarMemoryRow.holds Try.pinned (OpenSpec.ofChange grammarMemoryWrong)

/-- 'hornkeep.BaseBack': WHATEVER THE INPUT: true; the input reads as it did. -/
def baseBackSpec : ChangeSpec := { name := "baseBack", fn := fun _ => fun
  | [d] => { results := [.lit (.bool true)], args := [d] }
  | _ => none }
def baseBackRow : OpenClaim := { program := "ytgaijgadeodoeaa", sum := "75cc51bef820757b80733b1a7750994713ad7da0c0806c63c551fe4a0dae1834", func := "hornbook/hornkeep.BaseBack", spec := "baseBack", inPlace := ["internal/bytealg.abigen_runtime_cmpstring", "slices.overlaps[int]"], unfollowed := true, recurses := true, loops := true, plainKeys := false, apart := false }
def BaseBackSaid : Prop := baseBackRow.holds Try.pinned (OpenSpec.ofChange baseBackSpec)

/-- ITS FALSE NEIGHBOUR: 'it returns false'. Refute it at one input. -/
def baseBackWrong : ChangeSpec := { name := "baseBack", fn := fun _ => fun
  | [d] => { results := [.lit (.bool false)], args := [d] }
  | _ => none }
def BaseBackWrongFalsely : Prop := baseBackRow.holds Try.pinned (OpenSpec.ofChange baseBackWrong)

/- THE SECOND FORM. 'bulk': how many values and letters a reading holds, each counted each time it is reached (what is shared counts as often as it is met; a slice's spare places count too). A statement '..UptoSaid' is the law's where the arguments, and the package variables that the reading takes, are together of bulk at most 1048576: NARROWER than '..Said'. Prove '..Said' where nothing that the law and all that it calls make is longer than what came in: it says more and counts as full. Else prove '..UptoSaid'. A law counts once. -/
mutual
def uptoBulk {H : Type} : DataW H → Nat
  | .lit (.string bytes) => bytes.length + 1
  | .lit _ => 1
  | .nil => 1
  | .ptr d => uptoBulk d + 1
  | .slice elems spare => uptoBulkAll elems + uptoBulkAll spare + 1
  | .agg parts => uptoBulkAll parts + 1
  | .iface _ d => uptoBulk d + 1
  | .map entries => uptoBulkEntries entries + 1
  | .held _ => 1
def uptoBulkAll {H : Type} : List (DataW H) → Nat
  | [] => 0
  | d :: r => uptoBulk d + uptoBulkAll r
def uptoBulkEntries {H : Type} : List (Lit × DataW H) → Nat
  | [] => 0
  | x :: r => uptoBulkEntry x + uptoBulkEntries r
def uptoBulkEntry {H : Type} : Lit × DataW H → Nat
  | (.string bytes, d) => bytes.length + uptoBulk d + 1
  | (_, d) => uptoBulk d + 1
 end
def uptoSmall : (H : Type) → List (DataW H) → Bool := fun _ ds => decide (uptoBulkAll ds ≤ 1048576)
def OpenSpec.upto (s : _root_.Go.ChangeSpec) : _root_.Go.OpenSpec := { _root_.Go.OpenSpec.ofChange s with cond := some uptoSmall }

/-- 'hornlaw.Names', WHERE WHAT IT READS IS OF BULK AT MOST 1048576: true; the input reads as it did. -/
def namesUptoRow : OpenClaim := { program := "ytgaijgadeodoeaa", sum := "75cc51bef820757b80733b1a7750994713ad7da0c0806c63c551fe4a0dae1834", func := "hornbook/hornlaw.Names", spec := "names", recurses := true, plainKeys := false, apart := false, narrowed := true }
def NamesUptoSaid : Prop := namesUptoRow.holds Try.pinned (OpenSpec.upto namesSpec)

/-- 'hornkeep.TermOrder', WHERE WHAT IT READS IS OF BULK AT MOST 1048576: true; the input reads as it did. -/
def termOrderUptoRow : OpenClaim := { program := "ytgaijgadeodoeaa", sum := "75cc51bef820757b80733b1a7750994713ad7da0c0806c63c551fe4a0dae1834", func := "hornbook/hornkeep.TermOrder", spec := "termOrder", inPlace := ["internal/bytealg.abigen_runtime_cmpstring"], unfollowed := true, recurses := true, loops := true, plainKeys := false, apart := false, narrowed := true }
def TermOrderUptoSaid : Prop := termOrderUptoRow.holds Try.pinned (OpenSpec.upto termOrderSpec)

/-- 'hornkeep.ArithDivides', WHERE WHAT IT READS IS OF BULK AT MOST 1048576: true; the input reads as it did. -/
def arithDividesUptoRow : OpenClaim := { program := "ytgaijgadeodoeaa", sum := "75cc51bef820757b80733b1a7750994713ad7da0c0806c63c551fe4a0dae1834", func := "hornbook/hornkeep.ArithDivides", spec := "arithDivides", unfollowed := true, recurses := true, plainKeys := false, apart := false, narrowed := true }
def ArithDividesUptoSaid : Prop := arithDividesUptoRow.holds Try.pinned (OpenSpec.upto arithDividesSpec)

/-- 'hornkeep.ArithRing', WHERE WHAT IT READS IS OF BULK AT MOST 1048576: true; the input reads as it did. -/
def arithRingUptoRow : OpenClaim := { program := "ytgaijgadeodoeaa", sum := "75cc51bef820757b80733b1a7750994713ad7da0c0806c63c551fe4a0dae1834", func := "hornbook/hornkeep.ArithRing", spec := "arithRing", unfollowed := true, recurses := true, plainKeys := false, apart := false, narrowed := true }
def ArithRingUptoSaid : Prop := arithRingUptoRow.holds Try.pinned (OpenSpec.upto arithRingSpec)

/-- 'hornlaw.ArithHolds', WHERE WHAT IT READS IS OF BULK AT MOST 1048576: true; the input reads as it did. -/
def arithHoldsUptoRow : OpenClaim := { program := "ytgaijgadeodoeaa", sum := "75cc51bef820757b80733b1a7750994713ad7da0c0806c63c551fe4a0dae1834", func := "hornbook/hornlaw.ArithHolds", spec := "arithHolds", unfollowed := true, recurses := true, loops := true, plainKeys := false, apart := false, narrowed := true }
def ArithHoldsUptoSaid : Prop := arithHoldsUptoRow.holds Try.pinned (OpenSpec.upto arithHoldsSpec)

/-- 'hornkeep.ArithFolds', WHERE WHAT IT READS IS OF BULK AT MOST 1048576: true; the input reads as it did. -/
def arithFoldsUptoRow : OpenClaim := { program := "ytgaijgadeodoeaa", sum := "75cc51bef820757b80733b1a7750994713ad7da0c0806c63c551fe4a0dae1834", func := "hornbook/hornkeep.ArithFolds", spec := "arithFolds", unfollowed := true, recurses := true, loops := true, plainKeys := false, apart := false, narrowed := true }
def ArithFoldsUptoSaid : Prop := arithFoldsUptoRow.holds Try.pinned (OpenSpec.upto arithFoldsSpec)

/-- 'hornlaw.ArithSays', WHERE WHAT IT READS IS OF BULK AT MOST 1048576: true; the input reads as it did. -/
def arithSaysUptoRow : OpenClaim := { program := "ytgaijgadeodoeaa", sum := "75cc51bef820757b80733b1a7750994713ad7da0c0806c63c551fe4a0dae1834", func := "hornbook/hornlaw.ArithSays", spec := "arithSays", unfollowed := true, recurses := true, loops := true, plainKeys := false, apart := false, narrowed := true }
def ArithSaysUptoSaid : Prop := arithSaysUptoRow.holds Try.pinned (OpenSpec.upto arithSaysSpec)

/-- 'hornkeep.GrammarMemory', WHERE WHAT IT READS IS OF BULK AT MOST 1048576: true; the input reads as it did. -/
def grammarMemoryUptoRow : OpenClaim := { program := "ytgaijgadeodoeaa", sum := "75cc51bef820757b80733b1a7750994713ad7da0c0806c63c551fe4a0dae1834", func := "hornbook/hornkeep.GrammarMemory", spec := "grammarMemory", unfollowed := true, recurses := true, loops := true, plainKeys := false, apart := false, narrowed := true }
def GrammarMemoryUptoSaid : Prop := grammarMemoryUptoRow.holds Try.pinned (OpenSpec.upto grammarMemorySpec)

/-- 'hornkeep.BaseBack', WHERE WHAT IT READS IS OF BULK AT MOST 1048576: true; the input reads as it did. -/
def baseBackUptoRow : OpenClaim := { program := "ytgaijgadeodoeaa", sum := "75cc51bef820757b80733b1a7750994713ad7da0c0806c63c551fe4a0dae1834", func := "hornbook/hornkeep.BaseBack", spec := "baseBack", inPlace := ["internal/bytealg.abigen_runtime_cmpstring", "slices.overlaps[int]"], unfollowed := true, recurses := true, loops := true, plainKeys := false, apart := false, narrowed := true }
def BaseBackUptoSaid : Prop := baseBackUptoRow.holds Try.pinned (OpenSpec.upto baseBackSpec)

end Rows
end Go.Proofs.Ytgaijgadeodoeaa
