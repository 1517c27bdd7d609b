/-
  No cell of these rows narrows 'for every input' (looked for: loops, veiled, ifaces, maps, wideKeys, modest, calm, conditions, laid).
  DERIVED. THE GIVEN ROWS OF THIS SEAT. 6 by the template 'for every input the law returns true; each argument reads behind the call as it read before'; 0 by the template 'total and deterministic' (their statements: YtbapmokbkjmdcaaTotals.lean).
  GIVEN WITH THE SEED: the statements are not yours to turn. If you find one false, say at which input.
  Laid BY PROGRAM, IN A SANDBOX (cutbox-rows.mjs): the forced cells as the released guide's own fill.sh prints them over the translation a0056752333b0389… (all of the seat's roots in one cut). By AI agents, Wed Nov 11 2026. No macro, syntax, notation, axiom, sorry.
-/
import Derived.Test.YtbapmokbkjmdcaaChecked
import GoSem.Claim
import GoSem.ClaimJoined
import GoSem.ClaimMapViews
import Derived.JoinedTies
import Derived.KernelRfl
namespace Go.Proofs.Ytbapmokbkjmdcaa
/- THE CELL 'sum', in the pinned program and in every row, IS THE sha256 OF THE DUMP (.gsa) THAT YtbapmokbkjmdcaaProg.lean LOADS. Nothing in Lean hashes anything: it is a label: what it is worth is what the hold of that sum in a sandbox is worth. -/
noncomputable def Try.pinned : Pinned := { name := "ytbapmokbkjmdcaa", sum := "a0056752333b03897db01c84348b16e74bbdb1b0c0f01a4fa5f367584cddf5e5", checked := Try.checked }
namespace Rows
def none {H : Type} : Left H := { results := [], args := [] }

/-- 'hornlaw.DomainReduces': WHATEVER THE INPUT: true; the input reads as it did. -/
def domainReducesSpec : ChangeSpec := { name := "domainReduces", fn := fun _ => fun
  | [d] => { results := [.lit (.bool true)], args := [d] }
  | _ => none }
def domainReducesRow : OpenClaim := { program := "ytbapmokbkjmdcaa", sum := "a0056752333b03897db01c84348b16e74bbdb1b0c0f01a4fa5f367584cddf5e5", func := "hornbook/hornlaw.DomainReduces", spec := "domainReduces", unfollowed := true, recurses := true, apart := false }
def DomainReducesSaid : Prop := domainReducesRow.holds Try.pinned (OpenSpec.ofChange domainReducesSpec)

/-- ITS FALSE NEIGHBOUR: 'it returns false'. Refute it at one input. -/
def domainReducesWrong : ChangeSpec := { name := "domainReduces", fn := fun _ => fun
  | [d] => { results := [.lit (.bool false)], args := [d] }
  | _ => none }
def DomainReducesWrongFalsely : Prop := domainReducesRow.holds Try.pinned (OpenSpec.ofChange domainReducesWrong)

/-- 'hornkeep.DomainKeeps': WHATEVER THE INPUT: true; the input reads as it did. -/
def domainKeepsSpec : ChangeSpec := { name := "domainKeeps", fn := fun _ => fun
  | [d1, d2] => { results := [.lit (.bool true)], args := [d1, d2] }
  | _ => none }
def domainKeepsRow : OpenClaim := { program := "ytbapmokbkjmdcaa", sum := "a0056752333b03897db01c84348b16e74bbdb1b0c0f01a4fa5f367584cddf5e5", func := "hornbook/hornkeep.DomainKeeps", spec := "domainKeeps", unfollowed := true, recurses := true, apart := false }
def DomainKeepsSaid : Prop := domainKeepsRow.holds Try.pinned (OpenSpec.ofChange domainKeepsSpec)

/-- ITS FALSE NEIGHBOUR: 'it returns false'. Refute it at one input. -/
def domainKeepsWrong : ChangeSpec := { name := "domainKeeps", fn := fun _ => fun
  | [d1, d2] => { results := [.lit (.bool false)], args := [d1, d2] }
  | _ => none }
def DomainKeepsWrongFalsely : Prop := domainKeepsRow.holds Try.pinned (OpenSpec.ofChange domainKeepsWrong)

/-- 'hornkeep.DomainOrder': WHATEVER THE INPUT: true; the input reads as it did. -/
def domainOrderSpec : ChangeSpec := { name := "domainOrder", fn := fun _ => fun
  | [d1, d2, d3] => { results := [.lit (.bool true)], args := [d1, d2, d3] }
  | _ => none }
def domainOrderRow : OpenClaim := { program := "ytbapmokbkjmdcaa", sum := "a0056752333b03897db01c84348b16e74bbdb1b0c0f01a4fa5f367584cddf5e5", func := "hornbook/hornkeep.DomainOrder", spec := "domainOrder", unfollowed := true, recurses := true, apart := false }
def DomainOrderSaid : Prop := domainOrderRow.holds Try.pinned (OpenSpec.ofChange domainOrderSpec)

/-- ITS FALSE NEIGHBOUR: 'it returns false'. Refute it at one input. -/
def domainOrderWrong : ChangeSpec := { name := "domainOrder", fn := fun _ => fun
  | [d1, d2, d3] => { results := [.lit (.bool false)], args := [d1, d2, d3] }
  | _ => none }
def DomainOrderWrongFalsely : Prop := domainOrderRow.holds Try.pinned (OpenSpec.ofChange domainOrderWrong)

/-- 'hornkeep.DomainFinds': WHATEVER THE INPUT: true; the input reads as it did. -/
def domainFindsSpec : ChangeSpec := { name := "domainFinds", fn := fun _ => fun
  | [d1, d2, d3] => { results := [.lit (.bool true)], args := [d1, d2, d3] }
  | _ => none }
def domainFindsRow : OpenClaim := { program := "ytbapmokbkjmdcaa", sum := "a0056752333b03897db01c84348b16e74bbdb1b0c0f01a4fa5f367584cddf5e5", func := "hornbook/hornkeep.DomainFinds", spec := "domainFinds", unfollowed := true, recurses := true, apart := false }
def DomainFindsSaid : Prop := domainFindsRow.holds Try.pinned (OpenSpec.ofChange domainFindsSpec)

/-- ITS FALSE NEIGHBOUR: 'it returns false'. Refute it at one input. -/
def domainFindsWrong : ChangeSpec := { name := "domainFinds", fn := fun _ => fun
  | [d1, d2, d3] => { results := [.lit (.bool false)], args := [d1, d2, d3] }
  | _ => none }
def DomainFindsWrongFalsely : Prop := domainFindsRow.holds Try.pinned (OpenSpec.ofChange domainFindsWrong)

/-- 'hornlaw.DomainSolves': WHATEVER THE INPUT: true; the input reads as it did. -/
def domainSolvesSpec : ChangeSpec := { name := "domainSolves", fn := fun _ => fun
  | [d1, d2, d3] => { results := [.lit (.bool true)], args := [d1, d2, d3] }
  | _ => none }
def domainSolvesRow : OpenClaim := { program := "ytbapmokbkjmdcaa", sum := "a0056752333b03897db01c84348b16e74bbdb1b0c0f01a4fa5f367584cddf5e5", func := "hornbook/hornlaw.DomainSolves", spec := "domainSolves", unfollowed := true, recurses := true, apart := false }
def DomainSolvesSaid : Prop := domainSolvesRow.holds Try.pinned (OpenSpec.ofChange domainSolvesSpec)

/-- ITS FALSE NEIGHBOUR: 'it returns false'. Refute it at one input. -/
def domainSolvesWrong : ChangeSpec := { name := "domainSolves", fn := fun _ => fun
  | [d1, d2, d3] => { results := [.lit (.bool false)], args := [d1, d2, d3] }
  | _ => none }
def DomainSolvesWrongFalsely : Prop := domainSolvesRow.holds Try.pinned (OpenSpec.ofChange domainSolvesWrong)

/-- 'hornkeep.DomainMemory': WHATEVER THE INPUT: true; the input reads as it did. -/
def domainMemorySpec : ChangeSpec := { name := "domainMemory", fn := fun _ => fun
  | [d1, d2, d3] => { results := [.lit (.bool true)], args := [d1, d2, d3] }
  | _ => none }
def domainMemoryRow : OpenClaim := { program := "ytbapmokbkjmdcaa", sum := "a0056752333b03897db01c84348b16e74bbdb1b0c0f01a4fa5f367584cddf5e5", func := "hornbook/hornkeep.DomainMemory", spec := "domainMemory", unfollowed := true, recurses := true, apart := false }
def DomainMemorySaid : Prop := domainMemoryRow.holds Try.pinned (OpenSpec.ofChange domainMemorySpec)

/-- ITS FALSE NEIGHBOUR: 'it returns false'. Refute it at one input. -/
def domainMemoryWrong : ChangeSpec := { name := "domainMemory", fn := fun _ => fun
  | [d1, d2, d3] => { results := [.lit (.bool false)], args := [d1, d2, d3] }
  | _ => none }
def DomainMemoryWrongFalsely : Prop := domainMemoryRow.holds Try.pinned (OpenSpec.ofChange domainMemoryWrong)

/- THE SECOND FORM. 'bulk': how many values and letters a reading holds, each counted each time it is reached (what is shared counts as often as it is met; a slice's spare places count too). A statement '..UptoSaid' is the law's where the arguments, and the package variables that the reading takes, are together of bulk at most 1048576: NARROWER than '..Said'. Prove '..Said' where nothing that the law and all that it calls make is longer than what came in: it says more and counts as full. Else prove '..UptoSaid'. A law counts once. -/
mutual
def uptoBulk {H : Type} : DataW H → Nat
  | .lit (.string bytes) => bytes.length + 1
  | .lit _ => 1
  | .nil => 1
  | .ptr d => uptoBulk d + 1
  | .slice elems spare => uptoBulkAll elems + uptoBulkAll spare + 1
  | .agg parts => uptoBulkAll parts + 1
  | .iface _ d => uptoBulk d + 1
  | .map entries => uptoBulkEntries entries + 1
  | .held _ => 1
def uptoBulkAll {H : Type} : List (DataW H) → Nat
  | [] => 0
  | d :: r => uptoBulk d + uptoBulkAll r
def uptoBulkEntries {H : Type} : List (Lit × DataW H) → Nat
  | [] => 0
  | x :: r => uptoBulkEntry x + uptoBulkEntries r
def uptoBulkEntry {H : Type} : Lit × DataW H → Nat
  | (.string bytes, d) => bytes.length + uptoBulk d + 1
  | (_, d) => uptoBulk d + 1
 end
def uptoSmall : (H : Type) → List (DataW H) → Bool := fun _ ds => decide (uptoBulkAll ds ≤ 1048576)
def OpenSpec.upto (s : _root_.Go.ChangeSpec) : _root_.Go.OpenSpec := { _root_.Go.OpenSpec.ofChange s with cond := some uptoSmall }

/-- 'hornlaw.DomainReduces', WHERE WHAT IT READS IS OF BULK AT MOST 1048576: true; the input reads as it did. -/
def domainReducesUptoRow : OpenClaim := { program := "ytbapmokbkjmdcaa", sum := "a0056752333b03897db01c84348b16e74bbdb1b0c0f01a4fa5f367584cddf5e5", func := "hornbook/hornlaw.DomainReduces", spec := "domainReduces", unfollowed := true, recurses := true, apart := false, narrowed := true }
def DomainReducesUptoSaid : Prop := domainReducesUptoRow.holds Try.pinned (OpenSpec.upto domainReducesSpec)

/-- 'hornkeep.DomainKeeps', WHERE WHAT IT READS IS OF BULK AT MOST 1048576: true; the input reads as it did. -/
def domainKeepsUptoRow : OpenClaim := { program := "ytbapmokbkjmdcaa", sum := "a0056752333b03897db01c84348b16e74bbdb1b0c0f01a4fa5f367584cddf5e5", func := "hornbook/hornkeep.DomainKeeps", spec := "domainKeeps", unfollowed := true, recurses := true, apart := false, narrowed := true }
def DomainKeepsUptoSaid : Prop := domainKeepsUptoRow.holds Try.pinned (OpenSpec.upto domainKeepsSpec)

/-- 'hornkeep.DomainOrder', WHERE WHAT IT READS IS OF BULK AT MOST 1048576: true; the input reads as it did. -/
def domainOrderUptoRow : OpenClaim := { program := "ytbapmokbkjmdcaa", sum := "a0056752333b03897db01c84348b16e74bbdb1b0c0f01a4fa5f367584cddf5e5", func := "hornbook/hornkeep.DomainOrder", spec := "domainOrder", unfollowed := true, recurses := true, apart := false, narrowed := true }
def DomainOrderUptoSaid : Prop := domainOrderUptoRow.holds Try.pinned (OpenSpec.upto domainOrderSpec)

/-- 'hornkeep.DomainFinds', WHERE WHAT IT READS IS OF BULK AT MOST 1048576: true; the input reads as it did. -/
def domainFindsUptoRow : OpenClaim := { program := "ytbapmokbkjmdcaa", sum := "a0056752333b03897db01c84348b16e74bbdb1b0c0f01a4fa5f367584cddf5e5", func := "hornbook/hornkeep.DomainFinds", spec := "domainFinds", unfollowed := true, recurses := true, apart := false, narrowed := true }
def DomainFindsUptoSaid : Prop := domainFindsUptoRow.holds Try.pinned (OpenSpec.upto domainFindsSpec)

/-- 'hornlaw.DomainSolves', WHERE WHAT IT READS IS OF BULK AT MOST 1048576: true; the input reads as it did. -/
def domainSolvesUptoRow : OpenClaim := { program := "ytbapmokbkjmdcaa", sum := "a0056752333b03897db01c84348b16e74bbdb1b0c0f01a4fa5f367584cddf5e5", func := "hornbook/hornlaw.DomainSolves", spec := "domainSolves", unfollowed := true, recurses := true, apart := false, narrowed := true }
def DomainSolvesUptoSaid : Prop := domainSolvesUptoRow.holds Try.pinned (OpenSpec.upto domainSolvesSpec)

/-- 'hornkeep.DomainMemory', WHERE WHAT IT READS IS OF BULK AT MOST 1048576: true; the input reads as it did. -/
def domainMemoryUptoRow : OpenClaim := { program := "ytbapmokbkjmdcaa", sum := "a0056752333b03897db01c84348b16e74bbdb1b0c0f01a4fa5f367584cddf5e5", func := "hornbook/hornkeep.DomainMemory", spec := "domainMemory", unfollowed := true, recurses := true, apart := false, narrowed := true }
def DomainMemoryUptoSaid : Prop := domainMemoryUptoRow.holds Try.pinned (OpenSpec.upto domainMemorySpec)

end Rows
end Go.Proofs.Ytbapmokbkjmdcaa
