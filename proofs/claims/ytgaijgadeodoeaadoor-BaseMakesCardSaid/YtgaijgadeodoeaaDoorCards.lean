/-
  DERIVED. GIVEN WITH THE SEED: THE CARDS: each row of YtgaijgadeodoeaaDoorRows.lean that lists a variable, with what it lists TIED to the program's text (the seventh form; the later family's looks); each row that meets fmt, with fmt's text TOLD by the authors' own Lean function (tested against real Go, not proved from fmt's source: count such statements apart). THE CARD IS WHAT COUNTS. Prove the row's statement (the work); the ties are given (YtgaijgadeodoeaaDoorTie.lean); close each card by the builder's one call (the guide's Derived/Test/ToyasCard.lean, 'card_holds'). Laid BY PROGRAM, IN A SANDBOX (cutbox-door.mjs). By AI agents, Wed Nov 11 2026. No macro, syntax, notation, axiom, sorry.
-/
import Derived.Test.YtgaijgadeodoeaaDoorRows
import GoSem.ClaimSeven
namespace Go.Proofs.YtgaijgadeodoeaaDoor
namespace Rows

/-- THE TIED CARD OF 'hornlaw.TextOps'. -/
def textOpsCard : Claim7 := { stood := { row := textOpsRow, standIns := [], harness := (true, "adac8357d3864885180c9347ce342268591c4ba5ceb096c550f873e7afe22a46"), looks := false }, kinds := [], alts := [], laidByText := true, laidKinds := [.data, .pinned], laidTests := true, laidLooks := .later }
def TextOpsCardSaid : Prop := Claim7.holds Tryd.pinned (.plain (OpenSpec.ofChange textOpsSpec)) textOpsCard

/-- THE TIED CARD OF 'hornlaw.MachineChecks'. -/
def machineChecksCard : Claim7 := { stood := { row := machineChecksRow, standIns := [], harness := (true, "adac8357d3864885180c9347ce342268591c4ba5ceb096c550f873e7afe22a46"), looks := false }, kinds := [], alts := [], laidByText := true, laidKinds := [.data, .pinned], laidTests := true, laidLooks := .later }
def MachineChecksCardSaid : Prop := Claim7.holds Tryd.pinned (.plain (OpenSpec.ofChange machineChecksSpec)) machineChecksCard

/-- THE TIED CARD OF 'hornlaw.BaseMakes'. -/
def baseMakesCard : Claim7 := { stood := { row := baseMakesRow, standIns := [], harness := (true, "adac8357d3864885180c9347ce342268591c4ba5ceb096c550f873e7afe22a46"), looks := false }, kinds := [], alts := [], laidByText := true, laidKinds := [.data, .pinned], laidTests := true, laidLooks := .later }
def BaseMakesCardSaid : Prop := Claim7.holds Tryd.pinned (.plain (OpenSpec.ofChange baseMakesSpec)) baseMakesCard

/-- THE SECOND FORM's CARD OF 'hornlaw.TextOps'. -/
def textOpsUptoCard : Claim7 := { stood := { row := textOpsUptoRow, standIns := [], harness := (true, "adac8357d3864885180c9347ce342268591c4ba5ceb096c550f873e7afe22a46"), looks := false }, kinds := [], alts := [], laidByText := true, laidKinds := [.data, .pinned], laidTests := true, laidLooks := .later }
def TextOpsUptoCardSaid : Prop := Claim7.holds Tryd.pinned (.plain (OpenSpec.upto textOpsSpec)) textOpsUptoCard

/-- THE SECOND FORM's CARD OF 'hornlaw.MachineChecks'. -/
def machineChecksUptoCard : Claim7 := { stood := { row := machineChecksUptoRow, standIns := [], harness := (true, "adac8357d3864885180c9347ce342268591c4ba5ceb096c550f873e7afe22a46"), looks := false }, kinds := [], alts := [], laidByText := true, laidKinds := [.data, .pinned], laidTests := true, laidLooks := .later }
def MachineChecksUptoCardSaid : Prop := Claim7.holds Tryd.pinned (.plain (OpenSpec.upto machineChecksSpec)) machineChecksUptoCard

/-- THE SECOND FORM's CARD OF 'hornlaw.BaseMakes'. -/
def baseMakesUptoCard : Claim7 := { stood := { row := baseMakesUptoRow, standIns := [], harness := (true, "adac8357d3864885180c9347ce342268591c4ba5ceb096c550f873e7afe22a46"), looks := false }, kinds := [], alts := [], laidByText := true, laidKinds := [.data, .pinned], laidTests := true, laidLooks := .later }
def BaseMakesUptoCardSaid : Prop := Claim7.holds Tryd.pinned (.plain (OpenSpec.upto baseMakesSpec)) baseMakesUptoCard
end Rows
end Go.Proofs.YtgaijgadeodoeaaDoor
