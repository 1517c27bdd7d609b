/-
  DERIVED. GIVEN WITH THE SEED: THE CARDS: each row of YtjdoflfdlhpbmaaDoorRows.lean that lists a variable, with what it lists TIED to the program's text (the seventh form; the later family's looks); each row that meets fmt, with fmt's text TOLD by the authors' own Lean function (tested against real Go, not proved from fmt's source: count such statements apart). THE CARD IS WHAT COUNTS. Prove the row's statement (the work); the ties are given (YtjdoflfdlhpbmaaDoorTie.lean); close each card by the builder's one call (the guide's Derived/Test/ToyasCard.lean, 'card_holds'). Laid BY PROGRAM, IN A SANDBOX (cutbox-door.mjs). By AI agents, Wed Nov 11 2026. No macro, syntax, notation, axiom, sorry.
-/
import Derived.Test.YtjdoflfdlhpbmaaDoorRows
import GoSem.ClaimSeven
namespace Go.Proofs.YtjdoflfdlhpbmaaDoor
namespace Rows

/-- THE TIED CARD OF 'hornlaw.BasePlays'. -/
def basePlaysCard : Claim7 := { stood := { row := basePlaysRow, standIns := [], harness := (true, "0cb53b8b55b559009d24e07075cc7b581cc4898be5b021ecb4e70c712d25abd1"), looks := true }, kinds := [], alts := [], laidByText := true, laidKinds := [.data, .pinned], laidTests := true, laidLooks := .later }
def BasePlaysCardSaid : Prop := Claim7.holds Tryd.pinned (.plain (OpenSpec.ofChange basePlaysSpec)) basePlaysCard

/-- THE TIED CARD OF 'hornlaw.GrammarSays'. -/
def grammarSaysCard : Claim7 := { stood := { row := grammarSaysRow, standIns := [], harness := (true, "0cb53b8b55b559009d24e07075cc7b581cc4898be5b021ecb4e70c712d25abd1"), looks := true }, kinds := [], alts := [], laidByText := true, laidKinds := [.data, .pinned], laidTests := true, laidLooks := .later }
def GrammarSaysCardSaid : Prop := Claim7.holds Tryd.pinned (.plain (OpenSpec.ofChange grammarSaysSpec)) grammarSaysCard

/-- THE TIED CARD OF 'hornlaw.TextTokens'. -/
def textTokensCard : Claim7 := { stood := { row := textTokensRow, standIns := [], harness := (true, "0cb53b8b55b559009d24e07075cc7b581cc4898be5b021ecb4e70c712d25abd1"), looks := true }, kinds := [], alts := [], laidByText := true, laidKinds := [.data, .pinned], laidTests := true, laidLooks := .later }
def TextTokensCardSaid : Prop := Claim7.holds Tryd.pinned (.plain (OpenSpec.ofChange textTokensSpec)) textTokensCard

/-- THE SECOND FORM's CARD OF 'hornlaw.BasePlays'. -/
def basePlaysUptoCard : Claim7 := { stood := { row := basePlaysUptoRow, standIns := [], harness := (true, "0cb53b8b55b559009d24e07075cc7b581cc4898be5b021ecb4e70c712d25abd1"), looks := true }, kinds := [], alts := [], laidByText := true, laidKinds := [.data, .pinned], laidTests := true, laidLooks := .later }
def BasePlaysUptoCardSaid : Prop := Claim7.holds Tryd.pinned (.plain (OpenSpec.upto basePlaysSpec)) basePlaysUptoCard

/-- THE SECOND FORM's CARD OF 'hornlaw.GrammarSays'. -/
def grammarSaysUptoCard : Claim7 := { stood := { row := grammarSaysUptoRow, standIns := [], harness := (true, "0cb53b8b55b559009d24e07075cc7b581cc4898be5b021ecb4e70c712d25abd1"), looks := true }, kinds := [], alts := [], laidByText := true, laidKinds := [.data, .pinned], laidTests := true, laidLooks := .later }
def GrammarSaysUptoCardSaid : Prop := Claim7.holds Tryd.pinned (.plain (OpenSpec.upto grammarSaysSpec)) grammarSaysUptoCard

/-- THE SECOND FORM's CARD OF 'hornlaw.TextTokens'. -/
def textTokensUptoCard : Claim7 := { stood := { row := textTokensUptoRow, standIns := [], harness := (true, "0cb53b8b55b559009d24e07075cc7b581cc4898be5b021ecb4e70c712d25abd1"), looks := true }, kinds := [], alts := [], laidByText := true, laidKinds := [.data, .pinned], laidTests := true, laidLooks := .later }
def TextTokensUptoCardSaid : Prop := Claim7.holds Tryd.pinned (.plain (OpenSpec.upto textTokensSpec)) textTokensUptoCard
end Rows
end Go.Proofs.YtjdoflfdlhpbmaaDoor
