/-
  DERIVED. GIVEN WITH THE SEED: THE CARDS: each row of YtacodojaolnhnaaDoorRows.lean that lists a variable, with what it lists TIED to the program's text (the seventh form; the later family's looks); each row that meets fmt, with fmt's text TOLD by the authors' own Lean function (tested against real Go, not proved from fmt's source: count such statements apart). THE CARD IS WHAT COUNTS. Prove the row's statement (the work); the ties are given (YtacodojaolnhnaaDoorTie.lean); close each card by the builder's one call (the guide's Derived/Test/ToyasCard.lean, 'card_holds'). Laid BY PROGRAM, IN A SANDBOX (cutbox-door.mjs). By AI agents, Wed Nov 11 2026. No macro, syntax, notation, axiom, sorry.
-/
import Derived.Test.YtacodojaolnhnaaDoorRows
import GoSem.ClaimSeven
namespace Go.Proofs.YtacodojaolnhnaaDoor
namespace Rows

/-- THE TIED CARD OF 'juratlaw01.DigitParses'. -/
def digitParsesCard : Claim7 := { stood := { row := digitParsesRow, standIns := [], harness := (true, "517972ea8e282feedd3fbce45311cb2a94be087437f943a2068703fcc31323fd"), looks := false }, kinds := [], alts := [], laidByText := true, laidKinds := [.data, .pinned], laidTests := true, laidLooks := .later }
def DigitParsesCardSaid : Prop := Claim7.holds Tryd.pinned (.plain (OpenSpec.ofChange digitParsesSpec)) digitParsesCard

/-- THE TIED CARD OF 'juratlaw01.DigitBack'. -/
def digitBackCard : Claim7 := { stood := { row := digitBackRow, standIns := [], harness := (true, "517972ea8e282feedd3fbce45311cb2a94be087437f943a2068703fcc31323fd"), looks := false }, kinds := [], alts := [], laidByText := true, laidKinds := [.data, .pinned], laidTests := true, laidLooks := .later }
def DigitBackCardSaid : Prop := Claim7.holds Tryd.pinned (.plain (OpenSpec.ofChange digitBackSpec)) digitBackCard

/-- THE SECOND FORM's CARD OF 'juratlaw01.DigitParses'. -/
def digitParsesUptoCard : Claim7 := { stood := { row := digitParsesUptoRow, standIns := [], harness := (true, "517972ea8e282feedd3fbce45311cb2a94be087437f943a2068703fcc31323fd"), looks := false }, kinds := [], alts := [], laidByText := true, laidKinds := [.data, .pinned], laidTests := true, laidLooks := .later }
def DigitParsesUptoCardSaid : Prop := Claim7.holds Tryd.pinned (.plain (OpenSpec.upto digitParsesSpec)) digitParsesUptoCard

/-- THE SECOND FORM's CARD OF 'juratlaw01.DigitBack'. -/
def digitBackUptoCard : Claim7 := { stood := { row := digitBackUptoRow, standIns := [], harness := (true, "517972ea8e282feedd3fbce45311cb2a94be087437f943a2068703fcc31323fd"), looks := false }, kinds := [], alts := [], laidByText := true, laidKinds := [.data, .pinned], laidTests := true, laidLooks := .later }
def DigitBackUptoCardSaid : Prop := Claim7.holds Tryd.pinned (.plain (OpenSpec.upto digitBackSpec)) digitBackUptoCard
end Rows
end Go.Proofs.YtacodojaolnhnaaDoor
