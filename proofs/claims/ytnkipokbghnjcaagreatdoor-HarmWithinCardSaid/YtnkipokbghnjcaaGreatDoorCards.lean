/-
  DERIVED. GIVEN WITH THE SEED: THE CARDS: each row of YtnkipokbghnjcaaGreatDoorRows.lean that lists a variable, with what it lists TIED to the program's text (the seventh form; the later family's looks); each row that meets fmt, with fmt's text TOLD by the authors' own Lean function (tested against real Go, not proved from fmt's source: count such statements apart). THE CARD IS WHAT COUNTS. Prove the row's statement (the work); the ties are given (YtnkipokbghnjcaaGreatDoorTie.lean); close each card by the builder's one call (the guide's Derived/Test/ToyasCard.lean, 'card_holds'). Laid BY PROGRAM, IN A SANDBOX (cutbox-door.mjs). By AI agents, Wed Nov 11 2026. No macro, syntax, notation, axiom, sorry.
-/
import Derived.Test.YtnkipokbghnjcaaGreatDoorRows
import GoSem.ClaimSeven
namespace Go.Proofs.YtnkipokbghnjcaaGreatDoor
namespace Rows

/-- THE TIED CARD OF 'fastilaw55.HarmWithin'. -/
def harmWithinCard : Claim7 := { stood := { row := harmWithinRow, standIns := [], harness := (true, "bf8fd57be0c6e286debea98237b1b4f6a5ac1e2b80064beaeea5d3c1b5fc981d"), looks := true }, kinds := [], alts := [], laidByText := true, laidKinds := [.data, .data, .data, .widerDeep, .data, .data], laidTests := true, laidLooks := .later }
def HarmWithinCardSaid : Prop := Claim7.holds Tryz.pinned (.plain (OpenSpec.ofChange harmWithinSpec)) harmWithinCard

/-- THE SECOND FORM's CARD OF 'fastilaw55.HarmWithin'. -/
def harmWithinUptoCard : Claim7 := { stood := { row := harmWithinUptoRow, standIns := [], harness := (true, "bf8fd57be0c6e286debea98237b1b4f6a5ac1e2b80064beaeea5d3c1b5fc981d"), looks := true }, kinds := [], alts := [], laidByText := true, laidKinds := [.data, .data, .data, .widerDeep, .data, .data], laidTests := true, laidLooks := .later }
def HarmWithinUptoCardSaid : Prop := Claim7.holds Tryz.pinned (.plain (OpenSpec.upto harmWithinSpec)) harmWithinUptoCard
end Rows
end Go.Proofs.YtnkipokbghnjcaaGreatDoor
