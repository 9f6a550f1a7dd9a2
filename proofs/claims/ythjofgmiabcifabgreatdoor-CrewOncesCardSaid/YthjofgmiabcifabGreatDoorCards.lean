/-
  DERIVED. GIVEN WITH THE SEED: THE CARDS: each row of YthjofgmiabcifabGreatDoorRows.lean that lists a variable, with what it lists TIED to the program's text (the seventh form; the later family's looks); each row that meets fmt, with fmt's text TOLD by the authors' own Lean function (tested against real Go, not proved from fmt's source: count such statements apart). THE CARD IS WHAT COUNTS. Prove the row's statement (the work); the ties are given (YthjofgmiabcifabGreatDoorTie.lean); close each card by the builder's one call (the guide's Derived/Test/ToyasCard.lean, 'card_holds'). Laid BY PROGRAM, IN A SANDBOX (cutbox-door.mjs). By AI agents, Wed Nov 11 2026. No macro, syntax, notation, axiom, sorry.
-/
import Derived.Test.YthjofgmiabcifabGreatDoorRows
import GoSem.ClaimSeven
namespace Go.Proofs.YthjofgmiabcifabGreatDoor
namespace Rows

/-- THE TIED CARD OF 'casementlaw31.CrewOnces'. -/
def crewOncesCard : Claim7 := { stood := { row := crewOncesRow, standIns := [], harness := (true, "26cb143c4bed6c69232799f35dc79961e33539e6df00d1e7b6d201b322fba845"), looks := true }, kinds := [], alts := [], goes := true, laidByText := true, laidKinds := [.data, .pinned], laidTests := true, laidLooks := .later }
def CrewOncesCardSaid : Prop := Claim7.holds Tryz.pinned (.plain (OpenSpec.ofChange crewOncesSpec)) crewOncesCard
end Rows
end Go.Proofs.YthjofgmiabcifabGreatDoor
