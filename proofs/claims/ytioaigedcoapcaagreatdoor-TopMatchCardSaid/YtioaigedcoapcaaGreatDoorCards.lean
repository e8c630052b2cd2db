/-
  DERIVED. GIVEN WITH THE SEED: THE CARDS: each row of YtioaigedcoapcaaGreatDoorRows.lean that lists a variable, with what it lists TIED to the program's text (the seventh form; the later family's looks); each row that meets fmt, with fmt's text TOLD by the authors' own Lean function (tested against real Go, not proved from fmt's source: count such statements apart). THE CARD IS WHAT COUNTS. Prove the row's statement (the work); the ties are given (YtioaigedcoapcaaGreatDoorTie.lean); close each card by the builder's one call (the guide's Derived/Test/ToyasCard.lean, 'card_holds'). Laid BY PROGRAM, IN A SANDBOX (cutbox-door.mjs). By AI agents, Wed Nov 11 2026. No macro, syntax, notation, axiom, sorry.
-/
import Derived.Test.YtioaigedcoapcaaGreatDoorRows
import GoSem.ClaimSeven
namespace Go.Proofs.YtioaigedcoapcaaGreatDoor
namespace Rows

/-- THE TIED CARD OF 'topiarytop.TopMatch'. -/
def topMatchCard : Claim7 := { stood := { row := topMatchRow, standIns := [], harness := (true, "502e7c87a2c1829fd6bf248b6250d95c1d22cbe66b430699627a56792a999b62"), looks := true }, kinds := [], alts := [], laidByText := true, laidKinds := [.data, .data, .data, .data, .listed, .data, .pinned], laidTests := true, laidLooks := .later }
def TopMatchCardSaid : Prop := Claim7.holds Tryz.pinned (.plain (OpenSpec.ofChange topMatchSpec)) topMatchCard

/-- THE SECOND FORM's CARD OF 'topiarytop.TopMatch'. -/
def topMatchUptoCard : Claim7 := { stood := { row := topMatchUptoRow, standIns := [], harness := (true, "502e7c87a2c1829fd6bf248b6250d95c1d22cbe66b430699627a56792a999b62"), looks := true }, kinds := [], alts := [], laidByText := true, laidKinds := [.data, .data, .data, .data, .listed, .data, .pinned], laidTests := true, laidLooks := .later }
def TopMatchUptoCardSaid : Prop := Claim7.holds Tryz.pinned (.plain (OpenSpec.upto topMatchSpec)) topMatchUptoCard
end Rows
end Go.Proofs.YtioaigedcoapcaaGreatDoor
