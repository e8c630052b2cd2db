/-
  DERIVED. GIVEN WITH THE SEED: THE CARDS: each row of YtbjcahhijfommaaGreatDoorRows.lean that lists a variable, with what it lists TIED to the program's text (the seventh form; the later family's looks); each row that meets fmt, with fmt's text TOLD by the authors' own Lean function (tested against real Go, not proved from fmt's source: count such statements apart). THE CARD IS WHAT COUNTS. Prove the row's statement (the work); the ties are given (YtbjcahhijfommaaGreatDoorTie.lean); close each card by the builder's one call (the guide's Derived/Test/ToyasCard.lean, 'card_holds'). Laid BY PROGRAM, IN A SANDBOX (cutbox-door.mjs). By AI agents, Wed Nov 11 2026. No macro, syntax, notation, axiom, sorry.
-/
import Derived.Test.YtbjcahhijfommaaGreatDoorRows
import GoSem.ClaimSeven
namespace Go.Proofs.YtbjcahhijfommaaGreatDoor
namespace Rows

/-- THE TIED CARD OF 'topiarylaw16.SerialJoins'. -/
def serialJoinsCard : Claim7 := { stood := { row := serialJoinsRow, standIns := [], harness := (true, "e4c19e7adf5d0c9e91c6c28786a381bdc29ba6f2498fa3fdb726c0e695d0dc19"), looks := true }, kinds := [], alts := [], laidByText := true, laidKinds := [.listed, .data], laidTests := true, laidLooks := .later }
def SerialJoinsCardSaid : Prop := Claim7.holds Tryz.pinned (.plain (OpenSpec.ofChange serialJoinsSpec)) serialJoinsCard

/-- THE TIED CARD OF 'topiarylaw16.SerialAll'. -/
def serialAllCard : Claim7 := { stood := { row := serialAllRow, standIns := [], harness := (true, "e4c19e7adf5d0c9e91c6c28786a381bdc29ba6f2498fa3fdb726c0e695d0dc19"), looks := true }, kinds := [], alts := [], laidByText := true, laidKinds := [.listed, .data], laidTests := true, laidLooks := .later }
def SerialAllCardSaid : Prop := Claim7.holds Tryz.pinned (.plain (OpenSpec.ofChange serialAllSpec)) serialAllCard

/-- THE SECOND FORM's CARD OF 'topiarylaw16.SerialJoins'. -/
def serialJoinsUptoCard : Claim7 := { stood := { row := serialJoinsUptoRow, standIns := [], harness := (true, "e4c19e7adf5d0c9e91c6c28786a381bdc29ba6f2498fa3fdb726c0e695d0dc19"), looks := true }, kinds := [], alts := [], laidByText := true, laidKinds := [.listed, .data], laidTests := true, laidLooks := .later }
def SerialJoinsUptoCardSaid : Prop := Claim7.holds Tryz.pinned (.plain (OpenSpec.upto serialJoinsSpec)) serialJoinsUptoCard

/-- THE SECOND FORM's CARD OF 'topiarylaw16.SerialAll'. -/
def serialAllUptoCard : Claim7 := { stood := { row := serialAllUptoRow, standIns := [], harness := (true, "e4c19e7adf5d0c9e91c6c28786a381bdc29ba6f2498fa3fdb726c0e695d0dc19"), looks := true }, kinds := [], alts := [], laidByText := true, laidKinds := [.listed, .data], laidTests := true, laidLooks := .later }
def SerialAllUptoCardSaid : Prop := Claim7.holds Tryz.pinned (.plain (OpenSpec.upto serialAllSpec)) serialAllUptoCard
end Rows
end Go.Proofs.YtbjcahhijfommaaGreatDoor
