/-
  DERIVED. GIVEN WITH THE SEED: THE CARDS: each row of YtbjcahhijfommaaDoorRows.lean that lists a variable, with what it lists TIED to the program's text (the seventh form; the later family's looks); each row that meets fmt, with fmt's text TOLD by the authors' own Lean function (tested against real Go, not proved from fmt's source: count such statements apart). THE CARD IS WHAT COUNTS. Prove the row's statement (the work); the ties are given (YtbjcahhijfommaaDoorTie.lean); close each card by the builder's one call (the guide's Derived/Test/ToyasCard.lean, 'card_holds'). Laid BY PROGRAM, IN A SANDBOX (cutbox-door.mjs). By AI agents, Wed Nov 11 2026. No macro, syntax, notation, axiom, sorry.
-/
import Derived.Test.YtbjcahhijfommaaDoorRows
import GoSem.ClaimSeven
namespace Go.Proofs.YtbjcahhijfommaaDoor
namespace Rows

/-- THE TIED CARD OF 'topiarylaw16.SerialSame'. -/
def serialSameCard : Claim7 := { stood := { row := serialSameRow, standIns := [], harness := (true, "52c361231bdaa7ad325eee02c74076a7a2dce633ac7df8937aeb38b00aa885ad"), looks := true }, kinds := [], alts := [], laidByText := true, laidKinds := [.listed, .data], laidTests := true, laidLooks := .later }
def SerialSameCardSaid : Prop := Claim7.holds Tryd.pinned (.plain (OpenSpec.ofChange serialSameSpec)) serialSameCard

/-- THE TIED CARD OF 'topiarylaw16.SerialTexts'. -/
def serialTextsCard : Claim7 := { stood := { row := serialTextsRow, standIns := [], harness := (true, "52c361231bdaa7ad325eee02c74076a7a2dce633ac7df8937aeb38b00aa885ad"), looks := true }, kinds := [], alts := [], laidByText := true, laidKinds := [.listed, .data], laidTests := true, laidLooks := .later }
def SerialTextsCardSaid : Prop := Claim7.holds Tryd.pinned (.plain (OpenSpec.ofChange serialTextsSpec)) serialTextsCard

/-- THE TIED CARD OF 'topiarylaw16.SerialParts'. -/
def serialPartsCard : Claim7 := { stood := { row := serialPartsRow, standIns := [], harness := (true, "52c361231bdaa7ad325eee02c74076a7a2dce633ac7df8937aeb38b00aa885ad"), looks := true }, kinds := [], alts := [], laidByText := true, laidKinds := [.listed, .data], laidTests := true, laidLooks := .later }
def SerialPartsCardSaid : Prop := Claim7.holds Tryd.pinned (.plain (OpenSpec.ofChange serialPartsSpec)) serialPartsCard

/-- THE TIED CARD OF 'topiarylaw16.SerialRuns'. -/
def serialRunsCard : Claim7 := { stood := { row := serialRunsRow, standIns := [], harness := (true, "52c361231bdaa7ad325eee02c74076a7a2dce633ac7df8937aeb38b00aa885ad"), looks := true }, kinds := [], alts := [], laidByText := true, laidKinds := [.listed, .data], laidTests := true, laidLooks := .later }
def SerialRunsCardSaid : Prop := Claim7.holds Tryd.pinned (.plain (OpenSpec.ofChange serialRunsSpec)) serialRunsCard

/-- THE SECOND FORM's CARD OF 'topiarylaw16.SerialSame'. -/
def serialSameUptoCard : Claim7 := { stood := { row := serialSameUptoRow, standIns := [], harness := (true, "52c361231bdaa7ad325eee02c74076a7a2dce633ac7df8937aeb38b00aa885ad"), looks := true }, kinds := [], alts := [], laidByText := true, laidKinds := [.listed, .data], laidTests := true, laidLooks := .later }
def SerialSameUptoCardSaid : Prop := Claim7.holds Tryd.pinned (.plain (OpenSpec.upto serialSameSpec)) serialSameUptoCard

/-- THE SECOND FORM's CARD OF 'topiarylaw16.SerialTexts'. -/
def serialTextsUptoCard : Claim7 := { stood := { row := serialTextsUptoRow, standIns := [], harness := (true, "52c361231bdaa7ad325eee02c74076a7a2dce633ac7df8937aeb38b00aa885ad"), looks := true }, kinds := [], alts := [], laidByText := true, laidKinds := [.listed, .data], laidTests := true, laidLooks := .later }
def SerialTextsUptoCardSaid : Prop := Claim7.holds Tryd.pinned (.plain (OpenSpec.upto serialTextsSpec)) serialTextsUptoCard

/-- THE SECOND FORM's CARD OF 'topiarylaw16.SerialParts'. -/
def serialPartsUptoCard : Claim7 := { stood := { row := serialPartsUptoRow, standIns := [], harness := (true, "52c361231bdaa7ad325eee02c74076a7a2dce633ac7df8937aeb38b00aa885ad"), looks := true }, kinds := [], alts := [], laidByText := true, laidKinds := [.listed, .data], laidTests := true, laidLooks := .later }
def SerialPartsUptoCardSaid : Prop := Claim7.holds Tryd.pinned (.plain (OpenSpec.upto serialPartsSpec)) serialPartsUptoCard

/-- THE SECOND FORM's CARD OF 'topiarylaw16.SerialRuns'. -/
def serialRunsUptoCard : Claim7 := { stood := { row := serialRunsUptoRow, standIns := [], harness := (true, "52c361231bdaa7ad325eee02c74076a7a2dce633ac7df8937aeb38b00aa885ad"), looks := true }, kinds := [], alts := [], laidByText := true, laidKinds := [.listed, .data], laidTests := true, laidLooks := .later }
def SerialRunsUptoCardSaid : Prop := Claim7.holds Tryd.pinned (.plain (OpenSpec.upto serialRunsSpec)) serialRunsUptoCard
end Rows
end Go.Proofs.YtbjcahhijfommaaDoor
