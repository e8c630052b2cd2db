/-
  DERIVED. GIVEN WITH THE SEED: THE CARDS: each row of YthodiccmanjpkaaDoorRows.lean that lists a variable, with what it lists TIED to the program's text (the seventh form; the later family's looks); each row that meets fmt, with fmt's text TOLD by the authors' own Lean function (tested against real Go, not proved from fmt's source: count such statements apart). THE CARD IS WHAT COUNTS. Prove the row's statement (the work); the ties are given (YthodiccmanjpkaaDoorTie.lean); close each card by the builder's one call (the guide's Derived/Test/ToyasCard.lean, 'card_holds'). Laid BY PROGRAM, IN A SANDBOX (cutbox-door.mjs). By AI agents, Wed Nov 11 2026. No macro, syntax, notation, axiom, sorry.
-/
import Derived.Test.YthodiccmanjpkaaDoorRows
import GoSem.ClaimSeven
namespace Go.Proofs.YthodiccmanjpkaaDoor
namespace Rows

/-- THE TIED CARD OF 'topiarylaw04.RunesCleans'. -/
def runesCleansCard : Claim7 := { stood := { row := runesCleansRow, standIns := [], harness := (true, "5b46e1efe694e9466728697aadba7ac7aad8a649e7d98c959580c6619c0fadd6"), looks := false }, kinds := [], alts := [], laidByText := true, laidKinds := [.data, .pinned], laidTests := true, laidLooks := .later }
def RunesCleansCardSaid : Prop := Claim7.holds Tryd.pinned (.plain (OpenSpec.ofChange runesCleansSpec)) runesCleansCard

/-- THE TIED CARD OF 'topiarylaw04.RunesParts'. -/
def runesPartsCard : Claim7 := { stood := { row := runesPartsRow, standIns := [], harness := (true, "5b46e1efe694e9466728697aadba7ac7aad8a649e7d98c959580c6619c0fadd6"), looks := false }, kinds := [], alts := [], laidByText := true, laidKinds := [.data, .pinned], laidTests := true, laidLooks := .later }
def RunesPartsCardSaid : Prop := Claim7.holds Tryd.pinned (.plain (OpenSpec.ofChange runesPartsSpec)) runesPartsCard

/-- THE TIED CARD OF 'topiarylaw04.RunesLowers'. -/
def runesLowersCard : Claim7 := { stood := { row := runesLowersRow, standIns := [], harness := (true, "5b46e1efe694e9466728697aadba7ac7aad8a649e7d98c959580c6619c0fadd6"), looks := false }, kinds := [], alts := [], laidByText := true, laidKinds := [.data, .pinned], laidTests := true, laidLooks := .later }
def RunesLowersCardSaid : Prop := Claim7.holds Tryd.pinned (.plain (OpenSpec.ofChange runesLowersSpec)) runesLowersCard

/-- THE TIED CARD OF 'topiarylaw04.RunesLists'. -/
def runesListsCard : Claim7 := { stood := { row := runesListsRow, standIns := [], harness := (true, "5b46e1efe694e9466728697aadba7ac7aad8a649e7d98c959580c6619c0fadd6"), looks := false }, kinds := [], alts := [], laidByText := true, laidKinds := [.data, .pinned], laidTests := true, laidLooks := .later }
def RunesListsCardSaid : Prop := Claim7.holds Tryd.pinned (.plain (OpenSpec.ofChange runesListsSpec)) runesListsCard

/-- THE TIED CARD OF 'topiarylaw04.RunesBytes'. -/
def runesBytesCard : Claim7 := { stood := { row := runesBytesRow, standIns := [], harness := (true, "5b46e1efe694e9466728697aadba7ac7aad8a649e7d98c959580c6619c0fadd6"), looks := false }, kinds := [], alts := [], laidByText := true, laidKinds := [.data, .pinned], laidTests := true, laidLooks := .later }
def RunesBytesCardSaid : Prop := Claim7.holds Tryd.pinned (.plain (OpenSpec.ofChange runesBytesSpec)) runesBytesCard

/-- THE TIED CARD OF 'topiarylaw04.RunesAll'. -/
def runesAllCard : Claim7 := { stood := { row := runesAllRow, standIns := [], harness := (true, "5b46e1efe694e9466728697aadba7ac7aad8a649e7d98c959580c6619c0fadd6"), looks := false }, kinds := [], alts := [], laidByText := true, laidKinds := [.data, .pinned], laidTests := true, laidLooks := .later }
def RunesAllCardSaid : Prop := Claim7.holds Tryd.pinned (.plain (OpenSpec.ofChange runesAllSpec)) runesAllCard

/-- THE SECOND FORM's CARD OF 'topiarylaw04.RunesCleans'. -/
def runesCleansUptoCard : Claim7 := { stood := { row := runesCleansUptoRow, standIns := [], harness := (true, "5b46e1efe694e9466728697aadba7ac7aad8a649e7d98c959580c6619c0fadd6"), looks := false }, kinds := [], alts := [], laidByText := true, laidKinds := [.data, .pinned], laidTests := true, laidLooks := .later }
def RunesCleansUptoCardSaid : Prop := Claim7.holds Tryd.pinned (.plain (OpenSpec.upto runesCleansSpec)) runesCleansUptoCard

/-- THE SECOND FORM's CARD OF 'topiarylaw04.RunesParts'. -/
def runesPartsUptoCard : Claim7 := { stood := { row := runesPartsUptoRow, standIns := [], harness := (true, "5b46e1efe694e9466728697aadba7ac7aad8a649e7d98c959580c6619c0fadd6"), looks := false }, kinds := [], alts := [], laidByText := true, laidKinds := [.data, .pinned], laidTests := true, laidLooks := .later }
def RunesPartsUptoCardSaid : Prop := Claim7.holds Tryd.pinned (.plain (OpenSpec.upto runesPartsSpec)) runesPartsUptoCard

/-- THE SECOND FORM's CARD OF 'topiarylaw04.RunesLowers'. -/
def runesLowersUptoCard : Claim7 := { stood := { row := runesLowersUptoRow, standIns := [], harness := (true, "5b46e1efe694e9466728697aadba7ac7aad8a649e7d98c959580c6619c0fadd6"), looks := false }, kinds := [], alts := [], laidByText := true, laidKinds := [.data, .pinned], laidTests := true, laidLooks := .later }
def RunesLowersUptoCardSaid : Prop := Claim7.holds Tryd.pinned (.plain (OpenSpec.upto runesLowersSpec)) runesLowersUptoCard

/-- THE SECOND FORM's CARD OF 'topiarylaw04.RunesLists'. -/
def runesListsUptoCard : Claim7 := { stood := { row := runesListsUptoRow, standIns := [], harness := (true, "5b46e1efe694e9466728697aadba7ac7aad8a649e7d98c959580c6619c0fadd6"), looks := false }, kinds := [], alts := [], laidByText := true, laidKinds := [.data, .pinned], laidTests := true, laidLooks := .later }
def RunesListsUptoCardSaid : Prop := Claim7.holds Tryd.pinned (.plain (OpenSpec.upto runesListsSpec)) runesListsUptoCard

/-- THE SECOND FORM's CARD OF 'topiarylaw04.RunesBytes'. -/
def runesBytesUptoCard : Claim7 := { stood := { row := runesBytesUptoRow, standIns := [], harness := (true, "5b46e1efe694e9466728697aadba7ac7aad8a649e7d98c959580c6619c0fadd6"), looks := false }, kinds := [], alts := [], laidByText := true, laidKinds := [.data, .pinned], laidTests := true, laidLooks := .later }
def RunesBytesUptoCardSaid : Prop := Claim7.holds Tryd.pinned (.plain (OpenSpec.upto runesBytesSpec)) runesBytesUptoCard

/-- THE SECOND FORM's CARD OF 'topiarylaw04.RunesAll'. -/
def runesAllUptoCard : Claim7 := { stood := { row := runesAllUptoRow, standIns := [], harness := (true, "5b46e1efe694e9466728697aadba7ac7aad8a649e7d98c959580c6619c0fadd6"), looks := false }, kinds := [], alts := [], laidByText := true, laidKinds := [.data, .pinned], laidTests := true, laidLooks := .later }
def RunesAllUptoCardSaid : Prop := Claim7.holds Tryd.pinned (.plain (OpenSpec.upto runesAllSpec)) runesAllUptoCard
end Rows
end Go.Proofs.YthodiccmanjpkaaDoor
