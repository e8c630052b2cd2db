/-
  NARROWER THAN 'FOR EVERY INPUT', by the rows' own cells (each row's printed sentence says how): RunesCleans: laid · RunesParts: laid · RunesLowers: laid · RunesLists: laid · RunesBytes: laid · RunesAll: laid.
  DERIVED. THE GIVEN ROWS OF THIS SEAT. 6 by the template 'for every input the law returns true; each argument reads behind the call as it read before'; 0 by the template 'total and deterministic' (their statements: YthodiccmanjpkaaDoorTotals.lean).
  GIVEN WITH THE SEED: the statements are not yours to turn. If you find one false, say at which input.
  Laid BY PROGRAM, IN A SANDBOX (cutbox-rows.mjs): the forced cells as the released guide's own fill.sh prints them over the translation c832188490ebea91… (all of the seat's roots in one cut). By AI agents, Wed Nov 11 2026. No macro, syntax, notation, axiom, sorry.
-/
import Derived.Test.YthodiccmanjpkaaDoorChecked
import GoSem.PinnedTables
import GoSem.Claim
import GoSem.ClaimJoined
import GoSem.ClaimMapViews
import Derived.JoinedTies
import Derived.KernelRfl
namespace Go.Proofs.YthodiccmanjpkaaDoor
/- THE CELL 'sum', in the pinned program and in every row, IS THE sha256 OF THE DUMP (.gsa) THAT YthodiccmanjpkaaDoorProg.lean LOADS. Nothing in Lean hashes anything: it is a label: what it is worth is what the hold of that sum in a sandbox is worth. -/
noncomputable def Tryd.pinned : Pinned := { name := "ythodiccmanjpkaadoor", sum := "c832188490ebea911f92f0b879a089268580b8451687a51a6444719ee54b197f", checked := Tryd.checked }
namespace Rows
def none {H : Type} : Left H := { results := [], args := [] }

/- WHAT THE LISTED PACKAGE-LEVEL VARIABLES READ AS WHEN THE CALL BEGINS. Each datum BY PROGRAM (the guide's laid-datum.mjs) off the statement by which the dump's own 'gosem.cut.vars' lays the variable. In a bare row this is a premise. The card (YthodiccmanjpkaaDoorCards.lean) ties it to the program's text. -/
def laid_unicode_utf8_acceptRanges {H : Type} : DataW H := .agg [.agg [.lit (.int .u8 128), .lit (.int .u8 191)], .agg [.lit (.int .u8 160), .lit (.int .u8 191)], .agg [.lit (.int .u8 128), .lit (.int .u8 159)], .agg [.lit (.int .u8 144), .lit (.int .u8 191)], .agg [.lit (.int .u8 128), .lit (.int .u8 143)], .agg [.lit (.int .u8 0), .lit (.int .u8 0)], .agg [.lit (.int .u8 0), .lit (.int .u8 0)], .agg [.lit (.int .u8 0), .lit (.int .u8 0)], .agg [.lit (.int .u8 0), .lit (.int .u8 0)], .agg [.lit (.int .u8 0), .lit (.int .u8 0)], .agg [.lit (.int .u8 0), .lit (.int .u8 0)], .agg [.lit (.int .u8 0), .lit (.int .u8 0)], .agg [.lit (.int .u8 0), .lit (.int .u8 0)], .agg [.lit (.int .u8 0), .lit (.int .u8 0)], .agg [.lit (.int .u8 0), .lit (.int .u8 0)], .agg [.lit (.int .u8 0), .lit (.int .u8 0)]]
/-- One of Go's own tables, pinned by name: the form's constant. -/
def laid_unicode_utf8_first : DataW Unit := Go.Pinned.utf8First

/-- 'topiarylaw04.RunesCleans': WHATEVER THE INPUT: true; the input reads as it did. -/
def runesCleansSpec : ChangeSpec := { name := "runesCleans", fn := fun _ => fun
  | [d] => { results := [.lit (.bool true)], args := [d] }
  | _ => none }
def runesCleansRow : OpenClaim := { program := "ythodiccmanjpkaadoor", sum := "c832188490ebea911f92f0b879a089268580b8451687a51a6444719ee54b197f", func := "topiary/topiarylaw04.RunesCleans", spec := "runesCleans", inPlace := ["internal/abi.NoEscape"], named := ["unicode/utf8.first", "unicode/utf8.acceptRanges"], apart := false, laid := [("unicode/utf8.acceptRanges", laid_unicode_utf8_acceptRanges), ("unicode/utf8.first", laid_unicode_utf8_first)] }
def RunesCleansSaid : Prop := runesCleansRow.holds Tryd.pinned (OpenSpec.ofChange runesCleansSpec)

/-- ITS FALSE NEIGHBOUR: 'it returns false'. Refute it at one input. -/
def runesCleansWrong : ChangeSpec := { name := "runesCleans", fn := fun _ => fun
  | [d] => { results := [.lit (.bool false)], args := [d] }
  | _ => none }
def RunesCleansWrongFalsely : Prop := runesCleansRow.holds Tryd.pinned (OpenSpec.ofChange runesCleansWrong)

/-- 'topiarylaw04.RunesParts': WHATEVER THE INPUT: true; the input reads as it did. -/
def runesPartsSpec : ChangeSpec := { name := "runesParts", fn := fun _ => fun
  | [d1, d2] => { results := [.lit (.bool true)], args := [d1, d2] }
  | _ => none }
def runesPartsRow : OpenClaim := { program := "ythodiccmanjpkaadoor", sum := "c832188490ebea911f92f0b879a089268580b8451687a51a6444719ee54b197f", func := "topiary/topiarylaw04.RunesParts", spec := "runesParts", inPlace := ["internal/abi.NoEscape"], named := ["unicode/utf8.first", "unicode/utf8.acceptRanges"], apart := false, laid := [("unicode/utf8.acceptRanges", laid_unicode_utf8_acceptRanges), ("unicode/utf8.first", laid_unicode_utf8_first)] }
def RunesPartsSaid : Prop := runesPartsRow.holds Tryd.pinned (OpenSpec.ofChange runesPartsSpec)

/-- ITS FALSE NEIGHBOUR: 'it returns false'. Refute it at one input. -/
def runesPartsWrong : ChangeSpec := { name := "runesParts", fn := fun _ => fun
  | [d1, d2] => { results := [.lit (.bool false)], args := [d1, d2] }
  | _ => none }
def RunesPartsWrongFalsely : Prop := runesPartsRow.holds Tryd.pinned (OpenSpec.ofChange runesPartsWrong)

/-- 'topiarylaw04.RunesLowers': WHATEVER THE INPUT: true; the input reads as it did. -/
def runesLowersSpec : ChangeSpec := { name := "runesLowers", fn := fun _ => fun
  | [d] => { results := [.lit (.bool true)], args := [d] }
  | _ => none }
def runesLowersRow : OpenClaim := { program := "ythodiccmanjpkaadoor", sum := "c832188490ebea911f92f0b879a089268580b8451687a51a6444719ee54b197f", func := "topiary/topiarylaw04.RunesLowers", spec := "runesLowers", inPlace := ["internal/abi.NoEscape"], named := ["unicode/utf8.first", "unicode/utf8.acceptRanges"], apart := false, laid := [("unicode/utf8.acceptRanges", laid_unicode_utf8_acceptRanges), ("unicode/utf8.first", laid_unicode_utf8_first)] }
def RunesLowersSaid : Prop := runesLowersRow.holds Tryd.pinned (OpenSpec.ofChange runesLowersSpec)

/-- ITS FALSE NEIGHBOUR: 'it returns false'. Refute it at one input. -/
def runesLowersWrong : ChangeSpec := { name := "runesLowers", fn := fun _ => fun
  | [d] => { results := [.lit (.bool false)], args := [d] }
  | _ => none }
def RunesLowersWrongFalsely : Prop := runesLowersRow.holds Tryd.pinned (OpenSpec.ofChange runesLowersWrong)

/-- 'topiarylaw04.RunesLists': WHATEVER THE INPUT: true; the input reads as it did. -/
def runesListsSpec : ChangeSpec := { name := "runesLists", fn := fun _ => fun
  | [d] => { results := [.lit (.bool true)], args := [d] }
  | _ => none }
def runesListsRow : OpenClaim := { program := "ythodiccmanjpkaadoor", sum := "c832188490ebea911f92f0b879a089268580b8451687a51a6444719ee54b197f", func := "topiary/topiarylaw04.RunesLists", spec := "runesLists", inPlace := ["internal/abi.NoEscape"], named := ["unicode/utf8.first", "unicode/utf8.acceptRanges"], apart := false, laid := [("unicode/utf8.acceptRanges", laid_unicode_utf8_acceptRanges), ("unicode/utf8.first", laid_unicode_utf8_first)] }
def RunesListsSaid : Prop := runesListsRow.holds Tryd.pinned (OpenSpec.ofChange runesListsSpec)

/-- ITS FALSE NEIGHBOUR: 'it returns false'. Refute it at one input. -/
def runesListsWrong : ChangeSpec := { name := "runesLists", fn := fun _ => fun
  | [d] => { results := [.lit (.bool false)], args := [d] }
  | _ => none }
def RunesListsWrongFalsely : Prop := runesListsRow.holds Tryd.pinned (OpenSpec.ofChange runesListsWrong)

/-- 'topiarylaw04.RunesBytes': WHATEVER THE INPUT: true; the input reads as it did. -/
def runesBytesSpec : ChangeSpec := { name := "runesBytes", fn := fun _ => fun
  | [] => { results := [.lit (.bool true)], args := [] }
  | _ => none }
def runesBytesRow : OpenClaim := { program := "ythodiccmanjpkaadoor", sum := "c832188490ebea911f92f0b879a089268580b8451687a51a6444719ee54b197f", func := "topiary/topiarylaw04.RunesBytes", spec := "runesBytes", inPlace := ["internal/abi.NoEscape"], named := ["unicode/utf8.first", "unicode/utf8.acceptRanges"], apart := false, laid := [("unicode/utf8.acceptRanges", laid_unicode_utf8_acceptRanges), ("unicode/utf8.first", laid_unicode_utf8_first)] }
def RunesBytesSaid : Prop := runesBytesRow.holds Tryd.pinned (OpenSpec.ofChange runesBytesSpec)

/-- ITS FALSE NEIGHBOUR: 'it returns false'. Refute it at one input. -/
def runesBytesWrong : ChangeSpec := { name := "runesBytes", fn := fun _ => fun
  | [] => { results := [.lit (.bool false)], args := [] }
  | _ => none }
def RunesBytesWrongFalsely : Prop := runesBytesRow.holds Tryd.pinned (OpenSpec.ofChange runesBytesWrong)

/-- 'topiarylaw04.RunesAll': WHATEVER THE INPUT: true; the input reads as it did. -/
def runesAllSpec : ChangeSpec := { name := "runesAll", fn := fun _ => fun
  | [d1, d2, d3] => { results := [.lit (.bool true)], args := [d1, d2, d3] }
  | _ => none }
def runesAllRow : OpenClaim := { program := "ythodiccmanjpkaadoor", sum := "c832188490ebea911f92f0b879a089268580b8451687a51a6444719ee54b197f", func := "topiary/topiarylaw04.RunesAll", spec := "runesAll", inPlace := ["internal/abi.NoEscape"], named := ["unicode/utf8.first", "unicode/utf8.acceptRanges"], apart := false, laid := [("unicode/utf8.acceptRanges", laid_unicode_utf8_acceptRanges), ("unicode/utf8.first", laid_unicode_utf8_first)] }
def RunesAllSaid : Prop := runesAllRow.holds Tryd.pinned (OpenSpec.ofChange runesAllSpec)

/-- ITS FALSE NEIGHBOUR: 'it returns false'. Refute it at one input. -/
def runesAllWrong : ChangeSpec := { name := "runesAll", fn := fun _ => fun
  | [d1, d2, d3] => { results := [.lit (.bool false)], args := [d1, d2, d3] }
  | _ => none }
def RunesAllWrongFalsely : Prop := runesAllRow.holds Tryd.pinned (OpenSpec.ofChange runesAllWrong)

/- THE SECOND FORM. 'bulk': how many values and letters a reading holds, each counted each time it is reached (what is shared counts as often as it is met; a slice's spare places count too). A statement '..UptoSaid' is the law's where the arguments, and the package variables that the reading takes, are together of bulk at most 1048576: NARROWER than '..Said'. Prove '..Said' where nothing that the law and all that it calls make is longer than what came in: it says more and counts as full. Else prove '..UptoSaid'. A law counts once. -/
mutual
def uptoBulk {H : Type} : DataW H → Nat
  | .lit (.string bytes) => bytes.length + 1
  | .lit _ => 1
  | .nil => 1
  | .ptr d => uptoBulk d + 1
  | .slice elems spare => uptoBulkAll elems + uptoBulkAll spare + 1
  | .agg parts => uptoBulkAll parts + 1
  | .iface _ d => uptoBulk d + 1
  | .map entries => uptoBulkEntries entries + 1
  | .held _ => 1
def uptoBulkAll {H : Type} : List (DataW H) → Nat
  | [] => 0
  | d :: r => uptoBulk d + uptoBulkAll r
def uptoBulkEntries {H : Type} : List (Lit × DataW H) → Nat
  | [] => 0
  | x :: r => uptoBulkEntry x + uptoBulkEntries r
def uptoBulkEntry {H : Type} : Lit × DataW H → Nat
  | (.string bytes, d) => bytes.length + uptoBulk d + 1
  | (_, d) => uptoBulk d + 1
 end
def uptoSmall : (H : Type) → List (DataW H) → Bool := fun _ ds => decide (uptoBulkAll ds ≤ 1048576)
def OpenSpec.upto (s : _root_.Go.ChangeSpec) : _root_.Go.OpenSpec := { _root_.Go.OpenSpec.ofChange s with cond := some uptoSmall }

/-- 'topiarylaw04.RunesCleans', WHERE WHAT IT READS IS OF BULK AT MOST 1048576: true; the input reads as it did. -/
def runesCleansUptoRow : OpenClaim := { program := "ythodiccmanjpkaadoor", sum := "c832188490ebea911f92f0b879a089268580b8451687a51a6444719ee54b197f", func := "topiary/topiarylaw04.RunesCleans", spec := "runesCleans", inPlace := ["internal/abi.NoEscape"], named := ["unicode/utf8.first", "unicode/utf8.acceptRanges"], apart := false, laid := [("unicode/utf8.acceptRanges", laid_unicode_utf8_acceptRanges), ("unicode/utf8.first", laid_unicode_utf8_first)], narrowed := true }
def RunesCleansUptoSaid : Prop := runesCleansUptoRow.holds Tryd.pinned (OpenSpec.upto runesCleansSpec)

/-- 'topiarylaw04.RunesParts', WHERE WHAT IT READS IS OF BULK AT MOST 1048576: true; the input reads as it did. -/
def runesPartsUptoRow : OpenClaim := { program := "ythodiccmanjpkaadoor", sum := "c832188490ebea911f92f0b879a089268580b8451687a51a6444719ee54b197f", func := "topiary/topiarylaw04.RunesParts", spec := "runesParts", inPlace := ["internal/abi.NoEscape"], named := ["unicode/utf8.first", "unicode/utf8.acceptRanges"], apart := false, laid := [("unicode/utf8.acceptRanges", laid_unicode_utf8_acceptRanges), ("unicode/utf8.first", laid_unicode_utf8_first)], narrowed := true }
def RunesPartsUptoSaid : Prop := runesPartsUptoRow.holds Tryd.pinned (OpenSpec.upto runesPartsSpec)

/-- 'topiarylaw04.RunesLowers', WHERE WHAT IT READS IS OF BULK AT MOST 1048576: true; the input reads as it did. -/
def runesLowersUptoRow : OpenClaim := { program := "ythodiccmanjpkaadoor", sum := "c832188490ebea911f92f0b879a089268580b8451687a51a6444719ee54b197f", func := "topiary/topiarylaw04.RunesLowers", spec := "runesLowers", inPlace := ["internal/abi.NoEscape"], named := ["unicode/utf8.first", "unicode/utf8.acceptRanges"], apart := false, laid := [("unicode/utf8.acceptRanges", laid_unicode_utf8_acceptRanges), ("unicode/utf8.first", laid_unicode_utf8_first)], narrowed := true }
def RunesLowersUptoSaid : Prop := runesLowersUptoRow.holds Tryd.pinned (OpenSpec.upto runesLowersSpec)

/-- 'topiarylaw04.RunesLists', WHERE WHAT IT READS IS OF BULK AT MOST 1048576: true; the input reads as it did. -/
def runesListsUptoRow : OpenClaim := { program := "ythodiccmanjpkaadoor", sum := "c832188490ebea911f92f0b879a089268580b8451687a51a6444719ee54b197f", func := "topiary/topiarylaw04.RunesLists", spec := "runesLists", inPlace := ["internal/abi.NoEscape"], named := ["unicode/utf8.first", "unicode/utf8.acceptRanges"], apart := false, laid := [("unicode/utf8.acceptRanges", laid_unicode_utf8_acceptRanges), ("unicode/utf8.first", laid_unicode_utf8_first)], narrowed := true }
def RunesListsUptoSaid : Prop := runesListsUptoRow.holds Tryd.pinned (OpenSpec.upto runesListsSpec)

/-- 'topiarylaw04.RunesBytes', WHERE WHAT IT READS IS OF BULK AT MOST 1048576: true; the input reads as it did. -/
def runesBytesUptoRow : OpenClaim := { program := "ythodiccmanjpkaadoor", sum := "c832188490ebea911f92f0b879a089268580b8451687a51a6444719ee54b197f", func := "topiary/topiarylaw04.RunesBytes", spec := "runesBytes", inPlace := ["internal/abi.NoEscape"], named := ["unicode/utf8.first", "unicode/utf8.acceptRanges"], apart := false, laid := [("unicode/utf8.acceptRanges", laid_unicode_utf8_acceptRanges), ("unicode/utf8.first", laid_unicode_utf8_first)], narrowed := true }
def RunesBytesUptoSaid : Prop := runesBytesUptoRow.holds Tryd.pinned (OpenSpec.upto runesBytesSpec)

/-- 'topiarylaw04.RunesAll', WHERE WHAT IT READS IS OF BULK AT MOST 1048576: true; the input reads as it did. -/
def runesAllUptoRow : OpenClaim := { program := "ythodiccmanjpkaadoor", sum := "c832188490ebea911f92f0b879a089268580b8451687a51a6444719ee54b197f", func := "topiary/topiarylaw04.RunesAll", spec := "runesAll", inPlace := ["internal/abi.NoEscape"], named := ["unicode/utf8.first", "unicode/utf8.acceptRanges"], apart := false, laid := [("unicode/utf8.acceptRanges", laid_unicode_utf8_acceptRanges), ("unicode/utf8.first", laid_unicode_utf8_first)], narrowed := true }
def RunesAllUptoSaid : Prop := runesAllUptoRow.holds Tryd.pinned (OpenSpec.upto runesAllSpec)

end Rows
end Go.Proofs.YthodiccmanjpkaaDoor
