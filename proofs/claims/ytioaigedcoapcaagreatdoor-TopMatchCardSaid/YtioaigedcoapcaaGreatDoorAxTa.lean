/- token.named: its plain side. -/
import Derived.Test.YtioaigedcoapcaaGreatDoorTkLow
import Derived.Test.YtioaigedcoapcaaGreatDoorKr
import Derived.Test.YtioaigedcoapcaaGreatDoorFr
import Derived.BigQuiet
import Derived.IntWalk
import Derived.Laws.ResultCell
import Derived.Laws.Rows
import Derived.Lib.QuietBelow
import Derived.RangeFuncCalls
import Derived.RangeFuncLeaves
import Derived.WalkKit
import Derived.WalkLawsBesides
import Derived.WalkSpells
namespace Go.Proofs.YtioaigedcoapcaaGreatDoor.Tk
open Go Go.RowKit
set_option linter.unusedVariables false
set_option maxRecDepth 100000
def lowS (s : ByteArray) : ByteArray := ⟨(Ru.lower s.data.toList).toArray⟩
theorem lowS_size (s : ByteArray) : (lowS s).size = s.size := by show (Ru.lower s.data.toList).toArray.size = _; simp [Ru.lower]
def nameB (c : UInt8) : UInt8 := if c = 34 ∨ c = 39 ∨ c = 60 ∨ c = 61 then 95 else c
def namedP (s : ByteArray) : ByteArray := ⟨((Ru.lower s.data.toList).map nameB).toArray⟩
theorem namedP_size (s : ByteArray) : (namedP s).size = s.size := by show ((Ru.lower s.data.toList).map nameB).toArray.size = _; simp [Ru.lower]
theorem tlower (s : ByteArray) (hs : s.size ≤ 1000000000) (w : World) : Calls Tryz.prog 246 #[.string s] w fun e w' => e = .returned (.string (lowS s)) ∧ Below w.heap.size w w' :=
  Ru.lower_calls s w (Nat.le_trans hs (by decide))
end Go.Proofs.YtioaigedcoapcaaGreatDoor.Tk
