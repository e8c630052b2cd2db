/- Texts compared; strings.HasPrefix. -/
import Derived.Test.YtioaigedcoapcaaGreatDoorProg
import Derived.WalkKit
import Derived.WalkLawsBesides
import Derived.WalkSpells
import Derived.Handy
import Derived.Lib.Hide
namespace Go.Proofs.YtioaigedcoapcaaGreatDoor.Sr
open Go Go.RowKit
set_option linter.unusedVariables false

theorem bytes_eq {a b : ByteArray} : a.data.toList = b.data.toList ↔ a = b := by
  constructor
  · intro h; cases a; cases b; congr; exact Array.toList_inj.1 h
  · rintro rfl; rfl
theorem bytes_beq {a b : ByteArray} : (a == b) = true ↔ a = b := by
  rw [beq_toListBytes, beq_iff_eq, ByteArray.toList_eq, ByteArray.toList_eq]; exact bytes_eq
theorem str_eq (a b : ByteArray) : (a.toList == b.toList) = decide (a = b) := by
  rw [← beq_toListBytes]
  by_cases h : a = b
  · rw [decide_eq_true h]; exact bytes_beq.2 h
  · rw [decide_eq_false h, ← Bool.not_eq_true, bytes_beq]; exact h
theorem ret_str {a b : ByteArray} (h : a = b) : Ending.returned (.string a) = .returned (.string b) := by rw [h]
theorem ret_int {k : IntKind} {a b : Int} (h : a = b) : Ending.returned (.int k a) = .returned (.int k b) := by rw [h]
theorem ret_bool {a b : Bool} (h : a = b) : Ending.returned (.bool a) = .returned (.bool b) := by rw [h]
/-- One text begins another. -/
def hasPre (s p : ByteArray) : Bool := decide (p.size ≤ s.size) && decide (s.extract 0 p.size = p)
theorem hasPre_iff {s p : ByteArray} : hasPre s p = true ↔ p.data.toList <+: s.data.toList := by
  unfold hasPre
  rw [Bool.and_eq_true, decide_eq_true_eq, decide_eq_true_eq, ← bytes_eq]
  have e : (s.extract 0 p.size).data.toList = s.data.toList.take p.size := by
    rw [ByteArray.data_extract, Array.toList_extract, List.extract_eq_take_drop]; simp
  have ep : p.size = p.data.toList.length := rfl
  have es : s.size = s.data.toList.length := rfl
  rw [e, ep, es]
  constructor
  · rintro ⟨h1, h2⟩; rw [← h2]; exact List.take_prefix _ _
  · intro h; exact ⟨h.length_le, (List.prefix_iff_eq_take.1 h).symm⟩
theorem lite_calls (s p : ByteArray) (hs : s.size ≤ maxLen) (w : World) :
    Calls Tryz.prog 261 #[.string s, .string p] w fun e w' => e = .returned (.bool (hasPre s p)) ∧ w = w' := by
  have hs' := hs
  unfold maxLen at hs'
  by_cases h : p.size ≤ s.size
  · have q := str_eq (s.extract 0 p.size) p
    have H : Hid (hasPre s p = decide (s.extract 0 p.size = p)) := Lib.hid (by unfold hasPre; rw [decide_eq_true h, Bool.true_and])
    go_enter Tryz.func261, Tryz.ntmps261
    go_wp2_with fail
    go_ret
    exact ⟨ret_bool H.out.symm, rfl⟩
  · have H : Hid (hasPre s p = false) := Lib.hid (by unfold hasPre; rw [decide_eq_false h, Bool.false_and])
    go_enter Tryz.func261, Tryz.ntmps261
    go_wp2_with fail
    go_ret
    exact ⟨ret_bool H.out.symm, rfl⟩
theorem hasPrefix_calls (s p : ByteArray) (hs : s.size ≤ maxLen) (w : World) :
    Calls Tryz.prog 210 #[.string s, .string p] w fun e w' => e = .returned (.bool (hasPre s p)) ∧ w = w' := by
  go_enter Tryz.func210, Tryz.ntmps210
  go_wp2_with fail
  refine (lite_calls s p hs _).mono ?_
  rintro e w' ⟨rfl, rfl⟩
  go_wp2_with fail
  go_ret
  exact ⟨rfl, rfl⟩
theorem hasPrefix_is (s p : ByteArray) (hs : s.size ≤ maxLen) (b : Bool) (h : hasPre s p = b) (w : World) :
    Calls Tryz.prog 210 #[.string s, .string p] w fun e w' => e = .returned (.bool b) ∧ w = w' := h ▸ hasPrefix_calls s p hs w
attribute [irreducible] hasPre
end Go.Proofs.YtioaigedcoapcaaGreatDoor.Sr
