/- Valid, Put, Blank, Letter; the laws' own example. -/
import Derived.Test.YthodiccmanjpkaaDoorBld
import Derived.Test.YthodiccmanjpkaaDoorCleanW
import Derived.Test.YthodiccmanjpkaaDoorLowW
import Derived.Test.YthodiccmanjpkaaDoorRefW
import Derived.Test.YthodiccmanjpkaaDoorPut
import Derived.Lib.QuietBelow
import Derived.Outline
import Derived.RegionTactic
import Derived.BigRegion
namespace Go.Proofs.YthodiccmanjpkaaDoor.Ru
open Go Go.RowKit Go.Lib
set_option linter.unusedVariables false

def Tabs (w : World) : Prop := Lib.Utf8Tabs 0 1 w
theorem tabs_below {w w' : World} (h : Tabs w) (hb : Below w.heap.size w w') : Tabs w' := Utf8Tabs_below h hb
theorem v_calls (s : ByteArray) (w : World) (hs : s.size ≤ 9223372036854775807) (hT : Tabs w) :
    Calls Tryd.prog 26 #[.string s] w fun e w' => e = .returned (.bool (Lib.validD s.data.toList)) ∧ Below w.heap.size w w' :=
  Any.utf8_ValidString lays196 s w hs hT
theorem valid_calls (s : ByteArray) (w : World) (hs : s.size ≤ 9223372036854775807) (hT : Tabs w) :
    Calls Tryd.prog 11 #[.string s] w fun e w' => e = .returned (.bool (Lib.validD s.data.toList)) ∧ Below w.heap.size w w' := by
  have HT := Lib.hid hT
  clear hT
  go_enter Tryd.func11, Tryd.ntmps11
  go_wp2_with fail
  refine (v_calls s _ hs HT.out).mono ?_
  rintro e w' ⟨rfl, hb⟩
  go_wp2_with fail
  go_ret
  exact ⟨rfl, hb⟩
theorem put_calls (v : Int) (w : World) :
    Calls Tryd.prog 13 #[.int .i32 v] w fun e w' => e = .returned (.string (Utf8.encode v)) ∧ w = w' := by
  go_enter Tryd.func13, Tryd.ntmps13
  go_wp2_with fail
  go_ret
  exact ⟨rfl, rfl⟩
def blankB (c : Int) : Bool := decide (c = 9 ∨ c = 10 ∨ c = 12 ∨ c = 32)
def letterB (c : Int) : Bool := decide ((97 ≤ c ∧ c ≤ 122) ∨ (65 ≤ c ∧ c ≤ 90))
def BoolEnd (b : Bool) (w : World) (e : Ending) (w' : World) : Prop := e = .returned (.bool b) ∧ w = w'
theorem boolEnd {a b : Bool} {w : World} (h : b = a) : BoolEnd b w (.returned (.bool a)) w := ⟨by rw [h], rfl⟩
theorem blank_eq (c : Int) : (c == 9 || c == 10 || c == 12 || c == 32) = blankB c := by
  rw [Bool.eq_iff_iff]
  simp [blankB, or_assoc]
def rangeB (c lo hi : Int) : Bool := decide (lo ≤ c ∧ c ≤ hi)
theorem letter_up (c : Int) (h : 97 ≤ c ∧ c ≤ 122) : letterB c = true := by unfold letterB; exact decide_eq_true (.inl h)
theorem letter_lo (c : Int) (h : 65 ≤ c ∧ c ≤ 90) : letterB c = true := by unfold letterB; exact decide_eq_true (.inr h)
theorem letter_no (c : Int) (h : ¬ (97 ≤ c ∧ c ≤ 122)) (h2 : ¬ (65 ≤ c ∧ c ≤ 90)) : letterB c = false := by unfold letterB; exact decide_eq_false (by omega)
theorem blank_true (c : Int) (h : c = 9 ∨ c = 10 ∨ c = 12 ∨ c = 32) : blankB c = true := decide_eq_true h
theorem blank_false (c : Int) (h : ¬ (c = 9 ∨ c = 10 ∨ c = 12 ∨ c = 32)) : blankB c = false := decide_eq_false h
set_option maxHeartbeats 1000000 in
theorem blank_calls (c : Int) (w : World) : Calls Tryd.prog 15 #[.int .u8 c] w (BoolEnd (blankB c) w) := by
  rcases (show c = 9 ∨ c = 10 ∨ c = 12 ∨ c = 32 ∨ ¬ (c = 9 ∨ c = 10 ∨ c = 12 ∨ c = 32) by omega) with rfl | rfl | rfl | rfl | h
  case inr.inr.inr.inr =>
    have t0 : (c == 9) = false := beq_eq_false_iff_ne.2 (by omega)
    have t1 : (c == 10) = false := beq_eq_false_iff_ne.2 (by omega)
    have t2 : (c == 12) = false := beq_eq_false_iff_ne.2 (by omega)
    have t3 : (c == 32) = false := beq_eq_false_iff_ne.2 (by omega)
    have H := Lib.hid (blank_false c h)
    clear h
    go_enter Tryd.func15, Tryd.ntmps15
    go_wp2_with fail
    go_ret
    exact boolEnd H.out
  all_goals
    go_enter Tryd.func15, Tryd.ntmps15
    go_wp2_with fail
    go_ret
    exact boolEnd (by decide)
set_option maxHeartbeats 1000000 in
theorem rblank_calls (c : Int) (w : World) : Calls Tryd.prog 21 #[.int .u8 c] w (BoolEnd (blankB c) w) := by
  rcases (show c = 9 ∨ c = 10 ∨ c = 12 ∨ c = 32 ∨ ¬ (c = 9 ∨ c = 10 ∨ c = 12 ∨ c = 32) by omega) with rfl | rfl | rfl | rfl | h
  case inr.inr.inr.inr =>
    have t0 : (c == 9) = false := beq_eq_false_iff_ne.2 (by omega)
    have t1 : (c == 10) = false := beq_eq_false_iff_ne.2 (by omega)
    have t2 : (c == 12) = false := beq_eq_false_iff_ne.2 (by omega)
    have t3 : (c == 32) = false := beq_eq_false_iff_ne.2 (by omega)
    have H := Lib.hid (blank_false c h)
    clear h
    go_enter Tryd.func21, Tryd.ntmps21
    go_wp2_with fail
    go_ret
    exact boolEnd H.out
  all_goals
    go_enter Tryd.func21, Tryd.ntmps21
    go_wp2_with fail
    go_ret
    exact boolEnd (by decide)
set_option maxHeartbeats 1000000 in
theorem letter_calls (c : Int) (w : World) : Calls Tryd.prog 16 #[.int .u8 c] w (BoolEnd (letterB c) w) := by
  by_cases h : 97 ≤ c ∧ c ≤ 122
  · obtain ⟨h1, h2⟩ := h
    have H := Lib.hid (letter_up c ⟨h1, h2⟩)
    go_enter Tryd.func16, Tryd.ntmps16
    go_wp2_with fail
    go_ret
    exact boolEnd H.out
  by_cases h' : 65 ≤ c ∧ c ≤ 90
  · obtain ⟨h1, h2⟩ := h'
    have H := Lib.hid (letter_lo c ⟨h1, h2⟩)
    have t0 : decide (97 ≤ c) = false := decide_eq_false (by omega)
    go_enter Tryd.func16, Tryd.ntmps16
    go_wp2_with fail
    go_ret
    exact boolEnd H.out
  have H := Lib.hid (letter_no c h h')
  rcases (show (97 ≤ c ∧ 122 < c) ∨ (c < 97 ∧ 65 ≤ c ∧ 90 < c) ∨ c < 65 by omega) with ⟨a, b⟩ | ⟨a, b, d⟩ | a
  · have t0 : decide (c ≤ 122) = false := decide_eq_false (by omega)
    have t1 : (65 : Int) ≤ c := by omega
    have t2 : decide (c ≤ 90) = false := decide_eq_false (by omega)
    go_enter Tryd.func16, Tryd.ntmps16
    go_wp2_with fail
    go_ret
    exact boolEnd H.out
  · have t0 : decide (97 ≤ c) = false := decide_eq_false (by omega)
    have t2 : decide (c ≤ 90) = false := decide_eq_false (by omega)
    go_enter Tryd.func16, Tryd.ntmps16
    go_wp2_with fail
    go_ret
    exact boolEnd H.out
  · have t0 : decide (97 ≤ c) = false := decide_eq_false (by omega)
    have t2 : decide (65 ≤ c) = false := decide_eq_false (by omega)
    go_enter Tryd.func16, Tryd.ntmps16
    go_wp2_with fail
    go_ret
    exact boolEnd H.out
set_option maxHeartbeats 1000000 in
theorem rletter_calls (c : Int) (w : World) : Calls Tryd.prog 22 #[.int .u8 c] w (BoolEnd (letterB c) w) := by
  by_cases h : 97 ≤ c ∧ c ≤ 122
  · obtain ⟨h1, h2⟩ := h
    have H := Lib.hid (letter_up c ⟨h1, h2⟩)
    go_enter Tryd.func22, Tryd.ntmps22
    go_wp2_with fail
    go_ret
    exact boolEnd H.out
  by_cases h' : 65 ≤ c ∧ c ≤ 90
  · obtain ⟨h1, h2⟩ := h'
    have H := Lib.hid (letter_lo c ⟨h1, h2⟩)
    have t0 : decide (97 ≤ c) = false := decide_eq_false (by omega)
    go_enter Tryd.func22, Tryd.ntmps22
    go_wp2_with fail
    go_ret
    exact boolEnd H.out
  have H := Lib.hid (letter_no c h h')
  rcases (show (97 ≤ c ∧ 122 < c) ∨ (c < 97 ∧ 65 ≤ c ∧ 90 < c) ∨ c < 65 by omega) with ⟨a, b⟩ | ⟨a, b, d⟩ | a
  · have t0 : decide (c ≤ 122) = false := decide_eq_false (by omega)
    have t1 : (65 : Int) ≤ c := by omega
    have t2 : decide (c ≤ 90) = false := decide_eq_false (by omega)
    go_enter Tryd.func22, Tryd.ntmps22
    go_wp2_with fail
    go_ret
    exact boolEnd H.out
  · have t0 : decide (97 ≤ c) = false := decide_eq_false (by omega)
    have t2 : decide (c ≤ 90) = false := decide_eq_false (by omega)
    go_enter Tryd.func22, Tryd.ntmps22
    go_wp2_with fail
    go_ret
    exact boolEnd H.out
  · have t0 : decide (97 ≤ c) = false := decide_eq_false (by omega)
    have t2 : decide (65 ≤ c) = false := decide_eq_false (by omega)
    go_enter Tryd.func22, Tryd.ntmps22
    go_wp2_with fail
    go_ret
    exact boolEnd H.out

/-! ### The laws' own example -/
theorem ex_clean : clean [97, 13, 10, 98] = [97, 10, 98] := by decide +kernel
theorem ex_lower : lower [97, 66] = [97, 98] := by decide +kernel
theorem ex_valid : validD [195, 159] = true := by decide +kernel
theorem ex_not : validD [255] = false := by decide +kernel
theorem aw1 (w : World) : Calls Tryd.prog 10 #[.string ⟨#[97, 13, 10, 98]⟩] w fun e w' => e = .returned (.string ⟨#[97, 10, 98]⟩) ∧ Below w.heap.size w w' :=
  (clean_calls ⟨#[97, 13, 10, 98]⟩ w (by decide)).mono fun e w' ⟨h, b⟩ => ⟨by rw [h]; rw [show clean (ByteArray.mk #[97, 13, 10, 98]).data.toList = [97, 10, 98] from ex_clean], b⟩
theorem aw2 (w : World) : Calls Tryd.prog 12 #[.string ⟨#[97, 66]⟩] w fun e w' => e = .returned (.string ⟨#[97, 98]⟩) ∧ Below w.heap.size w w' :=
  (lower_calls ⟨#[97, 66]⟩ w (by decide)).mono fun e w' ⟨h, b⟩ => ⟨by rw [h]; rw [show lower (ByteArray.mk #[97, 66]).data.toList = [97, 98] from ex_lower], b⟩
theorem aw3 (w : World) (hT : Tabs w) : Calls Tryd.prog 11 #[.string ⟨#[195, 159]⟩] w fun e w' => e = .returned (.bool true) ∧ Below w.heap.size w w' :=
  (valid_calls ⟨#[195, 159]⟩ w (by decide) hT).mono fun e w' ⟨h, b⟩ => ⟨by rw [h]; rw [show validD (ByteArray.mk #[195, 159]).data.toList = true from ex_valid], b⟩
theorem aw4 (w : World) (hT : Tabs w) : Calls Tryd.prog 11 #[.string ⟨#[255]⟩] w fun e w' => e = .returned (.bool false) ∧ Below w.heap.size w w' :=
  (valid_calls ⟨#[255]⟩ w (by decide) hT).mono fun e w' ⟨h, b⟩ => ⟨by rw [h]; rw [show validD (ByteArray.mk #[255]).data.toList = false from ex_not], b⟩
set_option maxHeartbeats 1000000 in
theorem awake_calls (w : World) (hT : Tabs w) : Calls Tryd.prog 9 #[] w fun e w' => e = .returned (.bool true) ∧ Below w.heap.size w w' := by
  have HT := Lib.hid hT
  clear hT
  go_enter Tryd.func9, Tryd.ntmps9
  go_wp2_with fail
  refine (aw1 _).mono ?_
  rintro e w1 ⟨rfl, b1⟩
  go_wp2_with fail
  refine (aw2 _).mono ?_
  rintro e w2 ⟨rfl, b2⟩
  have B2 := Lib.hid (b1.trans (b2.mono b1.size))
  clear b1 b2
  go_wp2_with fail
  refine (aw3 _ (tabs_below HT.out B2.out)).mono ?_
  rintro e w3 ⟨rfl, b3⟩
  have B3 := Lib.hid (B2.out.trans (b3.mono B2.out.size))
  clear b3
  go_wp2_with fail
  refine (aw4 _ (tabs_below HT.out B3.out)).mono ?_
  rintro e w4 ⟨rfl, b4⟩
  have B4 := Lib.hid (B3.out.trans (b4.mono B3.out.size))
  clear b4
  go_wp2_with fail
  go_ret
  exact ⟨rfl, B4.out⟩
end Go.Proofs.YthodiccmanjpkaaDoor.Ru
