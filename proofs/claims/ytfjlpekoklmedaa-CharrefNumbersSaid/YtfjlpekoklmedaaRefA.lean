/- A reference that stands at a place: the plain words; letters; what goes on. -/
import Derived.Test.YtfjlpekoklmedaaRnum
namespace Go.Proofs.Ytfjlpekoklmedaa.Ch
open Go Go.RowKit Go.Proofs.Ytfjlpekoklmedaa.Sr Go.Proofs.Ytfjlpekoklmedaa.Ct
set_option linter.unusedVariables false

def letB (c : Nat) : Bool := decide ((97 ≤ c ∧ c ≤ 122) ∨ (65 ≤ c ∧ c ≤ 90))
def goOn (c : Nat) : Bool := letB c || decide (48 ≤ c ∧ c ≤ 57) || decide (c = 61)
theorem let_up {c : Nat} (h : 97 ≤ c) (h2 : c ≤ 122) : letB c = true := decide_eq_true (.inl ⟨h, h2⟩)
theorem let_lo {c : Nat} (h : 65 ≤ c) (h2 : c ≤ 90) : letB c = true := decide_eq_true (.inr ⟨h, h2⟩)
theorem let_no {c : Nat} (h : ¬ (97 ≤ c ∧ c ≤ 122)) (h2 : ¬ (65 ≤ c ∧ c ≤ 90)) : letB c = false := decide_eq_false (by omega)
theorem dig_iff (c : Nat) : (0 ≤ digI c false) ↔ (48 ≤ c ∧ c ≤ 57) := by
  constructor
  · intro h
    rcases dig_cases c false with h1 | ⟨h1, _⟩ | ⟨h1, _⟩ | ⟨h1, _⟩ | ⟨_, h1, _⟩
    · exact h1
    · cases h1
    · cases h1
    · rw [dig_no false h1 (.inl rfl)] at h; omega
    · cases h1
  · rintro ⟨h1, h2⟩; rw [dig_1 false h1 h2]; omega
theorem go_let {c : Nat} (h : letB c = true) : goOn c = true := by unfold goOn; rw [h]; rfl
theorem go_dig {c : Nat} (h : 0 ≤ digI c false) : goOn c = true := by unfold goOn; rw [decide_eq_true ((dig_iff c).1 h)]; simp
theorem go_eq {c : Nat} (h : letB c = false) (h2 : digI c false < 0) : goOn c = decide (c = 61) := by
  unfold goOn
  rw [h, decide_eq_false (fun h3 => by have := (dig_iff c).2 h3; omega)]; rfl
attribute [irreducible] letB goOn
theorem letter_calls (c : Nat) (w : World) : Calls Try.prog 43 #[.int .u8 c] w fun e w' => e = .returned (.bool (letB c)) ∧ w = w' := by
  by_cases h : 97 ≤ c ∧ c ≤ 122
  · obtain ⟨h1, h2⟩ := h
    have H := Lib.hid (let_up h1 h2)
    go_enter Try.func43, Try.ntmps43
    go_wp2_with fail
    go_ret
    refine ⟨ret_bool ?_, rfl⟩
    first | exact H.out.symm | (rw [H.out]; simp; omega)
  · by_cases h' : 65 ≤ c ∧ c ≤ 90
    · obtain ⟨h1, h2⟩ := h'
      have H := Lib.hid (let_lo h1 h2)
      clear h
      go_enter Try.func43, Try.ntmps43
      go_wp2_with fail
      go_ret
      refine ⟨ret_bool ?_, rfl⟩
      first | exact H.out.symm | (rw [H.out]; simp; omega)
    · have H := Lib.hid (let_no h h')
      go_enter Try.func43, Try.ntmps43
      go_wp2_with fail
      all_goals (go_ret; refine ⟨ret_bool ?_, rfl⟩; first | exact H.out.symm | (rw [H.out]; simp; omega))
theorem rletter_calls (c : Nat) (w : World) : Calls Try.prog 34 #[.int .u8 c] w fun e w' => e = .returned (.bool (letB c)) ∧ w = w' := by
  by_cases h : 97 ≤ c ∧ c ≤ 122
  · obtain ⟨h1, h2⟩ := h
    have H := Lib.hid (let_up h1 h2)
    go_enter Try.func34, Try.ntmps34
    go_wp2_with fail
    go_ret
    refine ⟨ret_bool ?_, rfl⟩
    first | exact H.out.symm | (rw [H.out]; simp; omega)
  · by_cases h' : 65 ≤ c ∧ c ≤ 90
    · obtain ⟨h1, h2⟩ := h'
      have H := Lib.hid (let_lo h1 h2)
      clear h
      go_enter Try.func34, Try.ntmps34
      go_wp2_with fail
      go_ret
      refine ⟨ret_bool ?_, rfl⟩
      first | exact H.out.symm | (rw [H.out]; simp; omega)
    · have H := Lib.hid (let_no h h')
      go_enter Try.func34, Try.ntmps34
      go_wp2_with fail
      all_goals (go_ret; refine ⟨ret_bool ?_, rfl⟩; first | exact H.out.symm | (rw [H.out]; simp; omega))
theorem goesOn_calls (c : Nat) (hc : c < 256) (w : World) : Calls Try.prog 32 #[.int .u8 c] w fun e w' => e = .returned (.bool (goOn c)) ∧ w = w' := by
  have L := Lib.hid (letter_calls c w)
  have D := Lib.hid (digit_calls c hc false w)
  obtain ⟨hd0, hd1⟩ := dig_bd c false
  cases hl : letB c with
  | true =>
    have H := Lib.hid (go_let hl)
    rw [hl] at L
    go_enter Try.func32, Try.ntmps32
    go_wp2_with fail
    refine L.out.mono ?_
    rintro e w1 ⟨rfl, rfl⟩
    go_wp2_with fail
    go_ret
    exact ⟨ret_bool H.out.symm, rfl⟩
  | false =>
    rw [hl] at L
    by_cases hd : 0 ≤ digI c false
    · have H := Lib.hid (go_dig hd)
      go_enter Try.func32, Try.ntmps32
      go_wp2_with fail
      refine L.out.mono ?_
      rintro e w1 ⟨rfl, rfl⟩
      go_wp2_with fail
      refine D.out.mono ?_
      rintro e w1 ⟨rfl, rfl⟩
      go_wp2_with fail
      go_ret
      exact ⟨ret_bool H.out.symm, rfl⟩
    · have H := Lib.hid (go_eq hl (by omega))
      have hd2 : digI c false < 0 := by omega
      clear hl
      go_enter Try.func32, Try.ntmps32
      go_wp2_with fail
      refine L.out.mono ?_
      rintro e w1 ⟨rfl, rfl⟩
      go_wp2_with fail
      refine D.out.mono ?_
      rintro e w1 ⟨rfl, rfl⟩
      go_wp2_with fail
      go_ret
      refine ⟨ret_bool ?_, rfl⟩
      rw [H.out, decide_eq_false (show ¬ 0 ≤ digI c false by omega), Bool.false_or, Bool.eq_iff_iff, beq_iff_eq, decide_eq_true_eq]; omega
/-! ### A reference -/
def refV (s : ByteArray) (k : Nat) (attr : Bool) : ByteArray × Nat :=
  if s.data.toList[k + 1]? = some 35 then numV s k
  else if (longest s (k + 1)).1 = 0 then (⟨#[38]⟩, 1)
  else if attr = true ∧ s.data.toList[k + (longest s (k + 1)).1]? ≠ some 59 ∧ (∃ b, s.data.toList[k + 1 + (longest s (k + 1)).1]? = some b ∧ goOn b.toNat = true) then (⟨#[38]⟩, 1)
  else ((longest s (k + 1)).2, (longest s (k + 1)).1 + 1)
def refI (s : ByteArray) (a : Int) (attr : Bool) : ByteArray × Nat := if 0 ≤ a ∧ a < s.size ∧ s.data.toList[a.toNat]? = some 38 then refV s a.toNat attr else (⟨#[]⟩, 0)
theorem byte_lit {s : ByteArray} {k : Nat} (h : k < s.size) {n : Nat} (hn : n < 256) : s.data.toList[k]? = some (UInt8.ofNat n) ↔ s[k].toNat = n := by
  rw [byte_at h, Option.some.injEq, byte_is hn]
theorem refI_out {s : ByteArray} {a : Int} {attr : Bool} (h : a < 0 ∨ (s.size : Int) ≤ a) : refI s a attr = (⟨#[]⟩, 0) := if_neg (by omega)
theorem refI_no {s : ByteArray} {k : Nat} {attr : Bool} (hk : k < s.size) (h : ¬ s[k].toNat = 38) : refI s k attr = (⟨#[]⟩, 0) := if_neg (by
  rintro ⟨_, _, h3⟩
  exact h ((byte_lit hk (n := 38) (by decide)).1 h3))
theorem refI_yes {s : ByteArray} {k : Nat} {attr : Bool} (hk : k < s.size) (h : s[k].toNat = 38) : refI s k attr = refV s k attr := if_pos ⟨by omega, by omega, (byte_lit hk (n := 38) (by decide)).2 h⟩
theorem refV_num {s : ByteArray} {k : Nat} {attr : Bool} (hk : k + 1 < s.size) (h : s[k + 1].toNat = 35) : refV s k attr = numV s k := if_pos ((byte_lit hk (n := 35) (by decide)).2 h)
def noNum (s : ByteArray) (k : Nat) : Prop := s.data.toList[k + 1]? ≠ some 35
theorem noNum_end {s : ByteArray} {k : Nat} (h : s.size ≤ k + 1) : noNum s k := by
  unfold noNum; rw [List.getElem?_eq_none (show s.data.toList.length ≤ k + 1 from h)]; simp
theorem noNum_in {s : ByteArray} {k : Nat} (hk : k + 1 < s.size) (h : ¬ s[k + 1].toNat = 35) : noNum s k := fun e => h ((byte_lit hk (n := 35) (by decide)).1 e)
section
variable {s : ByteArray} {k n : Nat} {attr : Bool} {t : ByteArray}
theorem refV_zero (h : noNum s k) (hl : longest s (k + 1) = (0, t)) : refV s k attr = (⟨#[38]⟩, 1) := by unfold refV; rw [if_neg h, hl, if_pos rfl]
theorem refV_hit (h : noNum s k) (hn : 0 < n) (hl : longest s (k + 1) = (n, t)) (hx : ¬ (attr = true ∧ s.data.toList[k + n]? ≠ some 59 ∧ (∃ b, s.data.toList[k + 1 + n]? = some b ∧ goOn b.toNat = true))) : refV s k attr = (t, n + 1) := by
  unfold refV; rw [if_neg h, hl, if_neg (by show ¬ n = 0; omega), if_neg hx]
theorem refV_amp (h : noNum s k) (hn : 0 < n) (hl : longest s (k + 1) = (n, t)) (hx : attr = true ∧ s.data.toList[k + n]? ≠ some 59 ∧ (∃ b, s.data.toList[k + 1 + n]? = some b ∧ goOn b.toNat = true)) : refV s k attr = (⟨#[38]⟩, 1) := by
  unfold refV; rw [if_neg h, hl, if_neg (by show ¬ n = 0; omega), if_pos hx]
end
theorem lon_le (s : ByteArray) (k : Nat) : ∀ n, (lon s k n).1 ≤ n
  | 0 => by rw [lon_zero]; exact Nat.le_refl _
  | n + 1 => by
    cases h : rfind (s.extract k (k + (n + 1))) with
    | some v => rw [lon_hit h]; exact Nat.le_refl _
    | none => rw [lon_miss h]; exact Nat.le_succ_of_le (lon_le s k n)
theorem longest_le (s : ByteArray) (k : Nat) (h : k ≤ s.size) : (longest s k).1 ≤ s.size - k := by
  rw [longest_in s k h]
  exact Nat.le_trans (lon_le _ _ _) (Nat.min_le_right _ _)
attribute [irreducible] refV refI noNum
end Go.Proofs.Ytfjlpekoklmedaa.Ch
