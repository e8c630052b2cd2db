/- Longest, by the program and by the document; the laws' own example. -/
import Derived.Test.YtfjlpekoklmedaaFind
namespace Go.Proofs.Ytfjlpekoklmedaa.Ct
open Go Go.RowKit Go.Proofs.Ytfjlpekoklmedaa.Ss

/-- The longest name that stands at a place, of at most n bytes. -/
def lon (s : ByteArray) (at_ : Nat) : Nat → Nat × ByteArray
  | 0 => (0, ByteArray.empty)
  | n + 1 => match rfind (s.extract at_ (at_ + (n + 1))) with
    | some v => (n + 1, v)
    | none => lon s at_ n
def longest (s : ByteArray) (a : Int) : Nat × ByteArray := if a < 0 ∨ (s.size : Int) < a then (0, ByteArray.empty) else lon s a.toNat (min 8 (s.size - a.toNat))
theorem longest_out {s : ByteArray} {a : Int} (h : a < 0 ∨ (s.size : Int) < a) : longest s a = (0, ByteArray.empty) := if_pos h
theorem longest_in (s : ByteArray) (k : Nat) (h : k ≤ s.size) : longest s k = lon s k (min 8 (s.size - k)) := by
  unfold longest; rw [if_neg (by omega)]; rfl
theorem lon_hit {s : ByteArray} {k n : Nat} {v : ByteArray} (h : rfind (s.extract k (k + (n + 1))) = some v) : lon s k (n + 1) = (n + 1, v) := by rw [lon, h]
theorem lon_miss {s : ByteArray} {k n : Nat} (h : rfind (s.extract k (k + (n + 1))) = none) : lon s k (n + 1) = lon s k n := by rw [lon, h]
theorem lon_zero (s : ByteArray) (k : Nat) : lon s k 0 = (0, ByteArray.empty) := rfl
attribute [irreducible] lon longest
theorem longest_calls (s : ByteArray) (hs : s.size ≤ maxLen) (a : Int) (h0 : -9223372036854775808 ≤ a) (h1 : a ≤ 9223372036854775807) (w : World) :
    Calls Try.prog 16 #[.string s, .int .i64 a] w fun e w' => e = .returned (.tuple #[.int .i64 (longest s a).1, .string (longest s a).2]) ∧ Below w.heap.size w w' := by
  have hs' := hs
  unfold maxLen at hs'
  by_cases c0 : a < 0
  · have H : Hid _ := Lib.hid (longest_out (s := s) (a := a) (.inl c0))
    go_enter Try.func16, Try.ntmps16
    go_wp2
    go_ret2
    exact ⟨by rw [H.out]; rfl, Below.refl _ _⟩
  · by_cases c1 : (s.size : Int) < a
    · have H : Hid _ := Lib.hid (longest_out (s := s) (a := a) (.inr c1))
      go_enter Try.func16, Try.ntmps16
      go_wp2
      go_ret2
      exact ⟨by rw [H.out]; rfl, Below.refl _ _⟩
    · obtain ⟨k, rfl⟩ := Int.eq_ofNat_of_zero_le (show 0 ≤ a by omega)
      have hk : k ≤ s.size := by omega
      have H : Hid _ := Lib.hid (longest_in s k hk)
      obtain ⟨m, hm⟩ : ∃ m, min 8 (s.size - k) = m := ⟨_, rfl⟩
      have M : Hid _ := Lib.hid hm
      have hm1 : m ≤ 8 := by omega
      have hm2 : k + m ≤ s.size := by omega
      clear c0 c1 h0 h1 hm
      go_enter Try.func16, Try.ntmps16
      go_wp2_with fail
      refine (names_calls _).mono ?_
      rintro e w1 ⟨rfl, hown, hbel⟩
      go_wp2_with fail
      go_loop [7] (fun n => ∃ j : Nat, j ≤ m ∧ n = .int .i64 j ∧ Hid (lon s k m = lon s k j)) (fun n => (intOf n).toNat)
      case atStart => exact ⟨m, Nat.le_refl _, by rw [show min 8 ((s.size : Int) - (k : Int)) = (m : Int) by have := M.out; omega], Lib.hid rfl⟩
      case round =>
        obtain ⟨j, hj, rfl, hrec⟩ := hrel
        by_cases hz : 0 < j
        · obtain ⟨i, rfl⟩ : ∃ i, j = i + 1 := ⟨j - 1, by omega⟩
          have hx : (s.extract k (k + (i + 1))).size ≤ maxLen := Nat.le_trans (by rw [ByteArray.size_extract]; omega) hs
          have hget := get hown (s.extract k (k + (i + 1))) hx
          rw [finds] at hget
          cases hr : rfind (s.extract k (k + (i + 1))) with
          | some v =>
            rw [hr] at hget
            have R : Hid _ := Lib.hid (lon_hit hr)
            clear hr
            go_wp2
            go_ret2
            exact ⟨by rw [H.out, M.out, hrec.out, R.out]; rfl, hbel⟩
          | none =>
            rw [hr] at hget
            have R : Hid _ := Lib.hid (lon_miss hr)
            clear hr
            go_wp2
            go_round
            case rel => exact ⟨i, by omega, by go_num, Lib.hid (by rw [hrec.out, R.out])⟩
            case measure => simp [intOf]
        · obtain rfl : j = 0 := by omega
          have Z : Hid _ := Lib.hid (lon_zero s k)
          go_wp2
          go_ret2
          exact ⟨by rw [H.out, M.out, hrec.out, Z.out]; rfl, hbel⟩
theorem rlongest_calls (s : ByteArray) (hs : s.size ≤ maxLen) (a : Int) (h0 : -9223372036854775808 ≤ a) (h1 : a ≤ 9223372036854775807) (w : World) :
    Calls Try.prog 17 #[.string s, .int .i64 a] w fun e w' => e = .returned (.tuple #[.int .i64 (longest s a).1, .string (longest s a).2]) ∧ Below w.heap.size w w' := by
  have hs' := hs
  unfold maxLen at hs'
  by_cases c0 : a < 0
  · have H : Hid _ := Lib.hid (longest_out (s := s) (a := a) (.inl c0))
    go_enter Try.func17, Try.ntmps17
    go_wp2
    go_ret2
    exact ⟨by rw [H.out]; rfl, Below.refl _ _⟩
  · by_cases c1 : (s.size : Int) < a
    · have H : Hid _ := Lib.hid (longest_out (s := s) (a := a) (.inr c1))
      go_enter Try.func17, Try.ntmps17
      go_wp2
      go_ret2
      exact ⟨by rw [H.out]; rfl, Below.refl _ _⟩
    · obtain ⟨k, rfl⟩ := Int.eq_ofNat_of_zero_le (show 0 ≤ a by omega)
      have hk : k ≤ s.size := by omega
      have H : Hid _ := Lib.hid (longest_in s k hk)
      obtain ⟨m, hm⟩ : ∃ m, min 8 (s.size - k) = m := ⟨_, rfl⟩
      have M : Hid _ := Lib.hid hm
      have hm1 : m ≤ 8 := by omega
      have hm2 : k + m ≤ s.size := by omega
      clear c0 c1 h0 h1 hm
      go_enter Try.func17, Try.ntmps17
      go_wp2_with fail
      go_loopw [6] (fun n wr => ∃ j : Nat, j ≤ m ∧ n = .int .i64 j ∧ Hid (lon s k m = lon s k j) ∧ Below w.heap.size w wr) (fun n _ => (intOf n).toNat)
      case atStart => exact ⟨m, Nat.le_refl _, by first | rw [show min ((s.size : Int) - (k : Int)) 8 = (m : Int) by have := M.out; omega] | rw [show min 8 ((s.size : Int) - (k : Int)) = (m : Int) by have := M.out; omega], Lib.hid rfl, Below.refl _ _⟩
      case round =>
        obtain ⟨j, hj, rfl, hrec, hbel⟩ := hrel
        by_cases hz : 0 < j
        · obtain ⟨i, rfl⟩ : ∃ i, j = i + 1 := ⟨j - 1, by omega⟩
          have hx : (s.extract k (k + (i + 1))).size ≤ maxLen := Nat.le_trans (by rw [ByteArray.size_extract]; omega) hs
          cases hr : rfind (s.extract k (k + (i + 1))) with
          | some v =>
            have R : Hid _ := Lib.hid (lon_hit hr)
            have Q : Hid _ := Lib.hid hr
            clear hr
            go_wp2_with fail
            refine (rfind_calls _ _).mono ?_
            rintro e w2 ⟨rfl, hb2⟩
            rw [Q.out]
            have hbel2 := hbel.trans (hb2.mono hbel.size)
            go_wp2
            go_ret2
            exact ⟨by rw [H.out, M.out, hrec.out, R.out]; rfl, hbel2⟩
          | none =>
            have R : Hid _ := Lib.hid (lon_miss hr)
            have Q : Hid _ := Lib.hid hr
            clear hr
            go_wp2_with fail
            refine (rfind_calls _ _).mono ?_
            rintro e w2 ⟨rfl, hb2⟩
            rw [Q.out]
            have hbel2 := hbel.trans (hb2.mono hbel.size)
            go_wp2
            go_roundw
            case rel => (repeat apply Exists.intro); refine ⟨⟨i, by omega, by go_num, Lib.hid (by rw [hrec.out, R.out]), hbel2⟩, ?_⟩; rw [decide_eq_false (Nat.not_lt.mpr hk), Bool.or_false]
            case measure => simp [intOf]
        · obtain rfl : j = 0 := by omega
          have Z : Hid _ := Lib.hid (lon_zero s k)
          go_wp2
          go_ret2
          exact ⟨by rw [H.out, M.out, hrec.out, Z.out]; rfl, hbel⟩
end Go.Proofs.Ytfjlpekoklmedaa.Ct
