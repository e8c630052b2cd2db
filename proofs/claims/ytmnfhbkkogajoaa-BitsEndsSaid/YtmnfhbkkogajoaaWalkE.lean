/- The law BitsEnds, walked. -/
import Derived.Test.YtmnfhbkkogajoaaWalkS
namespace Go.Proofs.Ytmnfhbkkogajoaa.Wk
open Go Go.RowKit Go.Proofs.Ytmnfhbkkogajoaa.Pl Go.Proofs.Ytmnfhbkkogajoaa.Ct

theorem pow_ends (r : Nat) (h : r < 64) : ∃ p : Int, (2 : Int) ^ r = p ∧ 1 ≤ p ∧ p ≤ 9223372036854775808 := by
  have h0 := pow_two_pos r
  have h1 : (2 : Int) ^ r ≤ 2 ^ 63 := by
    have := Nat.pow_le_pow_right (show 0 < 2 by decide) (show r ≤ 63 by omega)
    have e : ((2 ^ r : Nat) : Int) = (2 : Int) ^ r := by simp
    have e2 : ((2 ^ 63 : Nat) : Int) = (2 : Int) ^ 63 := by simp
    omega
  rw [show (2 : Int) ^ 63 = 9223372036854775808 from rfl] at h1
  exact ⟨2 ^ r, rfl, by omega, h1⟩
theorem signed_z (a x : Int) (ha : a = IntKind.u64.wrap x) (n : Int) (k : Nat) (hn : n = (k : Int)) (h0 : 1 ≤ k) (h1 : k ≤ 64) (l : -(2 ^ (k - 1)) ≤ x) (u : x < 2 ^ (k - 1)) (w : World) :
    Calls Try.prog 11 #[.int .u64 a, .int .i64 n] w fun e w' => e = .returned (.int .i64 x) ∧ w = w' := by
  subst ha; exact signed_x x n k hn h0 h1 l u w
theorem un_m1 : (18446744073709551615 : Int) = IntKind.u64.wrap (-1) := by rw [IntKind.wrap_u64]; rfl
theorem one_rot : ∀ k : Fin 64, (1#64).rotateLeft k.val = 1#64 <<< k.val := by decide
theorem turn_one (n : Int) (k : Nat) (hk : (n % 64).toNat = k) (w : World) :
    Calls Try.prog 13 #[.int .u64 1, .int .i64 n] w fun e w' => e = .returned (.int .u64 (IntKind.u64.wrap (2 ^ k))) ∧ w = w' := by
  have hlt : k < 64 := by omega
  refine (turn_calls 1 1#64 un_1 n w).mono fun e w' ⟨h, hw⟩ => ⟨?_, hw⟩
  rw [h, turn_is, hk, show (1#64).rotateLeft k = 1#64 <<< k from one_rot ⟨k, hlt⟩, ← shl, ← un_1, Int.one_mul]
theorem un_lit : (3 : Int) = un 3#64 ∧ (9223372036854775808 : Int) = un 9223372036854775808#64 ∧ (5 : Int) = un 5#64 ∧ (4294967296 : Int) = un 4294967296#64 := by
  refine ⟨?_, ?_, ?_, ?_⟩ <;> unfold un <;> rfl
theorem sg_low : sg 0x8000000000000000#64 = -9223372036854775808 := by unfold sg; rfl
theorem signed_30 (w : World) : Calls Try.prog 11 #[.int .u64 3, .int .i64 0] w fun e w' => e = .returned (.int .i64 (-1)) ∧ w = w' :=
  (signed_calls 3 3#64 un_lit.1 0 w).mono fun e w' ⟨h, hw⟩ => ⟨by rw [h, show signed 3#64 0 = 0xffffffffffffffff#64 from by rw [signed_is]; decide]; exact ret_int sg_m1, hw⟩
theorem signed_99 (w : World) : Calls Try.prog 11 #[.int .u64 9223372036854775808, .int .i64 99] w fun e w' => e = .returned (.int .i64 (-9223372036854775808)) ∧ w = w' :=
  (signed_calls _ 9223372036854775808#64 un_lit.2.1 99 w).mono fun e w' ⟨h, hw⟩ => ⟨by rw [h, show signed 9223372036854775808#64 99 = 0x8000000000000000#64 from by rw [signed_is]; decide]; exact ret_int sg_low, hw⟩
theorem turn_50 (w : World) : Calls Try.prog 13 #[.int .u64 5, .int .i64 0] w fun e w' => e = .returned (.int .u64 5) ∧ w = w' :=
  (turn_calls 5 5#64 un_lit.2.2.1 0 w).mono fun e w' ⟨h, hw⟩ => ⟨by rw [h, turn_zero]; exact ret_int un_lit.2.2.1.symm, hw⟩
theorem low_32 (w : World) : Calls Try.prog 16 #[.int .u64 4294967296] w fun e w' => e = .returned (.int .u32 0) ∧ w = w' := by
  have h := low_calls 4294967296#64 w
  rw [← un_lit.2.2.2] at h; exact h
theorem high_32 (w : World) : Calls Try.prog 15 #[.int .u64 4294967296] w fun e w' => e = .returned (.int .u32 1) ∧ w = w' := by
  have h := high_calls 4294967296#64 w
  rw [← un_lit.2.2.2] at h; exact h
theorem bitsEnds (w : World) :
    Calls Try.prog 6 #[] w fun e w' => e = .returned (.bool true) ∧ Below w.heap.size w w' := by
  go_enter Try.func6, Try.ntmps6
  go_wp2
  go_loop [1] (fun n => ∃ r : Nat, r ≤ 64 ∧ n = .int .i64 (1 + (r : Int))) (fun n => 65 - (intOf n).toNat)
  case atStart => exact ⟨0, by omega, rfl⟩
  case round =>
    obtain ⟨r, hr, rfl⟩ := hrel
    by_cases hlt : r < 64
    · obtain ⟨p, hp, p0, p1⟩ := pow_ends r hlt
      go_wp2_with fail
      refine (signed_p p _ (1 + r) (by omega) (by omega) (by omega) (by rw [show 1 + r - 1 = r from by omega, hp]) (by omega) (by omega) _).mono ?_
      rintro e w' ⟨rfl, rfl⟩
      go_wp2_with fail
      refine (signed_z (p - 1) (p - 1) (IntWalk.u64_in _ ⟨by omega, by omega⟩).symm _ (1 + r) (by omega) (by omega) (by omega) (by rw [show 1 + r - 1 = r from by omega, hp]; omega) (by rw [show 1 + r - 1 = r from by omega, hp]; omega) _).mono ?_
      rintro e w' ⟨rfl, rfl⟩
      go_wp2_with fail
      refine (signed_z _ (-1) un_m1 _ (1 + r) (by omega) (by omega) (by omega) (by rw [show 1 + r - 1 = r from by omega, hp]; omega) (by rw [show 1 + r - 1 = r from by omega, hp]; omega) _).mono ?_
      rintro e w' ⟨rfl, rfl⟩
      go_wp2_with fail
      refine (turn_one _ ((1 + r) % 64) (by omega) _).mono ?_
      rintro e w' ⟨rfl, rfl⟩
      go_wp2_with fail
      go_round
      case rel => exact ⟨r + 1, by omega, by go_num⟩
      case measure => simp [intOf]; omega
    · obtain rfl : r = 64 := by omega
      go_wp2_with fail
      refine (signed_30 _).mono ?_
      rintro e w' ⟨rfl, rfl⟩
      go_wp2_with fail
      refine (signed_99 _).mono ?_
      rintro e w' ⟨rfl, rfl⟩
      go_wp2_with fail
      refine (turn_50 _).mono ?_
      rintro e w' ⟨rfl, rfl⟩
      go_wp2_with fail
      refine (low_32 _).mono ?_
      rintro e w' ⟨rfl, rfl⟩
      go_wp2_with fail
      refine (high_32 _).mono ?_
      rintro e w' ⟨rfl, rfl⟩
      go_wp2_with fail
      refine (awake_calls _).mono ?_
      rintro e w' ⟨rfl, rfl⟩
      go_wp2_with fail
      go_ret
      exact ⟨rfl, Below.refl _ _⟩
end Go.Proofs.Ytmnfhbkkogajoaa.Wk
