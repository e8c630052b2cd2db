/- The law BitsSigns, walked. -/
import Derived.Test.YtmnfhbkkogajoaaWalks
namespace Go.Proofs.Ytmnfhbkkogajoaa.Wk
open Go Go.RowKit Go.Proofs.Ytmnfhbkkogajoaa.Pl Go.Proofs.Ytmnfhbkkogajoaa.Ct
theorem signed_x (x : Int) (n : Int) (k : Nat) (hn : n = (k : Int)) (h0 : 1 ≤ k) (h1 : k ≤ 64) (l : -(2 ^ (k - 1)) ≤ x) (u : x < 2 ^ (k - 1)) (w : World) :
    Calls Try.prog 11 #[.int .u64 (IntKind.u64.wrap x), .int .i64 n] w fun e w' => e = .returned (.int .i64 x) ∧ w = w' := by
  subst hn
  exact (signed_calls _ (bv x) (wrap_un x) k w).mono fun e w' ⟨h, hw⟩ => ⟨by rw [h, signed_small x k h0 h1 l u], hw⟩
theorem signed_p (p : Int) (n : Int) (k : Nat) (hn : n = (k : Int)) (h0 : 1 ≤ k) (h1 : k ≤ 64) (hp : 2 ^ (k - 1) = p) (l : 0 ≤ p) (u : p ≤ 18446744073709551615) (w : World) :
    Calls Try.prog 11 #[.int .u64 p, .int .i64 n] w fun e w' => e = .returned (.int .i64 (-p)) ∧ w = w' := by
  subst hn
  exact (signed_calls _ (bv p) (un_bv l u).symm k w).mono fun e w' ⟨h, hw⟩ => ⟨by rw [h, ← hp, signed_most k h0 h1], hw⟩
theorem bitsSigns (a0 a1 : Int) (w0 : (Lit.int .i64 a0).wf = true) (w1 : (Lit.int .i64 a1).wf = true) (w : World) :
    Calls Try.prog 3 #[.int .i64 a0, .int .i64 a1] w fun e w' => e = .returned (.bool true) ∧ Below w.heap.size w w' := by
  have b0 := bounds_i64 w0
  have b1 := bounds_i64 w1
  clear w0 w1
  obtain ⟨r, hr⟩ := Int.eq_ofNat_of_zero_le (show 0 ≤ a1 % 62 by omega)
  have hr1 : r < 62 := by omega
  obtain ⟨p, hp, hp1, hp2, p0, p1⟩ := pow_at r hr1
  have HP : Hid _ := Lib.hid hp
  clear hp
  go_enter Try.func3, Try.ntmps3
  go_wp2_with fail
  refine (place_calls _ 62 (by decide) (by decide) (by omega) (by omega) _).mono ?_
  rintro e w' ⟨rfl, rfl⟩
  rw [hr]
  clear hr
  go_wp2_with fail
  refine (place_calls _ (2 * p) (by omega) (by omega) (by omega) (by omega) _).mono ?_
  rintro e w' ⟨rfl, rfl⟩
  have q0 := Int.emod_nonneg a0 (show 2 * p ≠ 0 by omega)
  have q1 := Int.emod_lt_of_pos a0 (show 0 < 2 * p by omega)
  generalize a0 % (2 * p) = q at q0 q1 ⊢
  go_wp2_with fail
  refine (signed_x (q - p) _ (1 + r) (by omega) (by omega) (by omega) (by rw [show 1 + r - 1 = r from by omega, HP.out]; omega) (by rw [show 1 + r - 1 = r from by omega, HP.out]; omega) _).mono ?_
  rintro e w' ⟨rfl, rfl⟩
  go_wp2_with fail
  refine (signed_p p _ (1 + r) (by omega) (by omega) (by omega) (by rw [show 1 + r - 1 = r from by omega, HP.out]) (by omega) (by omega) _).mono ?_
  rintro e w' ⟨rfl, rfl⟩
  go_wp2_with fail
  refine (signed_x (q - p) _ 64 (by omega) (by omega) (by omega) (by rw [show (2 : Int) ^ (64 - 1) = 9223372036854775808 from rfl]; omega) (by rw [show (2 : Int) ^ (64 - 1) = 9223372036854775808 from rfl]; omega) _).mono ?_
  rintro e w' ⟨rfl, rfl⟩
  go_wp2_with (go_at_call 12; refine (awake_calls _).mono ?_; rintro e w' ⟨rfl, rfl⟩)
  go_ret
  exact ⟨rfl, Below.refl _ _⟩
end Go.Proofs.Ytmnfhbkkogajoaa.Wk
