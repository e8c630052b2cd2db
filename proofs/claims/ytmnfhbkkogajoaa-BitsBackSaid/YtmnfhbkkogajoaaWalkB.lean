/- The laws BitsBack, BitsOnes, walked. -/
import Derived.Test.YtmnfhbkkogajoaaWalks
import Derived.Test.YtmnfhbkkogajoaaPlain2
namespace Go.Proofs.Ytmnfhbkkogajoaa.Wk
open Go Go.RowKit Go.Proofs.Ytmnfhbkkogajoaa.Pl Go.Proofs.Ytmnfhbkkogajoaa.Ct

theorem turn_back_calls (v x : BitVec 64) (n : Int) (h : turn v n = x) (w : World) :
    Calls Try.prog 13 #[.int .u64 (un v), .int .i64 n] w fun e w' => e = .returned (.int .u64 (un x)) ∧ w = w' :=
  (turn_calls _ v rfl n w).mono fun e w' ⟨he, hw⟩ => ⟨by rw [he, h], hw⟩
theorem join_back (v : BitVec 64) (w : World) :
    Calls Try.prog 14 #[.int .u32 (un v / 4294967296), .int .u32 (un v % 4294967296)] w fun e w' => e = .returned (.int .u64 (un v)) ∧ w = w' := by
  have u0 := un_nonneg v
  have u1 := un_le v
  exact (join_calls _ _ (by omega) (by omega) (by omega) (by omega) w).mono fun e w' ⟨he, hw⟩ => ⟨by rw [he]; exact ret_int (by omega), hw⟩
theorem bitsBack (a0 a1 a2 : Int) (w0 : (Lit.int .u64 a0).wf = true) (w1 : (Lit.int .i64 a1).wf = true) (w2 : (Lit.int .i64 a2).wf = true) (w : World) :
    Calls Try.prog 5 #[.int .u64 a0, .int .i64 a1, .int .i64 a2] w fun e w' => e = .returned (.bool true) ∧ Below w.heap.size w w' := by
  have b1 := bounds_i64 w1
  have b2 := bounds_i64 w2
  obtain ⟨v, rfl⟩ := un_of w0
  clear w0 w1 w2
  go_enter Try.func5, Try.ntmps5
  go_wp2_with (go_at_call 10; refine (place_calls _ 1000 (by decide) (by decide) (by omega) (by omega) _).mono ?_; rintro e w' ⟨rfl, rfl⟩)
  obtain ⟨x, hx⟩ : ∃ x, x = a1 % 1000 - 500 := ⟨_, rfl⟩
  obtain ⟨y, hy⟩ : ∃ y, y = a2 % 1000 - 500 := ⟨_, rfl⟩
  have x0 : -500 ≤ x ∧ x ≤ 499 := by omega
  have y0 : -500 ≤ y ∧ y ≤ 499 := by omega
  rw [← hx, ← hy]
  clear hx hy b1 b2
  refine (high_calls v _).mono ?_
  rintro e w' ⟨rfl, rfl⟩
  go_wp2_with fail
  refine (low_calls v _).mono ?_
  rintro e w' ⟨rfl, rfl⟩
  go_wp2_with fail
  refine (join_back v _).mono ?_
  rintro e w' ⟨rfl, rfl⟩
  go_wp2_with fail
  refine (turn_calls _ v rfl x _).mono ?_
  rintro e w' ⟨rfl, rfl⟩
  go_wp2_with fail
  refine (turn_back_calls (turn v x) v (-x) (turn_back v x) _).mono ?_
  rintro e w' ⟨rfl, rfl⟩
  go_wp2_with fail
  refine (turn_calls _ v rfl x _).mono ?_
  rintro e w' ⟨rfl, rfl⟩
  go_wp2_with fail
  refine (turn_back_calls (turn v x) _ y (turn_turn v x y) _).mono ?_
  rintro e w' ⟨rfl, rfl⟩
  go_wp2_with fail
  refine (turn_calls _ v rfl (x + y) _).mono ?_
  rintro e w' ⟨rfl, rfl⟩
  go_wp2_with fail
  refine (turn_back_calls v v 64 (turn_64 v) _).mono ?_
  rintro e w' ⟨rfl, rfl⟩
  go_wp2_with fail
  refine (awake_calls _).mono ?_
  rintro e w' ⟨rfl, rfl⟩
  go_wp2_with fail
  go_ret
  exact ⟨rfl, Below.refl _ _⟩

theorem bitsOnes (a0 a1 : Int) (w0 : (Lit.int .u64 a0).wf = true) (_w1 : (Lit.int .i64 a1).wf = true) (w : World) :
    Calls Try.prog 4 #[.int .u64 a0, .int .i64 a1] w fun e w' => e = .returned (.bool true) ∧ Below w.heap.size w w' := by
  obtain ⟨v, rfl⟩ := un_of w0
  clear w0 _w1
  have E : Hid _ := Lib.hid (ones_turn v a1)
  go_enter Try.func4, Try.ntmps4
  go_wp2_with fail
  refine (turn_calls _ v rfl a1 _).mono ?_
  rintro e w' ⟨rfl, rfl⟩
  generalize turn v a1 = x at E ⊢
  go_wp2_with fail
  go_loop [6, 7, 8] (fun a b i => ∃ j : Nat, j ≤ 64 ∧ i = .int .i64 j ∧ a = .int .i64 (ones v j) ∧ b = .int .i64 (ones x j)) (fun _ _ i => 64 - (intOf i).toNat)
  case atStart => exact ⟨0, by omega, rfl, by rw [ones_zero], by rw [ones_zero]⟩
  case round =>
    obtain ⟨j, hj, rfl, rfl, rfl⟩ := hrel
    by_cases hlt : j < 64
    · have e1 := bt_and v j
      have e2 := bt_and x j
      have l1 := ones_le v j
      have l2 := ones_le x j
      have m1 := bt_le v j
      have m2 := bt_le x j
      go_wp2
      go_round
      case rel => exact ⟨j + 1, by omega, by go_num, by rw [ones_succ], by rw [ones_succ]⟩
      case measure => simp [intOf]; omega
    · obtain rfl : j = 64 := by omega
      have e := E.out
      go_wp2_with (go_at_call 12; refine (awake_calls _).mono ?_; rintro e w' ⟨rfl, rfl⟩)
      go_ret
      exact ⟨rfl, Below.refl _ _⟩
end Go.Proofs.Ytmnfhbkkogajoaa.Wk
