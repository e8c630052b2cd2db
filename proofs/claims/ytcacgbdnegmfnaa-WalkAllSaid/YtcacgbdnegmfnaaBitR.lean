/- What the document's own Mix computes: taken over from wip/bits/XCalls. -/
import Derived.Test.YtcacgbdnegmfnaaBitH
namespace Go.Proofs.Ytcacgbdnegmfnaa.Ct
open Go Go.RowKit Go.Proofs.Ytcacgbdnegmfnaa.Pl

theorem bit_calls (x : BitVec 64) (i : Nat) (hi : i < 64) (w : World) :
    Calls Try.prog 68 #[.int .u64 (un x), .int .i64 i] w fun e w' => e = .returned (.int .u64 (un (x >>> i &&& 1#64))) ∧ w = w' := by
  have hr := shr
  have H : Hid _ := Lib.hid (b_and (x >>> i) 1#64)
  go_enter Try.func68, Try.ntmps68
  go_wp2
  go_ret
  exact ⟨ret_int (by rw [un_1]; exact H.out), rfl⟩
theorem rturn_loop (n : Int) (h0 : -9223372036854775808 ≤ n) (h1 : n ≤ 9223372036854775807) :
    ∃ k : Nat, k < 64 ∧ (n % 64).toNat = k ∧ ((0 ≤ n ∧ n % 64 = (k : Int)) ∨ (n < 0 ∧ n.tmod 64 < 0 ∧ n.tmod 64 + 64 = (k : Int) ∧ -64 < n.tmod 64) ∨ (n < 0 ∧ ¬ n.tmod 64 < 0 ∧ n.tmod 64 = (k : Int))) := by
  refine ⟨(n % 64).toNat, by omega, rfl, ?_⟩
  by_cases h : 0 ≤ n
  · left; exact ⟨h, by omega⟩
  · right
    have t : n.tmod 64 = -((-n) % 64) := by
      rw [← Int.tmod_eq_emod_of_nonneg (show 0 ≤ -n by omega), Int.neg_tmod, Int.neg_neg]
    by_cases hr : n.tmod 64 < 0
    · left; exact ⟨by omega, hr, by omega, by omega⟩
    · right; exact ⟨by omega, hr, by omega⟩
theorem rturn_calls (x : BitVec 64) (n : Int) (h0 : -9223372036854775808 ≤ n) (h1 : n ≤ 9223372036854775807) (w : World) :
    Calls Try.prog 65 #[.int .u64 (un x), .int .i64 n] w fun e w' => e = .returned (.int .u64 (un (turn x n))) ∧ w = w' := by
  obtain ⟨k, hk, hn, hc⟩ := rturn_loop n h0 h1
  have H : Hid _ := Lib.hid hn
  clear hn
  rcases hc with ⟨c0, c1⟩ | ⟨c0, c1, c2, c3⟩ | ⟨c0, c1, c2⟩
  · have C : Hid _ := Lib.hid c1
    clear c1
    go_enter Try.func65, Try.ntmps65
    go_wp2
    rw [C.out]
    go_loop [6, 7] (fun v i => ∃ j : Nat, j ≤ 64 ∧ i = .int .i64 j ∧ v = .int .u64 (un (rt x k j))) (fun _ i => 64 - (intOf i).toNat)
    case atStart => exact ⟨0, by omega, rfl, by rw [rt_zero, ← un_0]⟩
    case round =>
      obtain ⟨j, hj, rfl, rfl⟩ := hrel
      by_cases hlt : j < 64
      · have S : Hid _ := Lib.hid (rt_succ x k j)
        go_wp2_with (go_at_call 68; refine (bit_calls _ _ hlt _).mono ?_; rintro e w' ⟨rfl, rfl⟩)
        go_round
        case rel => exact ⟨j + 1, by omega, by go_num, by rw [S.out, shl, b_or]⟩
        case measure => simp [intOf]; omega
      · obtain rfl : j = 64 := by omega
        have S : Hid _ := Lib.hid (rt_end x k hk)
        go_wp2
        go_ret
        exact ⟨ret_int (by rw [S.out, turn_is, H.out]), rfl⟩
  · have C : Hid _ := Lib.hid c2
    clear c2
    go_enter Try.func65, Try.ntmps65
    go_wp2
    rw [C.out]
    go_loop [6, 7] (fun v i => ∃ j : Nat, j ≤ 64 ∧ i = .int .i64 j ∧ v = .int .u64 (un (rt x k j))) (fun _ i => 64 - (intOf i).toNat)
    case atStart => exact ⟨0, by omega, rfl, by rw [rt_zero, ← un_0]⟩
    case round =>
      obtain ⟨j, hj, rfl, rfl⟩ := hrel
      by_cases hlt : j < 64
      · have S : Hid _ := Lib.hid (rt_succ x k j)
        go_wp2_with (go_at_call 68; refine (bit_calls _ _ hlt _).mono ?_; rintro e w' ⟨rfl, rfl⟩)
        go_round
        case rel => exact ⟨j + 1, by omega, by go_num, by rw [S.out, shl, b_or]⟩
        case measure => simp [intOf]; omega
      · obtain rfl : j = 64 := by omega
        have S : Hid _ := Lib.hid (rt_end x k hk)
        go_wp2
        go_ret
        exact ⟨ret_int (by rw [S.out, turn_is, H.out]), rfl⟩
  · have C : Hid _ := Lib.hid c2
    clear c2
    go_enter Try.func65, Try.ntmps65
    go_wp2
    rw [C.out]
    go_loop [6, 7] (fun v i => ∃ j : Nat, j ≤ 64 ∧ i = .int .i64 j ∧ v = .int .u64 (un (rt x k j))) (fun _ i => 64 - (intOf i).toNat)
    case atStart => exact ⟨0, by omega, rfl, by rw [rt_zero, ← un_0]⟩
    case round =>
      obtain ⟨j, hj, rfl, rfl⟩ := hrel
      by_cases hlt : j < 64
      · have S : Hid _ := Lib.hid (rt_succ x k j)
        go_wp2_with (go_at_call 68; refine (bit_calls _ _ hlt _).mono ?_; rintro e w' ⟨rfl, rfl⟩)
        go_round
        case rel => exact ⟨j + 1, by omega, by go_num, by rw [S.out, shl, b_or]⟩
        case measure => simp [intOf]; omega
      · obtain rfl : j = 64 := by omega
        have S : Hid _ := Lib.hid (rt_end x k hk)
        go_wp2
        go_ret
        exact ⟨ret_int (by rw [S.out, turn_is, H.out]), rfl⟩
theorem rmix_calls (x y : BitVec 64) (w : World) :
    Calls Try.prog 56 #[.int .u64 (un x), .int .u64 (un y)] w fun e w' => e = .returned (.int .u64 (un (mix x y))) ∧ w = w' := by
  have hx := b_xor
  have hg := mul_g
  have hs := shr29
  have H : Hid _ := Lib.hid (mix_is x y)
  go_enter Try.func56, Try.ntmps56
  go_wp2_with (go_at_call 65; refine (rturn_calls _ 31 (by decide) (by decide) _).mono ?_; rintro e w' ⟨rfl, rfl⟩)
  go_ret
  exact ⟨ret_int (by rw [H.out]), rfl⟩
end Go.Proofs.Ytcacgbdnegmfnaa.Ct
