/- What each function of package bits, and of the document's answer to it, computes: a contract each. -/
import Derived.Test.YtmnfhbkkogajoaaProg
import Derived.WalkKit
import Derived.WalkLawsBesides
import Derived.Handy
import Derived.Lib.Hide
import Derived.Test.YtmnfhbkkogajoaaPlain
namespace Go.Proofs.Ytmnfhbkkogajoaa.Ct
open Go Go.RowKit Go.Proofs.Ytmnfhbkkogajoaa.Pl

theorem ret_int {k : IntKind} {a b : Int} (h : a = b) : Ending.returned (.int k a) = .returned (.int k b) := by rw [h]

/-! ### Places -/
theorem place_calls (v n : Int) (hn : 1 ≤ n) (hn1 : n ≤ 9223372036854775807) (h0 : -9223372036854775808 ≤ v) (h1 : v ≤ 9223372036854775807) (w : World) :
    Calls Try.prog 10 #[.int .i64 v, .int .i64 n] w fun e w' => e = .returned (.int .i64 (v % n)) ∧ w = w' := by
  have b0 := Int.emod_nonneg v (show n ≠ 0 by omega)
  have b1 := Int.emod_lt_of_pos v (show 0 < n by omega)
  have hz : (n == 0) = false := by simp; omega
  by_cases hv : 0 ≤ v
  · go_enter Try.func10, Try.ntmps10
    go_wp2
    go_ret
    exact ⟨rfl, rfl⟩
  · have t0 : v.tmod n = v % n ∨ v.tmod n + n = v % n := by
      rw [Int.tmod_eq_emod]
      split
      · left; omega
      · right; have : (n.natAbs : Int) = n := by omega
        omega
    have t1 : v.tmod n ≤ 0 := by
      have := Int.tmod_nonneg n (show 0 ≤ -v by omega)
      rw [Int.neg_tmod] at this; omega
    have t2 : -n < v.tmod n := by
      have := Int.tmod_lt_of_pos (-v) (show 0 < n by omega)
      rw [Int.neg_tmod] at this; omega
    by_cases hr : v.tmod n < 0
    · have H : Hid (v.tmod n + n = v % n) := Lib.hid (by omega)
      clear t0 b0 b1
      go_enter Try.func10, Try.ntmps10
      go_wp2
      go_ret
      exact ⟨ret_int H.out, rfl⟩
    · have H : Hid (v.tmod n = v % n) := Lib.hid (by omega)
      clear t0 b0 b1
      go_enter Try.func10, Try.ntmps10
      go_wp2
      go_ret
      exact ⟨ret_int H.out, rfl⟩

/-! ### Turned about -/
theorem and63 (n : Int) : ∃ k : Nat, k < 64 ∧ (n % 64).toNat = k ∧ bits .and .u64 (IntKind.u64.wrap n) 63 = (k : Int) := by
  refine ⟨(n % 64).toNat, by omega, rfl, ?_⟩
  rw [wrap_un, un_63, b_and]
  unfold un bv
  rw [BitVec.toNat_and, BitVec.toNat_ofInt, show (63#64).toNat = 2 ^ 6 - 1 from rfl, Nat.and_two_pow_sub_one_eq_mod]
  omega

theorem turn_calls (a : Int) (x : BitVec 64) (ha : a = un x) (n : Int) (w : World) :
    Calls Try.prog 13 #[.int .u64 a, .int .i64 n] w fun e w' => e = .returned (.int .u64 (un (turn x n))) ∧ w = w' := by
  subst ha
  obtain ⟨k, hk, hn, e⟩ := and63 n
  have H : Hid _ := Lib.hid (show turn x n = x <<< k ||| x >>> (64 - k) by unfold turn; rw [hn, turn_text x k hk])
  clear hn
  have hl := shl
  have hr := shr
  have ho := b_or
  go_enter Try.func13, Try.ntmps13
  go_wp2
  go_ret
  exact ⟨ret_int (by rw [H.out]), rfl⟩

/-! ### Halves -/
theorem high_calls (x : BitVec 64) (w : World) :
    Calls Try.prog 15 #[.int .u64 (un x)] w fun e w' => e = .returned (.int .u32 (un x / 4294967296)) ∧ w = w' := by
  have u0 := un_nonneg x
  have u1 := un_le x
  go_enter Try.func15, Try.ntmps15
  go_wp2
  go_ret
  exact ⟨rfl, rfl⟩
theorem low_calls (x : BitVec 64) (w : World) :
    Calls Try.prog 16 #[.int .u64 (un x)] w fun e w' => e = .returned (.int .u32 (un x % 4294967296)) ∧ w = w' := by
  go_enter Try.func16, Try.ntmps16
  go_wp2
  go_ret
  exact ⟨ret_int (IntKind.wrap_u32' _), rfl⟩
theorem join_or (h l : Int) (h0 : 0 ≤ h) (h1 : h ≤ 4294967295) (l0 : 0 ≤ l) (l1 : l ≤ 4294967295) :
    bits .or .u64 (h * 4294967296) l = h * 4294967296 + l := by
  obtain ⟨a, rfl⟩ := Int.eq_ofNat_of_zero_le h0
  obtain ⟨b, rfl⟩ := Int.eq_ofNat_of_zero_le l0
  rw [show (a : Int) * 4294967296 = ((a * 4294967296 : Nat) : Int) from by omega]
  rw [u64_or_nat _ _ (by omega) (by omega)]
  have := Nat.shiftLeft_add_eq_or_of_lt (b := b) (i := 32) (by omega) a
  rw [Nat.shiftLeft_eq] at this
  have e : a * 4294967296 ||| b = a * 4294967296 + b := this.symm
  rw [e]; omega
theorem join_calls (h l : Int) (h0 : 0 ≤ h) (h1 : h ≤ 4294967295) (l0 : 0 ≤ l) (l1 : l ≤ 4294967295) (w : World) :
    Calls Try.prog 14 #[.int .u32 h, .int .u32 l] w fun e w' => e = .returned (.int .u64 (h * 4294967296 + l)) ∧ w = w' := by
  have H : Hid _ := Lib.hid (join_or h l h0 h1 l0 l1)
  go_enter Try.func14, Try.ntmps14
  go_wp2
  go_ret
  exact ⟨ret_int H.out, rfl⟩
/-! ### Mixed -/
theorem mul_g (x : BitVec 64) : IntKind.u64.wrap (un x * 11400714819323198485) = un (x * gold) := by
  rw [IntKind.wrap_u64]; unfold un
  rw [BitVec.toNat_mul, Int.natCast_emod, Int.natCast_mul]; rfl
theorem shr29 (x : BitVec 64) : un x / (536870912 : Int) = un (x >>> 29) := shr x 29
theorem mix_calls (x y : BitVec 64) (a b : Int) (ha : a = un x) (hb : b = un y) (w : World) :
    Calls Try.prog 17 #[.int .u64 a, .int .u64 b] w fun e w' => e = .returned (.int .u64 (un (mix x y))) ∧ w = w' := by
  subst ha; subst hb
  have hx := b_xor
  have hg := mul_g
  have hs := shr29
  have H : Hid _ := Lib.hid (mix_is x y)
  go_enter Try.func17, Try.ntmps17
  go_wp2_with (go_at_call 13; refine (turn_calls _ _ rfl 31 _).mono ?_; rintro e w' ⟨rfl, rfl⟩)
  go_ret
  exact ⟨ret_int (by rw [H.out]), rfl⟩

/-! ### Signed -/
theorem wrap_sg64 (x : BitVec 64) : wrap64 (un x) = sg x := by rw [← IntWalk.i64_left]; exact wrap_sg x
theorem signed_end (x : BitVec 64) (k : Nat) : wrap64 (IntKind.u64.wrap (un x * 2 ^ k)) / 2 ^ k = sg ((x <<< k).sshiftRight k) := by
  rw [shl, wrap_sg64, sshr]
theorem signed_63 (x : BitVec 64) : wrap64 (IntKind.u64.wrap (un x * 9223372036854775808)) / 9223372036854775808 = sg ((x <<< 63).sshiftRight 63) := signed_end x 63
theorem signed_calls (a : Int) (x : BitVec 64) (ha : a = un x) (n : Int) (w : World) :
    Calls Try.prog 11 #[.int .u64 a, .int .i64 n] w fun e w' => e = .returned (.int .i64 (sg (signed x n))) ∧ w = w' := by
  subst ha
  have u0 := un_nonneg x
  have u1 := un_le x
  by_cases h1 : n ≤ 1
  · have hk : off n = 63 := by unfold off; omega
    unfold signed
    rw [hk]
    clear hk
    go_enter Try.func11, Try.ntmps11
    go_wp2
    go_ret
    exact ⟨ret_int (signed_63 x), rfl⟩
  · by_cases h2 : 64 < n
    · have hk : off n = 0 := by unfold off; omega
      unfold signed
      rw [hk]
      clear hk
      go_enter Try.func11, Try.ntmps11
      go_wp2
      go_ret
      exact ⟨ret_int (wrap_sg64 x), rfl⟩
    · obtain ⟨m, rfl⟩ := Int.eq_ofNat_of_zero_le (show 0 ≤ n by omega)
      have hk : off m = (64 - (m : Int)).toNat := by unfold off; omega
      unfold signed
      rw [hk]
      clear hk
      go_enter Try.func11, Try.ntmps11
      go_wp2
      go_ret
      exact ⟨ret_int (signed_end x _), rfl⟩

/-! ### The document's answer -/
theorem bit_calls (x : BitVec 64) (i : Nat) (hi : i < 64) (w : World) :
    Calls Try.prog 24 #[.int .u64 (un x), .int .i64 i] w fun e w' => e = .returned (.int .u64 (un (x >>> i &&& 1#64))) ∧ w = w' := by
  have hr := shr
  have H : Hid _ := Lib.hid (b_and (x >>> i) 1#64)
  go_enter Try.func24, Try.ntmps24
  go_wp2
  go_ret
  exact ⟨ret_int (by rw [un_1]; exact H.out), rfl⟩
theorem rturn_loop (n : Int) (h0 : -9223372036854775808 ≤ n) (h1 : n ≤ 9223372036854775807) :
    ∃ k : Nat, k < 64 ∧ (n % 64).toNat = k ∧ ((0 ≤ n ∧ n % 64 = (k : Int)) ∨ (n < 0 ∧ n.tmod 64 < 0 ∧ n.tmod 64 + 64 = (k : Int) ∧ -64 < n.tmod 64) ∨ (n < 0 ∧ ¬ n.tmod 64 < 0 ∧ n.tmod 64 = (k : Int))) := by
  refine ⟨(n % 64).toNat, by omega, rfl, ?_⟩
  by_cases h : 0 ≤ n
  · left; exact ⟨h, by omega⟩
  · right
    have t : n.tmod 64 = -((-n) % 64) := by
      rw [← Int.tmod_eq_emod_of_nonneg (show 0 ≤ -n by omega), Int.neg_tmod, Int.neg_neg]
    by_cases hr : n.tmod 64 < 0
    · left; exact ⟨by omega, hr, by omega, by omega⟩
    · right; exact ⟨by omega, hr, by omega⟩
theorem rturn_calls (x : BitVec 64) (n : Int) (h0 : -9223372036854775808 ≤ n) (h1 : n ≤ 9223372036854775807) (w : World) :
    Calls Try.prog 20 #[.int .u64 (un x), .int .i64 n] w fun e w' => e = .returned (.int .u64 (un (turn x n))) ∧ w = w' := by
  obtain ⟨k, hk, hn, hc⟩ := rturn_loop n h0 h1
  have H : Hid _ := Lib.hid hn
  clear hn
  rcases hc with ⟨c0, c1⟩ | ⟨c0, c1, c2, c3⟩ | ⟨c0, c1, c2⟩
  · have C : Hid _ := Lib.hid c1
    clear c1
    go_enter Try.func20, Try.ntmps20
    go_wp2
    rw [C.out]
    go_loop [6, 7] (fun v i => ∃ j : Nat, j ≤ 64 ∧ i = .int .i64 j ∧ v = .int .u64 (un (rt x k j))) (fun _ i => 64 - (intOf i).toNat)
    case atStart => exact ⟨0, by omega, rfl, by rw [rt_zero, ← un_0]⟩
    case round =>
      obtain ⟨j, hj, rfl, rfl⟩ := hrel
      by_cases hlt : j < 64
      · have S : Hid _ := Lib.hid (rt_succ x k j)
        go_wp2_with (go_at_call 24; refine (bit_calls _ _ hlt _).mono ?_; rintro e w' ⟨rfl, rfl⟩)
        go_round
        case rel => exact ⟨j + 1, by omega, by go_num, by rw [S.out, shl, b_or]⟩
        case measure => simp [intOf]; omega
      · obtain rfl : j = 64 := by omega
        have S : Hid _ := Lib.hid (rt_end x k hk)
        go_wp2
        go_ret
        exact ⟨ret_int (by rw [S.out, turn_is, H.out]), rfl⟩
  · have C : Hid _ := Lib.hid c2
    clear c2
    go_enter Try.func20, Try.ntmps20
    go_wp2
    rw [C.out]
    go_loop [6, 7] (fun v i => ∃ j : Nat, j ≤ 64 ∧ i = .int .i64 j ∧ v = .int .u64 (un (rt x k j))) (fun _ i => 64 - (intOf i).toNat)
    case atStart => exact ⟨0, by omega, rfl, by rw [rt_zero, ← un_0]⟩
    case round =>
      obtain ⟨j, hj, rfl, rfl⟩ := hrel
      by_cases hlt : j < 64
      · have S : Hid _ := Lib.hid (rt_succ x k j)
        go_wp2_with (go_at_call 24; refine (bit_calls _ _ hlt _).mono ?_; rintro e w' ⟨rfl, rfl⟩)
        go_round
        case rel => exact ⟨j + 1, by omega, by go_num, by rw [S.out, shl, b_or]⟩
        case measure => simp [intOf]; omega
      · obtain rfl : j = 64 := by omega
        have S : Hid _ := Lib.hid (rt_end x k hk)
        go_wp2
        go_ret
        exact ⟨ret_int (by rw [S.out, turn_is, H.out]), rfl⟩
  · have C : Hid _ := Lib.hid c2
    clear c2
    go_enter Try.func20, Try.ntmps20
    go_wp2
    rw [C.out]
    go_loop [6, 7] (fun v i => ∃ j : Nat, j ≤ 64 ∧ i = .int .i64 j ∧ v = .int .u64 (un (rt x k j))) (fun _ i => 64 - (intOf i).toNat)
    case atStart => exact ⟨0, by omega, rfl, by rw [rt_zero, ← un_0]⟩
    case round =>
      obtain ⟨j, hj, rfl, rfl⟩ := hrel
      by_cases hlt : j < 64
      · have S : Hid _ := Lib.hid (rt_succ x k j)
        go_wp2_with (go_at_call 24; refine (bit_calls _ _ hlt _).mono ?_; rintro e w' ⟨rfl, rfl⟩)
        go_round
        case rel => exact ⟨j + 1, by omega, by go_num, by rw [S.out, shl, b_or]⟩
        case measure => simp [intOf]; omega
      · obtain rfl : j = 64 := by omega
        have S : Hid _ := Lib.hid (rt_end x k hk)
        go_wp2
        go_ret
        exact ⟨ret_int (by rw [S.out, turn_is, H.out]), rfl⟩
theorem bytes_calls (x : BitVec 64) (w : World) :
    Calls Try.prog 18 #[.int .u64 (un x)] w fun e w' => e = .returned (.agg (cells8 x).toArray) ∧ Below w.heap.size w w' := by
  go_enter Try.func18, Try.ntmps18
  go_wp2
  go_rounds 9
  refine bodyPost_ret (v := .agg (cells8 x).toArray) ?_ rfl ⟨rfl, ((Below.refl _ _).alloc (Nat.le_refl _) _).alloc (by simp) _⟩
  rw [cells8_list]
  simp [results, Try.results18, go_sem]

theorem rmix_calls (x y : BitVec 64) (w : World) :
    Calls Try.prog 21 #[.int .u64 (un x), .int .u64 (un y)] w fun e w' => e = .returned (.int .u64 (un (mix x y))) ∧ w = w' := by
  have hx := b_xor
  have hg := mul_g
  have hs := shr29
  have H : Hid _ := Lib.hid (mix_is x y)
  go_enter Try.func21, Try.ntmps21
  go_wp2_with (go_at_call 20; refine (rturn_calls _ 31 (by decide) (by decide) _).mono ?_; rintro e w' ⟨rfl, rfl⟩)
  go_ret
  exact ⟨ret_int (by rw [H.out]), rfl⟩
theorem of_calls (b0 b1 b2 b3 b4 b5 b6 b7 : Int) (h0 : 0 ≤ b0 ∧ b0 ≤ 255) (h1 : 0 ≤ b1 ∧ b1 ≤ 255) (h2 : 0 ≤ b2 ∧ b2 ≤ 255) (h3 : 0 ≤ b3 ∧ b3 ≤ 255) (h4 : 0 ≤ b4 ∧ b4 ≤ 255) (h5 : 0 ≤ b5 ∧ b5 ≤ 255)
    (h6 : 0 ≤ b6 ∧ b6 ≤ 255) (h7 : 0 ≤ b7 ∧ b7 ≤ 255) (w : World) :
    Calls Try.prog 19 #[.agg #[.int .u8 b0, .int .u8 b1, .int .u8 b2, .int .u8 b3, .int .u8 b4, .int .u8 b5, .int .u8 b6, .int .u8 b7]] w fun e w' => e = .returned (.int .u64 (ofS b0 b1 b2 b3 b4 b5 b6 b7)) ∧ Below w.heap.size w w' := by
  have H : Hid _ := Lib.hid (ofS_or b0 b1 b2 b3 b4 b5 b6 b7 h0 h1 h2 h3 h4 h5 h6 h7)
  go_enter Try.func19, Try.ntmps19
  go_wp2
  go_rounds 9
  go_ret
  exact ⟨ret_int H.out, (Below.refl _ _).alloc (Nat.le_refl _) _⟩

end Go.Proofs.Ytmnfhbkkogajoaa.Ct
