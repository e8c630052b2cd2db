/- What the document's answer for package bits computes where it makes memory or a sign. -/
import Derived.Test.YtmnfhbkkogajoaaCalls
import Derived.WalkSpells
namespace Go.Proofs.Ytmnfhbkkogajoaa.Ct
open Go Go.RowKit Go.Proofs.Ytmnfhbkkogajoaa.Pl

theorem infoB : (Try.prog.info? 5).map (fun i => (i.zero, i.size, i.bytes)) = some (some (.int .u8 0), 1, 1) := by kernel_rfl
theorem own_block {w : World} {B e size : Nat} {v : Value} {n : Nat} {xs : List Value} (h : w.ownsRow B e size v n xs) {k : Nat} (hk : v.ownBlock = some k) : B ≤ k := by
  rcases h.2 with ⟨rfl, _⟩ | ⟨g, cap, cur, rfl, hg, _⟩
  · simp [Value.ownBlock] at hk
  · simp [Value.ownBlock] at hk; omega
/-- Eight: a new row of the eight bytes. -/
theorem reight_calls (x : BitVec 64) (w : World) :
    Calls Try.prog 23 #[.int .u64 (un x)] w fun e w' => ∃ g cap, e = .returned (.slice (some ⟨g, 0, none⟩) 8 cap) ∧
      w'.ownsRow w.heap.size 5 1 (.slice (some ⟨g, 0, none⟩) 8 cap) 8 (cells8 x) ∧ Below w.heap.size w w' := by
  obtain ⟨i0, hi, hz0, hz1, hz2⟩ := info_parts infoB
  go_enter Try.func23, Try.ntmps23
  go_wp2
  go_loopw [3, 4] (fun v i wr => ∃ j : Nat, j ≤ 8 ∧ i = .int .i64 j ∧ wr.ownsRow w.heap.size 5 1 v j ((cells8 x).take j) ∧ Below w.heap.size w wr) (fun _ i _ => 8 - (intOf i).toNat)
  case atStart => exact ⟨0, by omega, rfl, World.ownsRow_nil _ _ _ _, Below.refl _ _⟩
  case round =>
    obtain ⟨j, hj, rfl, hown, hbel⟩ := hrel
    have hbs := hbel.size
    by_cases hlt : j < 8
    · have S : Hid _ := Lib.hid (cells8_at x j hlt)
      go_wp2_with (at_builtin; refine wpList_append_own _ rfl _ _ 40 rfl w.heap.size 5 i0 (.int .u8 0) 1 1 Try.underlying40 hi hz0 hz1 hz2 rfl (by decide) _ _ _ rfl (hown.alloc _) ⟨wr.heap.size, 0, none⟩ 1 1 [.int .u8 (un x / 2 ^ (8 * j) % 256)] rfl rfl ?c1 ?c2 ?c3 ?c4 ?c5 ?_)
      case c1 => exact cell_one_new _ _ _
      case c2 => exact ints_oneCell .u8 [_]
      case c3 => unfold maxLen; omega
      case c4 => omega
      case c5 => simp; omega
      intro v' w1 hown' hgrow _
      rw [← S.out] at hown'
      have hb' : Below w.heap.size w w1 := (hbel.alloc hbs _).grown hgrow (by simp; omega) (fun k hk => own_block hown hk)
      clear hown hbel hgrow
      go_wp2
      go_roundw
      case rel => exact ⟨j + 1, by omega, by go_num, hown', hb'⟩
      case measure => simp [intOf]; omega
    · obtain rfl : j = 8 := by omega
      obtain ⟨g, cap, hv⟩ : ∃ g cap, u3 = .slice (some ⟨g, 0, none⟩) 8 cap := by
        rcases hown.2 with ⟨_, h⟩ | ⟨g, cap, _, h, _⟩
        · omega
        · exact ⟨g, cap, h⟩
      rw [hv] at hown ⊢
      rw [List.take_of_length_le (by rw [cells8_len]; omega)] at hown
      go_wp2
      go_ret
      exact ⟨g, cap, rfl, hown, hbel⟩

theorem bit_any (x : BitVec 64) (a : Int) (i : Nat) (hi : i < 64) (ha : a = (i : Int)) (w : World) :
    Calls Try.prog 24 #[.int .u64 (un x), .int .i64 a] w fun e w' => e = .returned (.int .u64 (un (x >>> i &&& 1#64))) ∧ w = w' := by
  subst ha; exact bit_calls x i hi w
theorem rsigned_lo (x : BitVec 64) (n : Int) (hn : n < 1) (w : World) :
    Calls Try.prog 22 #[.int .u64 (un x), .int .i64 n] w fun e w' => e = .returned (.int .i64 (sg (signed x n))) ∧ w = w' := by
  have H : Hid _ := Lib.hid (rs_signed x n 1 (by unfold off; omega) (by omega) (by omega))
  go_enter Try.func22, Try.ntmps22
  go_wp2
  go_loop [6, 7] (fun v i => ∃ j : Nat, j ≤ 64 ∧ i = .int .i64 j ∧ v = .int .u64 (un (rs x 1 j))) (fun _ i => 64 - (intOf i).toNat)
  case atStart => exact ⟨0, by omega, rfl, by rw [rs_zero, ← un_0]⟩
  case round =>
    obtain ⟨j, hj, rfl, rfl⟩ := hrel
    by_cases hlt : j < 64
    · by_cases hm : j < 1 - 1
      · omega
      · have S : Hid _ := Lib.hid (rs_succ x 1 j (1 - 1) (by omega))
        go_wp2_with (go_at_call 24; refine (bit_any x _ (1 - 1) (by omega) (by omega) _).mono ?_; rintro e w' ⟨rfl, rfl⟩)
        all_goals
          go_round
          case rel => exact ⟨j + 1, by omega, by go_num, by rw [S.out, shl, b_or]; simp⟩
          case measure => simp [intOf]; omega
    · obtain rfl : j = 64 := by omega
      go_wp2
      go_ret
      exact ⟨ret_int (by rw [H.out]; exact wrap_sg64 _), rfl⟩
theorem rsigned_one (x : BitVec 64)  (w : World) :
    Calls Try.prog 22 #[.int .u64 (un x), .int .i64 1] w fun e w' => e = .returned (.int .i64 (sg (signed x 1))) ∧ w = w' := by
  have H : Hid _ := Lib.hid (rs_signed x 1 1 (by unfold off; omega) (by omega) (by omega))
  go_enter Try.func22, Try.ntmps22
  go_wp2
  go_loop [6, 7] (fun v i => ∃ j : Nat, j ≤ 64 ∧ i = .int .i64 j ∧ v = .int .u64 (un (rs x 1 j))) (fun _ i => 64 - (intOf i).toNat)
  case atStart => exact ⟨0, by omega, rfl, by rw [rs_zero, ← un_0]⟩
  case round =>
    obtain ⟨j, hj, rfl, rfl⟩ := hrel
    by_cases hlt : j < 64
    · by_cases hm : j < 1 - 1
      · omega
      · have S : Hid _ := Lib.hid (rs_succ x 1 j (1 - 1) (by omega))
        go_wp2_with (go_at_call 24; refine (bit_any x _ (1 - 1) (by omega) (by omega) _).mono ?_; rintro e w' ⟨rfl, rfl⟩)
        all_goals
          go_round
          case rel => exact ⟨j + 1, by omega, by go_num, by rw [S.out, shl, b_or]; simp⟩
          case measure => simp [intOf]; omega
    · obtain rfl : j = 64 := by omega
      go_wp2
      go_ret
      exact ⟨ret_int (by rw [H.out]; exact wrap_sg64 _), rfl⟩
theorem rsigned_mid (x : BitVec 64) (k : Nat) (h0 : 1 < k) (h1 : k < 64) (w : World) :
    Calls Try.prog 22 #[.int .u64 (un x), .int .i64 k] w fun e w' => e = .returned (.int .i64 (sg (signed x k))) ∧ w = w' := by
  have H : Hid _ := Lib.hid (rs_signed x k k (by unfold off; omega) (by omega) (by omega))
  go_enter Try.func22, Try.ntmps22
  go_wp2
  go_loop [6, 7] (fun v i => ∃ j : Nat, j ≤ 64 ∧ i = .int .i64 j ∧ v = .int .u64 (un (rs x k j))) (fun _ i => 64 - (intOf i).toNat)
  case atStart => exact ⟨0, by omega, rfl, by rw [rs_zero, ← un_0]⟩
  case round =>
    obtain ⟨j, hj, rfl, rfl⟩ := hrel
    by_cases hlt : j < 64
    · by_cases hm : j < k - 1
      · have S : Hid _ := Lib.hid (rs_succ x k j j (by omega))
        go_wp2_with (go_at_call 24; refine (bit_calls _ _ hlt _).mono ?_; rintro e w' ⟨rfl, rfl⟩)
        go_round
        case rel => exact ⟨j + 1, by omega, by go_num, by rw [S.out, shl, b_or]⟩
        case measure => simp [intOf]; omega
      · have S : Hid _ := Lib.hid (rs_succ x k j (k - 1) (by omega))
        go_wp2_with (go_at_call 24; refine (bit_any x _ (k - 1) (by omega) (by omega) _).mono ?_; rintro e w' ⟨rfl, rfl⟩)
        all_goals
          go_round
          case rel => exact ⟨j + 1, by omega, by go_num, by rw [S.out, shl, b_or]⟩
          case measure => simp [intOf]; omega
    · obtain rfl : j = 64 := by omega
      go_wp2
      go_ret
      exact ⟨ret_int (by rw [H.out]; exact wrap_sg64 _), rfl⟩
theorem rsigned_top (x : BitVec 64)  (w : World) :
    Calls Try.prog 22 #[.int .u64 (un x), .int .i64 64] w fun e w' => e = .returned (.int .i64 (sg (signed x 64))) ∧ w = w' := by
  have H : Hid _ := Lib.hid (rs_signed x 64 64 (by unfold off; omega) (by omega) (by omega))
  go_enter Try.func22, Try.ntmps22
  go_wp2
  go_loop [6, 7] (fun v i => ∃ j : Nat, j ≤ 64 ∧ i = .int .i64 j ∧ v = .int .u64 (un (rs x 64 j))) (fun _ i => 64 - (intOf i).toNat)
  case atStart => exact ⟨0, by omega, rfl, by rw [rs_zero, ← un_0]⟩
  case round =>
    obtain ⟨j, hj, rfl, rfl⟩ := hrel
    by_cases hlt : j < 64
    · by_cases hm : j < 64 - 1
      · have S : Hid _ := Lib.hid (rs_succ x 64 j j (by omega))
        go_wp2_with (go_at_call 24; refine (bit_calls _ _ hlt _).mono ?_; rintro e w' ⟨rfl, rfl⟩)
        go_round
        case rel => exact ⟨j + 1, by omega, by go_num, by rw [S.out, shl, b_or]⟩
        case measure => simp [intOf]; omega
      · have S : Hid _ := Lib.hid (rs_succ x 64 j (64 - 1) (by omega))
        go_wp2_with (go_at_call 24; refine (bit_any x _ (64 - 1) (by omega) (by omega) _).mono ?_; rintro e w' ⟨rfl, rfl⟩)
        all_goals
          go_round
          case rel => exact ⟨j + 1, by omega, by go_num, by rw [S.out, shl, b_or]⟩
          case measure => simp [intOf]; omega
    · obtain rfl : j = 64 := by omega
      go_wp2
      go_ret
      exact ⟨ret_int (by rw [H.out]; exact wrap_sg64 _), rfl⟩
theorem rsigned_hi (x : BitVec 64) (n : Int) (hn : 64 < n) (w : World) :
    Calls Try.prog 22 #[.int .u64 (un x), .int .i64 n] w fun e w' => e = .returned (.int .i64 (sg (signed x n))) ∧ w = w' := by
  have H : Hid _ := Lib.hid (rs_signed x n 64 (by unfold off; omega) (by omega) (by omega))
  go_enter Try.func22, Try.ntmps22
  go_wp2
  go_loop [6, 7] (fun v i => ∃ j : Nat, j ≤ 64 ∧ i = .int .i64 j ∧ v = .int .u64 (un (rs x 64 j))) (fun _ i => 64 - (intOf i).toNat)
  case atStart => exact ⟨0, by omega, rfl, by rw [rs_zero, ← un_0]⟩
  case round =>
    obtain ⟨j, hj, rfl, rfl⟩ := hrel
    by_cases hlt : j < 64
    · by_cases hm : j < 64 - 1
      · have S : Hid _ := Lib.hid (rs_succ x 64 j j (by omega))
        go_wp2_with (go_at_call 24; refine (bit_calls _ _ hlt _).mono ?_; rintro e w' ⟨rfl, rfl⟩)
        go_round
        case rel => exact ⟨j + 1, by omega, by go_num, by rw [S.out, shl, b_or]⟩
        case measure => simp [intOf]; omega
      · have S : Hid _ := Lib.hid (rs_succ x 64 j (64 - 1) (by omega))
        go_wp2_with (go_at_call 24; refine (bit_any x _ (64 - 1) (by omega) (by omega) _).mono ?_; rintro e w' ⟨rfl, rfl⟩)
        all_goals
          go_round
          case rel => exact ⟨j + 1, by omega, by go_num, by rw [S.out, shl, b_or]⟩
          case measure => simp [intOf]; omega
    · obtain rfl : j = 64 := by omega
      go_wp2
      go_ret
      exact ⟨ret_int (by rw [H.out]; exact wrap_sg64 _), rfl⟩
theorem rsigned_calls (x : BitVec 64) (n : Int) (w : World) :
    Calls Try.prog 22 #[.int .u64 (un x), .int .i64 n] w fun e w' => e = .returned (.int .i64 (sg (signed x n))) ∧ w = w' := by
  rcases (show n < 1 ∨ n = 1 ∨ (1 < n ∧ n < 64) ∨ n = 64 ∨ 64 < n by omega) with h | rfl | ⟨h0, h1⟩ | rfl | h
  · exact rsigned_lo x n h w
  · exact rsigned_one x w
  · obtain ⟨k, rfl⟩ := Int.eq_ofNat_of_zero_le (show 0 ≤ n by omega)
    exact rsigned_mid x k (by omega) (by omega) w
  · exact rsigned_top x w
  · exact rsigned_hi x n h w
end Go.Proofs.Ytmnfhbkkogajoaa.Ct
