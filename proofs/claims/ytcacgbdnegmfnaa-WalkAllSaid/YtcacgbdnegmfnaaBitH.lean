/- What those functions of package bits that hash calls compute: a contract each (taken over from wip/bits/XCalls). -/
import Derived.Test.YtcacgbdnegmfnaaProg
import Derived.WalkKit
import Derived.WalkLawsBesides
import Derived.Handy
import Derived.Lib.Hide
import Derived.Test.YtcacgbdnegmfnaaPlain
namespace Go.Proofs.Ytcacgbdnegmfnaa.Ct
open Go Go.RowKit Go.Proofs.Ytcacgbdnegmfnaa.Pl

theorem ret_int {k : IntKind} {a b : Int} (h : a = b) : Ending.returned (.int k a) = .returned (.int k b) := by rw [h]

/-! ### Places -/
theorem and63 (n : Int) : ∃ k : Nat, k < 64 ∧ (n % 64).toNat = k ∧ bits .and .u64 (IntKind.u64.wrap n) 63 = (k : Int) := by
  refine ⟨(n % 64).toNat, by omega, rfl, ?_⟩
  rw [wrap_un, un_63, b_and]
  unfold un bv
  rw [BitVec.toNat_and, BitVec.toNat_ofInt, show (63#64).toNat = 2 ^ 6 - 1 from rfl, Nat.and_two_pow_sub_one_eq_mod]
  omega

theorem turn_calls (a : Int) (x : BitVec 64) (ha : a = un x) (n : Int) (w : World) :
    Calls Try.prog 64 #[.int .u64 a, .int .i64 n] w fun e w' => e = .returned (.int .u64 (un (turn x n))) ∧ w = w' := by
  subst ha
  obtain ⟨k, hk, hn, e⟩ := and63 n
  have H : Hid _ := Lib.hid (show turn x n = x <<< k ||| x >>> (64 - k) by unfold turn; rw [hn, turn_text x k hk])
  clear hn
  have hl := shl
  have hr := shr
  have ho := b_or
  go_enter Try.func64, Try.ntmps64
  go_wp2
  go_ret
  exact ⟨ret_int (by rw [H.out]), rfl⟩

theorem join_or (h l : Int) (h0 : 0 ≤ h) (h1 : h ≤ 4294967295) (l0 : 0 ≤ l) (l1 : l ≤ 4294967295) :
    bits .or .u64 (h * 4294967296) l = h * 4294967296 + l := by
  obtain ⟨a, rfl⟩ := Int.eq_ofNat_of_zero_le h0
  obtain ⟨b, rfl⟩ := Int.eq_ofNat_of_zero_le l0
  rw [show (a : Int) * 4294967296 = ((a * 4294967296 : Nat) : Int) from by omega]
  rw [u64_or_nat _ _ (by omega) (by omega)]
  have := Nat.shiftLeft_add_eq_or_of_lt (b := b) (i := 32) (by omega) a
  rw [Nat.shiftLeft_eq] at this
  have e : a * 4294967296 ||| b = a * 4294967296 + b := this.symm
  rw [e]; omega
theorem join_calls (h l : Int) (h0 : 0 ≤ h) (h1 : h ≤ 4294967295) (l0 : 0 ≤ l) (l1 : l ≤ 4294967295) (w : World) :
    Calls Try.prog 58 #[.int .u32 h, .int .u32 l] w fun e w' => e = .returned (.int .u64 (h * 4294967296 + l)) ∧ w = w' := by
  have H : Hid _ := Lib.hid (join_or h l h0 h1 l0 l1)
  go_enter Try.func58, Try.ntmps58
  go_wp2
  go_ret
  exact ⟨ret_int H.out, rfl⟩
theorem mul_g (x : BitVec 64) : IntKind.u64.wrap (un x * 11400714819323198485) = un (x * gold) := by
  rw [IntKind.wrap_u64]; unfold un
  rw [BitVec.toNat_mul, Int.natCast_emod, Int.natCast_mul]; rfl
theorem shr29 (x : BitVec 64) : un x / (536870912 : Int) = un (x >>> 29) := shr x 29
theorem mix_calls (x y : BitVec 64) (a b : Int) (ha : a = un x) (hb : b = un y) (w : World) :
    Calls Try.prog 54 #[.int .u64 a, .int .u64 b] w fun e w' => e = .returned (.int .u64 (un (mix x y))) ∧ w = w' := by
  subst ha; subst hb
  have hx := b_xor
  have hg := mul_g
  have hs := shr29
  have H : Hid _ := Lib.hid (mix_is x y)
  go_enter Try.func54, Try.ntmps54
  go_wp2_with (go_at_call 64; refine (turn_calls _ _ rfl 31 _).mono ?_; rintro e w' ⟨rfl, rfl⟩)
  go_ret
  exact ⟨ret_int (by rw [H.out]), rfl⟩

theorem of_calls (b0 b1 b2 b3 b4 b5 b6 b7 : Int) (h0 : 0 ≤ b0 ∧ b0 ≤ 255) (h1 : 0 ≤ b1 ∧ b1 ≤ 255) (h2 : 0 ≤ b2 ∧ b2 ≤ 255) (h3 : 0 ≤ b3 ∧ b3 ≤ 255) (h4 : 0 ≤ b4 ∧ b4 ≤ 255) (h5 : 0 ≤ b5 ∧ b5 ≤ 255)
    (h6 : 0 ≤ b6 ∧ b6 ≤ 255) (h7 : 0 ≤ b7 ∧ b7 ≤ 255) (w : World) :
    Calls Try.prog 55 #[.agg #[.int .u8 b0, .int .u8 b1, .int .u8 b2, .int .u8 b3, .int .u8 b4, .int .u8 b5, .int .u8 b6, .int .u8 b7]] w fun e w' => e = .returned (.int .u64 (ofS b0 b1 b2 b3 b4 b5 b6 b7)) ∧ Below w.heap.size w w' := by
  have H : Hid _ := Lib.hid (ofS_or b0 b1 b2 b3 b4 b5 b6 b7 h0 h1 h2 h3 h4 h5 h6 h7)
  go_enter Try.func55, Try.ntmps55
  go_wp2
  go_rounds 9
  go_ret
  exact ⟨ret_int H.out, (Below.refl _ _).alloc (Nat.le_refl _) _⟩

end Go.Proofs.Ytcacgbdnegmfnaa.Ct
