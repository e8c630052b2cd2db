/- The bytes of a 64-bit number one by one; what Bytes and Of compute, said of them. -/
import Derived.Test.YtmnfhbkkogajoaaWalks
namespace Go.Proofs.Ytmnfhbkkogajoaa.Pl
open Go Go.RowKit
def byt (x : BitVec 64) (j : Nat) : Int := un x / 256 ^ j % 256
theorem byt_le (x : BitVec 64) (j : Nat) : 0 ≤ byt x j ∧ byt x j ≤ 255 := by
  unfold byt; have := Int.emod_nonneg (un x / 256 ^ j) (show (256 : Int) ≠ 0 by decide); have := Int.emod_lt_of_pos (un x / 256 ^ j) (show (0 : Int) < 256 by decide); omega
theorem byt_cells (x : BitVec 64) : cells8 x = [.int .u8 (byt x 0), .int .u8 (byt x 1), .int .u8 (byt x 2), .int .u8 (byt x 3), .int .u8 (byt x 4), .int .u8 (byt x 5), .int .u8 (byt x 6), .int .u8 (byt x 7)] := by
  rw [cells8_list]; simp [byt]
theorem byt_of (x : BitVec 64) : ofS (byt x 0) (byt x 1) (byt x 2) (byt x 3) (byt x 4) (byt x 5) (byt x 6) (byt x 7) = un x := by
  rw [← ofS_bytes x]; simp [byt]
/-- A byte by its bits. -/
theorem byt_bits (x : BitVec 64) (j : Nat) : byt x j = un (x >>> (8 * j) &&& 255#64) := by
  unfold byt
  rw [show (256 : Int) ^ j = 2 ^ (8 * j) from by rw [Int.pow_mul]; rfl, shr]
  generalize x >>> (8 * j) = y
  unfold un
  rw [BitVec.toNat_and, show (255#64).toNat = 2 ^ 8 - 1 from rfl, Nat.and_two_pow_sub_one_eq_mod]
  omega
/-- x with the byte k turned. -/
def turnB (x b : BitVec 64) (k : Nat) : BitVec 64 := x ^^^ b <<< (8 * k)
theorem lt_bit (b : BitVec 64) (hb : un b ≤ 255) (i : Nat) (hi : 8 ≤ i) : b.getLsbD i = false := by
  unfold un at hb
  have : 2 ^ 8 ≤ 2 ^ i := Nat.pow_le_pow_right (by decide) hi
  rw [← BitVec.testBit_toNat]; exact Nat.testBit_lt_two_pow (by omega)
theorem byt_other (x b : BitVec 64) (hb : un b ≤ 255) (k j : Nat) (h : k ≠ j) : byt (turnB x b k) j = byt x j := by
  rw [byt_bits, byt_bits]; congr 1
  apply BitVec.eq_of_getLsbD_eq; intro i hi
  unfold turnB
  rw [BitVec.getLsbD_and, BitVec.getLsbD_and, BitVec.getLsbD_ushiftRight, BitVec.getLsbD_ushiftRight, BitVec.getLsbD_xor, BitVec.getLsbD_shiftLeft]
  by_cases h8 : i < 8
  · have : (decide (8 * j + i < 64) && !decide (8 * j + i < 8 * k) && b.getLsbD (8 * j + i - 8 * k)) = false := by
      by_cases hk : 8 * j + i < 8 * k
      · simp [hk]
      · rw [lt_bit b hb _ (by omega)]; simp
    rw [this, Bool.xor_false]
  · have : (255#64).getLsbD i = false := by
      rw [show 255#64 = BitVec.ofNat 64 (2 ^ 8 - 1) from rfl, BitVec.getLsbD_ofNat, Nat.testBit_two_pow_sub_one]; simp [h8]
    rw [this, Bool.and_false, Bool.and_false]
theorem byt_same (x b : BitVec 64) (hb : un b ≤ 255) (k : Nat) (hk : k < 8) : byt (turnB x b k) k = bits .xor .u8 (byt x k) (un b) := by
  have l := byt_le x k
  have h0 := un_nonneg b
  rw [u8_xor _ _ l.1 (by omega) h0 (by omega)]
  rw [byt_bits, byt_bits]
  unfold un
  rw [Int.toNat_natCast, Int.toNat_natCast, ← BitVec.toNat_xor]; congr 2
  apply BitVec.eq_of_getLsbD_eq; intro i hi
  unfold turnB
  rw [BitVec.getLsbD_and, BitVec.getLsbD_xor, BitVec.getLsbD_and, BitVec.getLsbD_ushiftRight, BitVec.getLsbD_ushiftRight, BitVec.getLsbD_xor, BitVec.getLsbD_shiftLeft]
  have h255 : (255#64).getLsbD i = decide (i < 8) := by
    rw [show 255#64 = BitVec.ofNat 64 (2 ^ 8 - 1) from rfl, BitVec.getLsbD_ofNat, Nat.testBit_two_pow_sub_one]; simp [hi]
  rw [h255]
  by_cases h8 : i < 8
  · rw [show 8 * k + i - 8 * k = i from by omega]
    rw [decide_eq_true h8, decide_eq_true (show 8 * k + i < 64 by omega), decide_eq_false (show ¬ 8 * k + i < 8 * k by omega)]; simp
  · rw [decide_eq_false h8, lt_bit b hb i (by omega)]; simp
theorem turnB_un (x b : BitVec 64) (hb : un b ≤ 255) (k : Nat) (hk : k < 8) : bits .xor .u64 (un x) (un b * 2 ^ (8 * k)) = un (turnB x b k) := by
  have h0 := un_nonneg b
  have hp : (2 : Int) ^ (8 * k) ≤ 2 ^ 56 := by
    have := Nat.pow_le_pow_right (show 0 < 2 by decide) (show 8 * k ≤ 56 by omega)
    have e : ((2 ^ (8 * k) : Nat) : Int) = (2 : Int) ^ (8 * k) := by simp
    have e2 : ((2 ^ 56 : Nat) : Int) = (2 : Int) ^ 56 := by simp
    omega
  have hm : un b * 2 ^ (8 * k) ≤ 255 * 2 ^ 56 := Int.mul_le_mul hb hp (Int.le_of_lt (pow_two_pos _)) (by decide)
  have hn : 0 ≤ un b * 2 ^ (8 * k) := Int.mul_nonneg h0 (Int.le_of_lt (pow_two_pos _))
  have e : un b * 2 ^ (8 * k) = un (b <<< (8 * k)) := by
    rw [← shl, IntWalk.u64_in _ ⟨hn, by omega⟩]
  rw [e, b_xor]; rfl
attribute [irreducible] byt turnB
end Go.Proofs.Ytmnfhbkkogajoaa.Pl
namespace Go.Proofs.Ytmnfhbkkogajoaa.Ct
open Go Go.RowKit Go.Proofs.Ytmnfhbkkogajoaa.Pl
theorem bytes_byt (x : BitVec 64) (w : World) :
    Calls Try.prog 18 #[.int .u64 (un x)] w fun e w' => e = .returned (.agg #[.int .u8 (byt x 0), .int .u8 (byt x 1), .int .u8 (byt x 2), .int .u8 (byt x 3), .int .u8 (byt x 4), .int .u8 (byt x 5), .int .u8 (byt x 6), .int .u8 (byt x 7)]) ∧ Below w.heap.size w w' :=
  (bytes_calls x w).mono fun e w' ⟨h, hw⟩ => ⟨by rw [h, byt_cells], hw⟩
theorem of_byt (x : BitVec 64) (w : World) :
    Calls Try.prog 19 #[.agg #[.int .u8 (byt x 0), .int .u8 (byt x 1), .int .u8 (byt x 2), .int .u8 (byt x 3), .int .u8 (byt x 4), .int .u8 (byt x 5), .int .u8 (byt x 6), .int .u8 (byt x 7)]] w fun e w' => e = .returned (.int .u64 (un x)) ∧ Below w.heap.size w w' :=
  (of_calls _ _ _ _ _ _ _ _ (byt_le x 0) (byt_le x 1) (byt_le x 2) (byt_le x 3) (byt_le x 4) (byt_le x 5) (byt_le x 6) (byt_le x 7) w).mono fun e w' ⟨h, hw⟩ => ⟨by rw [h, byt_of], hw⟩
theorem size5 (w : World) : (sizeOf 5).run Try.prog w = .ok 1 w := by kernel_rfl
theorem part5 (w : World) (cs : Array Value) (i : Nat) (v : Value) (h : cs[i]? = some v) : (part 5 cs i).run Try.prog w = .ok v w := by
  have a : (isAgg 5).run Try.prog w = .ok false w := by kernel_rfl
  simp [part, Sem.run_bind, a, h]
theorem eq8 (b0 b1 b2 b3 b4 b5 b6 b7 : Int) (w : World) (d : Nat) :
    (Op.equalIn (d + 2) 36 (.agg #[.int .u8 b0, .int .u8 b1, .int .u8 b2, .int .u8 b3, .int .u8 b4, .int .u8 b5, .int .u8 b6, .int .u8 b7]) (.agg #[.int .u8 b0, .int .u8 b1, .int .u8 b2, .int .u8 b3, .int .u8 b4, .int .u8 b5, .int .u8 b6, .int .u8 b7])).run Try.prog w = .ok true w := by
  have e : ∀ (a b : Int) (w : World), (Op.equalIn (d + 1) 5 (.int .u8 a) (.int .u8 b)).run Try.prog w = .ok (a == b) w := fun a b w => run_equalIn_int w d _ _ _ a b Try.underlying5
  rw [Op.equalIn]
  simp only [Sem.run_bind, run_underlying Try.underlying36, Result.andThen_ok, size5]
  simp [Std.Legacy.Range.forIn_eq_forIn_range', List.range', Sem.run_bind, part5, e]
theorem eql8 (b0 b1 b2 b3 b4 b5 b6 b7 : Int) (w : World) :
    (binOp .eql 36 (.agg #[.int .u8 b0, .int .u8 b1, .int .u8 b2, .int .u8 b3, .int .u8 b4, .int .u8 b5, .int .u8 b6, .int .u8 b7]) (.agg #[.int .u8 b0, .int .u8 b1, .int .u8 b2, .int .u8 b3, .int .u8 b4, .int .u8 b5, .int .u8 b6, .int .u8 b7])).run Try.prog w = .ok (.bool true) w := by
  rw [run_eql_struct, eq8]; rfl
end Go.Proofs.Ytmnfhbkkogajoaa.Ct
