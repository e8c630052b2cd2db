/- Plain facts on 64-bit numbers for the laws of package bits: no program in sight. -/
import Derived.WalkKit
namespace Go.Proofs.Ytcacgbdnegmfnaa.Pl
open Go Go.RowKit

/-- The number of 64 bits that an Int is. -/
def bv (a : Int) : BitVec 64 := BitVec.ofInt 64 a
/-- A number of 64 bits as an Int. -/
def un (x : BitVec 64) : Int := (x.toNat : Int)
/-- A number of 64 bits as an Int with a sign. -/
def sg (x : BitVec 64) : Int := x.toInt

theorem un_nonneg (x : BitVec 64) : 0 ≤ un x := Int.natCast_nonneg _
theorem un_le (x : BitVec 64) : un x ≤ 18446744073709551615 := by
  have := x.isLt; unfold un; omega
theorem un_bv {a : Int} (h0 : 0 ≤ a) (h1 : a ≤ 18446744073709551615) : un (bv a) = a := by
  obtain ⟨n, rfl⟩ := Int.eq_ofNat_of_zero_le h0
  unfold un bv
  rw [BitVec.ofInt_natCast, BitVec.toNat_ofNat, Nat.mod_eq_of_lt (by omega)]
theorem bv_un (x : BitVec 64) : bv (un x) = x := by
  unfold un bv
  rw [BitVec.ofInt_natCast]; simp
theorem un_inj {x y : BitVec 64} : (un x = un y) ↔ x = y := by
  constructor
  · intro h; rw [← bv_un x, ← bv_un y, h]
  · rintro rfl; rfl
theorem sg_inj {x y : BitVec 64} : (sg x = sg y) ↔ x = y := BitVec.toInt_inj
theorem wrap_un (a : Int) : IntKind.u64.wrap a = un (bv a) := by
  rw [IntKind.wrap_u64]; unfold un bv
  rw [BitVec.toNat_ofInt]
  have : 0 ≤ a % 18446744073709551616 := Int.emod_nonneg _ (by decide)
  simp; omega
theorem wrap_sg (x : BitVec 64) : IntKind.i64.wrap (un x) = sg x := by
  have h := x.isLt
  rw [IntKind.wrap_i64]; unfold un sg
  rw [BitVec.toInt_eq_toNat_cond]
  split <;> omega
theorem shl (x : BitVec 64) (k : Nat) : IntKind.u64.wrap (un x * 2 ^ k) = un (x <<< k) := by
  rw [IntKind.wrap_u64]; unfold un
  rw [BitVec.toNat_shiftLeft, Nat.shiftLeft_eq, Int.natCast_emod, Int.natCast_mul, Int.natCast_pow]
  rfl
theorem shr (x : BitVec 64) (k : Nat) : un x / 2 ^ k = un (x >>> k) := by
  unfold un
  rw [BitVec.toNat_ushiftRight, Nat.shiftRight_eq_div_pow, Int.natCast_ediv, Int.natCast_pow]
  rfl
theorem sshr (x : BitVec 64) (k : Nat) : sg x / 2 ^ k = sg (x.sshiftRight k) := by
  unfold sg
  rw [BitVec.toInt_sshiftRight, Int.shiftRight_eq_div_pow]
  simp
theorem bits_of (op : BinOp) (f : BitVec 64 → BitVec 64 → BitVec 64) (h : ∀ a b : Int, bits op .u64 a b = IntKind.u64.wrap (un (f (bv a) (bv b)))) (x y : BitVec 64) :
    bits op .u64 (un x) (un y) = un (f x y) := by
  rw [h, bv_un, bv_un, wrap_un, bv_un]
theorem b_xor (x y : BitVec 64) : bits .xor .u64 (un x) (un y) = un (x ^^^ y) := bits_of _ (· ^^^ ·) (fun _ _ => rfl) x y
theorem b_or (x y : BitVec 64) : bits .or .u64 (un x) (un y) = un (x ||| y) := bits_of _ (· ||| ·) (fun _ _ => rfl) x y
theorem b_and (x y : BitVec 64) : bits .and .u64 (un x) (un y) = un (x &&& y) := bits_of _ (· &&& ·) (fun _ _ => rfl) x y

/-! Turned about. -/
/-- A number turned about by n places, whatever n. -/
def turn (x : BitVec 64) (n : Int) : BitVec 64 := x.rotateLeft (n % 64).toNat

theorem rot_bit (x : BitVec 64) (k i : Nat) (hi : i < 64) : (x.rotateLeft k).getLsbD i = x.getLsbD ((i + 64 - k % 64) % 64) := by
  rw [BitVec.getLsbD_rotateLeft]
  by_cases h : i < k % 64
  · simp only [h, decide_true, cond_true]; congr 1; omega
  · simp only [h, decide_false, cond_false, hi, decide_true, Bool.true_and]; congr 1; omega
theorem turn_bit (x : BitVec 64) (n : Int) (i : Nat) (hi : i < 64) : (turn x n).getLsbD i = x.getLsbD (((i : Int) - n) % 64).toNat := by
  unfold turn; rw [rot_bit _ _ _ hi]; congr 1; omega
theorem turn_turn (x : BitVec 64) (a b : Int) : turn (turn x a) b = turn x (a + b) := by
  apply BitVec.eq_of_getLsbD_eq; intro i hi
  rw [turn_bit _ _ _ hi, turn_bit _ _ _ (by omega), turn_bit _ _ _ hi]; congr 1; omega
theorem turn_zero (x : BitVec 64) : turn x 0 = x := by
  apply BitVec.eq_of_getLsbD_eq; intro i hi
  rw [turn_bit _ _ _ hi]; congr 1; omega
theorem turn_64 (x : BitVec 64) : turn x 64 = x := by
  apply BitVec.eq_of_getLsbD_eq; intro i hi
  rw [turn_bit _ _ _ hi]; congr 1; omega
theorem turn_back (x : BitVec 64) (a : Int) : turn (turn x a) (-a) = x := by
  rw [turn_turn, show a + -a = 0 from by omega, turn_zero]
/-- The program's own text of it. -/
theorem turn_text (x : BitVec 64) (k : Nat) (hk : k < 64) : x <<< k ||| x >>> (64 - k) = x.rotateLeft k := by
  rw [BitVec.rotateLeft_eq_rotateLeftAux_of_lt hk]; rfl

/-! Mixed. -/
def gold : BitVec 64 := 0x9e3779b97f4a7c15#64
def mix (h v : BitVec 64) : BitVec 64 := turn ((h ^^^ v) * gold ^^^ ((h ^^^ v) * gold) >>> 29) 31
theorem mul_gold (x : BitVec 64) : x * gold * 0xf1de83e19937733d#64 = x := by
  rw [BitVec.mul_assoc, show gold * 0xf1de83e19937733d#64 = 1#64 from by decide, BitVec.mul_one]
theorem turn_inj {x y : BitVec 64} {n : Int} (h : turn x n = turn y n) : x = y := by
  rw [← turn_back x n, ← turn_back y n, h]
theorem xsh_zero {d : BitVec 64} (h : d = d >>> 29) : d = 0#64 := by
  have h2 : d = d >>> 29 >>> 29 >>> 29 := by rw [← h, ← h, ← h]
  rw [h2, ← BitVec.shiftRight_add, ← BitVec.shiftRight_add]
  apply BitVec.eq_of_getLsbD_eq; intro i hi
  rw [BitVec.getLsbD_ushiftRight, BitVec.getLsbD_of_ge _ _ (by omega)]; simp
theorem xsh_inj {x y : BitVec 64} (h : x ^^^ x >>> 29 = y ^^^ y >>> 29) : x = y := by
  have e : (x ^^^ y) = (x ^^^ y) >>> 29 := by
    rw [BitVec.ushiftRight_xor_distrib]
    have : x ^^^ y ^^^ (x >>> 29 ^^^ y >>> 29) = 0#64 := by
      rw [show x ^^^ y ^^^ (x >>> 29 ^^^ y >>> 29) = (x ^^^ x >>> 29) ^^^ (y ^^^ y >>> 29) from by ac_rfl, h, BitVec.xor_self]
    have t : x ^^^ y ^^^ (x >>> 29 ^^^ y >>> 29) ^^^ (x >>> 29 ^^^ y >>> 29) = 0#64 ^^^ (x >>> 29 ^^^ y >>> 29) := by rw [this]
    rw [BitVec.xor_assoc, BitVec.xor_self, BitVec.xor_zero, BitVec.zero_xor] at t
    exact t
  have z := xsh_zero e
  have t : x ^^^ y ^^^ y = 0#64 ^^^ y := by rw [z]
  rw [BitVec.xor_assoc, BitVec.xor_self, BitVec.xor_zero, BitVec.zero_xor] at t
  exact t
theorem xor_inj {h v w : BitVec 64} (e : h ^^^ v = h ^^^ w) : v = w := by
  have t : h ^^^ (h ^^^ v) = h ^^^ (h ^^^ w) := by rw [e]
  rwa [← BitVec.xor_assoc, ← BitVec.xor_assoc, BitVec.xor_self, BitVec.zero_xor, BitVec.zero_xor] at t
theorem mix_inj {h v w : BitVec 64} (e : mix h v = mix h w) : v = w := by
  have e1 := xsh_inj (turn_inj e)
  have e2 : (h ^^^ v) = (h ^^^ w) := by rw [← mul_gold (h ^^^ v), ← mul_gold (h ^^^ w), e1]
  exact xor_inj e2
theorem mix_comm (h v : BitVec 64) : mix h v = mix v h := by unfold mix; rw [BitVec.xor_comm h v]

/-! With a sign. -/
/-- How many bits stay away. -/
def off (n : Int) : Nat := (64 - max 1 (min n 64)).toNat
def signed (x : BitVec 64) (n : Int) : BitVec 64 := (x <<< off n).sshiftRight (off n)

/-! As bytes. -/
def eight (x : BitVec 64) : List Int := (List.range 8).map fun i => un (x >>> (8 * i)) % 256

/-! The document's answer to it: bit by bit. -/
def rt (x : BitVec 64) (k : Nat) : Nat → BitVec 64
  | 0 => 0#64
  | j + 1 => rt x k j ||| (x >>> j &&& 1#64) <<< ((j + k) % 64)
theorem rt_zero (x : BitVec 64) (k : Nat) : rt x k 0 = 0#64 := rfl
theorem rt_succ (x : BitVec 64) (k j : Nat) : rt x k (j + 1) = rt x k j ||| (x >>> j &&& 1#64) <<< ((j + k) % 64) := rfl
theorem bit_shift (x : BitVec 64) (j s i : Nat) (hi : i < 64) : ((x >>> j &&& 1#64) <<< s).getLsbD i = (decide (i = s) && x.getLsbD j) := by
  rw [BitVec.getLsbD_shiftLeft, BitVec.getLsbD_and, BitVec.getLsbD_ushiftRight, BitVec.getLsbD_one]
  by_cases h : i = s
  · subst h; simp [hi]
  · by_cases h2 : i < s
    · simp [h2, h]
    · have : ¬ (i - s = 0) := by omega
      simp [this, h]
theorem rt_bit (x : BitVec 64) (k : Nat) (hk : k < 64) (j i : Nat) (hj : j ≤ 64) (hi : i < 64) :
    (rt x k j).getLsbD i = (decide ((i + 64 - k) % 64 < j) && x.getLsbD ((i + 64 - k) % 64)) := by
  induction j with
  | zero => simp [rt]
  | succ j ih =>
    rw [rt_succ, BitVec.getLsbD_or, ih (by omega), bit_shift _ _ _ _ hi]
    by_cases h : i = (j + k) % 64
    · have e : (i + 64 - k) % 64 = j := by omega
      rw [e, decide_eq_true h]; simp
    · have e : (i + 64 - k) % 64 ≠ j := by omega
      have e2 : ((i + 64 - k) % 64 < j + 1) ↔ ((i + 64 - k) % 64 < j) := by omega
      rw [decide_eq_false h]; simp only [e2, Bool.false_and, Bool.or_false]
theorem rt_end (x : BitVec 64) (k : Nat) (hk : k < 64) : rt x k 64 = x.rotateLeft k := by
  apply BitVec.eq_of_getLsbD_eq; intro i hi
  rw [rt_bit x k hk 64 i (by omega) hi, rot_bit x k i hi, Nat.mod_eq_of_lt hk]
  have : (i + 64 - k) % 64 < 64 := by omega
  simp [this]
/-! With a sign, bit by bit. -/
def rs (x : BitVec 64) (k : Nat) : Nat → BitVec 64
  | 0 => 0#64
  | j + 1 => rs x k j ||| (x >>> (min j (k - 1)) &&& 1#64) <<< j
theorem rs_zero (x : BitVec 64) (k : Nat) : rs x k 0 = 0#64 := rfl
theorem rs_succ (x : BitVec 64) (k j m : Nat) (h : min j (k - 1) = m) : rs x k (j + 1) = rs x k j ||| (x >>> m &&& 1#64) <<< j := by rw [← h]; rfl
theorem rs_bit (x : BitVec 64) (k j i : Nat) (hj : j ≤ 64) (hi : i < 64) :
    (rs x k j).getLsbD i = (decide (i < j) && x.getLsbD (min i (k - 1))) := by
  induction j with
  | zero => simp [rs]
  | succ j ih =>
    rw [rs_succ x k j _ rfl, BitVec.getLsbD_or, ih (by omega), bit_shift _ _ _ _ hi]
    by_cases h : i = j
    · subst h; simp
    · have e2 : (i < j + 1) ↔ (i < j) := by omega
      rw [decide_eq_false h]; simp only [e2, Bool.false_and, Bool.or_false]
theorem rs_end (x : BitVec 64) (k : Nat) (h0 : 1 ≤ k) (h1 : k ≤ 64) : rs x k 64 = (x <<< (64 - k)).sshiftRight (64 - k) := by
  apply BitVec.eq_of_getLsbD_eq; intro i hi
  rw [rs_bit x k 64 i (by omega) hi, BitVec.getLsbD_sshiftRight]
  rw [decide_eq_true hi, Bool.true_and, decide_eq_false (show ¬ 64 ≤ i by omega)]
  by_cases h : 64 - k + i < 64
  · rw [if_pos h, BitVec.getLsbD_shiftLeft, decide_eq_true h, decide_eq_false (show ¬ 64 - k + i < 64 - k by omega)]
    rw [show 64 - k + i - (64 - k) = i from by omega, show min i (k - 1) = i from by omega]; rfl
  · rw [if_neg h, BitVec.msb_eq_getLsbD_last, BitVec.getLsbD_shiftLeft, decide_eq_true (show 64 - 1 < 64 by omega), decide_eq_false (show ¬ 64 - 1 < 64 - k by omega)]
    rw [show 64 - 1 - (64 - k) = k - 1 from by omega, show min i (k - 1) = k - 1 from by omega]; rfl
theorem rs_signed (x : BitVec 64) (n : Int) (k : Nat) (h : off n = 64 - k) (h0 : 1 ≤ k) (h1 : k ≤ 64) : rs x k 64 = signed x n := by
  unfold signed; rw [h, rs_end x k h0 h1]

/-! Eight bytes as a number. -/
def ofS (b0 b1 b2 b3 b4 b5 b6 b7 : Int) : Int := b0 + b1 * 256 + b2 * 65536 + b3 * 16777216 + b4 * 4294967296 + b5 * 1099511627776 + b6 * 281474976710656 + b7 * 72057594037927936
theorem or_step (k : Nat) (hk : k ≤ 56) (a b : Int) (a0 : 0 ≤ a) (a1 : a < 2 ^ k) (b0 : 0 ≤ b) (b1 : b ≤ 255) : bits .or .u64 a (b * 2 ^ k) = a + b * 2 ^ k := by
  obtain ⟨m, rfl⟩ := Int.eq_ofNat_of_zero_le a0
  obtain ⟨n, rfl⟩ := Int.eq_ofNat_of_zero_le b0
  have hp : (2 : Nat) ^ k ≤ 2 ^ 56 := Nat.pow_le_pow_right (by decide) hk
  have hm : m < 2 ^ k := by
    have e : ((2 ^ k : Nat) : Int) = (2 : Int) ^ k := by simp
    omega
  have hn : n * 2 ^ k ≤ 255 * 2 ^ 56 := Nat.mul_le_mul (by omega) hp
  have e : ((n : Int) * 2 ^ k) = ((n * 2 ^ k : Nat) : Int) := by simp
  rw [e, u64_or_nat _ _ (by omega) (by omega)]
  have := Nat.shiftLeft_add_eq_or_of_lt hm n
  rw [Nat.shiftLeft_eq] at this
  rw [Nat.or_comm, ← this]; omega
theorem ofS_or (b0 b1 b2 b3 b4 b5 b6 b7 : Int) (h0 : 0 ≤ b0 ∧ b0 ≤ 255) (h1 : 0 ≤ b1 ∧ b1 ≤ 255) (h2 : 0 ≤ b2 ∧ b2 ≤ 255) (h3 : 0 ≤ b3 ∧ b3 ≤ 255) (h4 : 0 ≤ b4 ∧ b4 ≤ 255) (h5 : 0 ≤ b5 ∧ b5 ≤ 255)
    (h6 : 0 ≤ b6 ∧ b6 ≤ 255) (h7 : 0 ≤ b7 ∧ b7 ≤ 255) :
    bits .or .u64 (bits .or .u64 (bits .or .u64 (bits .or .u64 (bits .or .u64 (bits .or .u64 (bits .or .u64 (bits .or .u64 0 b0) (b1 * 256)) (b2 * 65536)) (b3 * 16777216)) (b4 * 4294967296)) (b5 * 1099511627776)) (b6 * 281474976710656)) (b7 * 72057594037927936) = ofS b0 b1 b2 b3 b4 b5 b6 b7 := by
  have e0 := or_step 0 (by omega) 0 b0 (by omega) (by omega) h0.1 h0.2
  rw [show b0 * 2 ^ 0 = b0 from by omega] at e0
  have e1 := or_step 8 (by omega) (0 + b0) b1 (by omega) (by omega) h1.1 h1.2
  have e2 := or_step 16 (by omega) (0 + b0 + b1 * 2 ^ 8) b2 (by omega) (by omega) h2.1 h2.2
  have e3 := or_step 24 (by omega) (0 + b0 + b1 * 2 ^ 8 + b2 * 2 ^ 16) b3 (by omega) (by omega) h3.1 h3.2
  have e4 := or_step 32 (by omega) (0 + b0 + b1 * 2 ^ 8 + b2 * 2 ^ 16 + b3 * 2 ^ 24) b4 (by omega) (by omega) h4.1 h4.2
  have e5 := or_step 40 (by omega) (0 + b0 + b1 * 2 ^ 8 + b2 * 2 ^ 16 + b3 * 2 ^ 24 + b4 * 2 ^ 32) b5 (by omega) (by omega) h5.1 h5.2
  have e6 := or_step 48 (by omega) (0 + b0 + b1 * 2 ^ 8 + b2 * 2 ^ 16 + b3 * 2 ^ 24 + b4 * 2 ^ 32 + b5 * 2 ^ 40) b6 (by omega) (by omega) h6.1 h6.2
  have e7 := or_step 56 (by omega) (0 + b0 + b1 * 2 ^ 8 + b2 * 2 ^ 16 + b3 * 2 ^ 24 + b4 * 2 ^ 32 + b5 * 2 ^ 40 + b6 * 2 ^ 48) b7 (by omega) (by omega) h7.1 h7.2
  simp only [show (2 : Int) ^ 8 = 256 from rfl, show (2 : Int) ^ 16 = 65536 from rfl, show (2 : Int) ^ 24 = 16777216 from rfl, show (2 : Int) ^ 32 = 4294967296 from rfl, show (2 : Int) ^ 40 = 1099511627776 from rfl, show (2 : Int) ^ 48 = 281474976710656 from rfl, show (2 : Int) ^ 56 = 72057594037927936 from rfl] at e1 e2 e3 e4 e5 e6 e7
  rw [e0, e1, e2, e3, e4, e5, e6, e7]; unfold ofS; omega
theorem ofS_bytes (x : BitVec 64) : ofS (un x % 256) (un x / 256 % 256) (un x / 65536 % 256) (un x / 16777216 % 256) (un x / 4294967296 % 256) (un x / 1099511627776 % 256) (un x / 281474976710656 % 256) (un x / 72057594037927936 % 256) = un x := by
  have h0 := un_nonneg x
  have h1 := un_le x
  unfold ofS; omega
theorem list8 {α : Type} (f : Nat → α) : (List.range 8).map f = [f 0, f 1, f 2, f 3, f 4, f 5, f 6, f 7] := rfl
theorem eight_list (x : BitVec 64) : eight x = [un x % 256, un x / 256 % 256, un x / 65536 % 256, un x / 16777216 % 256, un x / 4294967296 % 256, un x / 1099511627776 % 256, un x / 281474976710656 % 256, un x / 72057594037927936 % 256] := by
  simp only [eight, ← shr]
  rw [list8]
  simp
theorem eight_at (x : BitVec 64) (j : Nat) (hj : j < 8) : (eight x).take (j + 1) = (eight x).take j ++ [un x / 2 ^ (8 * j) % 256] := by
  rw [List.take_succ_eq_append_getElem (by simp [eight]; omega)]
  congr 2
  simp only [eight, List.getElem_map, List.getElem_range, ← shr]
/-- The eight bytes as cells. -/
def cells8 (x : BitVec 64) : List Value := (eight x).map (Value.int .u8)
theorem cells8_at (x : BitVec 64) (j : Nat) (hj : j < 8) : (cells8 x).take (j + 1) = (cells8 x).take j ++ [Value.int .u8 (un x / 2 ^ (8 * j) % 256)] := by
  unfold cells8; rw [← List.map_take, eight_at x j hj, List.map_append, List.map_take]; rfl
theorem cells8_len (x : BitVec 64) : (cells8 x).length = 8 := by simp [cells8, eight]
theorem cells8_list (x : BitVec 64) : cells8 x = [.int .u8 (un x % 256), .int .u8 (un x / 256 % 256), .int .u8 (un x / 65536 % 256), .int .u8 (un x / 16777216 % 256), .int .u8 (un x / 4294967296 % 256), .int .u8 (un x / 1099511627776 % 256), .int .u8 (un x / 281474976710656 % 256), .int .u8 (un x / 72057594037927936 % 256)] := by
  unfold cells8; rw [eight_list]; rfl
theorem eight_len (x : BitVec 64) : (eight x).length = 8 := by simp [eight]
theorem un_63 : (63 : Int) = un 63#64 := rfl
theorem un_1 : (1 : Int) = un 1#64 := rfl
theorem un_0 : (0 : Int) = un 0#64 := rfl
theorem un_255 : (255 : Int) = un 255#64 := rfl
theorem turn_is (x : BitVec 64) (n : Int) : turn x n = x.rotateLeft (n % 64).toNat := rfl
theorem un_top : un 0x8000000000000000#64 = 9223372036854775808 := rfl
theorem sg_m1 : sg 0xffffffffffffffff#64 = -1 := rfl
theorem signed_is (x : BitVec 64) (n : Int) : signed x n = (x <<< off n).sshiftRight (off n) := rfl
theorem mix_same (h v w : BitVec 64) : (un (mix h v) == un (mix h w)) = (un v == un w) := by
  rw [Bool.eq_iff_iff]; simp only [beq_iff_eq, un_inj]
  exact ⟨mix_inj, fun e => by rw [e]⟩
theorem mix_same' (h v w : BitVec 64) : (un (mix v h) == un (mix w h)) = (un v == un w) := by rw [mix_comm v h, mix_comm w h, mix_same]
/-- What comes of a number's lowest bits, said of Ints. -/
theorem signed_val (x n : Int) : sg (signed (bv x) n) = wrap64 (x * 2 ^ off n) / 2 ^ off n := by
  rw [signed_is, ← sshr, ← wrap_sg, ← shl, IntWalk.i64_left]
  congr 1
  rw [← wrap_un, IntKind.wrap_u64, IntKind.wrap_u64]
  have e : x % 18446744073709551616 * 2 ^ off n % 18446744073709551616 = x * 2 ^ off n % 18446744073709551616 := by
    rw [Int.mul_emod, Int.emod_emod, ← Int.mul_emod]
  rw [e]
  generalize x * 2 ^ off n = y
  unfold wrap64; omega
theorem pow_two_pos (k : Nat) : (0 : Int) < 2 ^ k := Int.pow_pos (by decide)
theorem off_nat (k : Nat) (h0 : 1 ≤ k) (h1 : k ≤ 64) : off (k : Int) = 64 - k := by unfold off; omega
theorem signed_small (x : Int) (k : Nat) (h0 : 1 ≤ k) (h1 : k ≤ 64) (l : -(2 ^ (k - 1)) ≤ x) (u : x < 2 ^ (k - 1)) : sg (signed (bv x) k) = x := by
  rw [signed_val, off_nat k h0 h1]
  have hp := pow_two_pos (64 - k)
  have e : (2 : Int) ^ (k - 1) * 2 ^ (64 - k) = 9223372036854775808 := by
    rw [← Int.pow_add, show k - 1 + (64 - k) = 63 from by omega]; rfl
  have l2 := Int.mul_le_mul_of_nonneg_right l (Int.le_of_lt hp)
  have u2 := Int.mul_lt_mul_of_pos_right u hp
  rw [Int.neg_mul, e] at l2
  rw [e] at u2
  rw [IntWalk.wrap64_in _ ⟨by omega, by omega⟩]
  exact Int.mul_ediv_cancel _ (by omega)
theorem signed_most (k : Nat) (h0 : 1 ≤ k) (h1 : k ≤ 64) : sg (signed (bv (2 ^ (k - 1))) k) = -(2 ^ (k - 1)) := by
  rw [signed_val, off_nat k h0 h1]
  have hp := pow_two_pos (64 - k)
  have e : (2 : Int) ^ (k - 1) * 2 ^ (64 - k) = 9223372036854775808 := by
    rw [← Int.pow_add, show k - 1 + (64 - k) = 63 from by omega]; rfl
  rw [show wrap64 ((2 : Int) ^ (k - 1) * 2 ^ (64 - k)) = -((2 : Int) ^ (k - 1) * 2 ^ (64 - k)) from by rw [e]; unfold wrap64; decide]
  rw [← Int.neg_mul]
  exact Int.mul_ediv_cancel _ (by omega)
/-- A power of two as the walk shows it. -/
theorem pow_at (r : Nat) (h : r < 62) : ∃ p : Int, (2 : Int) ^ r = p ∧ wrap64 (2 ^ r) = p ∧ wrap64 (2 ^ (1 + r - 1)) = p ∧ 1 ≤ p ∧ p ≤ 2305843009213693952 := by
  have h0 := pow_two_pos r
  have h1 : (2 : Int) ^ r ≤ 2 ^ 61 := by
    have := Nat.pow_le_pow_right (show 0 < 2 by decide) (show r ≤ 61 by omega)
    have e : ((2 ^ r : Nat) : Int) = (2 : Int) ^ r := by simp
    have e2 : ((2 ^ 61 : Nat) : Int) = (2 : Int) ^ 61 := by simp
    omega
  rw [show (2 : Int) ^ 61 = 2305843009213693952 from rfl] at h1
  refine ⟨2 ^ r, rfl, IntWalk.wrap64_in _ ⟨by omega, by omega⟩, ?_, by omega, h1⟩
  rw [show 1 + r - 1 = r from by omega]; exact IntWalk.wrap64_in _ ⟨by omega, by omega⟩
theorem mix_is (h v : BitVec 64) : mix h v = turn ((h ^^^ v) * gold ^^^ ((h ^^^ v) * gold) >>> 29) 31 := rfl

attribute [irreducible] un sg bv turn mix signed eight cells8 rt rs ofS
end Go.Proofs.Ytcacgbdnegmfnaa.Pl
