/- Plain facts on the ones of a 64-bit number. -/
import Derived.Test.YtmnfhbkkogajoaaPlain
namespace Go.Proofs.Ytmnfhbkkogajoaa.Pl
open Go Go.RowKit

/-! Ones. -/
/-- A bit as a number. -/
def bt (x : BitVec 64) (j : Nat) : Int := if x.getLsbD j then 1 else 0
theorem bt_le (x : BitVec 64) (j : Nat) : 0 ≤ bt x j ∧ bt x j ≤ 1 := by unfold bt; split <;> omega
theorem bt_is (x : BitVec 64) (j : Nat) : un (x >>> j &&& 1#64) = bt x j := by
  have e : x >>> j &&& 1#64 = if x.getLsbD j then 1#64 else 0#64 := by
    apply BitVec.eq_of_getLsbD_eq; intro i hi
    rw [BitVec.getLsbD_and, BitVec.getLsbD_ushiftRight, BitVec.getLsbD_one]
    by_cases h : i = 0
    · subst h; cases hb : x.getLsbD j <;> simp
    · cases hb : x.getLsbD j <;> simp [h]
  rw [e]; unfold bt; split
  · exact un_1.symm
  · exact un_0.symm
def ones (x : BitVec 64) : Nat → Int
  | 0 => 0
  | j + 1 => ones x j + bt x j
theorem ones_zero (x : BitVec 64) : ones x 0 = 0 := rfl
theorem ones_succ (x : BitVec 64) (j : Nat) : ones x (j + 1) = ones x j + bt x j := rfl
theorem ones_le (x : BitVec 64) (j : Nat) : 0 ≤ ones x j ∧ ones x j ≤ j := by
  induction j with
  | zero => simp [ones]
  | succ j ih => have := bt_le x j; rw [ones_succ]; omega
def sumTo (f : Nat → Int) : Nat → Int
  | 0 => 0
  | n + 1 => sumTo f n + f n
theorem sumTo_add (f : Nat → Int) (a b : Nat) : sumTo f (a + b) = sumTo f a + sumTo (fun j => f (a + j)) b := by
  induction b with
  | zero => simp [sumTo]
  | succ b ih => rw [← Nat.add_assoc, sumTo, ih, sumTo]; omega
theorem sumTo_congr {f g : Nat → Int} {n : Nat} (h : ∀ j, j < n → f j = g j) : sumTo f n = sumTo g n := by
  induction n with
  | zero => rfl
  | succ n ih => rw [sumTo, sumTo, ih (fun j hj => h j (by omega)), h n (by omega)]
theorem ones_sum (x : BitVec 64) (n : Nat) : ones x n = sumTo (bt x) n := by
  induction n with
  | zero => rfl
  | succ n ih => rw [ones_succ, sumTo, ih]
theorem ones_rot (x : BitVec 64) (k : Nat) (hk : k < 64) : ones (x.rotateLeft k) 64 = ones x 64 := by
  rw [ones_sum, ones_sum]
  have e1 : sumTo (bt (x.rotateLeft k)) 64 = sumTo (bt (x.rotateLeft k)) k + sumTo (fun j => bt (x.rotateLeft k) (k + j)) (64 - k) := by
    rw [← sumTo_add, show k + (64 - k) = 64 from by omega]
  have e2 : sumTo (bt x) 64 = sumTo (bt x) (64 - k) + sumTo (fun j => bt x (64 - k + j)) k := by
    rw [← sumTo_add, show 64 - k + k = 64 from by omega]
  have a1 : sumTo (bt (x.rotateLeft k)) k = sumTo (fun j => bt x (64 - k + j)) k := sumTo_congr fun j hj => by
    unfold bt; rw [rot_bit x k j (by omega), show (j + 64 - k % 64) % 64 = 64 - k + j from by omega]
  have a2 : sumTo (fun j => bt (x.rotateLeft k) (k + j)) (64 - k) = sumTo (bt x) (64 - k) := sumTo_congr fun j hj => by
    unfold bt; rw [rot_bit x k (k + j) (by omega), show (k + j + 64 - k % 64) % 64 = j from by omega]
  omega
theorem ones_turn (x : BitVec 64) (n : Int) : ones (turn x n) 64 = ones x 64 := by
  rw [turn_is]; exact ones_rot x _ (by omega)
theorem bt_and (x : BitVec 64) (j : Nat) : bits .and .u64 (un x / 2 ^ j) 1 = bt x j := by
  rw [shr, un_1, b_and, bt_is]

attribute [irreducible] bt ones
end Go.Proofs.Ytmnfhbkkogajoaa.Pl
