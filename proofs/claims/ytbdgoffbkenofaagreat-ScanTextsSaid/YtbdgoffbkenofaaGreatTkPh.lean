/- token: plain: where a text stands in another one. -/
import Derived.Test.YtbdgoffbkenofaaGreatTkPb
namespace Go.Proofs.YtbdgoffbkenofaaGreat.Tk
open Go Go.RowKit
set_option linter.unusedVariables false

/-- A text stands in another one at a place. -/
structure Has (s : ByteArray) (k : Nat) (x : ByteArray) : Prop where
  le : k + x.size ≤ s.size
  at_ : ∀ i, i < x.size → bAt s (k + i) = bAt x i
theorem has_l (x y : ByteArray) : Has (x ++ y) 0 x := ⟨by rw [ByteArray.size_append]; omega, fun i hi => by rw [Nat.zero_add, bAt_l hi]⟩
theorem has_r (x y : ByteArray) : Has (x ++ y) x.size y := ⟨by rw [ByteArray.size_append]; omega, fun i hi => by rw [bAt_r (by omega), Nat.add_sub_cancel_left]⟩
theorem Has.l {x z : ByteArray} {k : Nat} (h : Has x k z) (y : ByteArray) : Has (x ++ y) k z :=
  ⟨by have := h.le; rw [ByteArray.size_append]; omega, fun i hi => by rw [bAt_l (by have := h.le; omega)]; exact h.at_ i hi⟩
theorem Has.to {s x : ByteArray} {k k' : Nat} (h : Has s k x) (e : k = k') : Has s k' x := e ▸ h
theorem Has.ext {s x : ByteArray} {k : Nat} (h : Has s k x) : s.extract k (k + x.size) = x :=
  ext_bAt (by have := h.le; rw [ByteArray.size_extract]; omega) fun i hi => by
    have hi' : i < x.size := by have := h.le; rw [ByteArray.size_extract] at hi; omega
    rw [bAt_ext h.le (by omega), h.at_ i hi']
theorem Has.one {s x : ByteArray} {k i m : Nat} (h : Has s k x) (hi : i < x.size) (e : k + i = m) : bAt s m = bAt x i := e ▸ h.at_ i hi
theorem upT_eq {p : Nat → Bool} {s : ByteArray} {a m : Nat} (h1 : a ≤ m) (h2 : m ≤ s.size) (h3 : ∀ j, a ≤ j → j < m → p (bAt s j) = false) (h4 : m < s.size → p (bAt s m) = true) : upT p s a = m := by
  unfold upT
  exact upI_eq h1 (by omega) h3 (fun h => h4 (by omega))
/-! ### Place -/
def placeN (v : Int) (n : Nat) : Nat := if v.tmod n < 0 then (v.tmod n + n).toNat else (v.tmod n).toNat
theorem placeN_lt (v : Int) {n : Nat} (h : 0 < n) : placeN v n < n := by
  have b1 := Int.tmod_lt_of_pos v (show (0 : Int) < n by omega)
  unfold placeN
  split <;> omega
theorem placeN_calls (v : Int) (n : Nat) (h0 : 0 < n) (h1 : n ≤ 4611686018427387904) (m : Int) (hm : (n : Int) = m) (w : World) :
    Calls Tryz.prog 14 #[.int .i64 v, .int .i64 m] w fun e w' => e = .returned (.int .i64 (placeN v n : Nat)) ∧ w = w' := by
  subst hm
  have b1 := Int.tmod_lt_of_pos v (show (0 : Int) < n by omega)
  have b0 : -(n : Int) < v.tmod n := by
    have := Int.lt_tmod_of_pos v (show (0 : Int) < n by omega)
    omega
  have hn : ¬ (n : Int) = 0 := by omega
  have hn1 : ((n : Int) == 0) = false := by rw [beq_eq_false_iff_ne]; omega
  have HP := Lib.hid (show placeN v n = (if v.tmod n < 0 then (v.tmod n + n).toNat else (v.tmod n).toNat) from rfl)
  generalize placeN v n = P at *
  generalize hN : (n : Int) = N at *
  have h2 : N ≤ 4611686018427387904 := by omega
  rcases Int.lt_or_le (v.tmod N) 0 with h | h
  · have HV := Lib.hid (show (P : Int) = v.tmod N + N by rw [HP.out, if_pos h]; omega)
    clear hN HP
    go_enter Tryz.func14, Tryz.ntmps14
    go_wp2
    go_ret
    exact ⟨by rw [HV.out]; rfl, rfl⟩
  · have HV := Lib.hid (show (P : Int) = v.tmod N by rw [HP.out, if_neg (by omega)]; omega)
    clear hN HP
    go_enter Tryz.func14, Tryz.ntmps14
    go_wp2
    go_ret
    exact ⟨by rw [HV.out]; rfl, rfl⟩
end Go.Proofs.YtbdgoffbkenofaaGreat.Tk
