/- A name with its semicolon is the longest one, whatever stands about it: the plain law. -/
import Derived.Test.YtfjlpekoklmedaaWalkN
namespace Go.Proofs.Ytfjlpekoklmedaa.Ct
open Go Go.RowKit Go.Proofs.Ytfjlpekoklmedaa.Ss

theorem semi_last : ∀ p ∈ rpairs, (59 : UInt8) ∉ p.1.data.toList.dropLast := by decide +kernel
theorem rfind_semi {x : ByteArray} {N R : List UInt8} {r : UInt8} (h : x.data.toList = N ++ 59 :: r :: R) : rfind x = none := by
  cases e : rfind x with
  | none => rfl
  | some v =>
    rw [rfind_is] at e
    refine absurd ?_ (semi_last _ (assoc_mem e))
    show (59 : UInt8) ∈ x.data.toList.dropLast
    rw [h, List.dropLast_append_of_ne_nil (by simp)]
    simp
theorem cut_is (a n b : ByteArray) (m : Nat) : ((a ++ n ++ b).extract a.size (a.size + m)).data.toList = (n.data.toList ++ b.data.toList).take m := by
  rw [ByteArray.data_extract, Array.toList_extract, ByteArray.data_append, ByteArray.data_append, Array.toList_append, Array.toList_append, List.extract_eq_take_drop, List.append_assoc, Nat.add_sub_cancel_left]
  rw [List.drop_left' (show a.data.toList.length = a.size from rfl)]
theorem cut_own (a n b : ByteArray) : (a ++ n ++ b).extract a.size (a.size + n.size) = n := by
  apply ByteArray.ext
  apply Array.ext'
  rw [cut_is]
  have e : n.size = n.data.toList.length := rfl
  rw [e, List.take_left']
  rfl
theorem lon_down (a n b v : ByteArray) (N : List UInt8) (hn : n.data.toList = N ++ [59]) (hv : rfind n = some v) (d : Nat) (h : d ≤ b.size) :
    lon (a ++ n ++ b) a.size (n.size + d) = (n.size, v) := by
  induction d with
  | zero =>
    have e : n.size = n.data.toList.length := rfl
    obtain ⟨j, hj⟩ : ∃ j, n.size = j + 1 := ⟨n.size - 1, by rw [e, hn]; simp⟩
    have := cut_own a n b
    rw [hj] at this
    rw [Nat.add_zero, hj]
    exact lon_hit (by rw [this, hv])
  | succ d ih =>
    have hx := cut_is a n b (n.size + (d + 1))
    have e : n.size = n.data.toList.length := rfl
    have eb : b.size = b.data.toList.length := rfl
    cases hb : b.data.toList with
    | nil => rw [hb] at eb; replace eb : b.size = 0 := eb; omega
    | cons r R =>
      have hm : rfind ((a ++ n ++ b).extract a.size (a.size + (n.size + d + 1))) = none := by
        refine rfind_semi (N := N) (r := r) (R := R.take d) ?_
        rw [show n.size + d + 1 = n.size + (d + 1) by omega, hx, e, hn, hb]
        rw [List.length_append, show N.length + [(59 : UInt8)].length + (d + 1) = (N ++ [59]).length + (d + 1) by rw [List.length_append], List.take_length_add_append, List.take_succ_cons, List.append_assoc]
        rfl
      rw [← Nat.add_assoc, lon_miss hm]
      exact ih (by omega)
end Go.Proofs.Ytfjlpekoklmedaa.Ct
