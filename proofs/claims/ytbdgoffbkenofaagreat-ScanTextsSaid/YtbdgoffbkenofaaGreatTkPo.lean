/- token: plain: a text without an ampersand is decoded as it is. -/
import Derived.Test.YtbdgoffbkenofaaGreatTkPb
namespace Go.Proofs.YtbdgoffbkenofaaGreat.Tk
open Go Go.RowKit
set_option linter.unusedVariables false

theorem decK_own (s : ByteArray) (attr : Bool) (h : ∀ i, i < s.size → bAt s i ≠ 38) : ∀ n k, k + n = s.size → Ch.decK s attr k = s.data.toList.drop k
  | 0, k, hk => by rw [Ch.decK_end (by omega), List.drop_eq_nil_of_le (show s.data.toList.length ≤ k by show s.size ≤ k; omega)]
  | n + 1, k, hk => by
    have hlt : k < s.size := by omega
    have e : s.data.toList.drop k = s[k] :: s.data.toList.drop (k + 1) := List.drop_eq_getElem_cons (show k < s.data.toList.length from hlt)
    rw [Ch.decK_one hlt (by rw [← bAt_in hlt]; exact h k hlt), decK_own s attr h n (k + 1) (by omega), e]
theorem decB_own {s : ByteArray} {attr : Bool} (h : ∀ i, i < s.size → bAt s i ≠ 38) : Ch.decB s attr = s := by
  apply Sr.bytes_eq.1
  unfold Ch.decB
  rw [decK_own s attr h s.size 0 (by omega)]
  simp
end Go.Proofs.YtbdgoffbkenofaaGreat.Tk
