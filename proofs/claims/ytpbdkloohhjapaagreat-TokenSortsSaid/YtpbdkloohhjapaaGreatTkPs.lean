/- token: plain: a text is cut where blanks begin or end. -/
import Derived.Test.YtpbdkloohhjapaaGreatTkPo
import Derived.Test.YtpbdkloohhjapaaGreatTkPg
import Derived.Test.YtpbdkloohhjapaaGreatTkPh
namespace Go.Proofs.YtpbdkloohhjapaaGreat.Tk
open Go Go.RowKit
set_option linter.unusedVariables false

def cutP (s : ByteArray) (p : Nat) : Nat := upT (fun c => decide (c = 60) || (blankN c != blankN (bAt s p))) s p
/-- The piece of a text without ampersands and tags. -/
structure CutR (s : ByteArray) (p e : Nat) : Prop where
  gt : p < e
  le : e ≤ s.size
  nx : nextP s p ⟨#[]⟩ = (textTok (s.extract p e) false, e, true)
  in_ : ∀ i, p ≤ i → i < e → blankN (bAt s i) = blankN (bAt s p)
  out_ : e < s.size → blankN (bAt s e) ≠ blankN (bAt s p)
theorem cuts {s : ByteArray} (h : ∀ i, i < s.size → bAt s i ≠ 38 ∧ bAt s i ≠ 60) {p : Nat} (hp : p < s.size) : CutR s p (cutP s p) := by
  have h60 := (h p hp).2
  have g := next_goes s ⟨#[]⟩ p hp
  have hn := next_text hp h60
  rw [hn] at g
  have gt : p < cutP s p := g.gt
  have le : cutP s p ≤ s.size := g.le
  refine ⟨gt, le, ?_, fun i h1 h2 => ?_, fun h1 => ?_⟩
  · rw [hn]
    show (textTok (Ch.decB (s.extract p (cutP s p)) false) false, cutP s p, true) = _
    rw [decB_own fun i hi => by
      rw [ByteArray.size_extract] at hi
      rw [bAt_ext le (by omega)]
      exact (h _ (by omega)).1]
  · have := upI_before (fun i => decide (bAt s i = 60) || (blankN (bAt s i) != blankN (bAt s p))) (s.size - p) p i h1 h2
    rw [Bool.or_eq_false_iff] at this
    simpa using this.2
  · have : (decide (bAt s (cutP s p) = 60) || (blankN (bAt s (cutP s p)) != blankN (bAt s p))) = true := upT_at (p := fun c => decide (c = 60) || (blankN c != blankN (bAt s p))) h1 (Nat.le_of_lt hp)
    rw [decide_eq_false (h _ h1).2] at this
    have h3 : (blankN (bAt s (cutP s p)) != blankN (bAt s p)) = true := this
    intro e
    rw [e] at h3
    simp at h3
theorem glue (s : ByteArray) {p e : Nat} (h : p ≤ e) (he : e ≤ s.size) : s.extract 0 p ++ s.extract p e = s.extract 0 e := by
  refine ext_bAt (by simp only [ByteArray.size_append, ByteArray.size_extract]; omega) fun i hi => ?_
  simp only [ByteArray.size_append, ByteArray.size_extract] at hi
  have e1 : bAt (s.extract 0 e) i = bAt s i := by rw [bAt_ext he (by omega), Nat.zero_add]
  rw [e1, bAt_app, ByteArray.size_extract]
  by_cases c : i < p
  · rw [if_pos (by omega), bAt_ext (by omega) (by omega), Nat.zero_add]
  · rw [if_neg (by omega), bAt_ext he (by omega)]
    congr 1; omega
theorem all_ext (s : ByteArray) : s.extract 0 s.size = s := ext_bAt (by rw [ByteArray.size_extract]; omega) fun i hi => by
  rw [ByteArray.size_extract] at hi
  rw [bAt_ext (Nat.le_refl _) (by omega), Nat.zero_add]
end Go.Proofs.YtpbdkloohhjapaaGreat.Tk
