/- token: plain: doctypes. -/
import Derived.Test.YtpbdkloohhjapaaGreatTkPh
namespace Go.Proofs.YtpbdkloohhjapaaGreat.Tk
open Go Go.RowKit
set_option linter.unusedVariables false

theorem doctypes {g n rest want : ByteArray} (hg : ∀ i, i < g.size → blankN (bAt g i) = true) (hn0 : 0 < n.size) (hn : ∀ i, i < n.size → (blankN (bAt n i) || decide (bAt n i = 62)) = false) (hw : lowS n = want) (hr : ∀ i, i < rest.size → bAt rest i ≠ 62) :
    nextP (((((((⟨#[60, 33, 68, 111, 99, 84, 121, 112, 101]⟩ : ByteArray) ++ g) ++ n) ++ ⟨#[32]⟩) ++ rest) ++ ⟨#[62]⟩) ++ ⟨#[98]⟩) 0 ⟨#[]⟩ = (⟨5, want, ⟨#[]⟩, [], false⟩, 11 + g.size + n.size + rest.size, true) := by
  have zl : (⟨#[60, 33, 68, 111, 99, 84, 121, 112, 101]⟩ : ByteArray).size = 9 := rfl
  have z1 : (⟨#[32]⟩ : ByteArray).size = 1 := rfl
  have z2 : (⟨#[62]⟩ : ByteArray).size = 1 := rfl
  have z3 : (⟨#[98]⟩ : ByteArray).size = 1 := rfl
  have B0 := (((((has_l (⟨#[60, 33, 68, 111, 99, 84, 121, 112, 101]⟩ : ByteArray) g).l n).l ⟨#[32]⟩).l rest).l ⟨#[62]⟩).l ⟨#[98]⟩
  have B1 := (((((has_r (⟨#[60, 33, 68, 111, 99, 84, 121, 112, 101]⟩ : ByteArray) g).l n).l ⟨#[32]⟩).l rest).l ⟨#[62]⟩).l ⟨#[98]⟩
  have B2 := ((((has_r ((⟨#[60, 33, 68, 111, 99, 84, 121, 112, 101]⟩ : ByteArray) ++ g) n).l ⟨#[32]⟩).l rest).l ⟨#[62]⟩).l ⟨#[98]⟩
  have B3 := (((has_r (((⟨#[60, 33, 68, 111, 99, 84, 121, 112, 101]⟩ : ByteArray) ++ g) ++ n) ⟨#[32]⟩).l rest).l ⟨#[62]⟩).l ⟨#[98]⟩
  have B4 := ((has_r ((((⟨#[60, 33, 68, 111, 99, 84, 121, 112, 101]⟩ : ByteArray) ++ g) ++ n) ++ ⟨#[32]⟩) rest).l ⟨#[62]⟩).l ⟨#[98]⟩
  have B5 := (has_r (((((⟨#[60, 33, 68, 111, 99, 84, 121, 112, 101]⟩ : ByteArray) ++ g) ++ n) ++ ⟨#[32]⟩) ++ rest) ⟨#[62]⟩).l ⟨#[98]⟩
  have zs : (((((((⟨#[60, 33, 68, 111, 99, 84, 121, 112, 101]⟩ : ByteArray) ++ g) ++ n) ++ ⟨#[32]⟩) ++ rest) ++ ⟨#[62]⟩) ++ ⟨#[98]⟩).size = 12 + g.size + n.size + rest.size := by simp only [ByteArray.size_append, zl, z1, z2, z3]; omega
  simp only [ByteArray.size_append, zl, z1] at B1 B2 B3 B4 B5
  generalize ((((((⟨#[60, 33, 68, 111, 99, 84, 121, 112, 101]⟩ : ByteArray) ++ g) ++ n) ++ ⟨#[32]⟩) ++ rest) ++ ⟨#[62]⟩) ++ ⟨#[98]⟩ = s at *
  have hst : startsP s 0 ⟨#[60, 33, 100, 111, 99, 116, 121, 112, 101]⟩ = true := by
    have q := fun i (hi : i < 9) => B0.at_ i hi
    refine st_doctype.2 ⟨by omega, ?_, ?_, ?_, ?_, ?_, ?_, ?_, ?_, ?_⟩
    · exact (q 0 (by decide)).trans (by decide)
    · exact (q 1 (by decide)).trans (by decide)
    · exact (congrArg lowN (q 2 (by decide))).trans (by decide)
    · exact (congrArg lowN (q 3 (by decide))).trans (by decide)
    · exact (congrArg lowN (q 4 (by decide))).trans (by decide)
    · exact (congrArg lowN (q 5 (by decide))).trans (by decide)
    · exact (congrArg lowN (q 6 (by decide))).trans (by decide)
    · exact (congrArg lowN (q 7 (by decide))).trans (by decide)
    · exact (congrArg lowN (q 8 (by decide))).trans (by decide)
  rw [next_doctype hst]
  have p1 : pastP s (0 + 9) = 9 + g.size := by
    refine upT_eq (by omega) (by omega) (fun j h1 h2 => ?_) (fun _ => ?_)
    · rw [B1.one (i := j - 9) (by omega) (by omega), hg _ (by omega)]; rfl
    · have h := hn 0 hn0
      rw [Bool.or_eq_false_iff] at h
      rw [B2.one (i := 0) hn0 (by omega), h.1]; rfl
  have p2 : upT (fun c => blankN c || decide (c = 62)) s (9 + g.size) = 9 + g.size + n.size := by
    refine upT_eq (by omega) (by omega) (fun j h1 h2 => ?_) (fun _ => ?_)
    · rw [B2.one (i := j - (9 + g.size)) (by omega) (by omega)]; exact hn _ (by omega)
    · rw [B3.one (i := 0) (by decide) (by omega)]; decide
  have p3 : closedEnd s (9 + g.size + n.size) = 10 + g.size + n.size + rest.size := by
    refine upT_eq (by omega) (by omega) (fun j h1 h2 => ?_) (fun _ => ?_)
    · by_cases hj : j = 9 + g.size + n.size
      · rw [B3.one (i := 0) (by decide) (by omega)]; decide
      · rw [B4.one (i := j - (10 + g.size + n.size)) (by omega) (by omega)]
        exact decide_eq_false (hr _ (by omega))
    · rw [B5.one (i := 0) (by decide) (by omega)]; decide
  unfold doctypeP
  dsimp only
  rw [p1, p2, p3, B2.ext, hw, show min (10 + g.size + n.size + rest.size + 1) s.size = 11 + g.size + n.size + rest.size by omega]
end Go.Proofs.YtpbdkloohhjapaaGreat.Tk
