/- token: plain: comments. -/
import Derived.Test.YtpbdkloohhjapaaGreatTkPb
namespace Go.Proofs.YtpbdkloohhjapaaGreat.Tk
open Go Go.RowKit
set_option linter.unusedVariables false

theorem cEnd1_iff {r : ByteArray} {i : Nat} : cEnd1 r i = true ↔ i + 3 ≤ r.size ∧ bAt r i = 45 ∧ bAt r (i + 1) = 45 ∧ bAt r (i + 2) = 62 := by
  unfold cEnd1
  rw [pre_iff]
  show (3 ≤ _ ∧ ∀ i, i < 3 → _) ↔ _
  rw [all3, ByteArray.size_extract, show bAt ⟨#[45, 45, 62]⟩ 0 = 45 by decide, show bAt ⟨#[45, 45, 62]⟩ 1 = 45 by decide, show bAt ⟨#[45, 45, 62]⟩ 2 = 62 by decide]
  by_cases h : i + 3 ≤ r.size
  · rw [bAt_ext (Nat.le_refl _) (by omega), bAt_ext (Nat.le_refl _) (by omega), bAt_ext (Nat.le_refl _) (by omega)]
    exact ⟨fun x => ⟨h, x.2⟩, fun x => ⟨by omega, x.2⟩⟩
  · exact ⟨fun x => absurd x.1 (by omega), fun x => absurd x.1 h⟩
theorem cEnd2_iff {r : ByteArray} {i : Nat} : cEnd2 r i = true ↔ i + 4 ≤ r.size ∧ bAt r i = 45 ∧ bAt r (i + 1) = 45 ∧ bAt r (i + 2) = 33 ∧ bAt r (i + 3) = 62 := by
  unfold cEnd2
  rw [pre_iff]
  show (4 ≤ _ ∧ ∀ i, i < 4 → _) ↔ _
  rw [all4, ByteArray.size_extract, show bAt ⟨#[45, 45, 33, 62]⟩ 0 = 45 by decide, show bAt ⟨#[45, 45, 33, 62]⟩ 1 = 45 by decide, show bAt ⟨#[45, 45, 33, 62]⟩ 2 = 33 by decide, show bAt ⟨#[45, 45, 33, 62]⟩ 3 = 62 by decide]
  by_cases h : i + 4 ≤ r.size
  · rw [bAt_ext (Nat.le_refl _) (by omega), bAt_ext (Nat.le_refl _) (by omega), bAt_ext (Nat.le_refl _) (by omega), bAt_ext (Nat.le_refl _) (by omega)]
    exact ⟨fun x => ⟨h, x.2⟩, fun x => ⟨by omega, x.2⟩⟩
  · exact ⟨fun x => absurd x.1 (by omega), fun x => absurd x.1 h⟩
theorem suf_iff {r p : ByteArray} : hasSuf r p = true ↔ p.size ≤ r.size ∧ ∀ i, i < p.size → bAt r (r.size - p.size + i) = bAt p i := by
  unfold hasSuf
  rw [Bool.and_eq_true, decide_eq_true_eq, decide_eq_true_eq]
  constructor
  · rintro ⟨h1, h2⟩
    refine ⟨h1, fun i hi => ?_⟩
    have := bAt_ext (x := r) (a := r.size - p.size) (b := r.size) (i := i) (Nat.le_refl _) (by omega)
    rw [h2] at this
    exact this.symm
  · rintro ⟨h1, h2⟩
    refine ⟨h1, ext_bAt (by rw [ByteArray.size_extract]; omega) fun i hi => ?_⟩
    have hi' : i < p.size := by rw [ByteArray.size_extract] at hi; omega
    rw [bAt_ext (Nat.le_refl _) (by omega), h2 i hi']
/-- A comment's text that does not end it. -/
structure NoEnd (a : ByteArray) : Prop where
  ne : 0 < a.size
  gt : bAt a 0 ≠ 62
  da : bAt a 0 ≠ 45
  la : bAt a (a.size - 1) ≠ 45
  no : ∀ i, i + 1 < a.size → ¬ (bAt a i = 45 ∧ bAt a (i + 1) = 45)
theorem calm_no {a r : ByteArray} (h : NoEnd a) (hz : a.size ≤ r.size) (hr : ∀ i, i < a.size → bAt r i = bAt a i) {j : Nat} (hj : j < a.size) : (cEnd1 r j || cEnd2 r j) = false := by
  have key : ¬ (bAt r j = 45 ∧ bAt r (j + 1) = 45) := by
    rintro ⟨h1, h2⟩
    by_cases hl : j + 1 < a.size
    · rw [hr _ hj] at h1; rw [hr _ hl] at h2; exact h.no j hl ⟨h1, h2⟩
    · rw [hr _ hj] at h1
      rw [show j = a.size - 1 by omega] at h1
      exact h.la h1
  rw [Bool.or_eq_false_iff]
  refine ⟨?_, ?_⟩
  · rw [← Bool.not_eq_true, cEnd1_iff]; exact fun x => key ⟨x.2.1, x.2.2.1⟩
  · rw [← Bool.not_eq_true, cEnd2_iff]; exact fun x => key ⟨x.2.1, x.2.2.1⟩
theorem calm_head {a r : ByteArray} (h : NoEnd a) (hr : ∀ i, i < a.size → bAt r i = bAt a i) : Sr.hasPre r ⟨#[62]⟩ = false ∧ Sr.hasPre r ⟨#[45, 62]⟩ = false := by
  refine ⟨?_, ?_⟩
  · rw [← Bool.not_eq_true, pre_iff]
    exact fun x => h.gt ((hr 0 h.ne).symm.trans (x.2 0 (by decide)))
  · rw [← Bool.not_eq_true, pre_iff]
    exact fun x => h.da ((hr 0 h.ne).symm.trans (x.2 0 (by decide)))
theorem calm_found {a s : ByteArray} {k : Nat} (h : NoEnd a) (hz : a.size ≤ s.size - k) (hk : k ≤ s.size) (hs : ∀ i, i < a.size → bAt s (k + i) = bAt a i) :
    (k + a.size + 3 ≤ s.size → bAt s (k + a.size) = 45 → bAt s (k + a.size + 1) = 45 → bAt s (k + a.size + 2) = 62 → commentP s k = (commTok a, k + a.size + 3, true)) ∧
    (k + a.size + 4 ≤ s.size → bAt s (k + a.size) = 45 → bAt s (k + a.size + 1) = 45 → bAt s (k + a.size + 2) = 33 → bAt s (k + a.size + 3) = 62 → commentP s k = (commTok a, k + a.size + 4, true)) ∧
    (k + a.size + 2 = s.size → bAt s (k + a.size) = 45 → bAt s (k + a.size + 1) = 45 → commentP s k = (commTok a, s.size, true)) := by
  have hrz : (s.extract k s.size).size = s.size - k := by rw [ByteArray.size_extract]; omega
  have hrb : ∀ i, k + i < s.size → bAt (s.extract k s.size) i = bAt s (k + i) := fun i hi => bAt_ext (Nat.le_refl _) hi
  unfold commentP
  dsimp only
  generalize s.extract k s.size = r at *
  have hr : ∀ i, i < a.size → bAt r i = bAt a i := fun i hi => (hrb i (by omega)).trans (hs i hi)
  obtain ⟨p1, p2⟩ := calm_head h hr
  have hno : ∀ j, j < a.size → (cEnd1 r j || cEnd2 r j) = false := fun j hj => calm_no h (by omega) hr hj
  have hx : r.extract 0 a.size = a := ext_bAt (by rw [ByteArray.size_extract]; omega) fun i hi => by
    have hi' : i < a.size := by rw [ByteArray.size_extract] at hi; omega
    rw [bAt_ext (by omega) (by omega), Nat.zero_add, hr i hi']
  rw [if_neg (by rw [p1]; decide), if_neg (by rw [p2]; decide)]
  refine ⟨fun h1 h2 h3 h4 => ?_, fun h1 h2 h3 h4 h5 => ?_, fun h1 h2 h3 => ?_⟩
  · have c1 : cEnd1 r a.size = true := cEnd1_iff.2 ⟨by omega, (hrb _ (by omega)).trans h2, (hrb _ (by omega)).trans h3, (hrb _ (by omega)).trans h4⟩
    have e : upI (fun i => cEnd1 r i || cEnd2 r i) r.size 0 = a.size := upI_eq (Nat.zero_le _) (by omega) (fun j _ hj => hno j hj) (fun _ => by show (cEnd1 r a.size || cEnd2 r a.size) = true; rw [c1]; rfl)
    rw [e, if_pos (by omega), if_pos c1, hx]
  · have c1 : cEnd1 r a.size = false := by
      rw [← Bool.not_eq_true, cEnd1_iff]
      rintro ⟨_, _, _, x⟩
      rw [hrb _ (by omega)] at x
      have : bAt s (k + (a.size + 2)) = 33 := h4
      omega
    have c2 : cEnd2 r a.size = true := cEnd2_iff.2 ⟨by omega, (hrb _ (by omega)).trans h2, (hrb _ (by omega)).trans h3, (hrb _ (by omega)).trans h4, (hrb _ (by omega)).trans h5⟩
    have e : upI (fun i => cEnd1 r i || cEnd2 r i) r.size 0 = a.size := upI_eq (Nat.zero_le _) (by omega) (fun j _ hj => hno j hj) (fun _ => by show (cEnd1 r a.size || cEnd2 r a.size) = true; rw [c2, Bool.or_true])
    rw [e, if_pos (by omega), if_neg (by rw [c1]; decide), hx]
  · have e : upI (fun i => cEnd1 r i || cEnd2 r i) r.size 0 = r.size := by
      refine upI_eq (Nat.zero_le _) (by omega) (fun j _ hj => ?_) (fun x => absurd x (by omega))
      by_cases hj2 : j < a.size
      · exact hno j hj2
      · show (cEnd1 r j || cEnd2 r j) = false
        rw [Bool.or_eq_false_iff]
        refine ⟨?_, ?_⟩
        · rw [← Bool.not_eq_true, cEnd1_iff]; exact fun x => by have := x.1; omega
        · rw [← Bool.not_eq_true, cEnd2_iff]; exact fun x => by have := x.1; omega
    have s1 : hasSuf r ⟨#[45, 45, 33]⟩ = false := by
      rw [← Bool.not_eq_true, suf_iff]
      rintro ⟨x1, x2⟩
      have x3 := x2 2 (by decide)
      rw [show bAt ⟨#[45, 45, 33]⟩ 2 = 33 by decide, show (⟨#[45, 45, 33]⟩ : ByteArray).size = 3 from rfl] at x3
      rw [show (⟨#[45, 45, 33]⟩ : ByteArray).size = 3 from rfl] at x1
      rw [show r.size - 3 + 2 = a.size + 1 by omega, hrb _ (by omega)] at x3
      have : bAt s (k + (a.size + 1)) = 45 := h3
      omega
    have s2 : hasSuf r ⟨#[45, 45]⟩ = true := by
      rw [suf_iff]
      show 2 ≤ r.size ∧ ∀ i, i < 2 → bAt r (r.size - 2 + i) = _
      rw [all2]
      refine ⟨by omega, ?_, ?_⟩
      · rw [show r.size - 2 + 0 = a.size by omega, hrb _ (by omega), h2]; decide
      · rw [show r.size - 2 + 1 = a.size + 1 by omega, hrb _ (by omega)]
        exact Eq.trans h3 (by decide)
    rw [e, if_neg (Nat.lt_irrefl _), if_neg (by rw [s1]; decide), if_pos s2, show r.size - 2 = a.size by omega, hx]
/-- The three sources of TokenComments. -/
theorem comments {a : ByteArray} (b : ByteArray) (h : NoEnd a) :
    nextP ((((⟨#[60, 33, 45, 45]⟩ : ByteArray) ++ a) ++ ⟨#[45, 45, 62]⟩) ++ b) 0 ⟨#[]⟩ = (commTok a, 7 + a.size, true) ∧
    nextP ((((⟨#[60, 33, 45, 45]⟩ : ByteArray) ++ a) ++ ⟨#[45, 45, 33, 62]⟩) ++ b) 0 ⟨#[]⟩ = (commTok a, 8 + a.size, true) ∧
    nextP (((⟨#[60, 33, 45, 45]⟩ : ByteArray) ++ a) ++ ⟨#[45, 45]⟩) 0 ⟨#[]⟩ = (commTok a, 6 + a.size, true) := by
  have z0 : (⟨#[60, 33, 45, 45]⟩ : ByteArray).size = 4 := rfl
  have z1 : (⟨#[45, 45, 62]⟩ : ByteArray).size = 3 := rfl
  have z2 : (⟨#[45, 45, 33, 62]⟩ : ByteArray).size = 4 := rfl
  have z3 : (⟨#[45, 45]⟩ : ByteArray).size = 2 := rfl
  refine ⟨?_, ?_, ?_⟩
  · have zs : ((((⟨#[60, 33, 45, 45]⟩ : ByteArray) ++ a) ++ ⟨#[45, 45, 62]⟩) ++ b).size = 7 + a.size + b.size := by simp only [ByteArray.size_append, z0, z1]; omega
    have hb : ∀ i, i < 4 + a.size + 3 → bAt ((((⟨#[60, 33, 45, 45]⟩ : ByteArray) ++ a) ++ ⟨#[45, 45, 62]⟩) ++ b) i = bAt (((⟨#[60, 33, 45, 45]⟩ : ByteArray) ++ a) ++ ⟨#[45, 45, 62]⟩) i := fun i hi => bAt_l (by simp only [ByteArray.size_append, z0, z1]; omega)
    have h4 : ∀ i, i < 4 → bAt ((((⟨#[60, 33, 45, 45]⟩ : ByteArray) ++ a) ++ ⟨#[45, 45, 62]⟩) ++ b) i = bAt ⟨#[60, 33, 45, 45]⟩ i := fun i hi => by
      rw [hb i (by omega), bAt_l (by simp only [ByteArray.size_append, z0]; omega), bAt_l (by omega)]
    have ha : ∀ i, i < a.size → bAt ((((⟨#[60, 33, 45, 45]⟩ : ByteArray) ++ a) ++ ⟨#[45, 45, 62]⟩) ++ b) (4 + i) = bAt a i := fun i hi => by
      rw [hb _ (by omega), bAt_l (by simp only [ByteArray.size_append, z0]; omega), bAt_r (by omega), z0, Nat.add_sub_cancel_left]
    have he : ∀ i, i < 3 → bAt ((((⟨#[60, 33, 45, 45]⟩ : ByteArray) ++ a) ++ ⟨#[45, 45, 62]⟩) ++ b) (4 + a.size + i) = bAt ⟨#[45, 45, 62]⟩ i := fun i hi => by
      rw [hb _ (by omega), bAt_r (by simp only [ByteArray.size_append, z0]; omega), show (((⟨#[60, 33, 45, 45]⟩ : ByteArray) ++ a)).size = 4 + a.size by simp only [ByteArray.size_append, z0], Nat.add_sub_cancel_left]
    generalize (((⟨#[60, 33, 45, 45]⟩ : ByteArray) ++ a) ++ ⟨#[45, 45, 62]⟩) ++ b = s at *
    rw [next_comment (st_comment.2 ⟨by omega, h4 0 (by decide), h4 1 (by decide), h4 2 (by decide), h4 3 (by decide)⟩)]
    rw [(calm_found h (k := 0 + 4) (by omega) (by omega) (by simpa using ha)).1 (by omega) (he 0 (by decide)) (he 1 (by decide)) (he 2 (by decide))]
    rw [show 0 + 4 + a.size + 3 = 7 + a.size by omega]
  · have zs : ((((⟨#[60, 33, 45, 45]⟩ : ByteArray) ++ a) ++ ⟨#[45, 45, 33, 62]⟩) ++ b).size = 8 + a.size + b.size := by simp only [ByteArray.size_append, z0, z2]; omega
    have hb : ∀ i, i < 4 + a.size + 4 → bAt ((((⟨#[60, 33, 45, 45]⟩ : ByteArray) ++ a) ++ ⟨#[45, 45, 33, 62]⟩) ++ b) i = bAt (((⟨#[60, 33, 45, 45]⟩ : ByteArray) ++ a) ++ ⟨#[45, 45, 33, 62]⟩) i := fun i hi => bAt_l (by simp only [ByteArray.size_append, z0, z2]; omega)
    have h4 : ∀ i, i < 4 → bAt ((((⟨#[60, 33, 45, 45]⟩ : ByteArray) ++ a) ++ ⟨#[45, 45, 33, 62]⟩) ++ b) i = bAt ⟨#[60, 33, 45, 45]⟩ i := fun i hi => by
      rw [hb i (by omega), bAt_l (by simp only [ByteArray.size_append, z0]; omega), bAt_l (by omega)]
    have ha : ∀ i, i < a.size → bAt ((((⟨#[60, 33, 45, 45]⟩ : ByteArray) ++ a) ++ ⟨#[45, 45, 33, 62]⟩) ++ b) (4 + i) = bAt a i := fun i hi => by
      rw [hb _ (by omega), bAt_l (by simp only [ByteArray.size_append, z0]; omega), bAt_r (by omega), z0, Nat.add_sub_cancel_left]
    have he : ∀ i, i < 4 → bAt ((((⟨#[60, 33, 45, 45]⟩ : ByteArray) ++ a) ++ ⟨#[45, 45, 33, 62]⟩) ++ b) (4 + a.size + i) = bAt ⟨#[45, 45, 33, 62]⟩ i := fun i hi => by
      rw [hb _ (by omega), bAt_r (by simp only [ByteArray.size_append, z0]; omega), show (((⟨#[60, 33, 45, 45]⟩ : ByteArray) ++ a)).size = 4 + a.size by simp only [ByteArray.size_append, z0], Nat.add_sub_cancel_left]
    generalize (((⟨#[60, 33, 45, 45]⟩ : ByteArray) ++ a) ++ ⟨#[45, 45, 33, 62]⟩) ++ b = s at *
    rw [next_comment (st_comment.2 ⟨by omega, h4 0 (by decide), h4 1 (by decide), h4 2 (by decide), h4 3 (by decide)⟩)]
    rw [(calm_found h (k := 0 + 4) (by omega) (by omega) (by simpa using ha)).2.1 (by omega) (he 0 (by decide)) (he 1 (by decide)) (he 2 (by decide)) (he 3 (by decide))]
    rw [show 0 + 4 + a.size + 4 = 8 + a.size by omega]
  · have zs : (((⟨#[60, 33, 45, 45]⟩ : ByteArray) ++ a) ++ ⟨#[45, 45]⟩).size = 6 + a.size := by simp only [ByteArray.size_append, z0, z3]; omega
    have h4 : ∀ i, i < 4 → bAt (((⟨#[60, 33, 45, 45]⟩ : ByteArray) ++ a) ++ ⟨#[45, 45]⟩) i = bAt ⟨#[60, 33, 45, 45]⟩ i := fun i hi => by
      rw [bAt_l (by simp only [ByteArray.size_append, z0]; omega), bAt_l (by omega)]
    have ha : ∀ i, i < a.size → bAt (((⟨#[60, 33, 45, 45]⟩ : ByteArray) ++ a) ++ ⟨#[45, 45]⟩) (4 + i) = bAt a i := fun i hi => by
      rw [bAt_l (by simp only [ByteArray.size_append, z0]; omega), bAt_r (by omega), z0, Nat.add_sub_cancel_left]
    have he : ∀ i, i < 2 → bAt (((⟨#[60, 33, 45, 45]⟩ : ByteArray) ++ a) ++ ⟨#[45, 45]⟩) (4 + a.size + i) = bAt ⟨#[45, 45]⟩ i := fun i hi => by
      rw [bAt_r (by simp only [ByteArray.size_append, z0]; omega), show (((⟨#[60, 33, 45, 45]⟩ : ByteArray) ++ a)).size = 4 + a.size by simp only [ByteArray.size_append, z0], Nat.add_sub_cancel_left]
    generalize ((⟨#[60, 33, 45, 45]⟩ : ByteArray) ++ a) ++ ⟨#[45, 45]⟩ = s at *
    rw [next_comment (st_comment.2 ⟨by omega, h4 0 (by decide), h4 1 (by decide), h4 2 (by decide), h4 3 (by decide)⟩)]
    rw [(calm_found h (k := 0 + 4) (by omega) (by omega) (by simpa using ha)).2.2 (by omega) (he 0 (by decide)) (he 1 (by decide)), zs]
end Go.Proofs.YtpbdkloohhjapaaGreat.Tk
