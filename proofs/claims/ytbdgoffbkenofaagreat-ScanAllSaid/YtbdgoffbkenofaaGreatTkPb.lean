/- token: plain: bytes of joined texts; which piece begins at a place. -/
import Derived.Test.YtbdgoffbkenofaaGreatTkp
namespace Go.Proofs.YtbdgoffbkenofaaGreat.Tk
open Go Go.RowKit
set_option linter.unusedVariables false

theorem bAt_out {s : ByteArray} {i : Nat} (h : s.size ≤ i) : bAt s i = 0 := by unfold bAt; rw [dif_neg (by omega)]
theorem bAt_app (x y : ByteArray) (i : Nat) : bAt (x ++ y) i = if i < x.size then bAt x i else bAt y (i - x.size) := by
  by_cases h : i < x.size
  · rw [if_pos h, bAt_in h, bAt_in (by rw [ByteArray.size_append]; omega), ByteArray.getElem_append_left h]
  · rw [if_neg h]
    by_cases h2 : i < x.size + y.size
    · rw [bAt_in (by rw [ByteArray.size_append]; omega), bAt_in (by omega), ByteArray.getElem_append_right (by omega)]
    · rw [bAt_out (by rw [ByteArray.size_append]; omega), bAt_out (by omega)]
theorem bAt_l {x y : ByteArray} {i : Nat} (h : i < x.size) : bAt (x ++ y) i = bAt x i := by rw [bAt_app, if_pos h]
theorem bAt_r {x y : ByteArray} {i : Nat} (h : x.size ≤ i) : bAt (x ++ y) i = bAt y (i - x.size) := by rw [bAt_app, if_neg (by omega)]
theorem bAt_ext {x : ByteArray} {a b i : Nat} (hb : b ≤ x.size) (hi : a + i < b) : bAt (x.extract a b) i = bAt x (a + i) := by
  rw [bAt_in (by rw [ByteArray.size_extract]; omega), bAt_in (by omega), ByteArray.getElem_extract]
theorem ext_bAt {x y : ByteArray} (hs : x.size = y.size) (h : ∀ i, i < x.size → bAt x i = bAt y i) : x = y := by
  refine ByteArray.ext_getElem hs fun i h1 h2 => ?_
  have := h i h1
  rw [bAt_in h1, bAt_in h2] at this
  exact UInt8.toNat_inj.1 this
def lowN (c : Nat) : Nat := if 65 ≤ c ∧ c ≤ 90 then c + 32 else c
theorem lowN_lit {c v : Nat} (hv : v < 65 ∨ (90 < v ∧ v < 97) ∨ 122 < v) : lowN c = v ↔ c = v := by unfold lowN; split <;> omega
theorem bAt_low (s : ByteArray) (i : Nat) : bAt (lowS s) i = lowN (bAt s i) := by
  by_cases h : i < s.size
  · rw [bAt_in (by rw [lowS_size]; exact h), bAt_in h]
    have e : (lowS s)[i]'(by rw [lowS_size]; exact h) = Ru.lowB s[i] := by
      show (Ru.lower s.data.toList).toArray[i]'_ = _
      simp [Ru.lower]
      rfl
    rw [e, Ru.lowB_nat]; rfl
  · rw [bAt_out (by rw [lowS_size]; omega), bAt_out (by omega)]; rfl
theorem starts_iff {s t : ByteArray} {a : Nat} : startsP s a t = true ↔ a + t.size ≤ s.size ∧ ∀ i, i < t.size → lowN (bAt s (a + i)) = lowN (bAt t i) := by
  unfold startsP
  rw [Bool.and_eq_true, decide_eq_true_eq, decide_eq_true_eq]
  constructor
  · rintro ⟨h1, h2⟩
    refine ⟨h1, fun i hi => ?_⟩
    rw [← bAt_low t, ← h2, bAt_low, bAt_ext h1 (by omega)]
  · rintro ⟨h1, h2⟩
    refine ⟨h1, ext_bAt (by rw [lowS_size, lowS_size, ByteArray.size_extract]; omega) fun i hi => ?_⟩
    have hi' : i < t.size := by rw [lowS_size, ByteArray.size_extract] at hi; omega
    rw [bAt_low, bAt_low, bAt_ext h1 (by omega), h2 i hi']
theorem pre_iff {s p : ByteArray} : Sr.hasPre s p = true ↔ p.size ≤ s.size ∧ ∀ i, i < p.size → bAt s i = bAt p i := by
  unfold Sr.hasPre
  rw [Bool.and_eq_true, decide_eq_true_eq, decide_eq_true_eq]
  constructor
  · rintro ⟨h1, h2⟩
    refine ⟨h1, fun i hi => ?_⟩
    have := bAt_ext (a := 0) (i := i) h1 (by omega)
    rw [h2, Nat.zero_add] at this
    exact this.symm
  · rintro ⟨h1, h2⟩
    refine ⟨h1, ext_bAt (by rw [ByteArray.size_extract]; omega) fun i hi => ?_⟩
    have hi' : i < p.size := by rw [ByteArray.size_extract] at hi; omega
    rw [bAt_ext h1 (by omega), Nat.zero_add, h2 i hi']
theorem all2 {p : Nat → Prop} : (∀ i, i < 2 → p i) ↔ p 0 ∧ p 1 := by
  refine ⟨fun h => ⟨h 0 (by decide), h 1 (by decide)⟩, fun ⟨h0, h1⟩ i hi => ?_⟩
  match i, hi with | 0, _ => exact h0 | 1, _ => exact h1
theorem all3 {p : Nat → Prop} : (∀ i, i < 3 → p i) ↔ p 0 ∧ p 1 ∧ p 2 := by
  refine ⟨fun h => ⟨h 0 (by decide), h 1 (by decide), h 2 (by decide)⟩, fun ⟨h0, h1, h2⟩ i hi => ?_⟩
  match i, hi with | 0, _ => exact h0 | 1, _ => exact h1 | 2, _ => exact h2
theorem all4 {p : Nat → Prop} : (∀ i, i < 4 → p i) ↔ p 0 ∧ p 1 ∧ p 2 ∧ p 3 := by
  refine ⟨fun h => ⟨h 0 (by decide), h 1 (by decide), h 2 (by decide), h 3 (by decide)⟩, fun ⟨h0, h1, h2, h3⟩ i hi => ?_⟩
  match i, hi with | 0, _ => exact h0 | 1, _ => exact h1 | 2, _ => exact h2 | 3, _ => exact h3
theorem all9 {p : Nat → Prop} : (∀ i, i < 9 → p i) ↔ p 0 ∧ p 1 ∧ p 2 ∧ p 3 ∧ p 4 ∧ p 5 ∧ p 6 ∧ p 7 ∧ p 8 := by
  refine ⟨fun h => ⟨h 0 (by decide), h 1 (by decide), h 2 (by decide), h 3 (by decide), h 4 (by decide), h 5 (by decide), h 6 (by decide), h 7 (by decide), h 8 (by decide)⟩, fun ⟨h0, h1, h2, h3, h4, h5, h6, h7, h8⟩ i hi => ?_⟩
  match i, hi with | 0, _ => exact h0 | 1, _ => exact h1 | 2, _ => exact h2 | 3, _ => exact h3 | 4, _ => exact h4 | 5, _ => exact h5 | 6, _ => exact h6 | 7, _ => exact h7 | 8, _ => exact h8
/-! ### What begins at a place -/
theorem st_close {s : ByteArray} {a : Nat} : startsP s a ⟨#[60, 47]⟩ = true ↔ a + 2 ≤ s.size ∧ bAt s a = 60 ∧ bAt s (a + 1) = 47 := by
  rw [starts_iff]
  show (a + 2 ≤ s.size ∧ ∀ i, i < 2 → _) ↔ _
  rw [all2, show lowN (bAt ⟨#[60, 47]⟩ 0) = 60 by decide, show lowN (bAt ⟨#[60, 47]⟩ 1) = 47 by decide, lowN_lit (by decide), lowN_lit (by decide)]
  exact Iff.rfl
theorem st_comment {s : ByteArray} {a : Nat} : startsP s a ⟨#[60, 33, 45, 45]⟩ = true ↔ a + 4 ≤ s.size ∧ bAt s a = 60 ∧ bAt s (a + 1) = 33 ∧ bAt s (a + 2) = 45 ∧ bAt s (a + 3) = 45 := by
  rw [starts_iff]
  show (a + 4 ≤ s.size ∧ ∀ i, i < 4 → _) ↔ _
  rw [all4, show lowN (bAt ⟨#[60, 33, 45, 45]⟩ 0) = 60 by decide, show lowN (bAt ⟨#[60, 33, 45, 45]⟩ 1) = 33 by decide, show lowN (bAt ⟨#[60, 33, 45, 45]⟩ 2) = 45 by decide, show lowN (bAt ⟨#[60, 33, 45, 45]⟩ 3) = 45 by decide, lowN_lit (by decide), lowN_lit (by decide), lowN_lit (by decide), lowN_lit (by decide)]
  exact Iff.rfl
theorem st_doctype {s : ByteArray} {a : Nat} : startsP s a ⟨#[60, 33, 100, 111, 99, 116, 121, 112, 101]⟩ = true ↔ a + 9 ≤ s.size ∧ bAt s a = 60 ∧ bAt s (a + 1) = 33 ∧ lowN (bAt s (a + 2)) = 100 ∧ lowN (bAt s (a + 3)) = 111 ∧ lowN (bAt s (a + 4)) = 99 ∧ lowN (bAt s (a + 5)) = 116 ∧ lowN (bAt s (a + 6)) = 121 ∧ lowN (bAt s (a + 7)) = 112 ∧ lowN (bAt s (a + 8)) = 101 := by
  rw [starts_iff]
  show (a + 9 ≤ s.size ∧ ∀ i, i < 9 → _) ↔ _
  rw [all9, show lowN (bAt ⟨#[60, 33, 100, 111, 99, 116, 121, 112, 101]⟩ 0) = 60 by decide, show lowN (bAt ⟨#[60, 33, 100, 111, 99, 116, 121, 112, 101]⟩ 1) = 33 by decide, show lowN (bAt ⟨#[60, 33, 100, 111, 99, 116, 121, 112, 101]⟩ 2) = 100 by decide, show lowN (bAt ⟨#[60, 33, 100, 111, 99, 116, 121, 112, 101]⟩ 3) = 111 by decide, show lowN (bAt ⟨#[60, 33, 100, 111, 99, 116, 121, 112, 101]⟩ 4) = 99 by decide, show lowN (bAt ⟨#[60, 33, 100, 111, 99, 116, 121, 112, 101]⟩ 5) = 116 by decide, show lowN (bAt ⟨#[60, 33, 100, 111, 99, 116, 121, 112, 101]⟩ 6) = 121 by decide, show lowN (bAt ⟨#[60, 33, 100, 111, 99, 116, 121, 112, 101]⟩ 7) = 112 by decide, show lowN (bAt ⟨#[60, 33, 100, 111, 99, 116, 121, 112, 101]⟩ 8) = 101 by decide, lowN_lit (v := 60) (by decide), lowN_lit (v := 33) (by decide)]
  exact Iff.rfl
theorem not_st {s t : ByteArray} {a : Nat} (h : ¬ startsP s a t = true) : startsP s a t = false := by rwa [Bool.not_eq_true] at h
theorem letter_at {s : ByteArray} {i : Nat} : letterAt s i = true ↔ i < s.size ∧ letterN (bAt s i) = true := by
  unfold letterAt; rw [Bool.and_eq_true, decide_eq_true_eq]
theorem next_text {s : ByteArray} {a : Nat} (ha : a < s.size) (h : bAt s a ≠ 60) : nextP s a ⟨#[]⟩ = (textTok (Ch.decB (s.extract a (upT (fun c => decide (c = 60) || (blankN c != blankN (bAt s a))) s a)) false) false, upT (fun c => decide (c = 60) || (blankN c != blankN (bAt s a))) s a, true) := by
  unfold nextP
  rw [if_neg (by omega), if_neg (fun x => x.1 rfl), if_pos h]
theorem next_lt {s : ByteArray} {a : Nat} (ha : a < s.size) (h : bAt s a = 60) : nextP s a ⟨#[]⟩ = (if letterAt s (a + 1) then tagP s (a + 1) true
  else if startsP s a ⟨#[60, 47]⟩ && letterAt s (a + 2) then tagP s (a + 2) false
  else if startsP s a ⟨#[60, 33, 45, 45]⟩ then commentP s (a + 4)
  else if startsP s a ⟨#[60, 33, 100, 111, 99, 116, 121, 112, 101]⟩ then doctypeP s (a + 9)
  else if startsP s a ⟨#[60, 47, 62]⟩ then (tok0, a + 3, false)
  else if startsP s a ⟨#[60, 63]⟩ then bogusP s (a + 1)
  else if startsP s a ⟨#[60, 33]⟩ || (startsP s a ⟨#[60, 47]⟩ && decide (a + 2 < s.size)) then bogusP s (a + 2)
  else (textTok ⟨#[60]⟩ false, a + 1, true)) := by
  unfold nextP
  rw [if_neg (by omega), if_neg (fun x => x.1 rfl), if_neg (fun x => x h)]
theorem next_start {s : ByteArray} {a : Nat} (h : bAt s a = 60) (h1 : letterAt s (a + 1) = true) : nextP s a ⟨#[]⟩ = tagP s (a + 1) true := by
  have := (letter_at.1 h1).1
  rw [next_lt (by omega) h, if_pos h1]
theorem next_close {s : ByteArray} {a : Nat} (h : bAt s a = 60) (h1 : bAt s (a + 1) = 47) (h2 : letterAt s (a + 2) = true) : nextP s a ⟨#[]⟩ = tagP s (a + 2) false := by
  have h3 := (letter_at.1 h2).1
  have h4 : letterAt s (a + 1) = false := by unfold letterAt; rw [h1]; exact Bool.and_false _
  rw [next_lt (by omega) h, if_neg (by rw [h4]; decide), if_pos (by rw [h2, st_close.2 ⟨by omega, h, h1⟩]; rfl)]
theorem next_comment {s : ByteArray} {a : Nat} (h : startsP s a ⟨#[60, 33, 45, 45]⟩ = true) : nextP s a ⟨#[]⟩ = commentP s (a + 4) := by
  obtain ⟨h0, h1, h2, h3, h4⟩ := st_comment.1 h
  have h5 : letterAt s (a + 1) = false := by unfold letterAt; rw [h2]; exact Bool.and_false _
  have h6 : startsP s a ⟨#[60, 47]⟩ = false := not_st fun x => by have := (st_close.1 x).2.2; omega
  rw [next_lt (by omega) h1, if_neg (by rw [h5]; decide), if_neg (by rw [h6]; exact Bool.false_ne_true), if_pos h]
theorem next_doctype {s : ByteArray} {a : Nat} (h : startsP s a ⟨#[60, 33, 100, 111, 99, 116, 121, 112, 101]⟩ = true) : nextP s a ⟨#[]⟩ = doctypeP s (a + 9) := by
  obtain ⟨h0, h1, h2, h3, _⟩ := st_doctype.1 h
  have h5 : letterAt s (a + 1) = false := by unfold letterAt; rw [h2]; exact Bool.and_false _
  have h6 : startsP s a ⟨#[60, 47]⟩ = false := not_st fun x => by have := (st_close.1 x).2.2; omega
  have h7 : startsP s a ⟨#[60, 33, 45, 45]⟩ = false := not_st fun x => by
    have := (st_comment.1 x).2.2.2.1
    rw [this] at h3; revert h3; decide
  rw [next_lt (by omega) h1, if_neg (by rw [h5]; decide), if_neg (by rw [h6]; exact Bool.false_ne_true), if_neg (by rw [h7]; decide), if_pos h]
end Go.Proofs.YtbdgoffbkenofaaGreat.Tk
namespace Go.Proofs.YtbdgoffbkenofaaGreat.Tk
open Go Go.RowKit
set_option linter.unusedVariables false

/-- A piece goes on: behind its place, within the source; nothing is the empty piece; a piece is of the kinds 1 to 5. -/
structure Goes (s : ByteArray) (a : Nat) (o : Out) : Prop where
  gt : a < o.2.1
  le : o.2.1 ≤ s.size
  no : o.2.2 = false → o.1 = tok0
  yes : o.2.2 = true → 1 ≤ o.1.kind ∧ o.1.kind ≤ 5
theorem starts_le {s t : ByteArray} {a : Nat} (h : startsP s a t = true) : a + t.size ≤ s.size := by
  unfold startsP at h
  rw [Bool.and_eq_true] at h
  exact of_decide_eq_true h.1
theorem letter_lt {s : ByteArray} {i : Nat} (h : letterAt s i = true) : i < s.size := by
  unfold letterAt at h
  rw [Bool.and_eq_true] at h
  exact of_decide_eq_true h.1
theorem pre_le {s p : ByteArray} (h : Sr.hasPre s p = true) : p.size ≤ s.size := by
  unfold Sr.hasPre at h
  rw [Bool.and_eq_true] at h
  exact of_decide_eq_true h.1
theorem attrP_le {s : ByteArray} {a : Nat} {n v : ByteArray} {k : Nat} (ha : a < s.size) (h : attrP s a = some (n, v, k)) : a < k ∧ k ≤ s.size := by
  unfold attrP at h
  dsimp only at h
  have h1 := upT_ge (fun c => closesN c || decide (c = 61)) s (a + 1)
  have h2 := upT_le (fun c => closesN c || decide (c = 61)) (s := s) (a := a + 1) (by omega)
  generalize upT (fun c => closesN c || decide (c = 61)) s (a + 1) = e at *
  have h3 : e ≤ pastP s e := upT_ge _ _ _
  have h4 : pastP s e ≤ s.size := upT_le _ h2
  generalize pastP s e = n1 at *
  split at h
  · injection h with h; injection h with _ h; injection h with _ h; omega
  · rename_i c
    have c1 : n1 < s.size := by omega
    have h5 : n1 + 1 ≤ pastP s (n1 + 1) := upT_ge _ _ _
    generalize pastP s (n1 + 1) = n2 at *
    split at h
    · cases h
    · split at h
      · have h6 := upT_ge (fun c => decide (c = bAt s n2)) s (n2 + 1)
        generalize upT (fun c => decide (c = bAt s n2)) s (n2 + 1) = e2 at *
        split at h
        · cases h
        · injection h with h; injection h with _ h; injection h with _ h; omega
      · have h6 := upT_ge (fun c => blankN c || decide (c = 62)) s n2
        have h7 := upT_le (fun c => blankN c || decide (c = 62)) (s := s) (a := n2) (by omega)
        generalize upT (fun c => blankN c || decide (c = 62)) s n2 = e2 at *
        injection h with h; injection h with _ h; injection h with _ h; omega
theorem attrsP_le {s : ByteArray} {start : Bool} : ∀ {n e : Nat} {acc l : List (ByteArray × ByteArray)} {k : Nat}, attrsP s start n e acc = some (l, k) → e ≤ k ∧ k < s.size
  | 0, e, acc, l, k, h => by unfold attrsP at h; cases h
  | n + 1, e, acc, l, k, h => by
    unfold attrsP at h
    dsimp only at h
    have h1 := upT_ge (fun c => !blankN c && !decide (c = 47)) s e
    generalize upT (fun c => !blankN c && !decide (c = 47)) s e = e1 at *
    split at h
    · cases h
    · split at h
      · injection h with h; injection h with _ h; omega
      · split at h
        · cases h
        · rename_i c1 _ n2 v2 k2 h2
          have := attrP_le (by omega) h2
          have := attrsP_le h
          omega
theorem tagP_goes {s : ByteArray} {a : Nat} {start : Bool} (ha : a < s.size) : Goes s a (tagP s a start) := by
  unfold tagP
  dsimp only
  have h1 := upT_ge closesN s a
  generalize upT closesN s a = e at *
  split
  · exact ⟨ha, Nat.le_refl _, fun _ => rfl, fun h => by cases h⟩
  · rename_i l e2 h
    have := attrsP_le h
    refine ⟨by show a < e2 + 1; omega, by show e2 + 1 ≤ s.size; omega, fun h => (by cases h), fun _ => ?_⟩
    cases start <;> (show (1 : Int) ≤ _ ∧ _ ≤ (5 : Int); simp)
theorem commentP_goes {s : ByteArray} {a : Nat} (ha : a < s.size ∨ a = s.size) : a ≤ (commentP s a).2.1 ∧ (commentP s a).2.1 ≤ s.size ∧ (commentP s a).2.2 = true ∧ (commentP s a).1.kind = 4 := by
  unfold commentP
  dsimp only
  have hz : (s.extract a s.size).size = s.size - a := by rw [ByteArray.size_extract]; omega
  generalize s.extract a s.size = r at *
  split
  · rename_i h; have := pre_le h
    have e : (⟨#[62]⟩ : ByteArray).size = 1 := rfl
    exact ⟨by show a ≤ a + 1; omega, by show a + 1 ≤ s.size; omega, rfl, rfl⟩
  · split
    · rename_i h; have := pre_le h
      have e : (⟨#[45, 62]⟩ : ByteArray).size = 2 := rfl
      exact ⟨by show a ≤ a + 2; omega, by show a + 2 ≤ s.size; omega, rfl, rfl⟩
    · have h0 := upI_at (fun i => cEnd1 r i || cEnd2 r i) r.size 0
      generalize upI (fun i => cEnd1 r i || cEnd2 r i) r.size 0 = i at *
      split
      · rename_i hi
        have h1 := h0 (by omega)
        have e2 : (r.extract i r.size).size = r.size - i := by rw [ByteArray.size_extract]; omega
        have e3 : (⟨#[45, 45, 62]⟩ : ByteArray).size = 3 := rfl
        have e4 : (⟨#[45, 45, 33, 62]⟩ : ByteArray).size = 4 := rfl
        cases h2 : cEnd1 r i with
        | true =>
          have := pre_le h2
          exact ⟨by show a ≤ a + i + 3; omega, by show a + i + 3 ≤ s.size; omega, rfl, rfl⟩
        | false =>
          rw [h2] at h1
          have := pre_le (show cEnd2 r i = true from h1)
          exact ⟨by show a ≤ a + i + 4; omega, by show a + i + 4 ≤ s.size; omega, rfl, rfl⟩
      · exact ⟨by show a ≤ s.size; omega, Nat.le_refl _, rfl, rfl⟩
theorem bogusP_goes {s : ByteArray} {a b : Nat} (ha : a ≤ s.size) (hb : b < a) : Goes s b (bogusP s a) := by
  have h1 : a ≤ closedEnd s a := upT_ge _ _ _
  exact ⟨by show b < min (closedEnd s a + 1) s.size; omega, by show min (closedEnd s a + 1) s.size ≤ s.size; omega, fun h => (by cases h), fun _ => (by show (1 : Int) ≤ 4 ∧ (4 : Int) ≤ 5; decide)⟩
theorem doctypeP_goes {s : ByteArray} {a b : Nat} (ha : a ≤ s.size) (hb : b < a) : Goes s b (doctypeP s a) := by
  have h0 : a ≤ pastP s a := upT_ge _ _ _
  have h1 := upT_ge (fun c => blankN c || decide (c = 62)) s (pastP s a)
  have h2 : upT (fun c => blankN c || decide (c = 62)) s (pastP s a) ≤ closedEnd s (upT (fun c => blankN c || decide (c = 62)) s (pastP s a)) := upT_ge _ _ _
  exact ⟨by show b < min (closedEnd s (upT (fun c => blankN c || decide (c = 62)) s (pastP s a)) + 1) s.size; omega, by show min (closedEnd s (upT (fun c => blankN c || decide (c = 62)) s (pastP s a)) + 1) s.size ≤ s.size; omega, fun h => (by cases h), fun _ => (by show (1 : Int) ≤ 5 ∧ (5 : Int) ≤ 5; decide)⟩
theorem Goes.mono {s : ByteArray} {a b : Nat} {o : Out} (h : Goes s a o) (hb : b ≤ a) : Goes s b o := ⟨Nat.lt_of_le_of_lt hb h.gt, h.le, h.no, h.yes⟩
theorem next_goes (s raw : ByteArray) (a : Nat) (ha : a < s.size) : Goes s a (nextP s a raw) := by
  unfold nextP
  dsimp only
  split
  · omega
  · split
    · rename_i h
      have h3 : rawEndP s a raw ≤ s.size := by have := upI_le (rawOk s raw) (s.size - a) a; unfold rawEndP; omega
      exact ⟨h.2, h3, fun h => (by cases h), fun _ => (by show (1 : Int) ≤ 3 ∧ (3 : Int) ≤ 5; decide)⟩
    · split
      · rename_i h
        have h1 := upT_le (fun c => decide (c = 60) || (blankN c != blankN (bAt s a))) (s := s) (a := a) (by omega)
        have h2 : a + 1 ≤ upT (fun c => decide (c = 60) || (blankN c != blankN (bAt s a))) s a := by
          rw [upT_next ha (by simp [h])]
          exact upT_ge _ _ _
        exact ⟨h2, h1, fun h => (by cases h), fun _ => (by show (1 : Int) ≤ 3 ∧ (3 : Int) ≤ 5; decide)⟩
      · split
        · rename_i h; exact (tagP_goes (letter_lt h)).mono (by omega)
        · split
          · rename_i h; rw [Bool.and_eq_true] at h; exact (tagP_goes (letter_lt h.2)).mono (by omega)
          · split
            · rename_i h
              have h1 : a + 4 ≤ s.size := starts_le h
              have := commentP_goes (s := s) (a := a + 4) (by omega)
              exact ⟨by omega, this.2.1, fun h => (by rw [this.2.2.1] at h; cases h), fun _ => by rw [this.2.2.2]; decide⟩
            · split
              · rename_i h
                have h1 : a + 9 ≤ s.size := starts_le h
                exact doctypeP_goes h1 (by omega)
              · split
                · rename_i h
                  have h1 : a + 3 ≤ s.size := starts_le h
                  exact ⟨by show a < a + 3; omega, h1, fun _ => rfl, fun h => by cases h⟩
                · split
                  · rename_i h
                    have h1 : a + 2 ≤ s.size := starts_le h
                    exact bogusP_goes (by omega) (by omega)
                  · split
                    · rename_i h
                      have h1 : a + 2 ≤ s.size := by
                        rw [Bool.or_eq_true, Bool.and_eq_true] at h
                        rcases h with h | h
                        · exact starts_le h
                        · exact starts_le h.1
                      exact bogusP_goes (by omega) (by omega)
                    · exact ⟨by show a < a + 1; omega, by show a + 1 ≤ s.size; omega, fun h => (by cases h), fun _ => (by show (1 : Int) ≤ 3 ∧ (3 : Int) ≤ 5; decide)⟩
theorem next_end (s raw : ByteArray) (a : Nat) (ha : s.size ≤ a) : nextP s a raw = (⟨6, ⟨#[]⟩, ⟨#[]⟩, [], false⟩, s.size, true) := by unfold nextP; exact if_pos ha
end Go.Proofs.YtbdgoffbkenofaaGreat.Tk
namespace Go.Proofs.YtbdgoffbkenofaaGreat.Tk
open Go Go.RowKit
set_option linter.unusedVariables false

theorem cEnd1_iff {r : ByteArray} {i : Nat} : cEnd1 r i = true ↔ i + 3 ≤ r.size ∧ bAt r i = 45 ∧ bAt r (i + 1) = 45 ∧ bAt r (i + 2) = 62 := by
  unfold cEnd1
  rw [pre_iff]
  show (3 ≤ _ ∧ ∀ i, i < 3 → _) ↔ _
  rw [all3, ByteArray.size_extract, show bAt ⟨#[45, 45, 62]⟩ 0 = 45 by decide, show bAt ⟨#[45, 45, 62]⟩ 1 = 45 by decide, show bAt ⟨#[45, 45, 62]⟩ 2 = 62 by decide]
  by_cases h : i + 3 ≤ r.size
  · rw [bAt_ext (Nat.le_refl _) (by omega), bAt_ext (Nat.le_refl _) (by omega), bAt_ext (Nat.le_refl _) (by omega)]
    exact ⟨fun x => ⟨h, x.2⟩, fun x => ⟨by omega, x.2⟩⟩
  · exact ⟨fun x => absurd x.1 (by omega), fun x => absurd x.1 h⟩
theorem cEnd2_iff {r : ByteArray} {i : Nat} : cEnd2 r i = true ↔ i + 4 ≤ r.size ∧ bAt r i = 45 ∧ bAt r (i + 1) = 45 ∧ bAt r (i + 2) = 33 ∧ bAt r (i + 3) = 62 := by
  unfold cEnd2
  rw [pre_iff]
  show (4 ≤ _ ∧ ∀ i, i < 4 → _) ↔ _
  rw [all4, ByteArray.size_extract, show bAt ⟨#[45, 45, 33, 62]⟩ 0 = 45 by decide, show bAt ⟨#[45, 45, 33, 62]⟩ 1 = 45 by decide, show bAt ⟨#[45, 45, 33, 62]⟩ 2 = 33 by decide, show bAt ⟨#[45, 45, 33, 62]⟩ 3 = 62 by decide]
  by_cases h : i + 4 ≤ r.size
  · rw [bAt_ext (Nat.le_refl _) (by omega), bAt_ext (Nat.le_refl _) (by omega), bAt_ext (Nat.le_refl _) (by omega), bAt_ext (Nat.le_refl _) (by omega)]
    exact ⟨fun x => ⟨h, x.2⟩, fun x => ⟨by omega, x.2⟩⟩
  · exact ⟨fun x => absurd x.1 (by omega), fun x => absurd x.1 h⟩
theorem suf_iff {r p : ByteArray} : hasSuf r p = true ↔ p.size ≤ r.size ∧ ∀ i, i < p.size → bAt r (r.size - p.size + i) = bAt p i := by
  unfold hasSuf
  rw [Bool.and_eq_true, decide_eq_true_eq, decide_eq_true_eq]
  constructor
  · rintro ⟨h1, h2⟩
    refine ⟨h1, fun i hi => ?_⟩
    have := bAt_ext (x := r) (a := r.size - p.size) (b := r.size) (i := i) (Nat.le_refl _) (by omega)
    rw [h2] at this
    exact this.symm
  · rintro ⟨h1, h2⟩
    refine ⟨h1, ext_bAt (by rw [ByteArray.size_extract]; omega) fun i hi => ?_⟩
    have hi' : i < p.size := by rw [ByteArray.size_extract] at hi; omega
    rw [bAt_ext (Nat.le_refl _) (by omega), h2 i hi']
/-- A comment's text that does not end it. -/
structure NoEnd (a : ByteArray) : Prop where
  ne : 0 < a.size
  gt : bAt a 0 ≠ 62
  da : bAt a 0 ≠ 45
  la : bAt a (a.size - 1) ≠ 45
  no : ∀ i, i + 1 < a.size → ¬ (bAt a i = 45 ∧ bAt a (i + 1) = 45)
theorem calm_no {a r : ByteArray} (h : NoEnd a) (hz : a.size ≤ r.size) (hr : ∀ i, i < a.size → bAt r i = bAt a i) {j : Nat} (hj : j < a.size) : (cEnd1 r j || cEnd2 r j) = false := by
  have key : ¬ (bAt r j = 45 ∧ bAt r (j + 1) = 45) := by
    rintro ⟨h1, h2⟩
    by_cases hl : j + 1 < a.size
    · rw [hr _ hj] at h1; rw [hr _ hl] at h2; exact h.no j hl ⟨h1, h2⟩
    · rw [hr _ hj] at h1
      rw [show j = a.size - 1 by omega] at h1
      exact h.la h1
  rw [Bool.or_eq_false_iff]
  refine ⟨?_, ?_⟩
  · rw [← Bool.not_eq_true, cEnd1_iff]; exact fun x => key ⟨x.2.1, x.2.2.1⟩
  · rw [← Bool.not_eq_true, cEnd2_iff]; exact fun x => key ⟨x.2.1, x.2.2.1⟩
theorem calm_head {a r : ByteArray} (h : NoEnd a) (hr : ∀ i, i < a.size → bAt r i = bAt a i) : Sr.hasPre r ⟨#[62]⟩ = false ∧ Sr.hasPre r ⟨#[45, 62]⟩ = false := by
  refine ⟨?_, ?_⟩
  · rw [← Bool.not_eq_true, pre_iff]
    exact fun x => h.gt ((hr 0 h.ne).symm.trans (x.2 0 (by decide)))
  · rw [← Bool.not_eq_true, pre_iff]
    exact fun x => h.da ((hr 0 h.ne).symm.trans (x.2 0 (by decide)))
theorem calm_found {a s : ByteArray} {k : Nat} (h : NoEnd a) (hz : a.size ≤ s.size - k) (hk : k ≤ s.size) (hs : ∀ i, i < a.size → bAt s (k + i) = bAt a i) :
    (k + a.size + 3 ≤ s.size → bAt s (k + a.size) = 45 → bAt s (k + a.size + 1) = 45 → bAt s (k + a.size + 2) = 62 → commentP s k = (commTok a, k + a.size + 3, true)) ∧
    (k + a.size + 4 ≤ s.size → bAt s (k + a.size) = 45 → bAt s (k + a.size + 1) = 45 → bAt s (k + a.size + 2) = 33 → bAt s (k + a.size + 3) = 62 → commentP s k = (commTok a, k + a.size + 4, true)) ∧
    (k + a.size + 2 = s.size → bAt s (k + a.size) = 45 → bAt s (k + a.size + 1) = 45 → commentP s k = (commTok a, s.size, true)) := by
  have hrz : (s.extract k s.size).size = s.size - k := by rw [ByteArray.size_extract]; omega
  have hrb : ∀ i, k + i < s.size → bAt (s.extract k s.size) i = bAt s (k + i) := fun i hi => bAt_ext (Nat.le_refl _) hi
  unfold commentP
  dsimp only
  generalize s.extract k s.size = r at *
  have hr : ∀ i, i < a.size → bAt r i = bAt a i := fun i hi => (hrb i (by omega)).trans (hs i hi)
  obtain ⟨p1, p2⟩ := calm_head h hr
  have hno : ∀ j, j < a.size → (cEnd1 r j || cEnd2 r j) = false := fun j hj => calm_no h (by omega) hr hj
  have hx : r.extract 0 a.size = a := ext_bAt (by rw [ByteArray.size_extract]; omega) fun i hi => by
    have hi' : i < a.size := by rw [ByteArray.size_extract] at hi; omega
    rw [bAt_ext (by omega) (by omega), Nat.zero_add, hr i hi']
  rw [if_neg (by rw [p1]; decide), if_neg (by rw [p2]; decide)]
  refine ⟨fun h1 h2 h3 h4 => ?_, fun h1 h2 h3 h4 h5 => ?_, fun h1 h2 h3 => ?_⟩
  · have c1 : cEnd1 r a.size = true := cEnd1_iff.2 ⟨by omega, (hrb _ (by omega)).trans h2, (hrb _ (by omega)).trans h3, (hrb _ (by omega)).trans h4⟩
    have e : upI (fun i => cEnd1 r i || cEnd2 r i) r.size 0 = a.size := upI_eq (Nat.zero_le _) (by omega) (fun j _ hj => hno j hj) (fun _ => by show (cEnd1 r a.size || cEnd2 r a.size) = true; rw [c1]; rfl)
    rw [e, if_pos (by omega), if_pos c1, hx]
  · have c1 : cEnd1 r a.size = false := by
      rw [← Bool.not_eq_true, cEnd1_iff]
      rintro ⟨_, _, _, x⟩
      rw [hrb _ (by omega)] at x
      have : bAt s (k + (a.size + 2)) = 33 := h4
      omega
    have c2 : cEnd2 r a.size = true := cEnd2_iff.2 ⟨by omega, (hrb _ (by omega)).trans h2, (hrb _ (by omega)).trans h3, (hrb _ (by omega)).trans h4, (hrb _ (by omega)).trans h5⟩
    have e : upI (fun i => cEnd1 r i || cEnd2 r i) r.size 0 = a.size := upI_eq (Nat.zero_le _) (by omega) (fun j _ hj => hno j hj) (fun _ => by show (cEnd1 r a.size || cEnd2 r a.size) = true; rw [c2, Bool.or_true])
    rw [e, if_pos (by omega), if_neg (by rw [c1]; decide), hx]
  · have e : upI (fun i => cEnd1 r i || cEnd2 r i) r.size 0 = r.size := by
      refine upI_eq (Nat.zero_le _) (by omega) (fun j _ hj => ?_) (fun x => absurd x (by omega))
      by_cases hj2 : j < a.size
      · exact hno j hj2
      · show (cEnd1 r j || cEnd2 r j) = false
        rw [Bool.or_eq_false_iff]
        refine ⟨?_, ?_⟩
        · rw [← Bool.not_eq_true, cEnd1_iff]; exact fun x => by have := x.1; omega
        · rw [← Bool.not_eq_true, cEnd2_iff]; exact fun x => by have := x.1; omega
    have s1 : hasSuf r ⟨#[45, 45, 33]⟩ = false := by
      rw [← Bool.not_eq_true, suf_iff]
      rintro ⟨x1, x2⟩
      have x3 := x2 2 (by decide)
      rw [show bAt ⟨#[45, 45, 33]⟩ 2 = 33 by decide, show (⟨#[45, 45, 33]⟩ : ByteArray).size = 3 from rfl] at x3
      rw [show (⟨#[45, 45, 33]⟩ : ByteArray).size = 3 from rfl] at x1
      rw [show r.size - 3 + 2 = a.size + 1 by omega, hrb _ (by omega)] at x3
      have : bAt s (k + (a.size + 1)) = 45 := h3
      omega
    have s2 : hasSuf r ⟨#[45, 45]⟩ = true := by
      rw [suf_iff]
      show 2 ≤ r.size ∧ ∀ i, i < 2 → bAt r (r.size - 2 + i) = _
      rw [all2]
      refine ⟨by omega, ?_, ?_⟩
      · rw [show r.size - 2 + 0 = a.size by omega, hrb _ (by omega), h2]; decide
      · rw [show r.size - 2 + 1 = a.size + 1 by omega, hrb _ (by omega)]
        exact Eq.trans h3 (by decide)
    rw [e, if_neg (Nat.lt_irrefl _), if_neg (by rw [s1]; decide), if_pos s2, show r.size - 2 = a.size by omega, hx]
/-- The three sources of TokenComments. -/
theorem comments {a : ByteArray} (b : ByteArray) (h : NoEnd a) :
    nextP ((((⟨#[60, 33, 45, 45]⟩ : ByteArray) ++ a) ++ ⟨#[45, 45, 62]⟩) ++ b) 0 ⟨#[]⟩ = (commTok a, 7 + a.size, true) ∧
    nextP ((((⟨#[60, 33, 45, 45]⟩ : ByteArray) ++ a) ++ ⟨#[45, 45, 33, 62]⟩) ++ b) 0 ⟨#[]⟩ = (commTok a, 8 + a.size, true) ∧
    nextP (((⟨#[60, 33, 45, 45]⟩ : ByteArray) ++ a) ++ ⟨#[45, 45]⟩) 0 ⟨#[]⟩ = (commTok a, 6 + a.size, true) := by
  have z0 : (⟨#[60, 33, 45, 45]⟩ : ByteArray).size = 4 := rfl
  have z1 : (⟨#[45, 45, 62]⟩ : ByteArray).size = 3 := rfl
  have z2 : (⟨#[45, 45, 33, 62]⟩ : ByteArray).size = 4 := rfl
  have z3 : (⟨#[45, 45]⟩ : ByteArray).size = 2 := rfl
  refine ⟨?_, ?_, ?_⟩
  · have zs : ((((⟨#[60, 33, 45, 45]⟩ : ByteArray) ++ a) ++ ⟨#[45, 45, 62]⟩) ++ b).size = 7 + a.size + b.size := by simp only [ByteArray.size_append, z0, z1]; omega
    have hb : ∀ i, i < 4 + a.size + 3 → bAt ((((⟨#[60, 33, 45, 45]⟩ : ByteArray) ++ a) ++ ⟨#[45, 45, 62]⟩) ++ b) i = bAt (((⟨#[60, 33, 45, 45]⟩ : ByteArray) ++ a) ++ ⟨#[45, 45, 62]⟩) i := fun i hi => bAt_l (by simp only [ByteArray.size_append, z0, z1]; omega)
    have h4 : ∀ i, i < 4 → bAt ((((⟨#[60, 33, 45, 45]⟩ : ByteArray) ++ a) ++ ⟨#[45, 45, 62]⟩) ++ b) i = bAt ⟨#[60, 33, 45, 45]⟩ i := fun i hi => by
      rw [hb i (by omega), bAt_l (by simp only [ByteArray.size_append, z0]; omega), bAt_l (by omega)]
    have ha : ∀ i, i < a.size → bAt ((((⟨#[60, 33, 45, 45]⟩ : ByteArray) ++ a) ++ ⟨#[45, 45, 62]⟩) ++ b) (4 + i) = bAt a i := fun i hi => by
      rw [hb _ (by omega), bAt_l (by simp only [ByteArray.size_append, z0]; omega), bAt_r (by omega), z0, Nat.add_sub_cancel_left]
    have he : ∀ i, i < 3 → bAt ((((⟨#[60, 33, 45, 45]⟩ : ByteArray) ++ a) ++ ⟨#[45, 45, 62]⟩) ++ b) (4 + a.size + i) = bAt ⟨#[45, 45, 62]⟩ i := fun i hi => by
      rw [hb _ (by omega), bAt_r (by simp only [ByteArray.size_append, z0]; omega), show (((⟨#[60, 33, 45, 45]⟩ : ByteArray) ++ a)).size = 4 + a.size by simp only [ByteArray.size_append, z0], Nat.add_sub_cancel_left]
    generalize (((⟨#[60, 33, 45, 45]⟩ : ByteArray) ++ a) ++ ⟨#[45, 45, 62]⟩) ++ b = s at *
    rw [next_comment (st_comment.2 ⟨by omega, h4 0 (by decide), h4 1 (by decide), h4 2 (by decide), h4 3 (by decide)⟩)]
    rw [(calm_found h (k := 0 + 4) (by omega) (by omega) (by simpa using ha)).1 (by omega) (he 0 (by decide)) (he 1 (by decide)) (he 2 (by decide))]
    rw [show 0 + 4 + a.size + 3 = 7 + a.size by omega]
  · have zs : ((((⟨#[60, 33, 45, 45]⟩ : ByteArray) ++ a) ++ ⟨#[45, 45, 33, 62]⟩) ++ b).size = 8 + a.size + b.size := by simp only [ByteArray.size_append, z0, z2]; omega
    have hb : ∀ i, i < 4 + a.size + 4 → bAt ((((⟨#[60, 33, 45, 45]⟩ : ByteArray) ++ a) ++ ⟨#[45, 45, 33, 62]⟩) ++ b) i = bAt (((⟨#[60, 33, 45, 45]⟩ : ByteArray) ++ a) ++ ⟨#[45, 45, 33, 62]⟩) i := fun i hi => bAt_l (by simp only [ByteArray.size_append, z0, z2]; omega)
    have h4 : ∀ i, i < 4 → bAt ((((⟨#[60, 33, 45, 45]⟩ : ByteArray) ++ a) ++ ⟨#[45, 45, 33, 62]⟩) ++ b) i = bAt ⟨#[60, 33, 45, 45]⟩ i := fun i hi => by
      rw [hb i (by omega), bAt_l (by simp only [ByteArray.size_append, z0]; omega), bAt_l (by omega)]
    have ha : ∀ i, i < a.size → bAt ((((⟨#[60, 33, 45, 45]⟩ : ByteArray) ++ a) ++ ⟨#[45, 45, 33, 62]⟩) ++ b) (4 + i) = bAt a i := fun i hi => by
      rw [hb _ (by omega), bAt_l (by simp only [ByteArray.size_append, z0]; omega), bAt_r (by omega), z0, Nat.add_sub_cancel_left]
    have he : ∀ i, i < 4 → bAt ((((⟨#[60, 33, 45, 45]⟩ : ByteArray) ++ a) ++ ⟨#[45, 45, 33, 62]⟩) ++ b) (4 + a.size + i) = bAt ⟨#[45, 45, 33, 62]⟩ i := fun i hi => by
      rw [hb _ (by omega), bAt_r (by simp only [ByteArray.size_append, z0]; omega), show (((⟨#[60, 33, 45, 45]⟩ : ByteArray) ++ a)).size = 4 + a.size by simp only [ByteArray.size_append, z0], Nat.add_sub_cancel_left]
    generalize (((⟨#[60, 33, 45, 45]⟩ : ByteArray) ++ a) ++ ⟨#[45, 45, 33, 62]⟩) ++ b = s at *
    rw [next_comment (st_comment.2 ⟨by omega, h4 0 (by decide), h4 1 (by decide), h4 2 (by decide), h4 3 (by decide)⟩)]
    rw [(calm_found h (k := 0 + 4) (by omega) (by omega) (by simpa using ha)).2.1 (by omega) (he 0 (by decide)) (he 1 (by decide)) (he 2 (by decide)) (he 3 (by decide))]
    rw [show 0 + 4 + a.size + 4 = 8 + a.size by omega]
  · have zs : (((⟨#[60, 33, 45, 45]⟩ : ByteArray) ++ a) ++ ⟨#[45, 45]⟩).size = 6 + a.size := by simp only [ByteArray.size_append, z0, z3]; omega
    have h4 : ∀ i, i < 4 → bAt (((⟨#[60, 33, 45, 45]⟩ : ByteArray) ++ a) ++ ⟨#[45, 45]⟩) i = bAt ⟨#[60, 33, 45, 45]⟩ i := fun i hi => by
      rw [bAt_l (by simp only [ByteArray.size_append, z0]; omega), bAt_l (by omega)]
    have ha : ∀ i, i < a.size → bAt (((⟨#[60, 33, 45, 45]⟩ : ByteArray) ++ a) ++ ⟨#[45, 45]⟩) (4 + i) = bAt a i := fun i hi => by
      rw [bAt_l (by simp only [ByteArray.size_append, z0]; omega), bAt_r (by omega), z0, Nat.add_sub_cancel_left]
    have he : ∀ i, i < 2 → bAt (((⟨#[60, 33, 45, 45]⟩ : ByteArray) ++ a) ++ ⟨#[45, 45]⟩) (4 + a.size + i) = bAt ⟨#[45, 45]⟩ i := fun i hi => by
      rw [bAt_r (by simp only [ByteArray.size_append, z0]; omega), show (((⟨#[60, 33, 45, 45]⟩ : ByteArray) ++ a)).size = 4 + a.size by simp only [ByteArray.size_append, z0], Nat.add_sub_cancel_left]
    generalize ((⟨#[60, 33, 45, 45]⟩ : ByteArray) ++ a) ++ ⟨#[45, 45]⟩ = s at *
    rw [next_comment (st_comment.2 ⟨by omega, h4 0 (by decide), h4 1 (by decide), h4 2 (by decide), h4 3 (by decide)⟩)]
    rw [(calm_found h (k := 0 + 4) (by omega) (by omega) (by simpa using ha)).2.2 (by omega) (he 0 (by decide)) (he 1 (by decide)), zs]
end Go.Proofs.YtbdgoffbkenofaaGreat.Tk
