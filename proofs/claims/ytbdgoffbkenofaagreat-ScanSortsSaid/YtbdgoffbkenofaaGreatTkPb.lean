/- token: plain: bytes of joined texts; which piece begins at a place. -/
import Derived.Test.YtbdgoffbkenofaaGreatTkp
namespace Go.Proofs.YtbdgoffbkenofaaGreat.Tk
open Go Go.RowKit
set_option linter.unusedVariables false

theorem bAt_out {s : ByteArray} {i : Nat} (h : s.size ≤ i) : bAt s i = 0 := by unfold bAt; rw [dif_neg (by omega)]
theorem bAt_app (x y : ByteArray) (i : Nat) : bAt (x ++ y) i = if i < x.size then bAt x i else bAt y (i - x.size) := by
  by_cases h : i < x.size
  · rw [if_pos h, bAt_in h, bAt_in (by rw [ByteArray.size_append]; omega), ByteArray.getElem_append_left h]
  · rw [if_neg h]
    by_cases h2 : i < x.size + y.size
    · rw [bAt_in (by rw [ByteArray.size_append]; omega), bAt_in (by omega), ByteArray.getElem_append_right (by omega)]
    · rw [bAt_out (by rw [ByteArray.size_append]; omega), bAt_out (by omega)]
theorem bAt_l {x y : ByteArray} {i : Nat} (h : i < x.size) : bAt (x ++ y) i = bAt x i := by rw [bAt_app, if_pos h]
theorem bAt_r {x y : ByteArray} {i : Nat} (h : x.size ≤ i) : bAt (x ++ y) i = bAt y (i - x.size) := by rw [bAt_app, if_neg (by omega)]
theorem bAt_ext {x : ByteArray} {a b i : Nat} (hb : b ≤ x.size) (hi : a + i < b) : bAt (x.extract a b) i = bAt x (a + i) := by
  rw [bAt_in (by rw [ByteArray.size_extract]; omega), bAt_in (by omega), ByteArray.getElem_extract]
theorem ext_bAt {x y : ByteArray} (hs : x.size = y.size) (h : ∀ i, i < x.size → bAt x i = bAt y i) : x = y := by
  refine ByteArray.ext_getElem hs fun i h1 h2 => ?_
  have := h i h1
  rw [bAt_in h1, bAt_in h2] at this
  exact UInt8.toNat_inj.1 this
def lowN (c : Nat) : Nat := if 65 ≤ c ∧ c ≤ 90 then c + 32 else c
theorem lowN_lit {c v : Nat} (hv : v < 65 ∨ (90 < v ∧ v < 97) ∨ 122 < v) : lowN c = v ↔ c = v := by unfold lowN; split <;> omega
theorem bAt_low (s : ByteArray) (i : Nat) : bAt (lowS s) i = lowN (bAt s i) := by
  by_cases h : i < s.size
  · rw [bAt_in (by rw [lowS_size]; exact h), bAt_in h]
    have e : (lowS s)[i]'(by rw [lowS_size]; exact h) = Ru.lowB s[i] := by
      show (Ru.lower s.data.toList).toArray[i]'_ = _
      simp [Ru.lower]
      rfl
    rw [e, Ru.lowB_nat]; rfl
  · rw [bAt_out (by rw [lowS_size]; omega), bAt_out (by omega)]; rfl
theorem starts_iff {s t : ByteArray} {a : Nat} : startsP s a t = true ↔ a + t.size ≤ s.size ∧ ∀ i, i < t.size → lowN (bAt s (a + i)) = lowN (bAt t i) := by
  unfold startsP
  rw [Bool.and_eq_true, decide_eq_true_eq, decide_eq_true_eq]
  constructor
  · rintro ⟨h1, h2⟩
    refine ⟨h1, fun i hi => ?_⟩
    rw [← bAt_low t, ← h2, bAt_low, bAt_ext h1 (by omega)]
  · rintro ⟨h1, h2⟩
    refine ⟨h1, ext_bAt (by rw [lowS_size, lowS_size, ByteArray.size_extract]; omega) fun i hi => ?_⟩
    have hi' : i < t.size := by rw [lowS_size, ByteArray.size_extract] at hi; omega
    rw [bAt_low, bAt_low, bAt_ext h1 (by omega), h2 i hi']
theorem pre_iff {s p : ByteArray} : Sr.hasPre s p = true ↔ p.size ≤ s.size ∧ ∀ i, i < p.size → bAt s i = bAt p i := by
  unfold Sr.hasPre
  rw [Bool.and_eq_true, decide_eq_true_eq, decide_eq_true_eq]
  constructor
  · rintro ⟨h1, h2⟩
    refine ⟨h1, fun i hi => ?_⟩
    have := bAt_ext (a := 0) (i := i) h1 (by omega)
    rw [h2, Nat.zero_add] at this
    exact this.symm
  · rintro ⟨h1, h2⟩
    refine ⟨h1, ext_bAt (by rw [ByteArray.size_extract]; omega) fun i hi => ?_⟩
    have hi' : i < p.size := by rw [ByteArray.size_extract] at hi; omega
    rw [bAt_ext h1 (by omega), Nat.zero_add, h2 i hi']
theorem all2 {p : Nat → Prop} : (∀ i, i < 2 → p i) ↔ p 0 ∧ p 1 := by
  refine ⟨fun h => ⟨h 0 (by decide), h 1 (by decide)⟩, fun ⟨h0, h1⟩ i hi => ?_⟩
  match i, hi with | 0, _ => exact h0 | 1, _ => exact h1
theorem all3 {p : Nat → Prop} : (∀ i, i < 3 → p i) ↔ p 0 ∧ p 1 ∧ p 2 := by
  refine ⟨fun h => ⟨h 0 (by decide), h 1 (by decide), h 2 (by decide)⟩, fun ⟨h0, h1, h2⟩ i hi => ?_⟩
  match i, hi with | 0, _ => exact h0 | 1, _ => exact h1 | 2, _ => exact h2
theorem all4 {p : Nat → Prop} : (∀ i, i < 4 → p i) ↔ p 0 ∧ p 1 ∧ p 2 ∧ p 3 := by
  refine ⟨fun h => ⟨h 0 (by decide), h 1 (by decide), h 2 (by decide), h 3 (by decide)⟩, fun ⟨h0, h1, h2, h3⟩ i hi => ?_⟩
  match i, hi with | 0, _ => exact h0 | 1, _ => exact h1 | 2, _ => exact h2 | 3, _ => exact h3
theorem all9 {p : Nat → Prop} : (∀ i, i < 9 → p i) ↔ p 0 ∧ p 1 ∧ p 2 ∧ p 3 ∧ p 4 ∧ p 5 ∧ p 6 ∧ p 7 ∧ p 8 := by
  refine ⟨fun h => ⟨h 0 (by decide), h 1 (by decide), h 2 (by decide), h 3 (by decide), h 4 (by decide), h 5 (by decide), h 6 (by decide), h 7 (by decide), h 8 (by decide)⟩, fun ⟨h0, h1, h2, h3, h4, h5, h6, h7, h8⟩ i hi => ?_⟩
  match i, hi with | 0, _ => exact h0 | 1, _ => exact h1 | 2, _ => exact h2 | 3, _ => exact h3 | 4, _ => exact h4 | 5, _ => exact h5 | 6, _ => exact h6 | 7, _ => exact h7 | 8, _ => exact h8
/-! ### What begins at a place -/
theorem st_close {s : ByteArray} {a : Nat} : startsP s a ⟨#[60, 47]⟩ = true ↔ a + 2 ≤ s.size ∧ bAt s a = 60 ∧ bAt s (a + 1) = 47 := by
  rw [starts_iff]
  show (a + 2 ≤ s.size ∧ ∀ i, i < 2 → _) ↔ _
  rw [all2, show lowN (bAt ⟨#[60, 47]⟩ 0) = 60 by decide, show lowN (bAt ⟨#[60, 47]⟩ 1) = 47 by decide, lowN_lit (by decide), lowN_lit (by decide)]
  exact Iff.rfl
theorem st_comment {s : ByteArray} {a : Nat} : startsP s a ⟨#[60, 33, 45, 45]⟩ = true ↔ a + 4 ≤ s.size ∧ bAt s a = 60 ∧ bAt s (a + 1) = 33 ∧ bAt s (a + 2) = 45 ∧ bAt s (a + 3) = 45 := by
  rw [starts_iff]
  show (a + 4 ≤ s.size ∧ ∀ i, i < 4 → _) ↔ _
  rw [all4, show lowN (bAt ⟨#[60, 33, 45, 45]⟩ 0) = 60 by decide, show lowN (bAt ⟨#[60, 33, 45, 45]⟩ 1) = 33 by decide, show lowN (bAt ⟨#[60, 33, 45, 45]⟩ 2) = 45 by decide, show lowN (bAt ⟨#[60, 33, 45, 45]⟩ 3) = 45 by decide, lowN_lit (by decide), lowN_lit (by decide), lowN_lit (by decide), lowN_lit (by decide)]
  exact Iff.rfl
theorem st_doctype {s : ByteArray} {a : Nat} : startsP s a ⟨#[60, 33, 100, 111, 99, 116, 121, 112, 101]⟩ = true ↔ a + 9 ≤ s.size ∧ bAt s a = 60 ∧ bAt s (a + 1) = 33 ∧ lowN (bAt s (a + 2)) = 100 ∧ lowN (bAt s (a + 3)) = 111 ∧ lowN (bAt s (a + 4)) = 99 ∧ lowN (bAt s (a + 5)) = 116 ∧ lowN (bAt s (a + 6)) = 121 ∧ lowN (bAt s (a + 7)) = 112 ∧ lowN (bAt s (a + 8)) = 101 := by
  rw [starts_iff]
  show (a + 9 ≤ s.size ∧ ∀ i, i < 9 → _) ↔ _
  rw [all9, show lowN (bAt ⟨#[60, 33, 100, 111, 99, 116, 121, 112, 101]⟩ 0) = 60 by decide, show lowN (bAt ⟨#[60, 33, 100, 111, 99, 116, 121, 112, 101]⟩ 1) = 33 by decide, show lowN (bAt ⟨#[60, 33, 100, 111, 99, 116, 121, 112, 101]⟩ 2) = 100 by decide, show lowN (bAt ⟨#[60, 33, 100, 111, 99, 116, 121, 112, 101]⟩ 3) = 111 by decide, show lowN (bAt ⟨#[60, 33, 100, 111, 99, 116, 121, 112, 101]⟩ 4) = 99 by decide, show lowN (bAt ⟨#[60, 33, 100, 111, 99, 116, 121, 112, 101]⟩ 5) = 116 by decide, show lowN (bAt ⟨#[60, 33, 100, 111, 99, 116, 121, 112, 101]⟩ 6) = 121 by decide, show lowN (bAt ⟨#[60, 33, 100, 111, 99, 116, 121, 112, 101]⟩ 7) = 112 by decide, show lowN (bAt ⟨#[60, 33, 100, 111, 99, 116, 121, 112, 101]⟩ 8) = 101 by decide, lowN_lit (v := 60) (by decide), lowN_lit (v := 33) (by decide)]
  exact Iff.rfl
theorem not_st {s t : ByteArray} {a : Nat} (h : ¬ startsP s a t = true) : startsP s a t = false := by rwa [Bool.not_eq_true] at h
theorem letter_at {s : ByteArray} {i : Nat} : letterAt s i = true ↔ i < s.size ∧ letterN (bAt s i) = true := by
  unfold letterAt; rw [Bool.and_eq_true, decide_eq_true_eq]
theorem next_text {s : ByteArray} {a : Nat} (ha : a < s.size) (h : bAt s a ≠ 60) : nextP s a ⟨#[]⟩ = (textTok (Ch.decB (s.extract a (upT (fun c => decide (c = 60) || (blankN c != blankN (bAt s a))) s a)) false) false, upT (fun c => decide (c = 60) || (blankN c != blankN (bAt s a))) s a, true) := by
  unfold nextP
  rw [if_neg (by omega), if_neg (fun x => x.1 rfl), if_pos h]
theorem next_lt {s : ByteArray} {a : Nat} (ha : a < s.size) (h : bAt s a = 60) : nextP s a ⟨#[]⟩ = (if letterAt s (a + 1) then tagP s (a + 1) true
  else if startsP s a ⟨#[60, 47]⟩ && letterAt s (a + 2) then tagP s (a + 2) false
  else if startsP s a ⟨#[60, 33, 45, 45]⟩ then commentP s (a + 4)
  else if startsP s a ⟨#[60, 33, 100, 111, 99, 116, 121, 112, 101]⟩ then doctypeP s (a + 9)
  else if startsP s a ⟨#[60, 47, 62]⟩ then (tok0, a + 3, false)
  else if startsP s a ⟨#[60, 63]⟩ then bogusP s (a + 1)
  else if startsP s a ⟨#[60, 33]⟩ || (startsP s a ⟨#[60, 47]⟩ && decide (a + 2 < s.size)) then bogusP s (a + 2)
  else (textTok ⟨#[60]⟩ false, a + 1, true)) := by
  unfold nextP
  rw [if_neg (by omega), if_neg (fun x => x.1 rfl), if_neg (fun x => x h)]
theorem next_start {s : ByteArray} {a : Nat} (h : bAt s a = 60) (h1 : letterAt s (a + 1) = true) : nextP s a ⟨#[]⟩ = tagP s (a + 1) true := by
  have := (letter_at.1 h1).1
  rw [next_lt (by omega) h, if_pos h1]
theorem next_close {s : ByteArray} {a : Nat} (h : bAt s a = 60) (h1 : bAt s (a + 1) = 47) (h2 : letterAt s (a + 2) = true) : nextP s a ⟨#[]⟩ = tagP s (a + 2) false := by
  have h3 := (letter_at.1 h2).1
  have h4 : letterAt s (a + 1) = false := by unfold letterAt; rw [h1]; exact Bool.and_false _
  rw [next_lt (by omega) h, if_neg (by rw [h4]; decide), if_pos (by rw [h2, st_close.2 ⟨by omega, h, h1⟩]; rfl)]
theorem next_comment {s : ByteArray} {a : Nat} (h : startsP s a ⟨#[60, 33, 45, 45]⟩ = true) : nextP s a ⟨#[]⟩ = commentP s (a + 4) := by
  obtain ⟨h0, h1, h2, h3, h4⟩ := st_comment.1 h
  have h5 : letterAt s (a + 1) = false := by unfold letterAt; rw [h2]; exact Bool.and_false _
  have h6 : startsP s a ⟨#[60, 47]⟩ = false := not_st fun x => by have := (st_close.1 x).2.2; omega
  rw [next_lt (by omega) h1, if_neg (by rw [h5]; decide), if_neg (by rw [h6]; exact Bool.false_ne_true), if_pos h]
theorem next_doctype {s : ByteArray} {a : Nat} (h : startsP s a ⟨#[60, 33, 100, 111, 99, 116, 121, 112, 101]⟩ = true) : nextP s a ⟨#[]⟩ = doctypeP s (a + 9) := by
  obtain ⟨h0, h1, h2, h3, _⟩ := st_doctype.1 h
  have h5 : letterAt s (a + 1) = false := by unfold letterAt; rw [h2]; exact Bool.and_false _
  have h6 : startsP s a ⟨#[60, 47]⟩ = false := not_st fun x => by have := (st_close.1 x).2.2; omega
  have h7 : startsP s a ⟨#[60, 33, 45, 45]⟩ = false := not_st fun x => by
    have := (st_comment.1 x).2.2.2.1
    rw [this] at h3; revert h3; decide
  rw [next_lt (by omega) h1, if_neg (by rw [h5]; decide), if_neg (by rw [h6]; exact Bool.false_ne_true), if_neg (by rw [h7]; decide), if_pos h]
end Go.Proofs.YtbdgoffbkenofaaGreat.Tk
