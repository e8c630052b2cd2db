/- token: plain: each piece goes on. -/
import Derived.Test.YtbdgoffbkenofaaGreatTkp
namespace Go.Proofs.YtbdgoffbkenofaaGreat.Tk
open Go Go.RowKit
set_option linter.unusedVariables false

/-- A piece goes on: behind its place, within the source; nothing is the empty piece; a piece is of the kinds 1 to 5. -/
structure Goes (s : ByteArray) (a : Nat) (o : Out) : Prop where
  gt : a < o.2.1
  le : o.2.1 ≤ s.size
  no : o.2.2 = false → o.1 = tok0
  yes : o.2.2 = true → 1 ≤ o.1.kind ∧ o.1.kind ≤ 5
theorem starts_le {s t : ByteArray} {a : Nat} (h : startsP s a t = true) : a + t.size ≤ s.size := by
  unfold startsP at h
  rw [Bool.and_eq_true] at h
  exact of_decide_eq_true h.1
theorem letter_lt {s : ByteArray} {i : Nat} (h : letterAt s i = true) : i < s.size := by
  unfold letterAt at h
  rw [Bool.and_eq_true] at h
  exact of_decide_eq_true h.1
theorem pre_le {s p : ByteArray} (h : Sr.hasPre s p = true) : p.size ≤ s.size := by
  unfold Sr.hasPre at h
  rw [Bool.and_eq_true] at h
  exact of_decide_eq_true h.1
theorem attrP_le {s : ByteArray} {a : Nat} {n v : ByteArray} {k : Nat} (ha : a < s.size) (h : attrP s a = some (n, v, k)) : a < k ∧ k ≤ s.size := by
  unfold attrP at h
  dsimp only at h
  have h1 := upT_ge (fun c => closesN c || decide (c = 61)) s (a + 1)
  have h2 := upT_le (fun c => closesN c || decide (c = 61)) (s := s) (a := a + 1) (by omega)
  generalize upT (fun c => closesN c || decide (c = 61)) s (a + 1) = e at *
  have h3 : e ≤ pastP s e := upT_ge _ _ _
  have h4 : pastP s e ≤ s.size := upT_le _ h2
  generalize pastP s e = n1 at *
  split at h
  · injection h with h; injection h with _ h; injection h with _ h; omega
  · rename_i c
    have c1 : n1 < s.size := by omega
    have h5 : n1 + 1 ≤ pastP s (n1 + 1) := upT_ge _ _ _
    generalize pastP s (n1 + 1) = n2 at *
    split at h
    · cases h
    · split at h
      · have h6 := upT_ge (fun c => decide (c = bAt s n2)) s (n2 + 1)
        generalize upT (fun c => decide (c = bAt s n2)) s (n2 + 1) = e2 at *
        split at h
        · cases h
        · injection h with h; injection h with _ h; injection h with _ h; omega
      · have h6 := upT_ge (fun c => blankN c || decide (c = 62)) s n2
        have h7 := upT_le (fun c => blankN c || decide (c = 62)) (s := s) (a := n2) (by omega)
        generalize upT (fun c => blankN c || decide (c = 62)) s n2 = e2 at *
        injection h with h; injection h with _ h; injection h with _ h; omega
theorem attrsP_le {s : ByteArray} {start : Bool} : ∀ {n e : Nat} {acc l : List (ByteArray × ByteArray)} {k : Nat}, attrsP s start n e acc = some (l, k) → e ≤ k ∧ k < s.size
  | 0, e, acc, l, k, h => by unfold attrsP at h; cases h
  | n + 1, e, acc, l, k, h => by
    unfold attrsP at h
    dsimp only at h
    have h1 := upT_ge (fun c => !blankN c && !decide (c = 47)) s e
    generalize upT (fun c => !blankN c && !decide (c = 47)) s e = e1 at *
    split at h
    · cases h
    · split at h
      · injection h with h; injection h with _ h; omega
      · split at h
        · cases h
        · rename_i c1 _ n2 v2 k2 h2
          have := attrP_le (by omega) h2
          have := attrsP_le h
          omega
theorem tagP_goes {s : ByteArray} {a : Nat} {start : Bool} (ha : a < s.size) : Goes s a (tagP s a start) := by
  unfold tagP
  dsimp only
  have h1 := upT_ge closesN s a
  generalize upT closesN s a = e at *
  split
  · exact ⟨ha, Nat.le_refl _, fun _ => rfl, fun h => by cases h⟩
  · rename_i l e2 h
    have := attrsP_le h
    refine ⟨by show a < e2 + 1; omega, by show e2 + 1 ≤ s.size; omega, fun h => (by cases h), fun _ => ?_⟩
    cases start <;> (show (1 : Int) ≤ _ ∧ _ ≤ (5 : Int); simp)
theorem commentP_goes {s : ByteArray} {a : Nat} (ha : a < s.size ∨ a = s.size) : a ≤ (commentP s a).2.1 ∧ (commentP s a).2.1 ≤ s.size ∧ (commentP s a).2.2 = true ∧ (commentP s a).1.kind = 4 := by
  unfold commentP
  dsimp only
  have hz : (s.extract a s.size).size = s.size - a := by rw [ByteArray.size_extract]; omega
  generalize s.extract a s.size = r at *
  split
  · rename_i h; have := pre_le h
    have e : (⟨#[62]⟩ : ByteArray).size = 1 := rfl
    exact ⟨by show a ≤ a + 1; omega, by show a + 1 ≤ s.size; omega, rfl, rfl⟩
  · split
    · rename_i h; have := pre_le h
      have e : (⟨#[45, 62]⟩ : ByteArray).size = 2 := rfl
      exact ⟨by show a ≤ a + 2; omega, by show a + 2 ≤ s.size; omega, rfl, rfl⟩
    · have h0 := upI_at (fun i => cEnd1 r i || cEnd2 r i) r.size 0
      generalize upI (fun i => cEnd1 r i || cEnd2 r i) r.size 0 = i at *
      split
      · rename_i hi
        have h1 := h0 (by omega)
        have e2 : (r.extract i r.size).size = r.size - i := by rw [ByteArray.size_extract]; omega
        have e3 : (⟨#[45, 45, 62]⟩ : ByteArray).size = 3 := rfl
        have e4 : (⟨#[45, 45, 33, 62]⟩ : ByteArray).size = 4 := rfl
        cases h2 : cEnd1 r i with
        | true =>
          have := pre_le h2
          exact ⟨by show a ≤ a + i + 3; omega, by show a + i + 3 ≤ s.size; omega, rfl, rfl⟩
        | false =>
          rw [h2] at h1
          have := pre_le (show cEnd2 r i = true from h1)
          exact ⟨by show a ≤ a + i + 4; omega, by show a + i + 4 ≤ s.size; omega, rfl, rfl⟩
      · exact ⟨by show a ≤ s.size; omega, Nat.le_refl _, rfl, rfl⟩
theorem bogusP_goes {s : ByteArray} {a b : Nat} (ha : a ≤ s.size) (hb : b < a) : Goes s b (bogusP s a) := by
  have h1 : a ≤ closedEnd s a := upT_ge _ _ _
  exact ⟨by show b < min (closedEnd s a + 1) s.size; omega, by show min (closedEnd s a + 1) s.size ≤ s.size; omega, fun h => (by cases h), fun _ => (by show (1 : Int) ≤ 4 ∧ (4 : Int) ≤ 5; decide)⟩
theorem doctypeP_goes {s : ByteArray} {a b : Nat} (ha : a ≤ s.size) (hb : b < a) : Goes s b (doctypeP s a) := by
  have h0 : a ≤ pastP s a := upT_ge _ _ _
  have h1 := upT_ge (fun c => blankN c || decide (c = 62)) s (pastP s a)
  have h2 : upT (fun c => blankN c || decide (c = 62)) s (pastP s a) ≤ closedEnd s (upT (fun c => blankN c || decide (c = 62)) s (pastP s a)) := upT_ge _ _ _
  exact ⟨by show b < min (closedEnd s (upT (fun c => blankN c || decide (c = 62)) s (pastP s a)) + 1) s.size; omega, by show min (closedEnd s (upT (fun c => blankN c || decide (c = 62)) s (pastP s a)) + 1) s.size ≤ s.size; omega, fun h => (by cases h), fun _ => (by show (1 : Int) ≤ 5 ∧ (5 : Int) ≤ 5; decide)⟩
theorem Goes.mono {s : ByteArray} {a b : Nat} {o : Out} (h : Goes s a o) (hb : b ≤ a) : Goes s b o := ⟨Nat.lt_of_le_of_lt hb h.gt, h.le, h.no, h.yes⟩
theorem next_goes (s raw : ByteArray) (a : Nat) (ha : a < s.size) : Goes s a (nextP s a raw) := by
  unfold nextP
  dsimp only
  split
  · omega
  · split
    · rename_i h
      have h3 : rawEndP s a raw ≤ s.size := by have := upI_le (rawOk s raw) (s.size - a) a; unfold rawEndP; omega
      exact ⟨h.2, h3, fun h => (by cases h), fun _ => (by show (1 : Int) ≤ 3 ∧ (3 : Int) ≤ 5; decide)⟩
    · split
      · rename_i h
        have h1 := upT_le (fun c => decide (c = 60) || (blankN c != blankN (bAt s a))) (s := s) (a := a) (by omega)
        have h2 : a + 1 ≤ upT (fun c => decide (c = 60) || (blankN c != blankN (bAt s a))) s a := by
          rw [upT_next ha (by simp [h])]
          exact upT_ge _ _ _
        exact ⟨h2, h1, fun h => (by cases h), fun _ => (by show (1 : Int) ≤ 3 ∧ (3 : Int) ≤ 5; decide)⟩
      · split
        · rename_i h; exact (tagP_goes (letter_lt h)).mono (by omega)
        · split
          · rename_i h; rw [Bool.and_eq_true] at h; exact (tagP_goes (letter_lt h.2)).mono (by omega)
          · split
            · rename_i h
              have h1 : a + 4 ≤ s.size := starts_le h
              have := commentP_goes (s := s) (a := a + 4) (by omega)
              exact ⟨by omega, this.2.1, fun h => (by rw [this.2.2.1] at h; cases h), fun _ => by rw [this.2.2.2]; decide⟩
            · split
              · rename_i h
                have h1 : a + 9 ≤ s.size := starts_le h
                exact doctypeP_goes h1 (by omega)
              · split
                · rename_i h
                  have h1 : a + 3 ≤ s.size := starts_le h
                  exact ⟨by show a < a + 3; omega, h1, fun _ => rfl, fun h => by cases h⟩
                · split
                  · rename_i h
                    have h1 : a + 2 ≤ s.size := starts_le h
                    exact bogusP_goes (by omega) (by omega)
                  · split
                    · rename_i h
                      have h1 : a + 2 ≤ s.size := by
                        rw [Bool.or_eq_true, Bool.and_eq_true] at h
                        rcases h with h | h
                        · exact starts_le h
                        · exact starts_le h.1
                      exact bogusP_goes (by omega) (by omega)
                    · exact ⟨by show a < a + 1; omega, by show a + 1 ≤ s.size; omega, fun h => (by cases h), fun _ => (by show (1 : Int) ≤ 3 ∧ (3 : Int) ≤ 5; decide)⟩
theorem next_end (s raw : ByteArray) (a : Nat) (ha : s.size ≤ a) : nextP s a raw = (⟨6, ⟨#[]⟩, ⟨#[]⟩, [], false⟩, s.size, true) := by unfold nextP; exact if_pos ha
end Go.Proofs.YtbdgoffbkenofaaGreat.Tk
