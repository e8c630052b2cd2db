/- token: plain: raw elements. -/
import Derived.Test.YtbdgoffbkenofaaGreatTkPh
import Derived.Test.YtbdgoffbkenofaaGreatTkPo
namespace Go.Proofs.YtbdgoffbkenofaaGreat.Tk
open Go Go.RowKit
set_option linter.unusedVariables false

theorem Has.sub {s x y : ByteArray} {k j : Nat} (h : Has s k x) (g : Has x j y) : Has s (k + j) y :=
  ⟨by have := h.le; have := g.le; omega, fun i hi => by have := g.le; rw [Nat.add_assoc, h.at_ (j + i) (by omega), g.at_ i hi]⟩
theorem st_raw {s n : ByteArray} {i : Nat} : startsP s i ((⟨#[60, 47]⟩ : ByteArray) ++ n) = true ↔ i + (2 + n.size) ≤ s.size ∧ bAt s i = 60 ∧ bAt s (i + 1) = 47 ∧ ∀ j, j < n.size → lowN (bAt s (i + 2 + j)) = lowN (bAt n j) := by
  have z : (⟨#[60, 47]⟩ : ByteArray).size = 2 := rfl
  have B0 := has_l (⟨#[60, 47]⟩ : ByteArray) n
  have B1 := has_r (⟨#[60, 47]⟩ : ByteArray) n
  rw [starts_iff, ByteArray.size_append, z]
  constructor
  · rintro ⟨h1, h2⟩
    refine ⟨h1, ?_, ?_, fun j hj => ?_⟩
    · have := h2 0 (by omega)
      rw [B0.one (i := 0) (by decide) (by omega), show lowN (bAt (⟨#[60, 47]⟩ : ByteArray) 0) = 60 by decide, lowN_lit (by decide)] at this
      exact this
    · have := h2 1 (by omega)
      rw [B0.one (i := 1) (by decide) (by omega), show lowN (bAt (⟨#[60, 47]⟩ : ByteArray) 1) = 47 by decide, lowN_lit (by decide)] at this
      exact this
    · have := h2 (2 + j) (by omega)
      rw [B1.one (i := j) hj (by omega)] at this
      rw [show i + 2 + j = i + (2 + j) by omega]
      exact this
  · rintro ⟨h1, h2, h3, h4⟩
    refine ⟨h1, fun j hj => ?_⟩
    by_cases j0 : j = 0
    · subst j0
      rw [B0.one (i := 0) (by decide) (by omega), Nat.add_zero, h2]; decide
    · by_cases j1 : j = 1
      · subst j1
        rw [B0.one (i := 1) (by decide) (by omega), h3]; decide
      · rw [B1.one (i := j - 2) (m := j) (by omega) (by omega), show i + j = i + 2 + (j - 2) by omega]
        exact h4 _ (by omega)
/-- A raw element's name, n, and N, as it stands. -/
structure RawN (n N : ByteArray) : Prop where
  pos : 0 < n.size
  sz : N.size = n.size
  low : ∀ i, i < n.size → 97 ≤ bAt n i ∧ bAt n i ≤ 122
  b : bAt n 0 ≠ 98
  same : ∀ i, i < n.size → lowN (bAt N i) = bAt n i
  let_ : ∀ i, i < N.size → letterN (bAt N i) = true
theorem lowN_low {c : Nat} (h : 97 ≤ c ∧ c ≤ 122) : lowN c = c := by unfold lowN; rw [if_neg (by omega)]
theorem letter_cases {c : Nat} (h : letterN c = true) : (97 ≤ c ∧ c ≤ 122) ∨ (65 ≤ c ∧ c ≤ 90) := of_decide_eq_true h
theorem closes_letter {c : Nat} (h : letterN c = true) : closesN c = false := by
  have := letter_cases h
  unfold closesN blankN
  rw [Bool.or_eq_false_iff, Bool.or_eq_false_iff]
  refine ⟨⟨decide_eq_false ?_, decide_eq_false ?_⟩, decide_eq_false ?_⟩ <;> omega
/-- A name of letters counts as it is, in small ones. -/
theorem named_plain {x n : ByteArray} (hz : x.size = n.size) (h : ∀ i, i < n.size → lowN (bAt x i) = bAt n i) (hq : ∀ i, i < n.size → bAt n i ≠ 34 ∧ bAt n i ≠ 39 ∧ bAt n i ≠ 60 ∧ bAt n i ≠ 61) : namedP x = n := by
  refine ext_bAt (by rw [namedP_size, hz]) fun i hi => ?_
  have hx : i < x.size := by rw [namedP_size] at hi; exact hi
  have e : (namedP x)[i]'hi = nameB (Ru.lowB x[i]) := by
    show ((Ru.lower x.data.toList).map nameB).toArray[i]'_ = _
    simp [Ru.lower]
    rfl
  have e2 : (Ru.lowB x[i]).toNat = bAt n i := by
    have := h i (by omega)
    rw [bAt_in hx] at this
    rw [Ru.lowB_nat]; exact this
  rw [bAt_in hi, e]
  have := hq i (by omega)
  unfold nameB
  rw [if_neg ?_, e2]
  have t := e2
  rintro (c | c | c | c) <;> rw [c] at t <;> simp at t <;> omega
/-- What a text in a raw element is. -/
theorem raw_text {n N a z : ByteArray} (hn : RawN n N) (ha : 0 < a.size) (hc : ∀ i, i < a.size → bAt a i ≠ 38 ∧ bAt a i ≠ 47) (hz : z = ⟨#[62]⟩ ∨ z = ⟨#[32, 62]⟩) :
    nextP ((((a ++ ⟨#[60, 47, 98, 62, 60, 47]⟩) ++ n) ++ ⟨#[120, 62]⟩) ++ (((⟨#[60, 47]⟩ : ByteArray) ++ N) ++ z)) 0 n = (textTok (((a ++ ⟨#[60, 47, 98, 62, 60, 47]⟩) ++ n) ++ ⟨#[120, 62]⟩) true, a.size + 8 + n.size, true) ∧
    nextP ((((a ++ ⟨#[60, 47, 98, 62, 60, 47]⟩) ++ n) ++ ⟨#[120, 62]⟩) ++ (((⟨#[60, 47]⟩ : ByteArray) ++ N) ++ z)) (a.size + 8 + n.size) n = (⟨2, n, ⟨#[]⟩, [], false⟩, a.size + 8 + n.size + (2 + N.size + z.size), true) := by
  have z1 : (⟨#[60, 47, 98, 62, 60, 47]⟩ : ByteArray).size = 6 := rfl
  have z2 : (⟨#[120, 62]⟩ : ByteArray).size = 2 := rfl
  have z3 : (⟨#[60, 47]⟩ : ByteArray).size = 2 := rfl
  have zz : 1 ≤ z.size := by rcases hz with rfl | rfl <;> decide
  have hsn := hn.sz
  have zt : (((a ++ ⟨#[60, 47, 98, 62, 60, 47]⟩) ++ n) ++ ⟨#[120, 62]⟩).size = a.size + 8 + n.size := by simp only [ByteArray.size_append, z1, z2]; omega
  have zs : ((((a ++ ⟨#[60, 47, 98, 62, 60, 47]⟩) ++ n) ++ ⟨#[120, 62]⟩) ++ (((⟨#[60, 47]⟩ : ByteArray) ++ N) ++ z)).size = a.size + 8 + n.size + (2 + n.size + z.size) := by simp only [ByteArray.size_append, z1, z2, z3]; omega
  have BT := has_l (((a ++ ⟨#[60, 47, 98, 62, 60, 47]⟩) ++ n) ++ ⟨#[120, 62]⟩) (((⟨#[60, 47]⟩ : ByteArray) ++ N) ++ z)
  have A0 := ((has_l a ⟨#[60, 47, 98, 62, 60, 47]⟩).l n).l ⟨#[120, 62]⟩
  have A1 := ((has_r a ⟨#[60, 47, 98, 62, 60, 47]⟩).l n).l ⟨#[120, 62]⟩
  have A2 := ((has_r (a ++ ⟨#[60, 47, 98, 62, 60, 47]⟩) n).l ⟨#[120, 62]⟩)
  have A3 := has_r ((a ++ ⟨#[60, 47, 98, 62, 60, 47]⟩) ++ n) ⟨#[120, 62]⟩
  have E := has_r (((a ++ ⟨#[60, 47, 98, 62, 60, 47]⟩) ++ n) ++ ⟨#[120, 62]⟩) (((⟨#[60, 47]⟩ : ByteArray) ++ N) ++ z)
  have E0 := E.sub ((has_l (⟨#[60, 47]⟩ : ByteArray) N).l z)
  have E1 := E.sub ((has_r (⟨#[60, 47]⟩ : ByteArray) N).l z)
  have E2 := E.sub (has_r ((⟨#[60, 47]⟩ : ByteArray) ++ N) z)
  simp only [ByteArray.size_append, z1, z2, z3] at A1 A2 A3 E0 E1 E2
  have hown : ∀ attr, Ch.decB (((a ++ ⟨#[60, 47, 98, 62, 60, 47]⟩) ++ n) ++ ⟨#[120, 62]⟩) attr = ((a ++ ⟨#[60, 47, 98, 62, 60, 47]⟩) ++ n) ++ ⟨#[120, 62]⟩ := fun attr => decB_own fun i hi => by
    rw [zt] at hi
    by_cases c1 : i < a.size
    · rw [A0.one (i := i) c1 (by omega)]; exact (hc i c1).1
    · by_cases c2 : i < a.size + 6
      · rw [A1.one (i := i - a.size) (by omega) (by omega)]
        have : ∀ j, j < 6 → bAt ⟨#[60, 47, 98, 62, 60, 47]⟩ j ≠ 38 := by decide
        exact this _ (by omega)
      · by_cases c3 : i < a.size + 6 + n.size
        · rw [A2.one (i := i - (a.size + 6)) (by omega) (by omega)]
          have := hn.low (i - (a.size + 6)) (by omega)
          omega
        · rw [A3.one (i := i - (a.size + 6 + n.size)) (by omega) (by omega)]
          have : ∀ j, j < 2 → bAt ⟨#[120, 62]⟩ j ≠ 38 := by decide
          exact this _ (by omega)
  have B0 := BT.sub A0
  have B1 := BT.sub A1
  have B2 := BT.sub A2
  have B3 := BT.sub A3
  have hx := BT.ext
  rw [zt, Nat.zero_add] at hx
  generalize ((a ++ ⟨#[60, 47, 98, 62, 60, 47]⟩) ++ n) ++ ⟨#[120, 62]⟩ = t at *
  generalize t ++ (((⟨#[60, 47]⟩ : ByteArray) ++ N) ++ z) = s at *
  have hend : rawOk s n (a.size + 8 + n.size) = true := by
    unfold rawOk
    rw [Bool.and_eq_true, Bool.and_eq_true, st_raw]
    refine ⟨⟨⟨by omega, ?_, ?_, fun j hj => ?_⟩, decide_eq_true (by omega)⟩, ?_⟩
    · rw [E0.one (i := 0) (by decide) (by omega)]; decide
    · rw [E0.one (i := 1) (by decide) (by omega)]; decide
    · rw [E1.one (i := j) (by omega) (by omega), hn.same j hj, lowN_low (hn.low j hj)]
    · rw [E2.one (i := 0) zz (by omega)]
      rcases hz with rfl | rfl <;> decide
  have hno : ∀ j, j < a.size + 8 + n.size → rawOk s n j = false := by
    intro j hj
    unfold rawOk
    cases hq : startsP s j ((⟨#[60, 47]⟩ : ByteArray) ++ n) with
    | false => rfl
    | true =>
      by_cases h4 : j = a.size + 4
      · subst h4
        rw [B3.one (i := 0) (by decide) (by omega)]
        exact Bool.and_false _
      · exfalso
        obtain ⟨q0, q1, q2, q3⟩ := st_raw.1 hq
        by_cases c1 : j < a.size
        · by_cases c2 : j + 1 < a.size
          · rw [B0.one (i := j + 1) c2 (by omega)] at q2
            exact (hc _ c2).2 q2
          · rw [B1.one (i := 0) (by decide) (by omega)] at q2
            revert q2; decide
        · by_cases c2 : j < a.size + 6
          · have h6 : j = a.size ∨ j = a.size + 1 ∨ j = a.size + 2 ∨ j = a.size + 3 ∨ j = a.size + 5 := by omega
            rcases h6 with rfl | rfl | rfl | rfl | rfl
            · have := q3 0 hn.pos
              rw [B1.one (i := 2) (by decide) (by omega), lowN_low (hn.low 0 hn.pos)] at this
              exact hn.b (this.symm.trans (by decide))
            · rw [B1.one (i := 1) (by decide) (by omega)] at q1; revert q1; decide
            · rw [B1.one (i := 2) (by decide) (by omega)] at q1; revert q1; decide
            · rw [B1.one (i := 3) (by decide) (by omega)] at q1; revert q1; decide
            · rw [B1.one (i := 5) (by decide) (by omega)] at q1; revert q1; decide
          · by_cases c3 : j < a.size + 6 + n.size
            · rw [B2.one (i := j - (a.size + 6)) (by omega) (by omega)] at q1
              have := hn.low (j - (a.size + 6)) (by omega)
              omega
            · rw [B3.one (i := j - (a.size + 6 + n.size)) (by omega) (by omega)] at q1
              have : ∀ j, j < 2 → bAt ⟨#[120, 62]⟩ j ≠ 60 := by decide
              exact this _ (by omega) q1
  have r0 : rawEndP s 0 n = a.size + 8 + n.size := upI_eq (Nat.zero_le _) (by omega) (fun j _ hj => hno j hj) (fun _ => hend)
  have r1 : rawEndP s (a.size + 8 + n.size) n = a.size + 8 + n.size := upI_eq (Nat.le_refl _) (by omega) (fun j h1 h2 => by omega) (fun _ => hend)
  have hne : n ≠ ⟨#[]⟩ := fun e => by have := hn.pos; rw [e] at this; exact absurd this (by decide)
  constructor
  · unfold nextP
    rw [if_neg (by omega), if_pos ⟨hne, by rw [r0]; omega⟩, r0, hx, hown, ite_self]
  · have e0 : nextP s (a.size + 8 + n.size) n = nextP s (a.size + 8 + n.size) ⟨#[]⟩ := by
      unfold nextP
      exact ((if_neg (by omega)).trans (if_neg (fun x => by rw [r1] at x; exact absurd x.2 (Nat.lt_irrefl _)))).trans ((if_neg (by omega)).trans (if_neg (fun x => x.1 rfl))).symm
    have h0 : bAt s (a.size + 8 + n.size) = 60 := (E0.one (i := 0) (by decide) (by omega)).trans (by decide)
    have h1 : bAt s (a.size + 8 + n.size + 1) = 47 := (E0.one (i := 1) (by decide) (by omega)).trans (by decide)
    have h2 : letterAt s (a.size + 8 + n.size + 2) = true := letter_at.2 ⟨by have := hn.pos; omega, by
      rw [E1.one (i := 0) (by have := hn.pos; omega) (by omega)]; exact hn.let_ 0 (by have := hn.pos; omega)⟩
    rw [e0, next_close h0 h1 h2]
    have he : upT closesN s (a.size + 8 + n.size + 2) = a.size + 8 + n.size + 2 + N.size := by
      refine upT_eq (by omega) (by omega) (fun j g1 g2 => ?_) (fun _ => ?_)
      · rw [E1.one (i := j - (a.size + 8 + n.size + 2)) (by omega) (by omega)]
        exact closes_letter (hn.let_ _ (by omega))
      · rw [E2.one (i := 0) zz (by omega)]
        rcases hz with rfl | rfl <;> decide
    have hE := (E1.to (k' := a.size + 8 + n.size + 2) (by omega)).ext
    unfold tagP
    dsimp only
    rw [he, hE, named_plain hsn (fun i hi => hn.same i hi) (fun i hi => by have := hn.low i hi; omega)]
    have hat : attrsP s false (s.size + 1 - (a.size + 8 + n.size + 2 + N.size)) (a.size + 8 + n.size + 2 + N.size) [] = some ([], a.size + 8 + n.size + (1 + N.size + z.size)) := by
      rcases hz with rfl | rfl
      · have z4 : (⟨#[62]⟩ : ByteArray).size = 1 := rfl
        rw [z4] at zs ⊢
        have e1 : upT (fun c => !blankN c && !decide (c = 47)) s (a.size + 8 + n.size + 2 + N.size) = a.size + 8 + n.size + (1 + N.size + 1) := upT_eq (by omega) (by omega) (fun j g1 g2 => by omega) (fun _ => by
          rw [E2.one (i := 0) (by decide) (by omega)]; decide)
        rw [show s.size + 1 - (a.size + 8 + n.size + 2 + N.size) = 1 + 1 by omega]
        unfold attrsP
        dsimp only
        rw [e1, if_neg (by omega), if_pos ((E2.one (i := 0) (by decide) (by omega)).trans (by decide))]
      · have z4 : (⟨#[32, 62]⟩ : ByteArray).size = 2 := rfl
        rw [z4] at zs ⊢
        have e1 : upT (fun c => !blankN c && !decide (c = 47)) s (a.size + 8 + n.size + 2 + N.size) = a.size + 8 + n.size + (1 + N.size + 2) := upT_eq (by omega) (by omega) (fun j g1 g2 => by
          rw [E2.one (i := 0) (by decide) (by omega)]; decide) (fun _ => by
          rw [E2.one (i := 1) (by decide) (by omega)]; decide)
        rw [show s.size + 1 - (a.size + 8 + n.size + 2 + N.size) = 2 + 1 by omega]
        unfold attrsP
        dsimp only
        rw [e1, if_neg (by omega), if_pos ((E2.one (i := 1) (by decide) (by omega)).trans (by decide))]
    rw [hat]
    show ((⟨2, n, ⟨#[]⟩, sortP [], false⟩, a.size + 8 + n.size + (1 + N.size + z.size) + 1, true) : Out) = _
    rw [show sortP [] = [] from List.mergeSort_nil, show a.size + 8 + n.size + (1 + N.size + z.size) + 1 = a.size + 8 + n.size + (2 + N.size + z.size) by omega]
end Go.Proofs.YtbdgoffbkenofaaGreat.Tk
