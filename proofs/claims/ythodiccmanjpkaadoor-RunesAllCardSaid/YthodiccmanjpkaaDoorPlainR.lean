/- Runes as lists of bytes: what Clean, Lower, Valid give. Plain Lean. -/
import Derived.Lib.ValidLaws
import Derived.Lib.MapLaws
import Derived.Lib.RuneBytes
import Derived.Laws.Runes
namespace Go.Proofs.YthodiccmanjpkaaDoor.Ru
open Go Go.Lib

/-- No rune in its shortest form begins here. -/
def Bad (l : List UInt8) : Prop := (decodeL l).1 = 65533 ∧ (decodeL l).2 = 1
instance (l : List UInt8) : Decidable (Bad l) := by unfold Bad; infer_instance
def fffd : List UInt8 := [239, 191, 189]

/-- The program's Clean: p: the byte ahead is 13. -/
def cleanP : Nat → Bool → List UInt8 → List UInt8
  | 0, _, _ => []
  | n + 1, p, l => if l = [] then [] else
    (if (decodeL l).1 = 0 then fffd else if (decodeL l).1 = 13 then [10] else if (decodeL l).1 = 10 ∧ p = true then [] else encodeRune ((decodeL l).1 : Int)) ++
      cleanP n (decide ((decodeL l).1 = 13)) (l.drop (decodeL l).2)
/-- The document's Clean. -/
def cleanR : Nat → List UInt8 → List UInt8
  | 0, _ => []
  | n + 1, l => if l = [] then [] else
    if Bad l ∨ l.getD 0 0 = 0 then fffd ++ cleanR n (l.drop 1)
    else if l.getD 0 0 = 13 then 10 :: cleanR n (l.drop (if l.getD 1 0 = 10 then 2 else 1))
    else l.take (decodeL l).2 ++ cleanR n (l.drop (decodeL l).2)

theorem head_lt (l : List UInt8) (v : Nat) (hv : v < 128) : (decodeL l).1 = v ↔ l.getD 0 0 = UInt8.ofNat v := by
  rw [decodeL_N]
  have k0 := (l.getD 0 0).toNat_lt
  have e : l.getD 0 0 = UInt8.ofNat v ↔ (l.getD 0 0).toNat = v := by
    rw [← UInt8.toNat_inj]; simp; omega
  rw [e]
  rcases decodeN_shape l.length (l.getD 0 0).toNat (l.getD 1 0).toNat (l.getD 2 0).toNat (l.getD 3 0).toNat with ⟨c, e⟩ | ⟨c1, c2, c3, cv, e⟩ | ⟨c1, c2, c3, c4, cv, cs, e⟩ | ⟨c1, c2, c3, c4, c5, cv, cw, e⟩ | e
  · rw [e]
  · rw [e]; dsimp only; omega
  · rw [e]; dsimp only; omega
  · rw [e]; dsimp only; omega
  · by_cases h : (l.getD 0 0).toNat < 128
    · have : decodeN l.length (l.getD 0 0).toNat (l.getD 1 0).toNat (l.getD 2 0).toNat (l.getD 3 0).toNat = ((l.getD 0 0).toNat, 1) := by unfold decodeN; rw [if_pos h]
      rw [this]
    · rw [e]; dsimp only; omega
theorem width_lt (l : List UInt8) (h : (decodeL l).1 < 128) : (decodeL l).2 = 1 := by
  rw [decodeL_N] at h ⊢
  rcases decodeN_shape l.length (l.getD 0 0).toNat (l.getD 1 0).toNat (l.getD 2 0).toNat (l.getD 3 0).toNat with ⟨c, e⟩ | ⟨c1, c2, c3, cv, e⟩ | ⟨c1, c2, c3, c4, cv, cs, e⟩ | ⟨c1, c2, c3, c4, c5, cv, cw, e⟩ | e
  · rw [e]
  all_goals (rw [e] at h; dsimp only at h; omega)
theorem not_bad_lt (l : List UInt8) (h : (decodeL l).1 < 128) : ¬ Bad l := fun hb => by have := hb.1; omega
theorem bad_enc (l : List UInt8) (h : Bad l) : encodeRune ((decodeL l).1 : Int) = fffd := by rw [h.1]; rfl

theorem cleanP_nil (n : Nat) (p : Bool) : cleanP n p [] = [] := by cases n <;> rfl
theorem cleanR_nil (n : Nat) : cleanR n [] = [] := by cases n <;> rfl
/-- The two are one. -/
theorem clean_eq : ∀ (n : Nat) (l : List UInt8), l.length ≤ n → ∀ m, l.length ≤ m →
    cleanP n false l = cleanR m l ∧ cleanP n true l = cleanR m (if l.getD 0 0 = 10 then l.drop 1 else l)
  | 0, l, hn, m, _ => by
    have : l = [] := List.eq_nil_of_length_eq_zero (by omega)
    subst this
    simp [cleanP_nil, cleanR_nil]
  | n + 1, l, hn, m, hm => by
    by_cases hne : l = []
    · subst hne; simp [cleanP_nil, cleanR_nil]
    · have hw := decodeL_width l
      have hl : 0 < l.length := List.length_pos_iff.2 hne
      obtain ⟨m, rfl⟩ : ∃ k, m = k + 1 := ⟨m - 1, by omega⟩
      have hd : (l.drop (decodeL l).2).length ≤ n := by rw [List.length_drop]; omega
      have hd' : (l.drop (decodeL l).2).length ≤ m := by rw [List.length_drop]; omega
      have IH := clean_eq n _ hd m hd'
      have h0 := head_lt l 0 (by omega)
      have h13 := head_lt l 13 (by omega)
      have h10 := head_lt l 10 (by omega)
      have key : cleanP (n + 1) false l = cleanR (m + 1) l := by
        simp only [cleanP, cleanR, if_neg hne]
        by_cases e0 : (decodeL l).1 = 0
        · have hh : l.getD 0 0 = 0 := h0.1 e0
          have h13' : ¬ (decodeL l).1 = 13 := by omega
          rw [if_pos e0, if_pos (.inr hh), decide_eq_false h13', IH.1, width_lt l (by omega)]
        · have hh : ¬ l.getD 0 0 = 0 := fun h => e0 (h0.2 h)
          rw [if_neg e0]
          by_cases e13 : (decodeL l).1 = 13
          · have hh3 : l.getD 0 0 = 13 := h13.1 e13
            rw [if_pos e13, if_neg (by rintro (h | h); exact not_bad_lt l (by omega) h; exact hh h), if_pos hh3, decide_eq_true e13, IH.2, width_lt l (by omega)]
            have e : (l.drop 1).getD 0 0 = l.getD 1 0 := by rw [getD_dropU]
            rw [e]
            by_cases e10 : l.getD 1 0 = 10
            · rw [if_pos e10, if_pos e10, List.drop_drop]; rfl
            · rw [if_neg e10, if_neg e10]; rfl
          · have hh3 : ¬ l.getD 0 0 = 13 := fun h => e13 (h13.2 h)
            rw [if_neg e13, if_neg (by simp), decide_eq_false e13, IH.1]
            by_cases hb : Bad l
            · rw [if_pos (.inl hb), bad_enc l hb, hb.2]
            · rw [if_neg (by rintro (h | h); exact hb h; exact hh h), if_neg hh3, encode_decode l hne hb]
      refine ⟨key, ?_⟩
      by_cases e10 : (decodeL l).1 = 10
      · have hh : l.getD 0 0 = 10 := h10.1 e10
        have hw1 := width_lt l (by omega)
        have hk : (l.drop 1).length ≤ m := by rw [hw1] at hd'; exact hd'
        have hk' : (l.drop 1).length ≤ n := by rw [hw1] at hd; exact hd
        rw [if_pos hh]
        show (if l = [] then [] else _) = _
        rw [if_neg hne, if_neg (by omega), if_neg (by omega), if_pos ⟨e10, rfl⟩, e10, hw1, List.nil_append, show decide ((10 : Nat) = 13) = false from rfl]
        exact (clean_eq n _ hk' (m + 1) (by omega)).1
      · have hh : ¬ l.getD 0 0 = 10 := fun h => e10 (h10.2 h)
        rw [if_neg hh, ← key]
        simp only [cleanP, if_neg hne]
        simp [e10]

/-- What a step leaves is the same with any text behind it. -/
theorem decode_more (l t : List UInt8) (hne : l ≠ []) (hb : ¬ Bad l) : decodeL (l ++ t) = decodeL l := by
  rw [Bad] at hb
  rw [decodeL_N] at hb ⊢
  rw [decodeL_N l]
  have g : ∀ i, i < l.length → (l ++ t).getD i 0 = l.getD i 0 := fun i hi => by simp [List.getD, List.getElem?_append_left hi]
  have hlen : (l ++ t).length = l.length + t.length := List.length_append
  rcases decodeN_shape l.length (l.getD 0 0).toNat (l.getD 1 0).toNat (l.getD 2 0).toNat (l.getD 3 0).toNat with ⟨c, e⟩ | ⟨c1, c2, c3, cv, e⟩ | ⟨c1, c2, c3, c4, cv, cs, e⟩ | ⟨c1, c2, c3, c4, c5, cv, cw, e⟩ | e
  · rw [e, g 0 (List.length_pos_iff.2 hne)]; unfold decodeN; rw [if_pos c]
  · rw [e, g 0 (by omega), g 1 (by omega), hlen]; unfold decodeN
    rw [if_neg (by omega), if_pos ⟨c1, by omega, c3⟩, if_pos (by omega)]
  · rw [e, g 0 (by omega), g 1 (by omega), g 2 (by omega), hlen]; unfold decodeN
    rw [if_neg (by omega), if_neg (by omega), if_pos ⟨c1, ⟨by omega, c3⟩, by omega, c4⟩, if_pos (by omega)]
  · rw [e, g 0 (by omega), g 1 (by omega), g 2 (by omega), g 3 (by omega), hlen]; unfold decodeN
    rw [if_neg (by omega), if_neg (by omega), if_neg (by omega), if_pos ⟨c1, ⟨by omega, c3⟩, ⟨by omega, c4⟩, by omega, c5⟩, if_pos (by omega)]
  · rw [e] at hb; exact absurd ⟨rfl, rfl⟩ hb
theorem decode_take (l t : List UInt8) (hne : l ≠ []) (hb : ¬ Bad l) : decodeL (l.take (decodeL l).2 ++ t) = decodeL l := by
  have hl : 0 < l.length := List.length_pos_iff.2 hne
  have hw := decodeL_le l hne
  rw [Bad] at hb
  rw [decodeL_N] at hb hw ⊢
  rw [decodeL_N l]
  generalize ht : l.take (decodeN l.length (l.getD 0 0).toNat (l.getD 1 0).toNat (l.getD 2 0).toNat (l.getD 3 0).toNat).2 = q
  have hq : q.length = (decodeN l.length (l.getD 0 0).toNat (l.getD 1 0).toNat (l.getD 2 0).toNat (l.getD 3 0).toNat).2 := by rw [← ht, List.length_take]; omega
  have g : ∀ i, i < q.length → (q ++ t).getD i 0 = l.getD i 0 := fun i hi => by
    rw [List.getD, List.getD, List.getElem?_append_left hi]
    subst ht
    rw [List.getElem?_take_of_lt (by omega)]
  have hlen : (q ++ t).length = q.length + t.length := List.length_append
  clear ht
  rcases decodeN_shape l.length (l.getD 0 0).toNat (l.getD 1 0).toNat (l.getD 2 0).toNat (l.getD 3 0).toNat with ⟨c, e⟩ | ⟨c1, c2, c3, cv, e⟩ | ⟨c1, c2, c3, c4, cv, cs, e⟩ | ⟨c1, c2, c3, c4, c5, cv, cw, e⟩ | e
  · rw [e] at hq ⊢; dsimp only at hq; rw [g 0 (by omega)]; unfold decodeN; rw [if_pos c]
  · rw [e] at hq ⊢; dsimp only at hq; rw [g 0 (by omega), g 1 (by omega), hlen]; unfold decodeN
    rw [if_neg (by omega), if_pos ⟨c1, by omega, c3⟩, if_pos (by omega)]
  · rw [e] at hq ⊢; dsimp only at hq; rw [g 0 (by omega), g 1 (by omega), g 2 (by omega), hlen]; unfold decodeN
    rw [if_neg (by omega), if_neg (by omega), if_pos ⟨c1, ⟨by omega, c3⟩, by omega, c4⟩, if_pos (by omega)]
  · rw [e] at hq ⊢; dsimp only at hq; rw [g 0 (by omega), g 1 (by omega), g 2 (by omega), g 3 (by omega), hlen]; unfold decodeN
    rw [if_neg (by omega), if_neg (by omega), if_neg (by omega), if_pos ⟨c1, ⟨by omega, c3⟩, ⟨by omega, c4⟩, by omega, c5⟩, if_pos (by omega)]
  · rw [e] at hb; exact absurd ⟨rfl, rfl⟩ hb

/-! ### Pieces -/
/-- A rune's bytes. -/
def Piece (q : List UInt8) : Prop := q ≠ [] ∧ ∀ t, (decodeL (q ++ t)).2 = q.length ∧ ¬ Bad (q ++ t)
inductive Runes : List UInt8 → Prop
  | nil : Runes []
  | cons {q t : List UInt8} : Piece q → Runes t → Runes (q ++ t)
theorem Runes.append {a b : List UInt8} (h : Runes a) (k : Runes b) : Runes (a ++ b) := by
  induction h with
  | nil => exact k
  | cons p _ ih => rw [List.append_assoc]; exact .cons p ih
theorem Runes.one {q : List UInt8} (h : Piece q) : Runes q := by have := Runes.cons h .nil; rwa [List.append_nil] at this
theorem valid_runes {l : List UInt8} (h : Runes l) : validD l = true := by
  induction h with
  | nil => rfl
  | @cons q t p _ ih =>
    have hne : q ++ t ≠ [] := by simp [p.1]
    have hb := (p.2 t).2
    rw [Bad] at hb
    rw [validD_step _ hne, if_neg hb, (p.2 t).1, List.drop_left]
    exact ih
theorem piece_take (l : List UInt8) (hne : l ≠ []) (hb : ¬ Bad l) : Piece (l.take (decodeL l).2) := by
  have hw := decodeL_width l
  have hl : 0 < l.length := List.length_pos_iff.2 hne
  have hle := decodeL_le l hne
  refine ⟨fun h => ?_, fun t => ?_⟩
  · have := congrArg List.length h
    rw [List.length_take, List.length_nil] at this
    omega
  · unfold Bad
    rw [decode_take l t hne hb, List.length_take]
    exact ⟨(Nat.min_eq_left hle).symm, hb⟩
theorem piece_enc (v : Int) : Piece (encodeRune v) := by
  suffices H : ∀ q : List UInt8, encodeRune v = q → Piece q by exact H _ rfl
  have one : ∀ x : UInt8, x.toNat < 128 → Piece [x] := fun x hx => ⟨by simp, fun t => by
    have := decodeL_ascii x t hx
    unfold Bad
    rw [List.singleton_append, this]
    simp; omega⟩
  intro q hq
  unfold encodeRune at hq
  by_cases h1 : 0 ≤ v ∧ v ≤ 127
  · rw [encodeRuneZ_one h1.1 h1.2] at hq
    subst hq
    exact one _ (by simp; omega)
  by_cases h2 : 128 ≤ v ∧ v ≤ 2047
  · rw [encodeRuneZ_two h2.1 h2.2] at hq
    subst hq
    refine ⟨by simp, fun t => ?_⟩
    unfold Bad
    rw [decodeL_N]
    simp only [List.map_cons, List.map_nil, List.getD, List.cons_append, List.nil_append, List.length_cons, List.getElem?_cons_zero, List.getElem?_cons_succ, Option.getD_some]
    have e0 : ((192 + v / 64).toNat.toUInt8).toNat = (192 + v / 64).toNat := by simp; omega
    have e1 : ((128 + v % 64).toNat.toUInt8).toNat = (128 + v % 64).toNat := by simp; omega
    rw [e0, e1]
    unfold decodeN
    rw [if_neg (by omega), if_pos ⟨by omega, by omega, by omega⟩, if_pos (by omega)]
    simp
  by_cases h3 : (2048 ≤ v ∧ v < 55296) ∨ (57343 < v ∧ v ≤ 65535)
  · rw [encodeRuneZ_three h3] at hq
    subst hq
    refine ⟨by simp, fun t => ?_⟩
    unfold Bad
    rw [decodeL_N]
    simp only [List.map_cons, List.map_nil, List.getD, List.cons_append, List.nil_append, List.length_cons, List.getElem?_cons_zero, List.getElem?_cons_succ, Option.getD_some]
    have e0 : ((224 + v / 4096).toNat.toUInt8).toNat = (224 + v / 4096).toNat := by simp; omega
    have e1 : ((128 + v / 64 % 64).toNat.toUInt8).toNat = (128 + v / 64 % 64).toNat := by simp; omega
    have e2 : ((128 + v % 64).toNat.toUInt8).toNat = (128 + v % 64).toNat := by simp; omega
    rw [e0, e1, e2]
    unfold decodeN
    rw [if_neg (by omega), if_neg (by omega), if_pos ⟨by omega, ⟨by omega, by omega⟩, by omega, by omega⟩, if_pos (by omega)]
    simp
  by_cases h4 : 65536 ≤ v ∧ v ≤ 1114111
  · rw [encodeRuneZ_four h4.1 h4.2] at hq
    subst hq
    refine ⟨by simp, fun t => ?_⟩
    unfold Bad
    rw [decodeL_N]
    simp only [List.map_cons, List.map_nil, List.getD, List.cons_append, List.nil_append, List.length_cons, List.getElem?_cons_zero, List.getElem?_cons_succ, Option.getD_some]
    have e0 : ((240 + v / 262144).toNat.toUInt8).toNat = (240 + v / 262144).toNat := by simp; omega
    have e1 : ((128 + v / 4096 % 64).toNat.toUInt8).toNat = (128 + v / 4096 % 64).toNat := by simp; omega
    have e2 : ((128 + v / 64 % 64).toNat.toUInt8).toNat = (128 + v / 64 % 64).toNat := by simp; omega
    have e3 : ((128 + v % 64).toNat.toUInt8).toNat = (128 + v % 64).toNat := by simp; omega
    rw [e0, e1, e2, e3]
    unfold decodeN
    rw [if_neg (by omega), if_neg (by omega), if_neg (by omega), if_pos ⟨by omega, ⟨by omega, by omega⟩, ⟨by omega, by omega⟩, by omega, by omega⟩, if_pos (by omega)]
    simp
  rw [encodeRuneZ_bad (by omega)] at hq
  subst hq
  exact ⟨by simp, fun t => by unfold Bad; rw [decodeL_N]; simp [decodeN]⟩

/-! ### What Clean gives -/
def clean (l : List UInt8) : List UInt8 := cleanR l.length l
theorem cleanR_fuel (n m : Nat) (l : List UInt8) (hn : l.length ≤ n) (hm : l.length ≤ m) : cleanR n l = cleanR m l :=
  (clean_eq n l hn n hn).1.symm.trans (clean_eq n l hn m hm).1
theorem cleanR_eq (n : Nat) (l : List UInt8) (hn : l.length ≤ n) : cleanR n l = clean l := cleanR_fuel _ _ l hn (Nat.le_refl _)
theorem cleanP_eq (n : Nat) (l : List UInt8) (hn : l.length ≤ n) : cleanP n false l = clean l := (clean_eq n l hn l.length (Nat.le_refl _)).1
theorem clean_nil : clean [] = [] := rfl
theorem clean_bad (l : List UInt8) (hne : l ≠ []) (h : Bad l ∨ l.getD 0 0 = 0) : clean l = fffd ++ clean (l.drop 1) := by
  have hl : 0 < l.length := List.length_pos_iff.2 hne
  obtain ⟨n, hn⟩ : ∃ n, l.length = n + 1 := ⟨l.length - 1, by omega⟩
  rw [clean, hn, cleanR, if_neg hne, if_pos h, cleanR_eq n _ (by rw [List.length_drop]; omega)]
theorem clean_13 (l : List UInt8) (h : l.getD 0 0 = 13) : clean l = 10 :: clean (l.drop (if l.getD 1 0 = 10 then 2 else 1)) := by
  have hne : l ≠ [] := by rintro rfl; simp at h
  have hl : 0 < l.length := List.length_pos_iff.2 hne
  obtain ⟨n, hn⟩ : ∃ n, l.length = n + 1 := ⟨l.length - 1, by omega⟩
  have hb : ¬ (Bad l ∨ l.getD 0 0 = 0) := by
    rintro (hb | hb)
    · exact not_bad_lt l (by rw [(head_lt l 13 (by omega)).2 h]; omega) hb
    · rw [h] at hb; exact absurd hb (by decide)
  rw [clean, hn, cleanR, if_neg hne, if_neg hb, if_pos h, cleanR_eq n _ (by rw [List.length_drop]; split <;> omega)]
theorem clean_rune (l : List UInt8) (hne : l ≠ []) (h : ¬ Bad l) (h0 : l.getD 0 0 ≠ 0) (h13 : l.getD 0 0 ≠ 13) : clean l = l.take (decodeL l).2 ++ clean (l.drop (decodeL l).2) := by
  have hl : 0 < l.length := List.length_pos_iff.2 hne
  have hw := decodeL_width l
  obtain ⟨n, hn⟩ : ∃ n, l.length = n + 1 := ⟨l.length - 1, by omega⟩
  rw [clean, hn, cleanR, if_neg hne, if_neg (by rintro (hb | hb); exact h hb; exact h0 hb), if_neg h13, cleanR_eq n _ (by rw [List.length_drop]; omega)]
/-- By a text's runes. -/
theorem clean_induct {p : List UInt8 → Prop} (h0 : p []) (h1 : ∀ l, l ≠ [] → (Bad l ∨ l.getD 0 0 = 0) → p (l.drop 1) → p l) (h2 : ∀ l, l.getD 0 0 = 13 → p (l.drop (if l.getD 1 0 = 10 then 2 else 1)) → p l)
    (h3 : ∀ l, l ≠ [] → ¬ Bad l → l.getD 0 0 ≠ 0 → l.getD 0 0 ≠ 13 → p (l.drop (decodeL l).2) → p l) : ∀ l, p l := by
  intro l
  induction hn : l.length using Nat.strongRecOn generalizing l with
  | ind n ih =>
    by_cases hne : l = []
    · subst hne; exact h0
    have hl : 0 < l.length := List.length_pos_iff.2 hne
    by_cases hb : Bad l ∨ l.getD 0 0 = 0
    · exact h1 l hne hb (ih _ (by rw [List.length_drop]; omega) _ rfl)
    by_cases h13 : l.getD 0 0 = 13
    · exact h2 l h13 (ih _ (by rw [List.length_drop]; split <;> omega) _ rfl)
    have hw := decodeL_width l
    exact h3 l hne (fun h => hb (.inl h)) (fun h => hb (.inr h)) h13 (ih _ (by rw [List.length_drop]; omega) _ rfl)

/-- A piece that is neither 0 nor 13. -/
def Pure (q : List UInt8) : Prop := Piece q ∧ ∀ x ∈ q, x ≠ 0 ∧ x ≠ 13
inductive Pures : List UInt8 → Prop
  | nil : Pures []
  | cons {q t : List UInt8} : Pure q → Pures t → Pures (q ++ t)
theorem Pures.runes {l : List UInt8} (h : Pures l) : Runes l := by
  induction h with
  | nil => exact .nil
  | cons p _ ih => exact .cons p.1 ih
theorem Pures.mem {l : List UInt8} (h : Pures l) : ∀ x ∈ l, x ≠ 0 ∧ x ≠ 13 := by
  induction h with
  | nil => simp
  | cons p _ ih => intro x hx; rcases List.mem_append.1 hx with h | h; exact p.2 x h; exact ih x h
theorem Pures.clean {l : List UInt8} (h : Pures l) : clean l = l := by
  induction h with
  | nil => rfl
  | @cons q t p _ ih =>
    have hne : q ++ t ≠ [] := by simp [p.1.1]
    obtain ⟨x, xs, rfl⟩ : ∃ x xs, q = x :: xs := by
      cases q with
      | nil => exact absurd rfl p.1.1
      | cons x xs => exact ⟨x, xs, rfl⟩
    have hx := p.2 x (by simp)
    rw [clean_rune _ hne (p.1.2 t).2 (by simpa using hx.1) (by simpa using hx.2), (p.1.2 t).1, List.take_left, List.drop_left, ih]
theorem piece_fffd : Piece fffd := piece_enc 65533
theorem piece_one (x : UInt8) (h : x.toNat < 128) : Piece [x] := by
  have := piece_enc (x.toNat : Int)
  unfold encodeRune at this
  rw [encodeRuneZ_one (by omega) (by omega)] at this
  simpa using this
theorem take_bytes (l : List UInt8) (hne : l ≠ []) (hb : ¬ Bad l) (h0 : l.getD 0 0 ≠ 0) (h13 : l.getD 0 0 ≠ 13) : ∀ x ∈ l.take (decodeL l).2, x ≠ 0 ∧ x ≠ 13 := by
  have hl : 0 < l.length := List.length_pos_iff.2 hne
  rw [Bad] at hb
  rw [decodeL_N] at hb ⊢
  have ge : ∀ y : UInt8, 128 ≤ y.toNat → y ≠ 0 ∧ y ≠ 13 := fun y hy => ⟨by rintro rfl; simp at hy, by rintro rfl; simp at hy⟩
  rcases decodeN_shape l.length (l.getD 0 0).toNat (l.getD 1 0).toNat (l.getD 2 0).toNat (l.getD 3 0).toNat with ⟨c, e⟩ | ⟨c1, c2, c3, cv, e⟩ | ⟨c1, c2, c3, c4, cv, cs, e⟩ | ⟨c1, c2, c3, c4, c5, cv, cw, e⟩ | e
  · rw [e]; dsimp only; rw [takeA l hl]; intro x hx; simp only [List.mem_singleton] at hx; subst hx; exact ⟨h0, h13⟩
  · rw [e]; dsimp only; rw [takeB l c2]; intro x hx
    simp only [List.mem_cons, List.not_mem_nil, or_false] at hx
    rcases hx with rfl | rfl <;> exact ge _ (by omega)
  · rw [e]; dsimp only; rw [takeC l c2]; intro x hx
    simp only [List.mem_cons, List.not_mem_nil, or_false] at hx
    rcases hx with rfl | rfl | rfl <;> exact ge _ (by omega)
  · rw [e]; dsimp only; rw [takeD l c2]; intro x hx
    simp only [List.mem_cons, List.not_mem_nil, or_false] at hx
    rcases hx with rfl | rfl | rfl | rfl <;> exact ge _ (by omega)
  · rw [e] at hb; exact absurd ⟨rfl, rfl⟩ hb
theorem clean_pures : ∀ l, Pures (clean l) := by
  refine clean_induct .nil ?_ ?_ ?_
  · intro l hne h ih
    rw [clean_bad l hne h]
    exact .cons ⟨piece_fffd, by decide⟩ ih
  · intro l h ih
    rw [clean_13 l h]
    exact .cons (q := [10]) ⟨piece_one 10 (by decide), by decide⟩ ih
  · intro l hne hb h0 h13 ih
    rw [clean_rune l hne hb h0 h13]
    exact .cons ⟨piece_take l hne hb, take_bytes l hne hb h0 h13⟩ ih
theorem clean_valid (l : List UInt8) : validD (clean l) = true := valid_runes (clean_pures l).runes
theorem clean_clean (l : List UInt8) : clean (clean l) = clean l := (clean_pures l).clean
theorem clean_mem (l : List UInt8) : ∀ x ∈ clean l, x ≠ 0 ∧ x ≠ 13 := (clean_pures l).mem
theorem clean_length : ∀ l, (clean l).length ≤ 3 * l.length := by
  refine clean_induct (by simp [clean_nil]) ?_ ?_ ?_
  · intro l hne h ih
    have hl : 0 < l.length := List.length_pos_iff.2 hne
    rw [clean_bad l hne h, List.length_append, show fffd.length = 3 from rfl]
    rw [List.length_drop] at ih; omega
  · intro l h ih
    have hl : 0 < l.length := by
      rcases l with _ | ⟨x, xs⟩
      · simp at h
      · simp
    rw [clean_13 l h, List.length_cons]
    generalize clean (l.drop (if l.getD 1 0 = 10 then 2 else 1)) = c at ih ⊢
    rw [List.length_drop] at ih
    split at ih <;> omega
  · intro l hne hb h0 h13 ih
    have hl := decodeL_le l hne
    rw [clean_rune l hne hb h0 h13, List.length_append, List.length_take]
    rw [List.length_drop] at ih; omega

/-- Two texts, the first one right, not ending with 13. -/
theorem clean_append (b : List UInt8) : ∀ a, validD a = true → a.getLast? ≠ some 13 → clean (a ++ b) = clean a ++ clean b := by
  have last_drop : ∀ (a : List UInt8) (k : Nat), a.getLast? ≠ some 13 → (a.drop k).getLast? ≠ some 13 := by
    intro a k h
    rw [List.getLast?_drop]
    split
    · simp
    · exact h
  have valid_drop : ∀ a, a ≠ [] → validD a = true → ¬ Bad a ∧ validD (a.drop (decodeL a).2) = true := by
    intro a hne h
    rw [validD_step a hne] at h
    by_cases hb : (decodeL a).1 = 65533 ∧ (decodeL a).2 = 1
    · rw [if_pos hb] at h; cases h
    · rw [if_neg hb] at h; exact ⟨hb, h⟩
  refine clean_induct (by simp [clean_nil]) ?_ ?_ ?_
  · intro a hne h ih hv hla
    obtain ⟨hb, hd⟩ := valid_drop a hne hv
    have h0 : a.getD 0 0 = 0 := h.resolve_left hb
    have hd0 := (head_lt a 0 (by omega)).2 h0
    rw [width_lt a (by omega)] at hd
    have hg : (a ++ b).getD 0 0 = 0 := by rw [← h0]; cases a with | nil => exact absurd rfl hne | cons x xs => rfl
    rw [clean_bad a hne h, clean_bad (a ++ b) (by simp [hne]) (.inr hg), List.append_assoc, ← ih hd (last_drop a 1 hla)]
    congr 2
    cases a with | nil => exact absurd rfl hne | cons x xs => rfl
  · intro a h ih hv hla
    match a with
    | [] => simp at h
    | [x] => simp at h; subst h; simp at hla
    | x :: y :: xs =>
      simp at h; subst h
      have hv1 : validD (y :: xs) = true := by rw [validD_cons 13 _ (by decide)] at hv; exact hv
      rw [clean_13 (13 :: y :: xs ++ b) rfl, clean_13 (13 :: y :: xs) rfl]
      change validD (List.drop (if y = 10 then 2 else 1) (13 :: y :: xs)) = true → (List.drop (if y = 10 then 2 else 1) (13 :: y :: xs)).getLast? ≠ some 13 → clean (List.drop (if y = 10 then 2 else 1) (13 :: y :: xs) ++ b) = clean (List.drop (if y = 10 then 2 else 1) (13 :: y :: xs)) ++ clean b at ih
      show 10 :: clean (List.drop (if y = 10 then 2 else 1) (13 :: y :: (xs ++ b))) = 10 :: (clean (List.drop (if y = 10 then 2 else 1) (13 :: y :: xs)) ++ clean b)
      by_cases hy : y = 10
      · subst hy
        rw [← ih (by rw [if_pos rfl]; rw [validD_cons 10 _ (by decide)] at hv1; exact hv1) (last_drop _ _ hla)]
        rfl
      · rw [← ih (by rw [if_neg hy]; exact hv1) (last_drop _ _ hla), if_neg hy]
        rfl
  · intro a hne hb h0 h13 ih hv hla
    obtain ⟨_, hd⟩ := valid_drop a hne hv
    have hm := decode_more a b hne hb
    have hle := decodeL_le a hne
    have hg : (a ++ b).getD 0 0 = a.getD 0 0 := by cases a with | nil => exact absurd rfl hne | cons x xs => rfl
    have hbm : ¬ Bad (a ++ b) := by unfold Bad; rw [hm]; exact hb
    rw [clean_rune a hne hb h0 h13, clean_rune (a ++ b) (by simp [hne]) hbm (by rw [hg]; exact h0) (by rw [hg]; exact h13), hm, List.take_append_of_le_length hle, List.drop_append_of_le_length hle, List.append_assoc, ih hd (last_drop a _ hla)]

/-! ### Small letters -/
def lowB (c : UInt8) : UInt8 := if 65 ≤ c ∧ c ≤ 90 then c + 32 else c
def lower (l : List UInt8) : List UInt8 := l.map lowB
theorem lowB_nat (c : UInt8) : (lowB c).toNat = if 65 ≤ c.toNat ∧ c.toNat ≤ 90 then c.toNat + 32 else c.toNat := by
  unfold lowB
  simp only [UInt8.le_iff_toNat_le]
  have := c.toNat_lt
  split
  · rename_i h; simp at h; rw [if_pos h]; simp; omega
  · rename_i h; simp at h; rw [if_neg (by omega)]
theorem lowB_lowB (c : UInt8) : lowB (lowB c) = lowB c := by
  rw [← UInt8.toNat_inj, lowB_nat, lowB_nat]
  repeat' split
  all_goals omega
theorem lower_lower (l : List UInt8) : lower (lower l) = lower l := by simp [lower, lowB_lowB]
theorem lower_length (l : List UInt8) : (lower l).length = l.length := by simp [lower]
theorem lower_append (a b : List UInt8) : lower (a ++ b) = lower a ++ lower b := by simp [lower]
theorem lower_drop (k : Nat) (l : List UInt8) : lower (l.drop k) = (lower l).drop k := by simp [lower, List.map_drop]
theorem lower_getD (l : List UInt8) (i : Nat) : ((lower l).getD i 0).toNat = if 65 ≤ (l.getD i 0).toNat ∧ (l.getD i 0).toNat ≤ 90 then (l.getD i 0).toNat + 32 else (l.getD i 0).toNat := by
  have : (lower l).getD i 0 = lowB (l.getD i 0) := by
    simp only [lower, List.getD, List.getElem?_map]
    cases l[i]? <;> rfl
  rw [this, lowB_nat]
theorem low_hi (x y : Nat) (h : y = if 65 ≤ x ∧ x ≤ 90 then x + 32 else x) : (x < 128 ∧ y < 128) ∨ (128 ≤ x ∧ y = x) := by
  split at h <;> omega
theorem decodeN_low (n a b c d a' b' c' d' : Nat) (h0 : (a < 128 ∧ a' < 128) ∨ (128 ≤ a ∧ a' = a)) (h1 : (b < 128 ∧ b' < 128) ∨ (128 ≤ b ∧ b' = b)) (h2 : (c < 128 ∧ c' < 128) ∨ (128 ≤ c ∧ c' = c)) (h3 : (d < 128 ∧ d' < 128) ∨ (128 ≤ d ∧ d' = d)) :
    (decodeN n a' b' c' d').2 = (decodeN n a b c d).2 ∧ (((decodeN n a' b' c' d').1 = 65533 ∧ (decodeN n a' b' c' d').2 = 1) ↔ ((decodeN n a b c d).1 = 65533 ∧ (decodeN n a b c d).2 = 1)) := by
  rcases h0 with ⟨x0, y0⟩ | ⟨x0, rfl⟩
  · unfold decodeN; rw [if_pos x0, if_pos y0]; simp; omega
  have na : ¬ a' < 128 := by omega
  rcases h1 with ⟨x1, y1⟩ | ⟨x1, rfl⟩
  · have e : ∀ p q r : Nat, p < 128 → decodeN n a' p q r = (65533, 1) := by
      intro p q r hp
      unfold decodeN
      rw [if_neg na, if_neg (by omega), if_neg (by omega), if_neg (by omega)]
    rw [e _ _ _ x1, e _ _ _ y1]; simp
  rcases h2 with ⟨x2, y2⟩ | ⟨x2, rfl⟩
  · have e : ∀ q r : Nat, q < 128 → decodeN n a' b' q r = if a' / 32 = 6 ∧ (1 < n ∧ b' / 64 = 2) then (if a' % 32 * 64 + b' % 64 ≥ 128 then (a' % 32 * 64 + b' % 64, 2) else (65533, 1)) else (65533, 1) := by
      intro q r hq
      unfold decodeN
      rw [if_neg na]
      split
      · rfl
      · rw [if_neg (by omega), if_neg (by omega)]
    rw [e _ _ x2, e _ _ y2]; simp
  rcases h3 with ⟨x3, y3⟩ | ⟨x3, rfl⟩
  · have e : ∀ r : Nat, r < 128 → decodeN n a' b' c' r = decodeN n a' b' c' 0 := by
      intro r hr
      unfold decodeN
      rw [if_neg na, if_neg na]
      split
      · rfl
      · split
        · rfl
        · rw [if_neg (by omega), if_neg (by omega)]
    rw [e _ x3, e _ y3]; simp
  simp
theorem decode_lower (l : List UInt8) : (decodeL (lower l)).2 = (decodeL l).2 ∧ (Bad (lower l) ↔ Bad l) := by
  unfold Bad
  rw [decodeL_N, decodeL_N l, lower_length]
  exact decodeN_low _ _ _ _ _ _ _ _ _ (low_hi _ _ (lower_getD l 0)) (low_hi _ _ (lower_getD l 1)) (low_hi _ _ (lower_getD l 2)) (low_hi _ _ (lower_getD l 3))
theorem valid_lower (l : List UInt8) : validD (lower l) = validD l := by
  induction hn : l.length using Nat.strongRecOn generalizing l with
  | ind n ih =>
    by_cases hne : l = []
    · subst hne; rfl
    have hl : 0 < l.length := List.length_pos_iff.2 hne
    have hne' : lower l ≠ [] := fun h => by have := lower_length l; rw [h] at this; simp at this; omega
    have hw := decodeL_width l
    obtain ⟨d1, d2⟩ := decode_lower l
    rw [validD_step l hne, validD_step _ hne']
    rw [Bad, Bad] at d2
    by_cases hb : (decodeL l).1 = 65533 ∧ (decodeL l).2 = 1
    · rw [if_pos hb, if_pos (d2.2 hb)]
    · rw [if_neg hb, if_neg (fun h => hb (d2.1 h)), d1, ← lower_drop]
      exact ih _ (by rw [List.length_drop]; omega) _ rfl

/-! ### A rune's bytes, as the model encodes it -/
theorem encode_eq (v : Int) : (Utf8.encode v).data.toList = encodeRune v := by
  unfold Utf8.encode encodeRune
  by_cases hv : Utf8.valid v = true
  · rw [if_pos hv]
    rw [validRune_eq] at hv
    unfold validRune at hv
    have hv := of_decide_eq_true hv
    dsimp only
    split
    · rw [encodeRuneZ_one (by omega) (by omega)]; simp
    · split
      · rw [encodeRuneZ_two (by omega) (by omega)]
        show [UInt8.ofNat _, UInt8.ofNat _] = [UInt8.ofNat _, UInt8.ofNat _]
        congr 2
        · omega
        · congr 2; omega
      · split
        · rw [encodeRuneZ_three (by omega)]
          show [UInt8.ofNat _, UInt8.ofNat _, UInt8.ofNat _] = [UInt8.ofNat _, UInt8.ofNat _, UInt8.ofNat _]
          rw [show (224 + v / 4096).toNat = 0xE0 + v.toNat / 4096 by omega, show (128 + v / 64 % 64).toNat = 0x80 + v.toNat / 64 % 64 by omega, show (128 + v % 64).toNat = 0x80 + v.toNat % 64 by omega]
        · rw [encodeRuneZ_four (by omega) (by omega)]
          show [UInt8.ofNat _, UInt8.ofNat _, UInt8.ofNat _, UInt8.ofNat _] = [UInt8.ofNat _, UInt8.ofNat _, UInt8.ofNat _, UInt8.ofNat _]
          rw [show (240 + v / 262144).toNat = 0xF0 + v.toNat / 262144 by omega, show (128 + v / 4096 % 64).toNat = 0x80 + v.toNat / 4096 % 64 by omega, show (128 + v / 64 % 64).toNat = 0x80 + v.toNat / 64 % 64 by omega, show (128 + v % 64).toNat = 0x80 + v.toNat % 64 by omega]
  · rw [if_neg hv]
    rw [validRune_eq] at hv
    unfold validRune at hv
    simp only [decide_eq_true_eq] at hv
    rw [encodeRuneZ_bad (by omega)]
    rfl
def badRune (v : Int) : Prop := v < 0 ∨ 1114111 < v ∨ (55296 ≤ v ∧ v ≤ 57343)
instance (v : Int) : Decidable (badRune v) := by unfold badRune; infer_instance
/-- What is none, and only that and fffd, has the sign's bytes. -/
theorem enc_fffd (v : Int) : encodeRune v = fffd ↔ badRune v ∨ v = 65533 := by
  constructor
  · intro h
    have hd := (piece_enc v).2 []
    by_cases hb : badRune v
    · exact .inl hb
    · refine .inr ?_
      unfold badRune at hb
      unfold encodeRune at h
      have hl := congrArg List.length h
      rw [List.length_map] at hl
      by_cases h1 : v ≤ 127
      · rw [encodeRuneZ_one (by omega) h1] at hl; simp [fffd] at hl
      by_cases h2 : v ≤ 2047
      · rw [encodeRuneZ_two (by omega) h2] at hl; simp [fffd] at hl
      by_cases h3 : v ≤ 65535
      · rw [encodeRuneZ_three (by omega)] at h
        simp only [List.map_cons, List.map_nil, fffd] at h
        injection h with a0 h; injection h with a1 h; injection h with a2 h
        have a0 := congrArg UInt8.toNat a0; have a1 := congrArg UInt8.toNat a1; have a2 := congrArg UInt8.toNat a2
        simp at a0 a1 a2
        omega
      · rw [encodeRuneZ_four (by omega) (by omega)] at hl; simp [fffd] at hl
  · rintro (h | rfl)
    · unfold encodeRune; unfold badRune at h; rw [encodeRuneZ_bad (by omega)]; rfl
    · rfl
theorem enc_length (v : Int) : 1 ≤ (encodeRune v).length ∧ (encodeRune v).length ≤ 4 := by
  have := encodeRuneZ_length v
  unfold encodeRune
  rw [List.length_map]; exact this

/-- The last byte of what a step takes is 13 just where the rune is. -/
theorem last_13 (l : List UInt8) (hne : l ≠ []) : l.getD ((decodeL l).2 - 1) 0 = 13 ↔ (decodeL l).1 = 13 := by
  have hl : 0 < l.length := List.length_pos_iff.2 hne
  have ge : ∀ y : UInt8, 128 ≤ y.toNat → ¬ y = 13 := fun y hy => by rintro rfl; simp at hy
  have h13 := head_lt l 13 (by omega)
  by_cases hb : Bad l
  · rw [hb.2, hb.1]
    constructor
    · intro h
      have := h13.2 h
      rw [hb.1] at this; omega
    · intro h; omega
  rw [Bad] at hb
  rw [decodeL_N] at hb h13 ⊢
  rcases decodeN_shape l.length (l.getD 0 0).toNat (l.getD 1 0).toNat (l.getD 2 0).toNat (l.getD 3 0).toNat with ⟨c, e⟩ | ⟨c1, c2, c3, cv, e⟩ | ⟨c1, c2, c3, c4, cv, cs, e⟩ | ⟨c1, c2, c3, c4, c5, cv, cw, e⟩ | e
  · rw [e] at h13 ⊢; exact h13.symm
  · rw [e]; exact ⟨fun h => absurd h (ge (l.getD 1 0) (by omega)), fun h => by dsimp only at h; omega⟩
  · rw [e]; exact ⟨fun h => absurd h (ge (l.getD 2 0) (by omega)), fun h => by dsimp only at h; omega⟩
  · rw [e]; exact ⟨fun h => absurd h (ge (l.getD 3 0) (by omega)), fun h => by dsimp only at h; omega⟩
  · rw [e] at hb; exact absurd ⟨rfl, rfl⟩ hb
/-- Is the byte ahead of a place 13? -/
def prev (s : ByteArray) (pos : Nat) : Bool := decide (0 < pos ∧ s.data.toList.getD (pos - 1) 0 = 13)
theorem prev_step (s : ByteArray) (pos : Nat) (hp : pos < s.size) : prev s (pos + (Utf8.decode s pos).2) = decide ((Utf8.decode s pos).1 = 13) := by
  have hne : s.data.toList.drop pos ≠ [] := fun h => by have := congrArg List.length h; rw [List.length_drop, ← Lib.size_eq] at this; simp at this; omega
  have h := last_13 (s.data.toList.drop pos) hne
  have hw := decodeL_width (s.data.toList.drop pos)
  rw [getD_dropU, decodeL_drop] at h
  rw [decodeL_drop] at hw
  unfold prev
  rw [show pos + (Utf8.decode s pos).2 - 1 = pos + ((Utf8.decode s pos).2 - 1) by omega]
  congr 1
  rw [← h]
  simp; omega
/-- Clean from a place on, as the program goes. -/
def cleanAt (s : ByteArray) (pos : Nat) : List UInt8 := cleanP (s.size - pos) (prev s pos) (s.data.toList.drop pos)
theorem cleanAt_zero (s : ByteArray) : cleanAt s 0 = clean s.data.toList := by
  unfold cleanAt
  rw [List.drop_zero, show prev s 0 = false from rfl, cleanP_eq _ _ (by rw [← Lib.size_eq]; omega)]
theorem cleanP_fuel (p : Bool) (n m : Nat) (l : List UInt8) (hn : l.length ≤ n) (hm : l.length ≤ m) : cleanP n p l = cleanP m p l := by
  cases p
  · exact ((clean_eq n l hn n hn).1).trans (clean_eq m l hm n hn).1.symm
  · exact ((clean_eq n l hn n hn).2).trans (clean_eq m l hm n hn).2.symm
theorem cleanAt_step (s : ByteArray) (pos : Nat) (hp : pos < s.size) :
    cleanAt s pos = (if (Utf8.decode s pos).1 = 0 then fffd else if (Utf8.decode s pos).1 = 13 then [10] else if (Utf8.decode s pos).1 = 10 ∧ prev s pos = true then [] else encodeRune ((Utf8.decode s pos).1 : Int)) ++ cleanAt s (pos + (Utf8.decode s pos).2) := by
  have hne : s.data.toList.drop pos ≠ [] := fun h => by have := congrArg List.length h; rw [List.length_drop, ← Lib.size_eq] at this; simp at this; omega
  have hw := decodeL_width (s.data.toList.drop pos)
  rw [decodeL_drop] at hw
  obtain ⟨n, hn⟩ : ∃ n, s.size - pos = n + 1 := ⟨s.size - pos - 1, by omega⟩
  have hl : s.data.toList.length = s.size := (Lib.size_eq s).symm
  conv => lhs; unfold cleanAt
  rw [hn, cleanP, if_neg hne, decodeL_drop, ← prev_step s pos hp, List.drop_drop]
  unfold cleanAt
  rw [cleanP_fuel _ n (s.size - (pos + (Utf8.decode s pos).2)) _ (by rw [List.length_drop]; omega) (by rw [List.length_drop]; omega)]
theorem cleanAt_end (s : ByteArray) (pos : Nat) (hp : ¬ pos < s.size) : cleanAt s pos = [] := by
  unfold cleanAt
  rw [List.drop_eq_nil_of_le (by rw [← Lib.size_eq]; omega), cleanP_nil]
end Go.Proofs.YthodiccmanjpkaaDoor.Ru
