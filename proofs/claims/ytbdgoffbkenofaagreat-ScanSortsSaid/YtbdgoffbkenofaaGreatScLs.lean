/- ScanSorts, walked. -/
import Derived.Test.YtbdgoffbkenofaaGreatScA
import Derived.Test.YtbdgoffbkenofaaGreatScSn
import Derived.Test.YtbdgoffbkenofaaGreatTkS
import Derived.Maps.AppendAt
import Derived.OwnWalk
import Derived.WalkSpells
import Derived.Lib.SliceRun
import Derived.WalkLawsBesides
import Derived.Outline
namespace Go.Proofs.YtbdgoffbkenofaaGreat.Sc
open Go Go.RowKit Go.Shelf Go.Sort Go.Proofs.YtbdgoffbkenofaaGreat.Tk Go.Proofs.YtbdgoffbkenofaaGreat.Ct
set_option linter.unusedVariables false

/-! ### What is decoded is not empty -/
theorem encPos (v : Int) : 0 < (Utf8.encode v).size := by
  unfold Utf8.encode
  dsimp only
  repeat' split
  all_goals simp [ByteArray.size]
theorem rfindPos {name v : ByteArray} (h : rfind name = some v) : 0 < v.size := by
  rw [rfind_is] at h
  have hm := assoc_mem h
  have key : ∀ p ∈ rpairs, 0 < p.2.size := by decide +kernel
  exact key _ hm
theorem lonPos (s : ByteArray) (k : Nat) : ∀ n, 0 < (lon s k n).1 → 0 < (lon s k n).2.size
  | 0, h => by rw [lon_zero] at h; exact absurd h (Nat.lt_irrefl _)
  | n + 1, h0 => by
    cases h : rfind (s.extract k (k + (n + 1))) with
    | some v => rw [lon_hit h]; exact rfindPos h
    | none => rw [lon_miss h] at h0 ⊢; exact lonPos s k n h0
theorem numAtPos (s : ByteArray) (f : Nat) (hex : Bool) (k : Nat) : 0 < (Ch.numAt s f hex k).1.size := by
  obtain ⟨⟨v, n⟩, hR⟩ : ∃ r, Ch.numL hex (s.data.toList.drop f) 0 = r := ⟨_, rfl⟩
  by_cases h0 : n = 0
  · rw [Ch.numAt_no ((congrArg Prod.snd hR).trans h0)]; decide
  · rw [Ch.numAt_yes (by omega) hR rfl]; exact encPos _
theorem numVPos (s : ByteArray) (k : Nat) : 0 < (Ch.numV s k).1.size := by
  cases h : Ch.hexAt s (k + 2) with
  | false => rw [Ch.numV_dec h]; exact numAtPos _ _ _ _
  | true => rw [Ch.numV_hex h]; exact numAtPos _ _ _ _
theorem refIPos {s : ByteArray} {k : Nat} {attr : Bool} (hk : k < s.size) (h : s[k].toNat = 38) : 0 < (Ch.refI s k attr).1.size := by
  rw [Ch.refI_yes hk h]
  unfold Ch.refV
  split
  · exact numVPos _ _
  · split
    · decide
    · rename_i h1
      split
      · decide
      · have e := longest_in s (k + 1) (by omega)
        rw [show (((k + 1 : Nat)) : Int) = (k : Int) + 1 by omega] at e
        rw [e] at h1 ⊢
        exact lonPos _ _ _ (by omega)
theorem decPos {s : ByteArray} {attr : Bool} (h : 0 < s.size) : Ch.decB s attr ≠ ⟨#[]⟩ := by
  intro e
  have e1 : (Ch.decB s attr).data.toList = [] := by rw [e]
  unfold Ch.decB at e1
  by_cases h38 : s[0].toNat = 38
  · have hp := refIPos (attr := attr) h h38
    rw [Ch.decK_ref h h38] at e1
    have e2 : (Ch.refI s (0 : Nat) attr).1.data.toList = [] := (List.append_eq_nil_iff.1 (by simpa using e1)).1
    have e3 : (Ch.refI s (0 : Nat) attr).1.data.toList.length = 0 := by rw [e2]; rfl
    exact absurd (show (Ch.refI s (0 : Nat) attr).1.size = 0 from e3) (by omega)
  · rw [Ch.decK_one h h38] at e1
    simp at e1
theorem size_pos_ne {s : ByteArray} (h : 0 < s.size) : s ≠ ⟨#[]⟩ := fun e => by rw [e] at h; exact absurd h (by decide)
/-! ### Names -/
theorem lowNameB (c : UInt8) : Ru.lowB (nameB (Ru.lowB c)) = nameB (Ru.lowB c) := by
  have key : ∀ n, n < 256 → Ru.lowB (nameB (Ru.lowB (UInt8.ofNat n))) = nameB (Ru.lowB (UInt8.ofNat n)) := by decide +kernel
  have := key c.toNat c.toNat_lt
  rwa [UInt8.ofNat_toNat] at this
theorem lowNamed (s : ByteArray) : lowS (namedP s) = namedP s := by
  apply Sr.bytes_eq.1
  show (Ru.lower (((Ru.lower s.data.toList).map nameB).toArray.toList)).toArray.toList = ((Ru.lower s.data.toList).map nameB).toArray.toList
  simp only [Ru.lower, List.map_map]
  refine List.map_congr_left fun c _ => ?_
  exact lowNameB c
/-! ### Attributes in order -/
/-- By their names, each once. -/
def StrictA (l : List At) : Prop := l.Pairwise fun x y => Op.bytesLess x.1.data.toList y.1.data.toList = true
theorem hasName_iff {l : List At} {n : ByteArray} : hasName l n = true ↔ ∃ x ∈ l, x.1 = n := by
  unfold hasName; rw [List.any_eq_true]; simp only [decide_eq_true_eq]
theorem attrsP_uniq {s : ByteArray} {start : Bool} : ∀ {n e : Nat} {acc l : List At} {k : Nat}, attrsP s start n e acc = some (l, k) → acc.Pairwise (fun x y => x.1 ≠ y.1) → l.Pairwise (fun x y => x.1 ≠ y.1)
  | 0, e, acc, l, k, h, _ => by unfold attrsP at h; cases h
  | n + 1, e, acc, l, k, h, hp => by
    unfold attrsP at h
    dsimp only at h
    split at h
    · cases h
    · split at h
      · injection h with h; injection h with h _; rw [← h]; exact hp
      · split at h
        · cases h
        · refine attrsP_uniq h ?_
          split
          · rename_i hc
            rw [Bool.and_eq_true] at hc
            rw [List.pairwise_append]
            refine ⟨hp, List.pairwise_singleton _ _, fun a ha b hb => ?_⟩
            rw [List.mem_singleton] at hb
            subst hb
            intro ex
            have := hasName_iff.2 ⟨a, ha, ex⟩
            rw [this] at hc
            exact absurd hc.2 (by decide)
          · exact hp
theorem attrsP_end {s : ByteArray} : ∀ {n e : Nat} {acc l : List At} {k : Nat}, attrsP s false n e acc = some (l, k) → l = acc
  | 0, e, acc, l, k, h => by unfold attrsP at h; cases h
  | n + 1, e, acc, l, k, h => by
    unfold attrsP at h
    dsimp only at h
    split at h
    · cases h
    · split at h
      · injection h with h; injection h with h _; exact h.symm
      · split at h
        · cases h
        · have := attrsP_end h
          simpa using this
theorem leB_iff (x y : ByteArray) : leB x y = true ↔ ¬ y.data.toList < x.data.toList := by
  unfold leB; rw [bytesLess_eq]; simp
theorem sort_strict {l : List At} (hu : l.Pairwise fun x y => x.1 ≠ y.1) : StrictA (sortP l) := by
  have q : (sortP l).Perm l := List.mergeSort_perm _ _
  have hu' : (sortP l).Pairwise fun x y => x.1 ≠ y.1 := (q.pairwise_iff (fun h => Ne.symm h)).2 hu
  have hs : (sortP l).Pairwise fun x y => leB x.1 y.1 = true := by
    refine List.pairwise_mergeSort ?_ ?_ l
    · intro a b c h1 h2
      rw [leB_iff] at *
      exact fun h => absurd (List.le_trans (List.not_lt.1 h1) (List.not_lt.1 h2)) (List.not_le.2 h)
    · intro a b
      rw [Bool.or_eq_true, leB_iff, leB_iff]
      rcases List.le_total a.1.data.toList b.1.data.toList with h | h
      · exact .inl (List.not_lt.2 h)
      · exact .inr (List.not_lt.2 h)
  refine (hs.and hu').imp fun {x y} h => ?_
  have h1 := List.not_lt.1 ((leB_iff _ _).1 h.1)
  rw [bytesLess_eq, decide_eq_true_eq]
  rcases Classical.em (x.1.data.toList < y.1.data.toList) with h2 | h2
  · exact h2
  · exact absurd (Sr.bytes_eq.1 (List.le_antisymm h1 (List.not_lt.1 h2))) h.2
/-! ### Each piece -/
/-- What a piece but the end is. -/
structure GoodT (t : Tok) : Prop where
  k1 : 1 ≤ t.kind
  k5 : t.kind ≤ 5
  nm : t.kind = 1 → t.name ≠ ⟨#[]⟩
  lo : t.kind = 1 → lowS t.name = t.name
  en : t.kind ≠ 1 → t.attrs = []
  tx : t.kind = 3 → t.text ≠ ⟨#[]⟩
  so : StrictA t.attrs
theorem good_plain {t : Tok} (h : t.kind = 4 ∨ t.kind = 5) (ha : t.attrs = []) : GoodT t :=
  ⟨by omega, by omega, fun h' => by omega, fun h' => by omega, fun _ => ha, fun h' => by omega, by rw [ha]; exact List.Pairwise.nil⟩
theorem good_text {t : ByteArray} {raw : Bool} (h : t ≠ ⟨#[]⟩) : GoodT (textTok t raw) :=
  ⟨show (1 : Int) ≤ 3 by decide, show (3 : Int) ≤ 5 by decide, fun h' => absurd h' (show ¬ (3 : Int) = 1 by decide), fun h' => absurd h' (show ¬ (3 : Int) = 1 by decide), fun _ => rfl, fun _ => h, List.Pairwise.nil⟩
theorem tag_good {s : ByteArray} {a : Nat} {start : Bool} (hl : letterAt s a = true) (hy : (tagP s a start).2.2 = true) : GoodT (tagP s a start).1 := by
  have hlt := letter_lt hl
  have hlet := (letter_at.1 hl).2
  unfold tagP at hy ⊢
  dsimp only at hy ⊢
  have hup : a < upT closesN s a := by
    have hc : closesN (bAt s a) = false := by
      have : bAt s a < 256 := bAt_lt s a
      revert hlet
      generalize bAt s a = c at *
      unfold letterN closesN blankN
      intro h
      have h' := of_decide_eq_true h
      simp only [Bool.or_eq_false_iff, decide_eq_false_iff_not]
      omega
    rw [upT_next hlt hc]
    have := upT_ge closesN s (a + 1)
    omega
  have hsz : 0 < (s.extract a (upT closesN s a)).size := by
    rw [ByteArray.size_extract]
    have := upT_le closesN (s := s) (a := a) (by omega)
    omega
  generalize s.extract a (upT closesN s a) = nm at *
  split at hy
  · cases hy
  · rename_i l e2 h
    dsimp only
    cases start with
    | true =>
      refine ⟨show (1 : Int) ≤ 1 by decide, show (1 : Int) ≤ 5 by decide, fun _ => ?_, fun _ => ?_, fun h' => absurd rfl h', fun h' => absurd h' (show ¬ (1 : Int) = 3 by decide), sort_strict (attrsP_uniq h List.Pairwise.nil)⟩
      · exact size_pos_ne (by show 0 < (namedP nm).size; rw [namedP_size]; exact hsz)
      · exact lowNamed nm
    | false =>
      have hn : l = [] := attrsP_end h
      subst hn
      refine ⟨show (1 : Int) ≤ 2 by decide, show (2 : Int) ≤ 5 by decide, fun h' => absurd h' (show ¬ (2 : Int) = 1 by decide), fun h' => absurd h' (show ¬ (2 : Int) = 1 by decide), fun _ => ?_, fun h' => absurd h' (show ¬ (2 : Int) = 3 by decide), ?_⟩
      · show sortP [] = []
        exact List.mergeSort_nil
      · exact sort_strict List.Pairwise.nil
theorem comment_good (s : ByteArray) (a : Nat) : GoodT (commentP s a).1 := by
  have h : (commentP s a).1.kind = 4 ∧ (commentP s a).1.attrs = [] := by
    unfold commentP
    dsimp only
    repeat' split
    all_goals exact ⟨rfl, rfl⟩
  exact good_plain (.inl h.1) h.2
theorem next_good {s raw : ByteArray} {a : Nat} (ha : a < s.size) (hy : (nextP s a raw).2.2 = true) : GoodT (nextP s a raw).1 := by
  unfold nextP at hy ⊢
  by_cases c1 : s.size ≤ a
  · omega
  rw [if_neg c1] at hy ⊢
  by_cases c2 : raw ≠ ⟨#[]⟩ ∧ a < rawEndP s a raw
  · rw [if_pos c2] at hy ⊢
    have hle : rawEndP s a raw ≤ s.size := by have := upI_le (rawOk s raw) (s.size - a) a; unfold rawEndP; omega
    have hz : 0 < (s.extract a (rawEndP s a raw)).size := by rw [ByteArray.size_extract]; omega
    refine good_text ?_
    split
    · exact decPos hz
    · exact size_pos_ne hz
  rw [if_neg c2] at hy ⊢
  by_cases c3 : bAt s a ≠ 60
  · rw [if_pos c3] at hy ⊢
    have h1 := upT_le (fun c => decide (c = 60) || (blankN c != blankN (bAt s a))) (s := s) (a := a) (by omega)
    have h2 : a + 1 ≤ upT (fun c => decide (c = 60) || (blankN c != blankN (bAt s a))) s a := by
      rw [upT_next ha (by simp [c3])]
      exact upT_ge _ _ _
    exact good_text (decPos (by rw [ByteArray.size_extract]; omega))
  rw [if_neg c3] at hy ⊢
  by_cases c4 : letterAt s (a + 1) = true
  · rw [if_pos c4] at hy ⊢; exact tag_good c4 hy
  rw [if_neg c4] at hy ⊢
  by_cases c5 : (startsP s a ⟨#[60, 47]⟩ && letterAt s (a + 2)) = true
  · rw [if_pos c5] at hy ⊢; rw [Bool.and_eq_true] at c5; exact tag_good c5.2 hy
  rw [if_neg c5] at hy ⊢
  by_cases c6 : startsP s a ⟨#[60, 33, 45, 45]⟩ = true
  · rw [if_pos c6] at hy ⊢; exact comment_good _ _
  rw [if_neg c6] at hy ⊢
  by_cases c7 : startsP s a ⟨#[60, 33, 100, 111, 99, 116, 121, 112, 101]⟩ = true
  · rw [if_pos c7] at hy ⊢; exact good_plain (.inr rfl) rfl
  rw [if_neg c7] at hy ⊢
  by_cases c8 : startsP s a ⟨#[60, 47, 62]⟩ = true
  · rw [if_pos c8] at hy; cases hy
  rw [if_neg c8] at hy ⊢
  by_cases c9 : startsP s a ⟨#[60, 63]⟩ = true
  · rw [if_pos c9] at hy ⊢; exact good_plain (.inl rfl) rfl
  rw [if_neg c9] at hy ⊢
  by_cases c10 : (startsP s a ⟨#[60, 33]⟩ || (startsP s a ⟨#[60, 47]⟩ && decide (a + 2 < s.size))) = true
  · rw [if_pos c10] at hy ⊢; exact good_plain (.inl rfl) rfl
  rw [if_neg c10] at hy ⊢
  exact good_text (by decide)
theorem pcsF_good (s : ByteArray) : ∀ n a raw, ∃ xs, pcsF s n a raw = xs ++ [tokE] ∧ ∀ x ∈ xs, GoodT x
  | 0, a, raw => ⟨[], rfl, fun x hx => absurd hx List.not_mem_nil⟩
  | n + 1, a, raw => by
    unfold pcsF
    by_cases h : s.size ≤ a
    · rw [if_pos h]; exact ⟨[], rfl, fun x hx => absurd hx List.not_mem_nil⟩
    · rw [if_neg h]
      by_cases hy : (nextP s a raw).2.2 = true
      · rw [if_pos hy]
        obtain ⟨xs, e, hx⟩ := pcsF_good s n (nextP s a raw).2.1 (rawNx raw (nextP s a raw).1)
        refine ⟨(nextP s a raw).1 :: xs, by rw [e]; rfl, fun x hm => ?_⟩
        rcases List.mem_cons.1 hm with rfl | hm
        · exact next_good (by omega) hy
        · exact hx x hm
      · rw [if_neg hy]
        exact pcsF_good s n _ _
theorem pcsF_names (s : ByteArray) : ∀ n a raw, ∀ x ∈ pcsF s n a raw, x.name.size ≤ s.size
  | 0, a, raw => fun x hx => by
    unfold pcsF at hx
    rw [List.mem_singleton] at hx
    subst hx
    exact Nat.zero_le _
  | n + 1, a, raw => fun x hx => by
    unfold pcsF at hx
    split at hx
    · rw [List.mem_singleton] at hx
      subst hx
      exact Nat.zero_le _
    · split at hx
      · rcases List.mem_cons.1 hx with rfl | hx
        · exact next_name _ _ _
        · exact pcsF_names s n _ _ x hx
      · exact pcsF_names s n _ _ x hx
theorem attrsP_len {s : ByteArray} {start : Bool} : ∀ {n e : Nat} {acc l : List At} {k : Nat}, attrsP s start n e acc = some (l, k) → l.length ≤ acc.length + n
  | 0, e, acc, l, k, h => by unfold attrsP at h; cases h
  | n + 1, e, acc, l, k, h => by
    unfold attrsP at h
    dsimp only at h
    split at h
    · cases h
    · split at h
      · injection h with h; injection h with h _; rw [h]; omega
      · split at h
        · cases h
        · have := attrsP_len h
          split at this
          · simp at this; omega
          · omega
theorem next_attrs (s raw : ByteArray) (a : Nat) : (nextP s a raw).1.attrs.length ≤ s.size + 1 := by
  have tg : ∀ b st, (tagP s b st).1.attrs.length ≤ s.size + 1 := fun b st => by
    unfold tagP
    dsimp only
    split
    · exact Nat.zero_le _
    · rename_i l e2 h
      have := attrsP_len h
      show (sortP l).length ≤ _
      unfold sortP
      rw [List.length_mergeSort]
      simp at this; omega
  have cm : ∀ b, (commentP s b).1.attrs = [] := fun b => by
    unfold commentP
    dsimp only
    repeat' split
    all_goals rfl
  have z : ∀ t : Tok, t.attrs = [] → t.attrs.length ≤ s.size + 1 := fun t h => by rw [h]; exact Nat.zero_le _
  unfold nextP
  dsimp only
  repeat' split
  all_goals first | exact tg _ _ | exact z _ (cm _) | exact z _ rfl
theorem pcsF_attrs (s : ByteArray) : ∀ n a raw, ∀ x ∈ pcsF s n a raw, x.attrs.length ≤ s.size + 1
  | 0, a, raw => fun x hx => by
    unfold pcsF at hx
    rw [List.mem_singleton] at hx
    subst hx
    exact Nat.zero_le _
  | n + 1, a, raw => fun x hx => by
    unfold pcsF at hx
    split at hx
    · rw [List.mem_singleton] at hx
      subst hx
      exact Nat.zero_le _
    · split at hx
      · rcases List.mem_cons.1 hx with rfl | hx
        · exact next_attrs _ _ _
        · exact pcsF_attrs s n _ _ x hx
      · exact pcsF_attrs s n _ _ x hx
theorem pcsF_len (s : ByteArray) : ∀ n a raw, (pcsF s n a raw).length ≤ n + 1
  | 0, a, raw => Nat.le_refl _
  | n + 1, a, raw => by
    unfold pcsF
    split
    · simp
    · split
      · have := pcsF_len s n (nextP s a raw).2.1 (rawNx raw (nextP s a raw).1); simp; omega
      · have := pcsF_len s n (nextP s a raw).2.1 raw; omega
theorem pcsP_len (s : ByteArray) (a : Nat) (raw : ByteArray) : (pcsP s a raw).length ≤ s.size + 1 := by
  have := pcsF_len s (s.size - a) a raw
  unfold pcsP; omega
/-- All pieces but the last one are such, and the last one is the end. -/
theorem pcsP_good (s : ByteArray) (a : Nat) (raw : ByteArray) : ∃ xs, pcsP s a raw = xs ++ [tokE] ∧ ∀ x ∈ xs, GoodT x := pcsF_good s _ a raw
/-- What ScanEnds asks of each piece. -/
structure EndOk (x : Tok) (n j N : Nat) : Prop where
  ends : x.kind = 6 ↔ j + 1 = n
  low : 1 ≤ x.kind
  hi : x.kind ≤ 6
  nm : x.kind = 1 → x.name ≠ ⟨#[]⟩
  lo : x.kind = 1 → lowS x.name = x.name
  en : x.kind ≠ 1 → x.attrs = []
  tx : x.kind = 3 → x.text ≠ ⟨#[]⟩
  so : StrictA x.attrs
  sz : x.name.size ≤ N
  sz2 : x.attrs.length ≤ N + 1
theorem end_ok (s : ByteArray) : ∃ n, (pcsP s 0 ⟨#[]⟩).length = n ∧ 1 ≤ n ∧ n ≤ s.size + 1 ∧ ∀ j x, (pcsP s 0 ⟨#[]⟩)[j]? = some x → EndOk x n j s.size := by
  obtain ⟨ys, e, h⟩ := pcsP_good s 0 ⟨#[]⟩
  have hl : (pcsP s 0 ⟨#[]⟩).length = ys.length + 1 := by rw [e]; simp
  have hle := pcsP_len s 0 ⟨#[]⟩
  refine ⟨_, hl, by omega, by omega, fun j x hx => ?_⟩
  have hz := pcsF_names s _ 0 ⟨#[]⟩ x (List.mem_of_getElem? hx)
  have hz2 := pcsF_attrs s _ 0 ⟨#[]⟩ x (List.mem_of_getElem? hx)
  rw [e] at hx
  rcases Nat.lt_or_ge j ys.length with hj | hj
  · rw [List.getElem?_append_left hj] at hx
    have g := h x (List.mem_of_getElem? hx)
    have := g.k1
    have := g.k5
    exact ⟨by omega, g.k1, by omega, g.nm, g.lo, g.en, g.tx, g.so, hz, hz2⟩
  · rw [List.getElem?_append_right hj] at hx
    have e : j - ys.length = 0 := by
      rcases Nat.lt_or_ge (j - ys.length) 1 with h | h
      · omega
      · rw [List.getElem?_eq_none (by simpa using h)] at hx; cases hx
    rw [e] at hx
    have ex : tokE = x := by simpa using hx
    subst ex
    exact ⟨⟨fun _ => by omega, fun _ => rfl⟩, by decide, by decide, fun h => absurd h (show ¬ (6 : Int) = 1 by decide), fun h => absurd h (show ¬ (6 : Int) = 1 by decide), fun _ => rfl, fun h => absurd h (show ¬ (6 : Int) = 3 by decide), List.Pairwise.nil, hz, hz2⟩
end Go.Proofs.YtbdgoffbkenofaaGreat.Sc
namespace Go.Proofs.YtbdgoffbkenofaaGreat.So
open Go Go.RowKit Go.Shelf Go.Sort Go.Lib Go.Proofs.YtbdgoffbkenofaaGreat.Tk Go.Proofs.YtbdgoffbkenofaaGreat.Tr
set_option linter.unusedVariables false
set_option linter.unusedSimpArgs false
set_option maxRecDepth 100000

/-- Ranks that grow from place to place. -/
def Rkd (lo hi : Nat) (d : Array Rk) : Prop := ∀ i j, lo ≤ i → i < j → j < hi → d[i]!.2 < d[j]!.2
/-- While an element goes down through a sorted run: all but it are sorted, and it is ahead of what stands behind it. -/
structure InsI (a i j : Nat) (d e : Array Rk) : Prop where
  perm : PermIn a (i + 1) d e
  srt : ∀ p q, a ≤ p → p < q → q ≤ i → p ≠ j → q ≠ j → Prec e[p]! e[q]!
  behind : ∀ q, j < q → q ≤ i → Prec e[j]! e[q]!
  rk : ∀ p, a ≤ p → p < j → e[p]!.2 < e[j]!.2
theorem insInner_ok {a i : Nat} {d : Array Rk} (hi : i < d.size) : ∀ (j : Nat) (e : Array Rk), a ≤ j → j ≤ i → InsI a i j d e → (PermIn a (i + 1) d (insInner (ltOf cfR) a j e) ∧ Srt a (i + 1) (insInner (ltOf cfR) a j e))
  | 0, e, h1, h2, h => by
    refine ⟨h.perm, fun p q hp hpq hq => ?_⟩
    show Prec e[p]! e[q]!
    by_cases c : p = 0
    · subst c; exact h.behind q hpq (by omega)
    · exact h.srt p q hp hpq (by omega) c (by omega)
  | j + 1, e, h1, h2, h => by
    have hz : e.size = d.size := h.perm.1
    have stop : (a = j + 1 ∨ Prec e[j]! e[j + 1]!) → Srt a (i + 1) e := fun hc p q hp hpq hq => by
      by_cases c1 : p = j + 1
      · subst c1; exact h.behind q hpq (by omega)
      · by_cases c2 : q = j + 1
        · subst c2
          rcases hc with hc | hc
          · omega
          · by_cases c3 : p = j
            · subst c3; exact hc
            · exact (h.srt p j hp (by omega) (by omega) (by omega) (by omega)).trans hc
        · exact h.srt p q hp hpq (by omega) c1 c2
    unfold insInner
    by_cases c : j + 1 > a
    · cases hl : ltOf cfR e[j + 1]! e[j]! with
      | false =>
        rw [if_neg (by simp)]
        exact ⟨h.perm, stop (.inr (.inr ⟨hl, h.rk j (by omega) (by omega)⟩))⟩
      | true =>
        rw [if_pos (by simp; exact c)]
        have g := swp_get e (i := j + 1) (j := j) (by omega) (by omega)
        refine insInner_ok hi j (swp e (j + 1) j) (by omega) (by omega) ⟨permIn_trans _ _ _ _ _ h.perm (swp_permIn _ _ _ _ _ h1 (by omega) (by omega) (by omega) (by omega)), fun p q hp hpq hq c1 c2 => ?_, fun q hq1 hq2 => ?_, fun p hp1 hp2 => ?_⟩
        · rw [g p, g q, if_neg c1, if_neg c2]
          by_cases c3 : p = j + 1
          · rw [if_pos c3, if_neg (by omega)]
            exact h.srt j q (by omega) (by omega) hq (by omega) (by omega)
          · rw [if_neg c3]
            by_cases c4 : q = j + 1
            · rw [if_pos c4]
              exact h.srt p j hp (by omega) (by omega) (by omega) (by omega)
            · rw [if_neg c4]
              exact h.srt p q hp hpq hq c3 c4
        · rw [g j, if_pos rfl, g q, if_neg (by omega)]
          by_cases c4 : q = j + 1
          · rw [if_pos c4]; exact .inl hl
          · rw [if_neg c4]; exact h.behind q (by omega) hq2
        · rw [g j, if_pos rfl, g p, if_neg (by omega), if_neg (by omega)]
          exact h.rk p hp1 (by omega)
    · rw [if_neg (by simp; omega)]
      exact ⟨h.perm, stop (.inl (by omega))⟩
theorem insOuter_ok {a b : Nat} {d : Array Rk} (hb : b ≤ d.size) (hr : Rkd a b d) : ∀ (n i : Nat) (e : Array Rk), b - i ≤ n → a < i → PermIn a i d e → Srt a i e → i ≤ b → (PermIn a b d (insOuter (ltOf cfR) a b i e) ∧ Srt a b (insOuter (ltOf cfR) a b i e))
  | 0, i, e, hn, hi, hp, hs, hib => by
    have : i = b := by omega
    subst this
    rw [insOuter_stop _ _ _ _ _ (Nat.lt_irrefl _)]
    exact ⟨hp, hs⟩
  | n + 1, i, e, hn, hi, hp, hs, hib => by
    by_cases c : i < b
    · rw [insOuter_go _ _ _ _ _ c]
      have hz : e.size = d.size := hp.1
      have out : ∀ k, i ≤ k → e[k]! = d[k]! := fun k hk => hp.2.1 k (.inr hk)
      have rks : ∀ p, a ≤ p → p < i → e[p]!.2 < e[i]!.2 := by
        rw [out i (Nat.le_refl _)]
        exact permIn_all d e a i (fun x => x.2 < d[i]!.2) (by omega) hp (fun k hk1 hk2 => hr k i hk1 hk2 c)
      obtain ⟨g1, g2⟩ := insInner_ok (a := a) (i := i) (d := e) (by omega) i e (by omega) (Nat.le_refl _) ⟨permIn_refl _ _ _, fun p q hp hpq hq c1 c2 => hs p q hp hpq (by omega), fun q h1 h2 => by omega, rks⟩
      exact insOuter_ok hb hr n (i + 1) _ (by omega) (by omega) (permIn_trans _ _ _ _ _ (permIn_mono d e a i a (i + 1) (Nat.le_refl _) (by omega) (by omega) hp) g1) g2 c
    · have : i = b := by omega
      subst this
      rw [insOuter_stop _ _ _ _ _ (Nat.lt_irrefl _)]
      exact ⟨hp, hs⟩
/-- A run whose ranks grow, sorted by insertion: by names, of one name by ranks. -/
theorem ins_ok {a b : Nat} {d : Array Rk} (hab : a ≤ b) (hb : b ≤ d.size) (hr : Rkd a b d) : Merged a b d (insertionSort (ltOf cfR) d a b) := by
  unfold insertionSort
  by_cases c : a + 1 ≤ b
  · obtain ⟨h1, h2⟩ := insOuter_ok hb hr (b - (a + 1)) (a + 1) d (Nat.le_refl _) (by omega) (permIn_refl _ _ _) (fun p q hp hpq hq => by omega) c
    exact ⟨h1, h2⟩
  · rw [insOuter_stop _ _ _ _ _ (by omega)]
    exact ⟨permIn_refl _ _ _, fun p q hp hpq hq => by omega⟩
end Go.Proofs.YtbdgoffbkenofaaGreat.So
namespace Go.Proofs.YtbdgoffbkenofaaGreat.So
open Go Go.RowKit Go.Shelf Go.Sort Go.Lib Go.Proofs.YtbdgoffbkenofaaGreat.Tk Go.Proofs.YtbdgoffbkenofaaGreat.Tr
set_option linter.unusedVariables false
set_option linter.unusedSimpArgs false
set_option maxRecDepth 100000

theorem ins_at {g cap : Nat} {w : World} {d0 : Array Rk} (h : HoldsK encR 2 w g 0 d0) (hg : g < w.heap.size) (a b : Nat) (A B : Int) (hA : (a : Int) = A) (hB : (b : Int) = B) (n : Nat) (d : Array Rk) (os : Array Obj) (hs : d.size = d0.size) (hab : a ≤ b) (hb : b ≤ d.size) (hsz : d.size ≤ 1000000) (hr : Rkd a b d) :
    Calls Tryz.prog 81 #[.slice (some ⟨g, 0, none⟩) d0.size cap, .int .i64 A, .int .i64 B, .func (.func 31) #[] #[]] (SW w g n d os) fun e w' => e = .returned (.tuple #[]) ∧ ∃ n' os' e', w' = SW w g n' e' os' ∧ Merged a b d e' := by
  subst hA hB
  obtain ⟨q1, q2⟩ := SW_holds h hg n d os hs
  rw [← hs]
  have eg : ∀ args w, (callFunc 31 args).run Tryz.prog w = .ok (.enter 31 args) w := enters_of Tryz.func31 (by kernel_rfl) rfl
  have hcon := AnyQ.insertionSortCmpFunc { Tryz.sortL with } 2 Tryz.isAgg30 Tryz.sizeOf30 encR encR_len encR_one cfR 31 #[] g 0 cap a b d (SW w g n d os) eg (fun _ _ _ _ x y => closure_srt x.1 y.1 _) q1 q2 hab hb (by omega)
  refine Calls.mono hcon ?_
  rintro e w' ⟨he, n', os', rfl⟩
  have hm := ins_ok hab hb hr
  exact ⟨he, _, _, _, SW_SW w g n n' d _ os os' hg hm.perm.1, hm⟩
/-- Ranks that are places, and stay so within a run that is sorted. -/
theorem Rkd.out {lo hi a b : Nat} {d e : Array Rk} (h : Rkd a b d) (p : PermIn lo hi d e) (hd : hi ≤ a ∨ b ≤ lo) : Rkd a b e := fun i j h1 h2 h3 => by
  rw [p.2.1 i (by omega), p.2.1 j (by omega)]; exact h i j h1 h2 h3
theorem Srt.out {lo hi a b : Nat} {d e : Array Rk} (h : Srt a b d) (p : PermIn lo hi d e) (hd : hi ≤ a ∨ b ≤ lo) : Srt a b e := fun i j h1 h2 h3 => by
  rw [p.2.1 i (by omega), p.2.1 j (by omega)]; exact h i j h1 h2 h3
/-- All ranks of [a, m) are less than all of [m, b), whatever the order within each. -/
def Apart (a m b : Nat) (d : Array Rk) : Prop := ∀ i j, a ≤ i → i < m → m ≤ j → j < b → d[i]!.2 < d[j]!.2
theorem Apart.inn {a m b lo hi : Nat} {d e : Array Rk} (h : Apart a m b d) (p : PermIn lo hi d e) (hc : (a ≤ lo ∧ hi ≤ m) ∨ (m ≤ lo ∧ hi ≤ b)) (hz : hi ≤ d.size) : Apart a m b e := by
  intro i j q1 q2 q3 q4
  rcases hc with ⟨c1, c2⟩ | ⟨c1, c2⟩
  · rw [p.2.1 j (.inr (by omega))]
    by_cases c : lo ≤ i ∧ i < hi
    · exact permIn_all d e lo hi (fun x => x.2 < d[j]!.2) hz p (fun k hk1 hk2 => h k j (by omega) (by omega) q3 q4) i c.1 c.2
    · rw [p.2.1 i (by omega)]; exact h i j q1 q2 q3 q4
  · rw [p.2.1 i (.inl (by omega))]
    by_cases c : lo ≤ j ∧ j < hi
    · exact permIn_all d e lo hi (fun x => d[i]!.2 < x.2) hz p (fun k hk1 hk2 => h i k q1 q2 (by omega) (by omega)) j c.1 c.2
    · rw [p.2.1 j (by omega)]; exact h i j q1 q2 q3 q4
theorem Apart.of {a m b : Nat} {d : Array Rk} (h : Rkd a b d) : Apart a m b d := fun i j h1 h2 h3 h4 => h i j h1 (by omega) h4
/-- k runs of 20 are sorted. -/
structure St1 (d e : Array Rk) (n k : Nat) : Prop where
  le : 20 * k ≤ n
  perm : PermIn 0 n d e
  s0 : 1 ≤ k → Srt 0 20 e
  s1 : 2 ≤ k → Srt 20 40 e
  a20 : Apart 0 20 n e
  a40 : Apart 0 40 n e
  rk : Rkd (20 * k) n e
/-- All runs of 20 are sorted. -/
structure St2 (d e : Array Rk) (n : Nat) : Prop where
  perm : PermIn 0 n d e
  s0 : Srt 0 (min 20 n) e
  s1 : Srt 20 (min 40 n) e
  s2 : Srt 40 n e
  a20 : Apart 0 20 n e
  a40 : Apart 0 40 n e
/-- All runs of 40 are sorted. -/
structure St3 (d e : Array Rk) (n : Nat) : Prop where
  perm : PermIn 0 n d e
  s0 : Srt 0 (min 40 n) e
  s2 : Srt 40 n e
  a40 : Apart 0 40 n e
section
variable {d e e2 : Array Rk} {n k : Nat}
theorem st1_start (h : Rkd 0 n d) : St1 d d n 0 := ⟨Nat.zero_le _, permIn_refl _ _ _, fun h => by omega, fun h => by omega, .of h, .of h, h⟩
theorem st1_step (hn : n = d.size) (h : St1 d e n k) (h1 : 20 * k + 20 ≤ n) (h2 : k ≤ 1) (hm : Merged (20 * k) (20 * k + 20) e e2) : St1 d e2 n (k + 1) := by
  have hz : e.size = d.size := h.perm.1
  refine ⟨by omega, permIn_trans _ _ _ _ _ h.perm (permIn_mono _ _ _ _ _ _ (Nat.zero_le _) h1 (by omega) hm.perm), fun _ => ?_, fun c => ?_, h.a20.inn hm.perm (by omega) (by omega), h.a40.inn hm.perm (by omega) (by omega), ?_⟩
  · by_cases c : k = 0
    · subst c; exact hm.srt
    · exact (h.s0 (by omega)).out hm.perm (by omega)
  · have : k = 1 := by omega
    subst this; exact hm.srt
  · exact Rkd.out (fun i j h1 h2 h3 => h.rk i j (by omega) h2 h3) hm.perm (.inl (by omega))
theorem st1_end (hn : n = d.size) (h : St1 d e n k) (h1 : n < 20 * k + 20) (h2 : k ≤ 2) (hm : Merged (20 * k) n e e2) : St2 d e2 n := by
  have hz : e.size = d.size := h.perm.1
  have hk := h.le
  refine ⟨permIn_trans _ _ _ _ _ h.perm (permIn_mono _ _ _ _ _ _ (Nat.zero_le _) (Nat.le_refl _) (by omega) hm.perm), ?_, ?_, ?_, h.a20.inn hm.perm (by omega) (by omega), h.a40.inn hm.perm (by omega) (by omega)⟩
  · by_cases c : k = 0
    · subst c; rw [Nat.min_eq_right (by omega)]; exact hm.srt
    · rw [Nat.min_eq_left (by omega)]; exact (h.s0 (by omega)).out hm.perm (by omega)
  · by_cases c : k = 1
    · subst c; rw [Nat.min_eq_right (by omega)]; exact hm.srt
    · by_cases c0 : k = 0
      · intro i j q1 q2 q3; omega
      · rw [Nat.min_eq_left (by omega)]; exact (h.s1 (by omega)).out hm.perm (by omega)
  · by_cases c : k = 2
    · subst c; exact hm.srt
    · intro i j q1 q2 q3; omega
theorem st2_m40 (h : St2 d e n) (h1 : 40 ≤ n) : MergeOK 0 20 40 e := by
  have s0 := h.s0
  have s1 := h.s1
  rw [Nat.min_eq_left (by omega)] at s0 s1
  exact ⟨s0, s1, fun i j q1 q2 q3 q4 => h.a20 i j q1 q2 q3 (by omega)⟩
theorem st2_mn (h : St2 d e n) (h1 : 20 < n) (h2 : n ≤ 40) : MergeOK 0 20 n e := by
  have s0 := h.s0
  have s1 := h.s1
  rw [Nat.min_eq_left (by omega)] at s0
  rw [Nat.min_eq_right (by omega)] at s1
  exact ⟨s0, s1, fun i j q1 q2 q3 q4 => h.a20 i j q1 q2 q3 q4⟩
theorem st2_next (hn : n = d.size) (h : St2 d e n) (h0 : 20 < n) (hm : Merged 0 (min 40 n) e e2) : St3 d e2 n := by
  have hz : e.size = d.size := h.perm.1
  exact ⟨permIn_trans _ _ _ _ _ h.perm (permIn_mono _ _ _ _ _ _ (Nat.zero_le _) (by omega) (by omega) hm.perm), hm.srt, h.s2.out hm.perm (by omega), h.a40.inn hm.perm (by omega) (by omega)⟩
theorem st3_m (h : St3 d e n) (h1 : 40 < n) : MergeOK 0 40 n e := by
  have s0 := h.s0
  rw [Nat.min_eq_left (by omega)] at s0
  exact ⟨s0, h.s2, fun i j q1 q2 q3 q4 => h.a40 i j q1 q2 q3 q4⟩
theorem st3_next (h : St3 d e n) (hm : Merged 0 n e e2) : Merged 0 n d e2 := ⟨permIn_trans _ _ _ _ _ h.perm hm.perm, hm.srt⟩
theorem st2_done (h : St2 d e n) (h1 : n ≤ 20) : Merged 0 n d e := ⟨h.perm, by have s0 := h.s0; rwa [Nat.min_eq_right (by omega)] at s0⟩
theorem st3_done (h : St3 d e n) (h1 : n ≤ 40) : Merged 0 n d e := ⟨h.perm, by have s0 := h.s0; rwa [Nat.min_eq_right (by omega)] at s0⟩
end
theorem sym_at2 {g cap : Nat} {w : World} {d0 : Array Rk} (h : HoldsK encR 2 w g 0 d0) (hg : g < w.heap.size) (a m b : Nat) (A M B : Int) (hA : (a : Int) = A) (hM' : (m : Int) = M) (hB : (b : Int) = B) (n : Nat) (d : Array Rk) (os : Array Obj) (hs : d.size = d0.size) (h1 : a < m) (h2 : m < b) (hb : b ≤ d.size) (hsz : d.size ≤ 1000000) (hM : MergeOK a m b d) :
    Calls Tryz.prog 82 #[.slice (some ⟨g, 0, none⟩) d0.size cap, .int .i64 A, .int .i64 M, .int .i64 B, .func (.func 31) #[] #[]] (SW w g n d os) fun e w' => e = .returned (.tuple #[]) ∧ ∃ n' os' e', w' = SW w g n' e' os' ∧ Merged a b d e' := by
  subst hA hM' hB
  exact sym_at (symMerge_calls g cap (b - a)) h hg a m b n d os hs (Nat.le_refl _) h1 h2 hb hsz hM
set_option maxHeartbeats 16000000 in
theorem stable_calls (g cap : Nat) (d : Array Rk) (w : World) (hH : HoldsK encR 2 w g 0 d) (hg : g < w.heap.size) (hn50 : d.size ≤ 50) (hr : Rkd 0 d.size d) :
    Calls Tryz.prog 54 #[.slice (some ⟨g, 0, none⟩) d.size cap, .int .i64 d.size, .func (.func 31) #[] #[]] w fun e w' => e = .returned (.tuple #[]) ∧ ∃ n os e', w' = SW w g n e' os ∧ Merged 0 d.size d e' := by
  have HST : Hid (w = SW w g 0 d #[]) := by show w = _; unfold SW sortWorldK; rw [grow_empty]; exact (putRowK_self encR 2 w g 0 d hH).symm
  have HH := Lib.hid hH
  clear hH
  obtain ⟨N, hN⟩ : ∃ N, N = d.size := ⟨_, rfl⟩
  have HI := Lib.hid (fun (a b : Nat) (A B : Int) (hA : (a : Int) = A) (hB : (b : Int) = B) n e os (hs : e.size = d.size) => ins_at (cap := cap) HH.out hg a b A B hA hB n e os hs)
  have HSM := Lib.hid (fun (a m b : Nat) (A M B : Int) (hA : (a : Int) = A) (hM : (m : Int) = M) (hB : (b : Int) = B) n e os (hs : e.size = d.size) => sym_at2 (cap := cap) HH.out hg a m b A M B hA hM hB n e os hs)
  have HS0 := Lib.hid (show St1 d d N 0 from st1_start (hN ▸ hr))
  rw [← hN] at hn50 HI HSM ⊢
  have HND := Lib.hid hN
  clear hN hr
  go_enter Tryz.func54, Tryz.ntmps54
  go_wp2_with fail
  go_loopw [7, 8] (fun t7 t8 wr => ∃ (k n : Nat) (os : Array Obj) (e : Array Rk), t7 = .int .i64 (20 * (k : Int)) ∧ t8 = .int .i64 (20 * (k : Int) + 20) ∧ wr = SW w g n e os ∧ Hid (k ≤ 2 ∧ St1 d e N k)) (fun t7 _ _ => 100 - (intOf t7).toNat)
  case atStart => exact ⟨0, 0, #[], d, rfl, rfl, HST.out, Lib.hid ⟨by omega, HS0.out⟩⟩
  case round =>
    obtain ⟨k, n, os, e, rfl, rfl, rfl, HS⟩ := hrel
    have hk2 : (k : Int) ≤ 2 := by have := HS.out.1; omega
    by_cases hb : 20 * k + 20 ≤ N
    · have k1 : 20 * (k : Int) + 20 ≤ (N : Int) := by omega
      have HC := Lib.hid (HI.out (20 * k) (20 * k + 20) (20 * (k : Int)) (20 * (k : Int) + 20) (by omega) (by omega) n e os (HS.out.2.perm.1.trans HND.out.symm) (by omega) (by have := HS.out.2.perm.1; have := HND.out; omega) (by have := HS.out.2.perm.1; have := HND.out; omega) (fun i j h1 h2 h3 => HS.out.2.rk i j h1 h2 (by omega)))
      have HNX := Lib.hid (fun e2 => st1_step (e2 := e2) HND.out HS.out.2 hb (by have := HS.out.1; omega))
      have hk1 : k ≤ 1 := by omega
      generalize SW w g n e os = wq at *
      go_wp2_with fail
      refine HC.out.mono ?_
      rintro e1 w' ⟨rfl, n2, os2, e2, rfl, hm⟩
      have HS2 := Lib.hid (HNX.out e2 hm)
      clear hm HC HNX
      go_wp2_with fail
      refine ⟨⟨k + 1, n2, os2, e2, by first | (congr 1; done) | (congr 1; omega), by first | (congr 1; done) | (congr 1; omega), rfl, Lib.hid ⟨by omega, HS2.out⟩⟩, ?_⟩
      simp only [intOf]
      omega
    · have k1 : ¬ 20 * (k : Int) + 20 ≤ (N : Int) := by omega
      have HC := Lib.hid (HI.out (20 * k) N (20 * (k : Int)) N (by omega) rfl n e os (HS.out.2.perm.1.trans HND.out.symm) HS.out.2.le (by have := HS.out.2.perm.1; have := HND.out; omega) (by have := HS.out.2.perm.1; have := HND.out; omega) HS.out.2.rk)
      have HNX := Lib.hid (fun e2 => st1_end (e2 := e2) HND.out HS.out.2 (by omega) HS.out.1)
      generalize SW w g n e os = wq at *
      go_wp2_with fail
      refine HC.out.mono ?_
      rintro e1 w' ⟨rfl, n2, os2, e2, rfl, hm⟩
      have HS2 := Lib.hid (HNX.out e2 hm)
      clear hm HC HNX
      go_wp2_with fail
      clear hb k1 hk2 HS
      go_loopw [6] (fun t6 wr => ∃ (n : Nat) (os : Array Obj) (e : Array Rk), wr = SW w g n e os ∧ ((t6 = .int .i64 20 ∧ Hid (St2 d e N)) ∨ (t6 = .int .i64 40 ∧ Hid (20 < N ∧ St3 d e N)) ∨ (t6 = .int .i64 80 ∧ Hid (40 < N ∧ Merged 0 N d e)))) (fun t6 _ => 100 - (intOf t6).toNat)
      case atStart => exact ⟨n2, os2, e2, rfl, .inl ⟨rfl, HS2⟩⟩
      case round =>
        obtain ⟨n, os, e, rfl, ⟨rfl, HA⟩ | ⟨rfl, HA⟩ | ⟨rfl, HA⟩⟩ := hrel
        · have hze := HA.out.perm.1.trans HND.out.symm
          by_cases h20 : 20 < N
          · have i1 : (20 : Int) < (N : Int) := by omega
            by_cases h40 : 40 ≤ N
            · have i2 : (40 : Int) ≤ (N : Int) := by omega
              have HC := Lib.hid (HSM.out 0 20 40 0 20 40 rfl rfl rfl n e os hze (by omega) (by omega) (by have := HND.out; omega) (by have := HND.out; omega) (st2_m40 HA.out h40))
              have HNX := Lib.hid (fun e2 => st2_next (e2 := e2) HND.out HA.out h20)
              rw [Nat.min_eq_left (by omega)] at HNX
              go_wp2_with fail
              go_loopw [7, 8] (fun t7 t8 wr => (t7 = .int .i64 0 ∧ t8 = .int .i64 40 ∧ wr = SW w g n e os) ∨ (∃ n3 os3 e3, t7 = .int .i64 40 ∧ t8 = .int .i64 80 ∧ wr = SW w g n3 e3 os3 ∧ Hid (St3 d e3 N))) (fun t7 _ _ => 100 - (intOf t7).toNat)
              case atStart => exact .inl ⟨rfl, rfl, rfl⟩
              case round =>
                rcases hrel with ⟨rfl, rfl, rfl⟩ | ⟨n3, os3, e3, rfl, rfl, rfl, HA3⟩
                · generalize SW w g n e os = wq at *
                  go_wp2_with fail
                  refine HC.out.mono ?_
                  rintro e1 w' ⟨rfl, n3, os3, e3, rfl, hm⟩
                  have HA3 := Lib.hid (HNX.out e3 hm)
                  clear hm
                  go_wp2_with fail
                  refine ⟨.inr ⟨n3, os3, e3, rfl, rfl, rfl, HA3⟩, ?_⟩
                  simp only [intOf]
                  omega
                · have i3 : ¬ (80 : Int) ≤ (N : Int) := by omega
                  have i4 : ¬ (60 : Int) < (N : Int) := by omega
                  go_wp2_with fail
                  refine ⟨⟨n3, os3, e3, rfl, .inr (.inl ⟨rfl, Lib.hid ⟨h20, HA3.out⟩⟩)⟩, ?_⟩
                  simp only [intOf]
                  omega
            · have i2 : ¬ (40 : Int) ≤ (N : Int) := by omega
              have HC := Lib.hid (HSM.out 0 20 N 0 20 N rfl rfl rfl n e os hze (by omega) h20 (by have := HND.out; omega) (by have := HND.out; omega) (st2_mn HA.out h20 (by omega)))
              have HNX := Lib.hid (fun e2 => st2_next (e2 := e2) HND.out HA.out h20)
              rw [Nat.min_eq_right (by omega)] at HNX
              go_wp2_with fail
              go_loopw [7, 8] (fun t7 t8 wr => t7 = .int .i64 0 ∧ t8 = .int .i64 40 ∧ wr = SW w g n e os) (fun t7 _ _ => 0)
              case atStart => exact ⟨rfl, rfl, rfl⟩
              case round =>
                obtain ⟨rfl, rfl, rfl⟩ := hrel
                generalize SW w g n e os = wq at *
                go_wp2_with fail
                refine HC.out.mono ?_
                rintro e1 w' ⟨rfl, n3, os3, e3, rfl, hm⟩
                have HA3 := Lib.hid (HNX.out e3 hm)
                clear hm
                go_wp2_with fail
                refine ⟨⟨n3, os3, e3, rfl, .inr (.inl ⟨rfl, Lib.hid ⟨h20, HA3.out⟩⟩)⟩, ?_⟩
                simp only [intOf]
                omega
          · have i1 : ¬ (20 : Int) < (N : Int) := by omega
            have HF := Lib.hid (st2_done HA.out (by omega))
            go_wp2_with fail
            go_end0
            exact ⟨rfl, n, os, e, rfl, HF.out⟩
        · have hze := HA.out.2.perm.1.trans HND.out.symm
          by_cases h40 : 40 < N
          · have i1 : (40 : Int) < (N : Int) := by omega
            have i2 : ¬ (80 : Int) ≤ (N : Int) := by omega
            have HC := Lib.hid (HSM.out 0 40 N 0 40 N rfl rfl rfl n e os hze (by omega) h40 (by have := HND.out; omega) (by have := HND.out; omega) (st3_m HA.out.2 h40))
            have HNX := Lib.hid (fun e2 => st3_next (e2 := e2) HA.out.2)
            go_wp2_with fail
            go_loopw [7, 8] (fun t7 t8 wr => t7 = .int .i64 0 ∧ t8 = .int .i64 80 ∧ wr = SW w g n e os) (fun t7 _ _ => 0)
            case atStart => exact ⟨rfl, rfl, rfl⟩
            case round =>
              obtain ⟨rfl, rfl, rfl⟩ := hrel
              generalize SW w g n e os = wq at *
              go_wp2_with fail
              refine HC.out.mono ?_
              rintro e1 w' ⟨rfl, n3, os3, e3, rfl, hm⟩
              have HA3 := Lib.hid (HNX.out e3 hm)
              clear hm
              go_wp2_with fail
              refine ⟨⟨n3, os3, e3, rfl, .inr (.inr ⟨rfl, Lib.hid ⟨h40, HA3.out⟩⟩)⟩, ?_⟩
              simp only [intOf]
              omega
          · have i1 : ¬ (40 : Int) < (N : Int) := by omega
            have HF := Lib.hid (st3_done HA.out.2 (by omega))
            go_wp2_with fail
            go_end0
            exact ⟨rfl, n, os, e, rfl, HF.out⟩
        · have i1 : ¬ (80 : Int) < (N : Int) := by omega
          have HF := Lib.hid HA.out.2
          go_wp2_with fail
          go_end0
          exact ⟨rfl, n, os, e, rfl, HF.out⟩
end Go.Proofs.YtbdgoffbkenofaaGreat.So
namespace Go.Proofs.YtbdgoffbkenofaaGreat.Tr
open Go Go.RowKit
set_option linter.unusedVariables false

def cellsA (al : List (ByteArray × ByteArray)) : List Value := al.flatMap fun x => [.string x.1, .string x.2]
theorem cellsA_length : ∀ al, (cellsA al).length = al.length * 2
  | [] => rfl
  | x :: xs => by have := cellsA_length xs; simp [cellsA] at this ⊢; omega
theorem cellsA_at : ∀ (al : List (ByteArray × ByteArray)) (i : Nat) (x : ByteArray × ByteArray), al[i]? = some x → (cellsA al)[i * 2]? = some (.string x.1) ∧ (cellsA al)[i * 2 + 1]? = some (.string x.2)
  | [], i, x, h => by simp at h
  | y :: ys, 0, x, h => by simp at h; subst h; simp [cellsA]
  | y :: ys, i + 1, x, h => by
    have := cellsA_at ys i x (by simpa using h)
    have e : cellsA (y :: ys) = .string y.1 :: .string y.2 :: cellsA ys := by simp [cellsA]
    rw [e, show (i + 1) * 2 = i * 2 + 1 + 1 by omega, show i * 2 + 1 + 1 + 1 = (i * 2 + 1) + 1 + 1 by omega]
    simpa using this
theorem cellsA_of : ∀ (al : List (ByteArray × ByteArray)) (j : Nat) (u : Value), (cellsA al)[j]? = some u → ∃ i x, al[i]? = some x ∧ ((j = i * 2 ∧ u = .string x.1) ∨ (j = i * 2 + 1 ∧ u = .string x.2))
  | [], j, u, h => by simp [cellsA] at h
  | y :: ys, 0, u, h => by simp [cellsA] at h; exact ⟨0, y, rfl, .inl ⟨rfl, h.symm⟩⟩
  | y :: ys, 1, u, h => by simp [cellsA] at h; exact ⟨0, y, rfl, .inr ⟨rfl, h.symm⟩⟩
  | y :: ys, j + 2, u, h => by
    have e : cellsA (y :: ys) = .string y.1 :: .string y.2 :: cellsA ys := by simp [cellsA]
    rw [e] at h
    obtain ⟨i, x, hx, h2⟩ := cellsA_of ys j u (by simpa using h)
    exact ⟨i + 1, x, by simpa using hx, h2.imp (fun ⟨a, b⟩ => ⟨by omega, b⟩) (fun ⟨a, b⟩ => ⟨by omega, b⟩)⟩
theorem attr_info : (Tryz.prog.info? 30).map (fun i => (i.zero, i.size, i.bytes)) = some (some (.agg #[.string ByteArray.empty, .string ByteArray.empty]), 2, 32) := by kernel_rfl
theorem isAttrs_row {w : World} {B0 g cap : Nat} {al : List (ByteArray × ByteArray)} (hrow : w.ownsRow B0 30 2 (.slice (some ⟨g, 0, none⟩) al.length cap) al.length (cellsA al)) (hb : ∀ a ∈ al, a.1.size ≤ maxLen ∧ a.2.size ≤ maxLen) : IsAttrs w w.heap.size al (some ⟨g, 0, none⟩) cap := by
  have hg := (hrow.lt g rfl).2
  have hc := hrow.cells (g := g) rfl
  rcases hrow.2 with ⟨h1, _⟩ | ⟨g', cap', cur, h1, h5, h6, h7, h8, _⟩
  · cases h1
  · injection h1 with h1a h1b h1c
    subst h1c
    refine ⟨h7, h8, hb, fun _ => ⟨g, 0, rfl, hg, fun i x hx => ?_⟩⟩
    obtain ⟨e0, e1⟩ := cellsA_at al i x hx
    have a0 := hc _ _ e0
    have a1 := hc _ _ e1
    rw [add_flat] at a0 a1
    exact ⟨a0, by rw [Nat.add_assoc]; exact a1⟩
def CloneEnd (al : List (ByteArray × ByteArray)) (w : World) (e : Ending) (w' : World) : Prop :=
  ∃ v, e = .returned v ∧ w'.ownsRow w.heap.size 30 2 v al.length (cellsA al) ∧ Below w.heap.size w w'
set_option maxHeartbeats 2000000 in
set_option maxRecDepth 100000 in
theorem clone_calls (al : List (ByteArray × ByteArray)) (A : Option Addr) (ac B : Nat) (w : World) (h : IsAttrs w B al A ac) (hB : B ≤ w.heap.size) (hl : al.length ≤ 1000000) :
    Calls Tryz.prog 29 #[.slice A al.length ac] w (CloneEnd al w) := by
  obtain ⟨h1, h2, h3, h4⟩ := h
  cases A with
  | none =>
    have hnil : al = [] := by
      cases al with
      | nil => rfl
      | cons x xs => obtain ⟨b, off, e, _⟩ := h4 (by simp); cases e
    subst hnil
    clear h4
    have heq := fun (w : World) (a : Option Addr) (l c : Nat) => Lib.run_eql_slice_nil (P := Tryz.prog) w 25 30 a l c 0 0 Tryz.underlying25
    go_enter Tryz.func29, Tryz.ntmps29
    go_wp2_with fail
    go_ret
    exact ⟨_, rfl, ⟨rfl, .inl ⟨rfl, rfl⟩⟩, Below.refl _ _⟩
  | some ad =>
    have hnews : ∀ j u, (cellsA al)[j]? = some u → w.cell? (ad.add j) = some u := by
      intro j u hj
      obtain ⟨i, x, hx, h5⟩ := cellsA_of al j u hj
      obtain ⟨b, off, e, _, hc⟩ := h4 (by rintro rfl; simp at hx)
      injection e with e
      subst e
      rw [add_flat]
      rcases h5 with ⟨rfl, rfl⟩ | ⟨rfl, rfl⟩
      · exact (hc i x hx).1
      · rw [← Nat.add_assoc]; exact (hc i x hx).2
    have HN := Lib.hid hnews
    have H3 := Lib.hid h3
    clear h3 h4 hnews
    obtain ⟨i0, hi, hz0, hz1, hz2⟩ := info_parts attr_info
    unfold maxLen at h2
    have heq := fun (w : World) (a : Option Addr) (l c : Nat) => Lib.run_eql_slice_nil (P := Tryz.prog) w 25 30 a l c 0 0 Tryz.underlying25
    go_enter Tryz.func29, Tryz.ntmps29
    have HROW : Hid ((w.alloc (.cells #[] 30)).ownsRow w.heap.size 30 2 (.slice (some ⟨w.heap.size, 0, none⟩) 0 0) 0 []) := Lib.hid ⟨rfl, .inr ⟨_, 0, _, rfl, Nat.le_refl _, alloc_new w _, Nat.le_refl _, by unfold maxLen; omega, rfl, rfl⟩⟩
    have HN2 : Hid (∀ j u, (cellsA al)[j]? = some u → (w.alloc (.cells #[] 30)).cell? (ad.add j) = some u) := Lib.hid fun j u hj => by
      have h := HN.out j u hj
      rw [World.cell?_of_block (Below.heap_alloc w _ _ (cell_lt h).1)]; exact h
    have HONE : Hid (∀ u ∈ cellsA al, u.oneCell' = true) := Lib.hid fun u hu => by
      obtain ⟨x, _, hx⟩ := List.mem_flatMap.1 hu
      simp at hx
      rcases hx with rfl | rfl <;> rfl
    have HLEN : Hid ((cellsA al).length = al.length * 2) := Lib.hid (cellsA_length al)
    go_wp2_with (at_builtin; refine wpList_append_own_at _ rfl (.tmp 5) (.tmp 6) 25 rfl w.heap.size 30 i0 _ 2 32 Tryz.underlying25 hi hz0 hz1 hz2 rfl (by decide) _ _ _ rfl HROW.out ad al.length ac (cellsA al) rfl HLEN.out HN2.out HONE.out (by unfold maxLen; omega) (by omega) (by simp) ?_)
    intro v' w2 g1 g2 _ g3
    have hbel : Below w.heap.size w w2 := ((Below.refl _ w).alloc (Nat.le_refl _) _).grown g2 (by simp) fun k hk => by
      injection hk with hk
      have e : w.heap.size = k := hk
      omega
    have hblk : ∃ g cap, v' = .slice (some ⟨g, 0, none⟩) al.length cap ∧ w.heap.size ≤ g := by
      rcases g1.2 with ⟨e, _⟩ | ⟨g, cap, cur, e, hg, _⟩
      · exfalso
        rw [e] at g3
        rcases g3 with g3 | g3 <;> cases g3
      · exact ⟨g, cap, e, hg⟩
    obtain ⟨g, cap, rfl, hg⟩ := hblk
    have HRW := Lib.hid g1
    have HBel := Lib.hid hbel
    clear g1 g2 g3 hbel
    go_wp2_with fail
    go_ret
    exact ⟨_, rfl, HRW.out, HBel.out⟩
theorem run_append_nn {P : Program} {w : World} (t ty e : TypeId) (i : TypeInfo) (c : Nat) (ht : P.underlying t = some (.slice e)) (hi : P.info? e = some i) :
    (Builtin.append_ #[t, t] ty #[.slice none 0 0, .slice none 0 c]).run P w = .ok (.slice none 0 0) w := by
  simp [Builtin.append_, run_underlying ht, sizeOf, typeInfo, hi, Builtin.lenOf, Builtin.firstCells]
theorem wpList_append_nn {P : Program} {w : World} {ops : Array Oper} {rest : List Oper} {o : Oper} {a : Act} {Q : Exit → Act → World → Prop} (hgd : o.guard = none) (s x : Operand) (t : TypeId)
    (ho : o.op = .call { callee := .builtin .append, args := #[s, x], argTypes := #[t, t] })
    (e : TypeId) (i : TypeInfo) (c : Nat) (ht : P.underlying t = some (.slice e)) (hi : P.info? e = some i)
    (hs : a.eval s = .slice none 0 0) (hx : a.eval x = .slice none 0 c)
    (h : wpList P ops Q rest (a.put o.dst (.slice none 0 0)) w) : wpList P ops Q (o :: rest) a w := by
  refine wpList_plain hgd fun K hK => ?_
  have hrun := run_append_nn (P := P) (w := w) t o.type e i c ht hi
  unfold Oper.wp
  simp [execOp, ho, resolve, invoke, builtin, hs, hx, hrun, Result.andThen]
  exact hK _ _ h
/-- What a copy of attributes is. -/
def AttrCp (B : Nat) (al : List (ByteArray × ByteArray)) (v : Value) (W : World) : Prop :=
  ∃ A ac, v = .slice A al.length ac ∧ IsAttrs W W.heap.size al A ac ∧ ((A = none ∧ al = []) ∨ ∃ g cur, A = some ⟨g, 0, none⟩ ∧ B ≤ g ∧ W.heap[g]? = some (.cells cur 30 (0, 0)))
def AttrEnd (al : List (ByteArray × ByteArray)) (w : World) (e : Ending) (w' : World) : Prop := ∃ v, e = .returned v ∧ AttrCp w.heap.size al v w' ∧ Below w.heap.size w w'
set_option maxHeartbeats 2000000 in
set_option maxRecDepth 100000 in
theorem attrs_calls (al : List (ByteArray × ByteArray)) (A : Option Addr) (ac B : Nat) (w : World) (h : IsAttrs w B al A ac) (hB : B ≤ w.heap.size) (hl : al.length ≤ 1000000) :
    Calls Tryz.prog 21 #[.slice A al.length ac] w (AttrEnd al w) := by
  obtain ⟨h1, h2, h3, h4⟩ := h
  obtain ⟨i0, hi, hz0, hz1, hz2⟩ := info_parts attr_info
  cases A with
  | none =>
    have hnil : al = [] := by
      cases al with
      | nil => rfl
      | cons x xs => obtain ⟨b, off, e, _⟩ := h4 (by simp); cases e
    subst hnil
    clear h4
    go_enter Tryz.func21, Tryz.ntmps21
    go_wp2_with (at_builtin; refine wpList_append_nn rfl (.const (.slice none 0 0)) (.tmp 3) 25 rfl 30 i0 ac Tryz.underlying25 hi rfl rfl ?_)
    go_ret
    exact ⟨_, rfl, ⟨none, 0, rfl, ⟨Nat.le_refl _, by unfold maxLen; omega, fun a h => by simp at h, fun h => absurd rfl h⟩, .inl ⟨rfl, rfl⟩⟩, Below.refl _ _⟩
  | some ad =>
    by_cases hal : al = []
    · subst hal
      have HN2 : Hid (∀ (j : Nat) u, ([] : List Value)[j]? = some u → w.cell? (ad.add j) = some u) := Lib.hid fun j u hj => by simp at hj
      have HROW : Hid (w.ownsRow w.heap.size 30 2 (.slice none 0 0) 0 []) := Lib.hid ⟨rfl, .inl ⟨rfl, rfl⟩⟩
      clear h3 h4
      go_enter Tryz.func21, Tryz.ntmps21
      go_wp2_with (at_builtin; refine wpList_append_own_at _ rfl (.const (.slice none 0 0)) (.tmp 3) 25 rfl w.heap.size 30 i0 _ 2 32 Tryz.underlying25 hi hz0 hz1 hz2 rfl (by decide) _ _ _ rfl HROW.out ad 0 ac [] rfl rfl HN2.out (by simp) (by unfold maxLen; omega) (by omega) (Nat.le_refl _) ?_)
      intro v' w2 g1 g2 g3
      intros
      subst g3
      have HB : Hid (Below w.heap.size w w2) := Lib.hid ((Below.refl _ w).grown g2 (Nat.le_refl _) fun k hk => by cases hk)
      clear g1 g2
      go_wp2_with fail
      go_ret
      exact ⟨_, rfl, ⟨none, 0, rfl, ⟨Nat.le_refl _, by unfold maxLen; omega, fun a h => by simp at h, fun h => absurd rfl h⟩, .inl ⟨rfl, rfl⟩⟩, HB.out⟩
    · have hnews : ∀ j u, (cellsA al)[j]? = some u → w.cell? (ad.add j) = some u := by
        intro j u hj
        obtain ⟨i, x, hx, h5⟩ := cellsA_of al j u hj
        obtain ⟨b, off, e, _, hc⟩ := h4 hal
        injection e with e
        subst e
        rw [add_flat]
        rcases h5 with ⟨rfl, rfl⟩ | ⟨rfl, rfl⟩
        · exact (hc i x hx).1
        · rw [← Nat.add_assoc]; exact (hc i x hx).2
      have HN := Lib.hid hnews
      have H3 := Lib.hid h3
      have hpos : 0 < al.length := List.length_pos_iff.2 hal
      have HNE := Lib.hid hal
      clear h3 h4 hnews hal
      unfold maxLen at h2
      have HROW : Hid (w.ownsRow w.heap.size 30 2 (.slice none 0 0) 0 []) := Lib.hid ⟨rfl, .inl ⟨rfl, rfl⟩⟩
      have HONE : Hid (∀ u ∈ cellsA al, u.oneCell' = true) := Lib.hid fun u hu => by
        obtain ⟨x, _, hx⟩ := List.mem_flatMap.1 hu
        simp at hx
        rcases hx with rfl | rfl <;> rfl
      have HLEN : Hid ((cellsA al).length = al.length * 2) := Lib.hid (cellsA_length al)
      go_enter Tryz.func21, Tryz.ntmps21
      go_wp2_with (at_builtin; refine wpList_append_own_at _ rfl (.const (.slice none 0 0)) (.tmp 3) 25 rfl w.heap.size 30 i0 _ 2 32 Tryz.underlying25 hi hz0 hz1 hz2 rfl (by decide) _ _ _ rfl HROW.out ad al.length ac (cellsA al) rfl HLEN.out HN.out HONE.out (by unfold maxLen; omega) (by omega) (Nat.le_refl _) ?_)
      intro v' w2 g1 g2 g3 g4
      have hbel : Below w.heap.size w w2 := (Below.refl _ w).grown g2 (Nat.le_refl _) fun k hk => by cases hk
      have hblk : ∃ g cap cur, v' = .slice (some ⟨g, 0, none⟩) al.length cap ∧ w.heap.size ≤ g ∧ w2.heap[g]? = some (.cells cur 30 (0, 0)) := by
        rcases g1.2 with ⟨e, _⟩ | ⟨g, cap, cur, e, hg, hcur, _⟩
        · exfalso
          exact HNE.out (g3.1 e)
        · exact ⟨g, cap, cur, e, hg, hcur⟩
      obtain ⟨g, cap, cur, rfl, hg, hcur⟩ := hblk
      have HCUR := Lib.hid hcur
      clear hcur
      have HA := Lib.hid (isAttrs_row g1 H3.out)
      have HBel := Lib.hid hbel
      have hg2 := (g1.lt g rfl).2
      clear g1 g2 g3 g4 hbel
      go_wp2_with fail
      go_ret
      exact ⟨_, rfl, ⟨_, _, rfl, HA.out, .inr ⟨g, cur, rfl, hg, HCUR.out⟩⟩, HBel.out⟩
end Go.Proofs.YtbdgoffbkenofaaGreat.Tr
namespace Go.Proofs.YtbdgoffbkenofaaGreat.So
open Go Go.RowKit Go.Shelf Go.Sort Go.Lib Go.Proofs.YtbdgoffbkenofaaGreat.Tk Go.Proofs.YtbdgoffbkenofaaGreat.Tr
set_option linter.unusedVariables false
set_option linter.unusedSimpArgs false
set_option maxRecDepth 100000

/-- Of i attributes those that have another name than the one ahead. -/
def kp (d : Array Rk) : Nat → List Rk
  | 0 => []
  | i + 1 => kp d i ++ (if i = 0 ∨ d[i]!.1.1 ≠ d[i - 1]!.1.1 then [d[i]!] else [])
theorem kp_len (d : Array Rk) : ∀ i, (kp d i).length ≤ i
  | 0 => Nat.le_refl _
  | i + 1 => by
    have := kp_len d i
    unfold kp
    rw [List.length_append]
    split <;> simp <;> omega
theorem kp_yes {d : Array Rk} {i : Nat} (h : i = 0 ∨ d[i]!.1.1 ≠ d[i - 1]!.1.1) : kp d (i + 1) = kp d i ++ [d[i]!] := by
  conv => lhs; unfold kp
  rw [if_pos h]
theorem kp_no {d : Array Rk} {i : Nat} (h : ¬ (i = 0 ∨ d[i]!.1.1 ≠ d[i - 1]!.1.1)) : kp d (i + 1) = kp d i := by
  conv => lhs; unfold kp
  rw [if_neg h]; exact List.append_nil _
theorem kp_all {d : Array Rk} : ∀ k, (∀ j, 0 < j → j < k → d[j]!.1.1 ≠ d[j - 1]!.1.1) → (kp d k).length = k ∧ ∀ j, j < k → (kp d k)[j]! = d[j]!
  | 0, h => ⟨rfl, fun j hj => by omega⟩
  | k + 1, h => by
    obtain ⟨h1, h2⟩ := kp_all k (fun j hj1 hj2 => h j hj1 (by omega))
    have hy : k = 0 ∨ d[k]!.1.1 ≠ d[k - 1]!.1.1 := by
      rcases Nat.eq_zero_or_pos k with c | c
      · exact .inl c
      · exact .inr (h k c (by omega))
    rw [kp_yes hy]
    refine ⟨by rw [List.length_append, h1]; rfl, fun j hj => ?_⟩
    rw [List.getElem!_eq_getElem?_getD]
    rcases Nat.lt_or_ge j k with c | c
    · rw [List.getElem?_append_left (by omega), ← List.getElem!_eq_getElem?_getD]; exact h2 j c
    · have : j = k := by omega
      subst this
      rw [List.getElem?_append_right (by omega), h1, Nat.sub_self]; rfl
set_option maxHeartbeats 2000000 in
theorem closure_eqn (x y : At) (W : World) : Calls Tryz.prog 34 #[.agg #[.string x.1, .string x.2], .agg #[.string y.1, .string y.2]] W fun e w' => e = .returned (.bool (decide (x.1 = y.1))) ∧ ∃ q os', w' = grow (W.drewN q) os' := by
  have hq := Sr.str_eq x.1 y.1
  go_enter Tryz.func34, Tryz.ntmps34
  by_cases h : x.1 = y.1
  · have hd : decide (x.1 = y.1) = true := decide_eq_true h
    have hq' : (x.1.toList == y.1.toList) = true := by rw [h]; simp
    rw [hd]
    clear h hq hd
    go_wp2_with fail
    go_ret
    exact ⟨rfl, 0, _, by rw [alloc_eq_grow, alloc_eq_grow, grow_grow]; rfl⟩
  · have hd : decide (x.1 = y.1) = false := decide_eq_false h
    have hq' : (x.1.toList == y.1.toList) = false := (lit_eq x.1 y.1.toList y.1 rfl).trans (decide_eq_false h)
    rw [hd]
    clear h hq hd
    go_wp2_with fail
    go_ret
    exact ⟨rfl, 0, _, by rw [alloc_eq_grow, alloc_eq_grow, grow_grow]; rfl⟩
/-- One element stored. -/
theorem SW_set {w : World} {g : Nat} (m : Nat) (d : Array Rk) (os : Array Obj) (hg : g < w.heap.size) (k : Nat) (x : Rk) (hk : k < d.size) :
    ((SW w g m d os).setCell ⟨g, k * 2, none⟩ (.string x.1.1)).setCell ⟨g, k * 2 + 1, none⟩ (.string x.1.2) = SW w g m (d.setIfInBounds k x) os := by
  have e : setMany (flatK encR 2 d) (k * 2) (encR x) = flatK encR 2 (d.setIfInBounds k x) := by
    refine ext_get! (by simp) fun t ht => ?_
    have ht' : t < d.size * 2 := by simpa using ht
    rw [get_setMany _ _ _ _ (by simpa using ht'), get_flatK encR 2 d _ ht', get_flatK encR 2 (d.setIfInBounds k x) _ (by simpa using ht'), encR_len]
    by_cases c : k * 2 ≤ t ∧ t < k * 2 + 2
    · rw [if_pos c, show t / 2 = k by omega, show t % 2 = t - k * 2 by omega]
      simp [getElem!_def, Array.getElem?_setIfInBounds, hk]
    · rw [if_neg c]
      have hne : ¬ k = t / 2 := by omega
      simp [getElem!_def, Array.getElem?_setIfInBounds, hne]
  show (SW w g m d os).setCells g (k * 2) (encR x) = _
  unfold SW sortWorldK
  rw [setCells_grow os g _ _ _ (by rw [size_putRowK]; exact hg)]
  congr 1
  unfold putRowK
  have := setCells_putRow (Sort.ahead w m) g 0 (encR x) (k * 2) (flatK encR 2 d) (by rw [encR_len, size_flatK]; omega)
  rw [Nat.zero_add] at this
  rw [this, e]
/-- clear(s), s a slice of attributes. -/
theorem run_clear_at (w : World) (b o n : Nat) (hn : 0 < n) (hc : ∀ j, j < n * 2 → (w.cell? ⟨b, o + j, none⟩).isSome = true) (hf : ∀ j, j < n * 2 → w.frozen? ⟨b, o + j, none⟩ = false) :
    ∃ Z : List Value, Z.length = n * 2 ∧ ∀ (ty : TypeId) (c : Nat), (Builtin.clear_ #[25] ty #[.slice (some ⟨b, o, none⟩) n c]).run Tryz.prog w = .ok (.tuple #[]) (w.setCells b o Z) := by
  refine ⟨(Builtin.zeroCells (Value.agg #[.string ByteArray.empty, .string ByteArray.empty]).cells n).toList, ?_, ?_⟩
  · simp [Builtin.zeroCells, Value.cells]
  · have h1 : ∀ v ∈ (Builtin.zeroCells (Value.agg #[.string ByteArray.empty, .string ByteArray.empty]).cells n).toList, v.oneCell' = true := by
      intro v hv
      have key : ∀ i : Nat, ((#[Value.string ByteArray.empty, Value.string ByteArray.empty] : Array Value)[i % 2]!).oneCell' = true := fun i => by
        rcases Nat.mod_two_eq_zero_or_one i with h | h <;> rw [h] <;> rfl
      rw [Array.mem_toList_iff] at hv
      obtain ⟨i, _, rfl⟩ := Array.mem_map.1 hv
      exact key i
    have hl : (Builtin.zeroCells (Value.agg #[.string ByteArray.empty, .string ByteArray.empty]).cells n).toList.length = n * 2 := by simp [Builtin.zeroCells, Value.cells]
    have hst := run_storeCells_cells (P := Tryz.prog) b o _ 0 w (by rw [hl]; simpa using hc) (by rw [hl]; simpa using hf) h1
    simp only [Nat.add_zero] at hst
    obtain ⟨m, rfl⟩ : ∃ m, n = m + 1 := ⟨n - 1, by omega⟩
    have hz : ∀ w, (zeroValue 30).run Tryz.prog w = .ok (.agg #[.string ByteArray.empty, .string ByteArray.empty]) w := fun w => by kernel_rfl
    intro ty c
    simp [Builtin.clear_, run_underlying Tryz.underlying25, hz, hst]
theorem setCells_other (b k : Nat) (hk : k ≠ b) : ∀ (vs : List Value) (o : Nat) (w : World), (w.setCells b o vs).heap[k]? = w.heap[k]?
  | [], _, _ => rfl
  | v :: r, o, w => by
    rw [World.setCells, setCells_other b k hk r (o + 1)]
    rw [setCell_eq]
    show (w.heap.modify b _)[k]? = _
    rw [Array.getElem?_modify, if_neg (fun e => hk e.symm)]
theorem setCells_rest (b : Nat) : ∀ (vs : List Value) (o : Nat) (w : World), (w.setCells b o vs).os = w.os ∧ (w.setCells b o vs).tape = w.tape ∧ (w.setCells b o vs).output = w.output
  | [], _, _ => ⟨rfl, rfl, rfl⟩
  | v :: r, o, w => by
    have := setCells_rest b r (o + 1) (w.setCell ⟨b, o, none⟩ v)
    exact this
theorem SW_fr {w : World} {g : Nat} (m : Nat) (d : Array Rk) (os : Array Obj) : Fr (fun k => k = g) w.heap.size w (SW w g m d os) :=
  ⟨rfl, rfl, rfl, size_sortWorldK_c encR 2 w g 0 m d os, fun k hk hne => by
    show ((w.heap.modify g _) ++ os)[k]? = _
    rw [Array.getElem?_append_left (by simpa using hk), Array.getElem?_modify, if_neg (fun e => hne e.symm)]⟩
/-- What the second loop keeps: kk of the first i are kept, in their places; from kk on nothing has turned. -/
structure CpI (d d' : Array Rk) (i kk : Nat) : Prop where
  size : d'.size = d.size
  old : ∀ j, kk ≤ j → d'[j]! = d[j]!
  len : (kp d i).length = kk
  new : ∀ j, j < kk → d'[j]! = (kp d i)[j]!
theorem cpI_start {d : Array Rk} {k : Nat} (h : ∀ j, 0 < j → j < k → d[j]!.1.1 ≠ d[j - 1]!.1.1) (h0 : 0 < k) (he : d[k]!.1.1 = d[k - 1]!.1.1) : CpI d d (k + 1) k := by
  obtain ⟨h1, h2⟩ := kp_all k h
  have e : kp d (k + 1) = kp d k := kp_no (by rintro (c | c); omega; exact c he)
  exact ⟨rfl, fun j _ => rfl, by rw [e]; exact h1, fun j hj => by rw [e]; exact (h2 j hj).symm⟩
theorem cpI_no {d d' : Array Rk} {i kk : Nat} (h : CpI d d' i kk) (h0 : 0 < i) (he : d[i]!.1.1 = d[i - 1]!.1.1) : CpI d d' (i + 1) kk := by
  have e : kp d (i + 1) = kp d i := kp_no (by rintro (c | c); omega; exact c he)
  exact ⟨h.size, h.old, by rw [e]; exact h.len, fun j hj => by rw [e]; exact h.new j hj⟩
theorem cpI_yes {d d' : Array Rk} {i kk : Nat} (h : CpI d d' i kk) (he : d[i]!.1.1 ≠ d[i - 1]!.1.1) (hk : kk < d.size) : CpI d (d'.setIfInBounds kk d[i]!) (i + 1) (kk + 1) := by
  have e : kp d (i + 1) = kp d i ++ [d[i]!] := kp_yes (.inr he)
  have g : ∀ j, (d'.setIfInBounds kk d[i]!)[j]! = if kk = j then d[i]! else d'[j]! := fun j => by
    have := h.size
    by_cases c : kk = j
    · rw [if_pos c]; subst c
      simp [getElem!_def, Array.getElem?_setIfInBounds, show kk < d'.size by omega]
    · rw [if_neg c]
      simp [getElem!_def, Array.getElem?_setIfInBounds, c]
  refine ⟨by simp [h.size], fun j hj => by rw [g, if_neg (by omega)]; exact h.old j (by omega), by rw [e, List.length_append, h.len]; rfl, fun j hj => ?_⟩
  rw [g, e, List.getElem!_eq_getElem?_getD]
  by_cases c : kk = j
  · rw [if_pos c, List.getElem?_append_right (by rw [h.len]; omega), h.len, c, Nat.sub_self]; rfl
  · rw [if_neg c, List.getElem?_append_left (by rw [h.len]; omega), ← List.getElem!_eq_getElem?_getD]
    exact h.new j (by omega)
end Go.Proofs.YtbdgoffbkenofaaGreat.So
namespace Go.Proofs.YtbdgoffbkenofaaGreat.So
open Go Go.RowKit Go.Shelf Go.Sort Go.Lib Go.Proofs.YtbdgoffbkenofaaGreat.Tk Go.Proofs.YtbdgoffbkenofaaGreat.Tr
set_option linter.unusedVariables false
set_option linter.unusedSimpArgs false
set_option maxRecDepth 100000

def CpEnd (d : Array Rk) (g cap : Nat) (w : World) (e : Ending) (w' : World) : Prop :=
  e = .returned (.slice (some ⟨g, 0, none⟩) (kp d d.size).length cap) ∧ (∀ j, j < (kp d d.size).length → w'.cell? ⟨g, j * 2, none⟩ = some (.string (kp d d.size)[j]!.1.1) ∧ w'.cell? ⟨g, j * 2 + 1, none⟩ = some (.string (kp d d.size)[j]!.1.2)) ∧ Fr (fun k => k = g) w.heap.size w w'
/-- Where nothing falls out. -/
theorem cp_all {d : Array Rk} {g cap n : Nat} {w : World} {os : Array Obj} (hH : HoldsK encR 2 w g 0 d) (hg : g < w.heap.size) (h : ∀ j, 0 < j → j < d.size → d[j]!.1.1 ≠ d[j - 1]!.1.1) : CpEnd d g cap w (.returned (.slice (some ⟨g, 0, none⟩) d.size cap)) (SW w g n d os) := by
  obtain ⟨h1, h2⟩ := kp_all d.size h
  refine ⟨by rw [h1], fun j hj => ?_, SW_fr n d os⟩
  rw [h1] at hj
  have hc := rk_cells (SW_holds hH hg n d os rfl).1 (i := j) hj
  rw [h2 j hj]
  exact ⟨hc.1, hc.2.1⟩
theorem cp_some {d d' : Array Rk} {g cap n kk : Nat} {w : World} {os : Array Obj} {Z : List Value} (hH : HoldsK encR 2 w g 0 d) (hg : g < w.heap.size) (h : CpI d d' d.size kk) (hk : kk ≤ d.size) (hZ : Z.length = (d.size - kk) * 2) : CpEnd d g cap w (.returned (.slice (some ⟨g, 0, none⟩) kk cap)) ((SW w g n d' os).setCells g (kk * 2) Z) := by
  have hh := SW_holds hH hg n d' os h.size
  have hs := holds_setCells_c hh.1 (kk * 2) Z (by rw [size_flatK, h.size]; omega)
  rw [Nat.zero_add] at hs
  have hf := SW_fr (w := w) (g := g) n d' os
  have hr := setCells_rest g Z (kk * 2) (SW w g n d' os)
  refine ⟨by rw [h.len], fun j hj => ?_, ⟨hr.1.trans hf.os, hr.2.1.trans hf.tape, hr.2.2.trans hf.output, by rw [Sort.size_setCells]; exact hf.size, fun k hk1 hk2 => ?_⟩⟩
  · rw [h.len] at hj
    have a1 := (hs (j * 2) (by rw [size_setMany, size_flatK, h.size]; omega)).1
    have a2 := (hs (j * 2 + 1) (by rw [size_setMany, size_flatK, h.size]; omega)).1
    rw [Nat.zero_add, get_setMany _ _ _ _ (by rw [size_flatK, h.size]; omega), if_neg (by omega), get_flatK encR 2 d' _ (by rw [h.size]; omega), show j * 2 / 2 = j by omega, show j * 2 % 2 = 0 by omega, h.new j hj] at a1
    rw [Nat.zero_add, get_setMany _ _ _ _ (by rw [size_flatK, h.size]; omega), if_neg (by omega), get_flatK encR 2 d' _ (by rw [h.size]; omega), show (j * 2 + 1) / 2 = j by omega, show (j * 2 + 1) % 2 = 1 by omega, h.new j hj] at a2
    exact ⟨a1, a2⟩
  · rw [setCells_other g k hk2]; exact hf.block k hk1 hk2
set_option maxHeartbeats 16000000 in
theorem compact_calls (g cap : Nat) (d : Array Rk) (w : World) (hH : HoldsK encR 2 w g 0 d) (hg : g < w.heap.size) (hcap : d.size ≤ cap) (hcm : cap ≤ maxLen) (hsz : d.size ≤ 1000000) :
    Calls Tryz.prog 33 #[.slice (some ⟨g, 0, none⟩) d.size cap, .func (.func 34) #[] #[]] w (CpEnd d g cap w) := by
  have HST : Hid (w = SW w g 0 d #[]) := by show w = _; unfold SW sortWorldK; rw [grow_empty]; exact (putRowK_self encR 2 w g 0 d hH).symm
  have HH := Lib.hid hH
  have mixed := mixedT
  unfold maxLen at hcm
  by_cases h2 : d.size < 2
  · have HF := Lib.hid (cp_all (cap := cap) (n := 0) (os := #[]) hH hg (fun j h1 h3 => by omega))
    rw [← HST.out] at HF
    clear hH
    go_enter Tryz.func33, Tryz.ntmps33
    go_wp2_with fail
    go_ret
    exact HF.out
  clear hH
  have h2' : 2 ≤ d.size := by omega
  go_enter Tryz.func33, Tryz.ntmps33
  go_wp2_with fail
  clear h2
  go_loopw [5] (fun t5 wr => ∃ (q n : Nat) (os : Array Obj), t5 = .int .i64 ((q : Int) + 1) ∧ wr = SW w g n d os ∧ Hid (q + 1 ≤ d.size ∧ ∀ j, 0 < j → j < q + 1 → d[j]!.1.1 ≠ d[j - 1]!.1.1)) (fun t5 _ => d.size - (intOf t5).toNat)
  case atStart => exact ⟨0, 0, #[], rfl, HST.out, Lib.hid ⟨by omega, fun j h1 h2 => by omega⟩⟩
  case round =>
    obtain ⟨q, n, os, rfl, rfl, HQ⟩ := hrel
    have hq1 : q + 1 ≤ d.size := HQ.out.1
    by_cases hlt : q + 1 < d.size
    · have k1 : (q : Int) + 1 < (d.size : Int) := by omega
      have kb2 : (q : Int) < (d.size : Int) := by omega
      have kw : IntKind.i64.wrap (q : Int) = (q : Int) := IntWalk.i64_in _ (by omega)
      have p0 : (0 : Int) ≤ (q : Int) + 1 := by omega
      have e0 : ((q : Int) + 1).toNat = q + 1 := by omega
      have hHd : HoldsK encR 2 (SW w g n d os) g 0 d := holdsK_sortWorldK_c encR 2 w g 0 d _ _ _ HH.out hg rfl
      have hgw : g < (SW w g n d os).heap.size := Nat.lt_of_lt_of_le hg (size_sortWorldK_c encR 2 w g 0 _ _ _)
      obtain ⟨x, hx⟩ : ∃ x, d[q + 1]! = x := ⟨_, rfl⟩
      obtain ⟨y, hy⟩ : ∃ y, d[q]! = y := ⟨_, rfl⟩
      have ra := rk_cells hHd (i := q + 1) (by omega)
      have rb := rk_cells hHd (i := q) (by omega)
      rw [hx] at ra
      rw [hy] at rb
      have x0 := cell_grown (a := ⟨g, (q + 1) * 2, none⟩) hgw ra.1
      have x1 := cell_grown (a := ⟨g, (q + 1) * 2 + 1, none⟩) hgw ra.2.1
      have y0 := cell_grown (a := ⟨g, q * 2, none⟩) hgw rb.1
      have y1 := cell_grown (a := ⟨g, q * 2 + 1, none⟩) hgw rb.2.1
      have HG := Lib.hid (fun (n' : Nat) (os' : Array Obj) => show grow ((SW w g n d os).drewN n') os' = SW w g (n + n') d (os ++ os') from sortWorldK_grown_c encR 2 w g 0 n n' d os os')
      have HCL := Lib.hid (fun W => closure_eqn x.1 y.1 W)
      have HEQ := Lib.hid (show (d[q + 1]!.1.1 = d[q]!.1.1) = (x.1.1 = y.1.1) from by rw [hx, hy])
      have HLT := Lib.hid hlt
      generalize SW w g n d os = wq at *
      by_cases hxy : x.1.1 = y.1.1
      · have HE := Lib.hid (show d[q + 1]!.1.1 = d[q]!.1.1 from by rw [HEQ.out]; exact hxy)
        rw [decide_eq_true hxy] at HCL
        clear hHd hgw hx hy ra rb hxy hlt
        go_wp2_with fail
        go_quiet_grown (first | (go_at_call 34; refine Calls.grown_of (HCL.out _)))
        go_wp2_with fail
        have HST2 := Lib.hid (cpI_start (k := q + 1) HQ.out.2 (by omega) HE.out)
        obtain ⟨L, hL⟩ : ∃ L, L = d.size - (q + 1) := ⟨_, rfl⟩
        obtain ⟨C, hC⟩ : ∃ C, C = cap - (q + 1) := ⟨_, rfl⟩
        rw [← hL, ← hC]
        have HL := Lib.hid (show L + (q + 1) = d.size by have := HLT.out; omega)
        have hLz : L ≤ 1000000 := by omega
        have HLT2 := Lib.hid HLT.out
        clear hL hC kw p0 e0 kb2 k1 hq1 HQ HE x0 x1 y0 y1 HCL
        go_loopw [5, 7] (fun t5 t7 wr => ∃ (kk r n : Nat) (os : Array Obj) (d' : Array Rk), t5 = .int .i64 (kk : Int) ∧ t7 = .int .i64 ((r : Int) + 1) ∧ wr = SW w g n d' os ∧ Hid (q + 1 ≤ kk ∧ kk ≤ q + 1 + r ∧ r + 1 ≤ L ∧ CpI d d' (q + 1 + r + 1) kk)) (fun _ t7 _ => L - (intOf t7).toNat)
        case atStart => exact ⟨q + 1, 0, n + nq, os ++ osq, d, rfl, rfl, HG.out nq osq, Lib.hid ⟨Nat.le_refl _, Nat.le_refl _, by have := HL.out; have := HLT2.out; omega, HST2.out⟩⟩
        case round =>
          clear HG
          obtain ⟨kk, r, n, os, d', rfl, rfl, rfl, HI⟩ := hrel
          have hz : d'.size = d.size := HI.out.2.2.2.size
          have hkk : kk ≤ q + 1 + r := HI.out.2.1
          have hrL : r + 1 ≤ L := HI.out.2.2.1
          have hkd : (kk : Int) < (d.size : Int) := by have := HL.out; omega
          by_cases hr : r + 1 < L
          · have k1 : (r : Int) + 1 < (L : Int) := by omega
            have kb2 : (r : Int) < (L : Int) := by omega
            have kw : IntKind.i64.wrap (r : Int) = (r : Int) := IntWalk.i64_in _ (by omega)
            have p0 : (0 : Int) ≤ (r : Int) + 1 := by omega
            have e0 : ((r : Int) + 1).toNat = r + 1 := by omega
            have hP : q + 1 + (r + 1) < d.size := by have := HL.out; omega
            have hHd : HoldsK encR 2 (SW w g n d' os) g 0 d' := holdsK_sortWorldK_c encR 2 w g 0 d _ _ _ HH.out hg hz
            have hgw : g < (SW w g n d' os).heap.size := Nat.lt_of_lt_of_le hg (size_sortWorldK_c encR 2 w g 0 _ _ _)
            obtain ⟨x, hx⟩ : ∃ x, d[q + 1 + (r + 1)]! = x := ⟨_, rfl⟩
            obtain ⟨y, hy⟩ : ∃ y, d[q + 1 + r]! = y := ⟨_, rfl⟩
            have ra := rk_cells hHd (i := q + 1 + (r + 1)) (by omega)
            have rb := rk_cells hHd (i := q + 1 + r) (by omega)
            rw [HI.out.2.2.2.old _ (by omega), hx, show (q + 1 + (r + 1)) * 2 = (q + 1) * 2 + (r + 1) * 2 by omega] at ra
            rw [HI.out.2.2.2.old _ (by omega), hy, show (q + 1 + r) * 2 = (q + 1) * 2 + r * 2 by omega] at rb
            have x0 := cell_grown (a := ⟨g, (q + 1) * 2 + (r + 1) * 2, none⟩) hgw ra.1
            have x1 := cell_grown (a := ⟨g, (q + 1) * 2 + (r + 1) * 2 + 1, none⟩) hgw ra.2.1
            have y0 := cell_grown (a := ⟨g, (q + 1) * 2 + r * 2, none⟩) hgw rb.1
            have y1 := cell_grown (a := ⟨g, (q + 1) * 2 + r * 2 + 1, none⟩) hgw rb.2.1
            have HG := Lib.hid (fun (n' : Nat) (os' : Array Obj) => show grow ((SW w g n d' os).drewN n') os' = SW w g (n + n') d' (os ++ os') from sortWorldK_grown_c encR 2 w g 0 n n' d' os os')
            have HCL := Lib.hid (fun W => closure_eqn x.1 y.1 W)
            have HHD2 := Lib.hid (fun (n' : Nat) (os' : Array Obj) => rk_cells (holdsK_sortWorldK_c encR 2 w g 0 d d' n' os' HH.out hg hz) (i := kk) (by omega))
            have HX := Lib.hid hx
            have HY := Lib.hid hy
            have HLTR := Lib.hid hr
            generalize SW w g n d' os = wq at *
            by_cases hxy : x.1.1 = y.1.1
            · have HN := Lib.hid (show CpI d d' (q + 1 + r + 1 + 1) kk from cpI_no HI.out.2.2.2 (by omega) (by rw [show q + 1 + r + 1 - 1 = q + 1 + r by omega, show q + 1 + r + 1 = q + 1 + (r + 1) by omega, HX.out, HY.out]; exact hxy))
              rw [decide_eq_true hxy] at HCL
              clear hHd hgw hx hy ra rb hxy hr HHD2
              go_wp2_with fail
              go_quiet_grown (first | (go_at_call 34; refine Calls.grown_of (HCL.out _)))
              go_wp2_with fail
              refine ⟨⟨kk, r + 1, n + nq, os ++ osq, d', rfl, rfl, HG.out nq osq, Lib.hid ⟨HI.out.1, by omega, by have := HLTR.out; omega, by rw [show q + 1 + (r + 1) + 1 = q + 1 + r + 1 + 1 by omega]; exact HN.out⟩⟩, ?_⟩
              simp only [intOf]
              have := HLTR.out
              omega
            · have HN := Lib.hid (show CpI d (d'.setIfInBounds kk x) (q + 1 + r + 1 + 1) (kk + 1) from by
                have e : q + 1 + (r + 1) = q + 1 + r + 1 := by omega
                have := cpI_yes HI.out.2.2.2 (by rw [show q + 1 + r + 1 - 1 = q + 1 + r by omega, ← e, HX.out, HY.out]; exact hxy) (by omega)
                rw [← e, HX.out] at this
                rw [← e]; exact this)
              rw [decide_eq_false hxy] at HCL
              clear hHd hgw hx hy ra rb hxy hr
              go_wp2_with fail
              go_quiet_grown (first | (go_at_call 34; refine Calls.grown_of (HCL.out _)))
              replace x0 := x0 nq osq
              replace x1 := x1 nq osq
              have hg2 := HG.out nq osq
              obtain ⟨z0, z1, f0, f1⟩ := HHD2.out (n + nq) (os ++ osq)
              change (SW w g (n + nq) d' (os ++ osq)).cell? _ = _ at z0
              change (SW w g (n + nq) d' (os ++ osq)).cell? _ = _ at z1
              change (SW w g (n + nq) d' (os ++ osq)).frozen? _ = _ at f0
              change (SW w g (n + nq) d' (os ++ osq)).frozen? _ = _ at f1
              have HSET := Lib.hid (SW_set (w := w) (g := g) (n + nq) d' (os ++ osq) hg kk x (by omega))
              rw [← hg2] at z0 z1 f0 f1 HSET
              clear y0 y1 HG hg2 HHD2
              generalize grow (wq.drewN nq) osq = wq2 at *
              go_wp2_with fail
              refine ⟨⟨kk + 1, r + 1, n + nq, os ++ osq, _, rfl, rfl, HSET.out, Lib.hid ⟨by have := HI.out.1; omega, by omega, by have := HLTR.out; omega, by rw [show q + 1 + (r + 1) + 1 = q + 1 + r + 1 + 1 by omega]; exact HN.out⟩⟩, ?_⟩
              simp only [intOf]
              have := HLTR.out
              omega
          · have k1 : ¬ (r : Int) + 1 < (L : Int) := by omega
            have hend : q + 1 + r + 1 = d.size := by have := HL.out; omega
            have hkz : kk < d.size := by omega
            have hHd : HoldsK encR 2 (SW w g n d' os) g 0 d' := holdsK_sortWorldK_c encR 2 w g 0 d _ _ _ HH.out hg hz
            have hcc : ∀ j, j < (d.size - kk) * 2 → ((SW w g n d' os).cell? ⟨g, kk * 2 + j, none⟩).isSome = true := fun j hj => by
              have := (hHd (kk * 2 + j) (by rw [size_flatK, hz]; omega)).1
              rw [Nat.zero_add] at this
              rw [this]; rfl
            have hff : ∀ j, j < (d.size - kk) * 2 → (SW w g n d' os).frozen? ⟨g, kk * 2 + j, none⟩ = false := fun j hj => by
              have := (hHd (kk * 2 + j) (by rw [size_flatK, hz]; omega)).2
              rw [Nat.zero_add] at this
              exact this
            obtain ⟨Z, hZ, hcl⟩ := run_clear_at (SW w g n d' os) g (kk * 2) (d.size - kk) (by omega) hcc hff
            have HF := Lib.hid (cp_some (cap := cap) (n := n) (os := os) (Z := Z) HH.out hg (hend ▸ HI.out.2.2.2) (by omega) hZ)
            have hk0 : kk ≤ cap := by omega
            have hk1 : (kk : Int) ≤ (cap : Int) := by omega
            have hk2 : (kk : Int) ≤ (d.size : Int) := by omega
            clear hcc hff hHd hZ hend
            generalize SW w g n d' os = wq at *
            go_wp2_with fail
            trace_state
            go_ret
            exact HF.out
      · have HE := Lib.hid (show d[q + 1]!.1.1 ≠ d[q]!.1.1 from by rw [ne_eq, HEQ.out]; exact hxy)
        rw [decide_eq_false hxy] at HCL
        have HQ2 := Lib.hid (show q + 1 + 1 ≤ d.size ∧ ∀ j, 0 < j → j < q + 1 + 1 → d[j]!.1.1 ≠ d[j - 1]!.1.1 from ⟨by omega, fun j h1 h3 => by
          by_cases c : j = q + 1
          · subst c; exact HE.out
          · exact HQ.out.2 j h1 (by omega)⟩)
        clear hHd hgw hx hy ra rb hxy hlt
        go_wp2_with fail
        go_quiet_grown (first | (go_at_call 34; refine Calls.grown_of (HCL.out _)))
        go_wp2_with fail
        refine ⟨⟨q + 1, n + nq, os ++ osq, rfl, HG.out nq osq, HQ2⟩, ?_⟩
        simp only [intOf]
        have := HLT.out
        omega
    · have k1 : ¬ (q : Int) + 1 < (d.size : Int) := by omega
      have HF := Lib.hid (cp_all (cap := cap) (n := n) (os := os) HH.out hg (fun j h1 h3 => HQ.out.2 j h1 (by omega)))
      go_wp2_with fail
      go_ret
      exact HF.out
end Go.Proofs.YtbdgoffbkenofaaGreat.So
namespace Go.Proofs.YtbdgoffbkenofaaGreat.So
open Go Go.RowKit Go.Shelf Go.Sort Go.Lib Go.Proofs.YtbdgoffbkenofaaGreat.Tk Go.Proofs.YtbdgoffbkenofaaGreat.Tr
set_option linter.unusedVariables false
set_option linter.unusedSimpArgs false
set_option maxRecDepth 100000

def rkA (al : List At) : Array Rk := al.zipIdx.toArray
theorem rkA_size (al : List At) : (rkA al).size = al.length := by simp [rkA]
theorem rkA_get (al : List At) {i : Nat} (h : i < al.length) : (rkA al)[i]! = (al[i], i) := by
  rw [getElem!_pos (rkA al) i (by rw [rkA_size]; exact h)]
  simp [rkA]
theorem rkA_rkd (al : List At) : Rkd 0 (rkA al).size (rkA al) := fun i j _ h2 h3 => by
  rw [rkA_size] at h3
  rw [rkA_get al (by omega), rkA_get al h3]; exact h2
theorem flat_rk (al : List At) : flatK encR 2 (rkA al) = flatK encAt 2 al.toArray := by
  refine ext_get! (by simp [rkA_size]) fun t ht => ?_
  have ht' : t < al.length * 2 := by simpa [rkA_size] using ht
  rw [get_flatK encR 2 _ _ (by rw [rkA_size]; exact ht'), get_flatK encAt 2 _ _ (by simpa using ht'), rkA_get al (by omega)]
  have e : al.toArray[t / 2]! = al[t / 2]'(by omega) := by rw [getElem!_pos al.toArray (t / 2) (by simp; omega)]; simp
  rw [e]; rfl
/-- What attributes in order are: strictly by names; each one the first of its name; the first of each name. -/
structure SortedOf (al r : List At) : Prop where
  strict : Sc.StrictA r
  fst : ∀ x ∈ r, ∃ i : Nat, al[i]? = some x ∧ ∀ (j : Nat) (y : At), j < i → al[j]? = some y → y.1 ≠ x.1
  all : ∀ (i : Nat) (x : At), al[i]? = some x → (∀ (j : Nat) (y : At), j < i → al[j]? = some y → y.1 ≠ x.1) → x ∈ r
  len : r.length ≤ al.length
theorem lt_of_ne {x y : Rk} (h : Prec x y) (hn : y.1.1 ≠ x.1.1) : ltR x y = true := by
  rcases h with h | ⟨h, _⟩
  · exact h
  · rw [ltR_at, decide_eq_false_iff_not] at h
    rw [ltR_at, decide_eq_true_eq]
    rcases Classical.em (x.1.1.data.toList < y.1.1.data.toList) with c | c
    · exact c
    · exact absurd (Sr.bytes_eq.1 (List.le_antisymm (List.not_lt.1 c) (List.not_lt.1 h))) hn
theorem rank_of_eq {x y : Rk} (h : Prec x y) (he : x.1.1 = y.1.1) : x.2 < y.2 := by
  rcases h with h | ⟨_, h⟩
  · rw [ltR_at, decide_eq_true_eq, he] at h; exact absurd h (List.lt_irrefl _)
  · exact h
/-- What is kept. -/
def Kept (e : Array Rk) (j : Nat) : Prop := j = 0 ∨ e[j]!.1.1 ≠ e[j - 1]!.1.1
theorem kp_mem {e : Array Rk} : ∀ n x, x ∈ kp e n ↔ ∃ j, j < n ∧ Kept e j ∧ e[j]! = x
  | 0, x => by simp [kp]
  | n + 1, x => by
    have ih := kp_mem (e := e) n x
    by_cases h : Kept e n
    · rw [kp_yes h, List.mem_append, ih, List.mem_singleton]
      constructor
      · rintro (⟨j, h1, h2, h3⟩ | rfl)
        · exact ⟨j, by omega, h2, h3⟩
        · exact ⟨n, by omega, h, rfl⟩
      · rintro ⟨j, h1, h2, h3⟩
        by_cases c : j = n
        · subst c; exact .inr h3.symm
        · exact .inl ⟨j, by omega, h2, h3⟩
    · rw [kp_no h, ih]
      constructor
      · rintro ⟨j, h1, h2, h3⟩; exact ⟨j, by omega, h2, h3⟩
      · rintro ⟨j, h1, h2, h3⟩
        by_cases c : j = n
        · subst c; exact absurd h2 h
        · exact ⟨j, by omega, h2, h3⟩
theorem kp_strict {e : Array Rk} {N : Nat} (hs : Srt 0 N e) : ∀ n, n ≤ N → (kp e n).Pairwise fun x y => ltR x y = true
  | 0, _ => List.Pairwise.nil
  | n + 1, h => by
    have ih := kp_strict hs n (by omega)
    by_cases c : Kept e n
    · rw [kp_yes c, List.pairwise_append]
      refine ⟨ih, List.pairwise_singleton _ _, fun x hx y hy => ?_⟩
      rw [List.mem_singleton] at hy
      subst hy
      obtain ⟨j, hj, _, rfl⟩ := (kp_mem n x).1 hx
      rcases c with c | c
      · omega
      · have h1 : ltR e[n - 1]! e[n]! = true := lt_of_ne (hs (n - 1) n (by omega) (by omega) (by omega)) c
        rcases Nat.lt_or_ge j (n - 1) with d | d
        · have h2 := hs j (n - 1) (by omega) d (by omega)
          have h3 := h2.trans (.inl h1)
          rcases h3 with h3 | ⟨h3, _⟩
          · exact h3
          · cases h4 : ltR e[j]! e[n]! with
            | true => rfl
            | false =>
              rcases h2 with h2 | ⟨h2, _⟩
              · rw [swoR.trans _ _ _ h2 h1] at h4; cases h4
              · rw [swoR.ntrans _ _ _ h2 h4] at h1; cases h1
        · have : j = n - 1 := by omega
          rw [this]; exact h1
    · rw [kp_no c]; exact ih
theorem sorted_of {al : List At} {e : Array Rk} (h : Merged 0 (rkA al).size (rkA al) e) : SortedOf al ((kp e e.size).map Prod.fst) := by
  have hz : e.size = al.length := h.perm.1.trans (rkA_size al)
  have hs : Srt 0 e.size e := by have := h.srt; rwa [rkA_size, ← hz] at this
  have hp : e.toList.Perm al.zipIdx := by
    have := h.perm.2.2
    rw [show e.extract 0 (rkA al).size = e by rw [← h.perm.1]; simp] at this
    have e2 : ((rkA al).extract 0 (rkA al).size) = rkA al := by simp
    rw [e2] at this
    exact this
  have of_e : ∀ j, j < e.size → ∃ i, i < al.length ∧ al[i]? = some e[j]!.1 ∧ e[j]!.2 = i := fun j hj => by
    have hm : e[j]! ∈ al.zipIdx := hp.mem_iff.1 (by rw [getElem!_pos e j hj]; exact Array.getElem_mem_toList hj)
    obtain ⟨i, hi, ei⟩ := List.getElem_of_mem hm
    have hi' : i < al.length := by simpa using hi
    refine ⟨i, hi', ?_, ?_⟩
    · rw [← ei]; simp
    · rw [← ei]; simp
  have to_e : ∀ i x, al[i]? = some x → ∃ j, j < e.size ∧ e[j]! = (x, i) := fun i x hx => by
    obtain ⟨hi, rfl⟩ := List.getElem?_eq_some_iff.1 hx
    have hm : (al[i], i) ∈ e.toList := hp.mem_iff.2 (by
      have : al.zipIdx[i]'(by simpa using hi) = (al[i], i) := by simp
      rw [← this]; exact List.getElem_mem _)
    obtain ⟨j, hj, ej⟩ := List.getElem_of_mem hm
    have hj' : j < e.size := by simpa using hj
    exact ⟨j, hj', by rw [getElem!_pos e j hj', ← ej]; simp⟩
  refine ⟨?_, fun x hx => ?_, fun i x hx hf => ?_, ?_⟩
  · have := kp_strict hs e.size (Nat.le_refl _)
    unfold Sc.StrictA
    rw [List.pairwise_map]
    refine this.imp fun {x y} hxy => ?_
    rw [ltR_at] at hxy
    rw [Go.Proofs.bytesLess_eq]; exact hxy
  · obtain ⟨p, hp1, rfl⟩ := List.mem_map.1 hx
    obtain ⟨j, hj, hk, rfl⟩ := (kp_mem _ _).1 hp1
    obtain ⟨i, hi, hai, hri⟩ := of_e j hj
    refine ⟨i, hai, fun j2 y hj2 hy hne => ?_⟩
    obtain ⟨q, hq, eq⟩ := to_e j2 y hy
    have hqn : e[q]!.1.1 = e[j]!.1.1 := by rw [eq]; exact hne
    have hqr : e[q]!.2 < e[j]!.2 := by rw [eq, hri]; exact hj2
    have hqj : q < j := by
      rcases Nat.lt_trichotomy q j with c | c | c
      · exact c
      · subst c; omega
      · have := rank_of_eq (hs j q (Nat.zero_le _) c hq) hqn.symm
        omega
    rcases hk with hk | hk
    · omega
    · refine hk ?_
      have h1 : PrecE e[q]! e[j - 1]! := hs.le (Nat.zero_le _) (by omega) (by omega)
      have h2 := hs (j - 1) j (Nat.zero_le _) (by omega) hj
      refine Classical.byContradiction fun hne2 => ?_
      have h3 := lt_of_ne h2 hne2
      have h4 : ltR e[q]! e[j]! = true := by
        rcases h1 with h1 | h1
        · rw [h1]; exact h3
        · cases h5 : ltR e[q]! e[j]! with
          | true => rfl
          | false =>
            rcases h1 with h1 | ⟨h1, _⟩
            · rw [swoR.trans _ _ _ h1 h3] at h5; cases h5
            · rw [swoR.ntrans _ _ _ h1 h5] at h3; cases h3
      rw [ltR_at, hqn, decide_eq_true_eq] at h4
      exact List.lt_irrefl _ h4
  · obtain ⟨j, hj, ej⟩ := to_e i x hx
    refine List.mem_map.2 ⟨e[j]!, (kp_mem _ _).2 ⟨j, hj, ?_, rfl⟩, by rw [ej]⟩
    by_cases c : j = 0
    · exact .inl c
    · refine .inr fun hn => ?_
      obtain ⟨i2, hi2, hai2, hri2⟩ := of_e (j - 1) (by omega)
      have hr := rank_of_eq (hs (j - 1) j (Nat.zero_le _) (by omega) hj) hn.symm
      rw [hri2, ej] at hr
      refine hf i2 _ hr hai2 ?_
      rw [← hn, ej]
  · rw [List.length_map, ← hz]; exact kp_len e e.size
end Go.Proofs.YtbdgoffbkenofaaGreat.So
namespace Go.Proofs.YtbdgoffbkenofaaGreat.So
open Go Go.RowKit Go.Shelf Go.Sort Go.Lib Go.Proofs.YtbdgoffbkenofaaGreat.Tk Go.Proofs.YtbdgoffbkenofaaGreat.Tr
set_option linter.unusedVariables false
set_option linter.unusedSimpArgs false
set_option maxRecDepth 100000

set_option maxHeartbeats 4000000 in
theorem ssf_calls (g cap : Nat) (d : Array Rk) (w : World) (hH : HoldsK encR 2 w g 0 d) (hg : g < w.heap.size) (hn : d.size ≤ 50) (hr : Rkd 0 d.size d) :
    Calls Tryz.prog 30 #[.slice (some ⟨g, 0, none⟩) d.size cap, .func (.func 31) #[] #[]] w fun e w' => e = .returned (.tuple #[]) ∧ ∃ n os e', w' = SW w g n e' os ∧ Merged 0 d.size d e' := by
  have HC := Lib.hid (stable_calls g cap d w hH hg hn hr)
  clear hH hr
  go_enter Tryz.func30, Tryz.ntmps30
  go_wp2_with fail
  refine HC.out.mono ?_
  rintro e w' ⟨rfl, n, os, e', rfl, hm⟩
  have HM := Lib.hid hm
  clear hm HC
  go_wp2_with fail
  go_end0
  exact ⟨rfl, n, os, e', rfl, HM.out⟩
set_option maxHeartbeats 4000000 in
theorem ins_none (F : Value) (w : World) : Calls Tryz.prog 81 #[.slice none 0 0, .int .i64 0, .int .i64 0, F] w fun e w' => e = .returned (.tuple #[]) ∧ w' = w := by
  go_enter Tryz.func81, Tryz.ntmps81
  go_wp2_with fail
  go_loopw [8] (fun t8 wr => t8 = .int .i64 1 ∧ wr = w) (fun t8 _ => 0)
  case atStart => exact ⟨rfl, rfl⟩
  case round =>
    obtain ⟨rfl, rfl⟩ := hrel
    go_wp2_with fail
    go_end0
    exact ⟨rfl, rfl⟩
set_option maxHeartbeats 4000000 in
theorem stable_none (F : Value) (w : World) : Calls Tryz.prog 54 #[.slice none 0 0, .int .i64 0, F] w fun e w' => e = .returned (.tuple #[]) ∧ w' = w := by
  go_enter Tryz.func54, Tryz.ntmps54
  go_wp2_with fail
  go_loopw [7, 8] (fun t7 t8 wr => t7 = .int .i64 0 ∧ t8 = .int .i64 20 ∧ wr = w) (fun _ _ _ => 0)
  case atStart => exact ⟨rfl, rfl, rfl⟩
  case round =>
    obtain ⟨rfl, rfl, rfl⟩ := hrel
    go_wp2_with fail
    refine (ins_none _ _).mono ?_
    rintro e w' ⟨rfl, hw⟩
    obtain rfl := hw
    go_wp2_with fail
    go_loopw [6] (fun t6 wr => t6 = .int .i64 20 ∧ wr = w') (fun _ _ => 0)
    case atStart => exact ⟨rfl, rfl⟩
    case round =>
      obtain ⟨rfl, rfl⟩ := hrel
      go_wp2_with fail
      go_end0
      exact ⟨rfl, rfl⟩
set_option maxHeartbeats 4000000 in
theorem ssf_none (F : Value) (w : World) : Calls Tryz.prog 30 #[.slice none 0 0, F] w fun e w' => e = .returned (.tuple #[]) ∧ w' = w := by
  go_enter Tryz.func30, Tryz.ntmps30
  go_wp2_with fail
  refine (stable_none _ _).mono ?_
  rintro e w' ⟨rfl, hw⟩
  obtain rfl := hw
  go_wp2_with fail
  go_end0
  exact ⟨rfl, rfl⟩
set_option maxHeartbeats 4000000 in
theorem compact_none (F : Value) (w : World) : Calls Tryz.prog 33 #[.slice none 0 0, F] w fun e w' => e = .returned (.slice none 0 0) ∧ w' = w := by
  go_enter Tryz.func33, Tryz.ntmps33
  go_wp2_with fail
  go_ret
  exact ⟨rfl, rfl⟩
def SortEnd (al : List At) (w : World) (e : Ending) (w' : World) : Prop :=
  ∃ r A ac, e = .returned (.slice A r.length ac) ∧ IsAttrs w' w'.heap.size r A ac ∧ Below w.heap.size w w' ∧ SortedOf al r
theorem sorted_nil : SortedOf [] [] := ⟨List.Pairwise.nil, fun x h => absurd h List.not_mem_nil, fun i x h => by simp at h, Nat.le_refl _⟩
theorem sort_end {al : List At} {w w1 w3 : World} {g cap n : Nat} {e : Array Rk} {os : Array Obj} {ee : Ending} (hb : Below w.heap.size w w1) (hgw : w.heap.size ≤ g) (hg1 : g < w1.heap.size) (hcap : al.length ≤ cap) (hcm : cap ≤ maxLen) (h3 : ∀ a ∈ al, a.1.size ≤ maxLen ∧ a.2.size ≤ maxLen) (hm : Merged 0 (rkA al).size (rkA al) e) (hc : CpEnd e g cap (SW w1 g n e os) ee w3) : SortEnd al w ee w3 := by
  obtain ⟨h1, h2, h4⟩ := hc
  have hs := sorted_of hm
  have hz : e.size = al.length := hm.perm.1.trans (rkA_size al)
  have hlen : ((kp e e.size).map Prod.fst).length = (kp e e.size).length := List.length_map ..
  have hf := SW_fr (w := w1) (g := g) n e os
  refine ⟨(kp e e.size).map Prod.fst, some ⟨g, 0, none⟩, cap, by rw [h1, hlen], ⟨Nat.le_trans hs.len hcap, hcm, fun a ha => ?_, fun _ => ⟨g, 0, rfl, Nat.lt_of_lt_of_le hg1 (Nat.le_trans hf.size h4.size), fun i x hx => ?_⟩⟩, ⟨h4.os.trans (hf.os.trans hb.os), h4.tape.trans (hf.tape.trans hb.tape), h4.output.trans (hf.output.trans hb.output), Nat.le_trans hb.size (Nat.le_trans hf.size h4.size), fun k hk => ?_⟩, hs⟩
  · obtain ⟨i, hi, _⟩ := hs.fst a ha
    exact h3 a (List.mem_of_getElem? hi)
  · rw [List.getElem?_map] at hx
    obtain ⟨p, hp, rfl⟩ := Option.map_eq_some_iff.1 hx
    obtain ⟨hi, rfl⟩ := List.getElem?_eq_some_iff.1 hp
    have := h2 i hi
    rw [getElem!_pos (kp e e.size) i hi] at this
    rw [Nat.zero_add]
    exact this
  · have hkg : ¬ k = g := by omega
    have k1 : k < w1.heap.size := by omega
    exact (h4.block k (Nat.lt_of_lt_of_le k1 hf.size) hkg).trans ((hf.block k k1 hkg).trans (hb.block k hk))
set_option maxHeartbeats 8000000 in
theorem sort_calls (al : List At) (A : Option Addr) (ac B : Nat) (w : World) (h : IsAttrs w B al A ac) (hB : B ≤ w.heap.size) (hl : al.length ≤ 50) :
    Calls Tryz.prog 20 #[.slice A al.length ac] w (SortEnd al w) := by
  have H3 := Lib.hid h.2.2.1
  have HC := Lib.hid (clone_calls al A ac B w h hB (by omega))
  clear h
  go_enter Tryz.func20, Tryz.ntmps20
  go_wp2_with fail
  refine HC.out.mono ?_
  rintro e w1 ⟨v, rfl, hrow, hb⟩
  have HB := Lib.hid hb
  rcases hrow.2 with ⟨hv, hnil⟩ | ⟨g, cap, cur, hv, hgb, hblk, hc1, hc2, hc3, hx⟩
  · have h0 : al = [] := List.eq_nil_of_length_eq_zero hnil
    subst h0; subst hv
    clear hrow hb hnil HC
    go_wp2_with fail
    refine (ssf_none _ _).mono ?_
    rintro e w2 ⟨rfl, hw2⟩
    obtain rfl := hw2
    go_wp2_with fail
    refine (compact_none _ _).mono ?_
    rintro e w3 ⟨rfl, hw3⟩
    obtain rfl := hw3
    go_wp2_with fail
    go_ret
    exact ⟨[], none, 0, rfl, isAttrs_nil _ _, HB.out, sorted_nil⟩
  · subst hv
    have hg1 := lt_of_block hblk
    have hH := holds_at (acc := al) hrow.1 hblk hx
    have hHR : HoldsK encR 2 w1 g 0 (rkA al) := by
      unfold HoldsK at hH ⊢
      rw [flat_rk]; exact hH
    have HS := Lib.hid (ssf_calls g cap (rkA al) w1 hHR hg1 (by rw [rkA_size]; exact hl) (rkA_rkd al))
    rw [rkA_size] at HS
    have HCC := Lib.hid (fun n e os (hm : Merged 0 (rkA al).size (rkA al) e) => show Calls Tryz.prog 33 #[.slice (some ⟨g, 0, none⟩) al.length cap, .func (.func 34) #[] #[]] (SW w1 g n e os) (CpEnd e g cap (SW w1 g n e os)) from by
      have hz : e.size = al.length := hm.perm.1.trans (rkA_size al)
      obtain ⟨q1, q2⟩ := SW_holds hHR hg1 n e os hm.perm.1
      rw [← hz]
      exact compact_calls g cap e _ q1 q2 (by omega) hc2 (by omega))
    have HCAP := Lib.hid hc1
    have HCM := Lib.hid hc2
    have HGB := Lib.hid hgb
    clear hrow hb hH hHR hx hc3 hblk HC hc1 hc2
    go_wp2_with fail
    refine HS.out.mono ?_
    rintro e w2 ⟨rfl, n, os, e, rfl, hm⟩
    have HM := Lib.hid (show Merged 0 (rkA al).size (rkA al) e from by rw [rkA_size]; exact hm)
    have HC2 := Lib.hid (HCC.out n e os HM.out)
    have HFIN := Lib.hid (fun ee w3 hc => sort_end (ee := ee) (w3 := w3) HB.out HGB.out hg1 HCAP.out HCM.out H3.out HM.out (n := n) (os := os) hc)
    clear hm HS HCC
    generalize SW w1 g n e os = wq at *
    go_wp2_with fail
    refine HC2.out.mono ?_
    rintro ee w3 hc
    have HE := Lib.hid (HFIN.out ee w3 hc)
    have hee := hc.1
    subst hee
    clear hc
    go_wp2_with fail
    go_ret
    exact HE.out
end Go.Proofs.YtbdgoffbkenofaaGreat.So
namespace Go.Proofs.YtbdgoffbkenofaaGreat.Wk
open Go Go.RowKit Go.Proofs.YtbdgoffbkenofaaGreat.Tk Go.Proofs.YtbdgoffbkenofaaGreat.Tr Go.Proofs.YtbdgoffbkenofaaGreat.Sc Go.Proofs.YtbdgoffbkenofaaGreat.So
set_option linter.unusedVariables false
set_option linter.unusedSimpArgs false
set_option maxRecDepth 100000

theorem tl_data' (b : ByteArray) : b.toList = b.data.toList := by
  obtain ⟨⟨l⟩⟩ := b
  simp
theorem less_facts' {x y : ByteArray} (h : Op.bytesLess y.data.toList x.data.toList = true) : Op.bytesLess x.toList y.toList = false ∧ (x.toList == y.toList) = false := by
  rw [Go.Proofs.bytesLess_eq, decide_eq_true_eq] at h
  rw [Go.Proofs.bytesLess_eq, tl_data' x, tl_data' y, decide_eq_false_iff_not, beq_eq_false_iff_ne]
  exact ⟨List.not_lt.2 (List.le_of_lt h), fun e => by rw [e] at h; exact List.lt_irrefl _ h⟩
/-- The first one of a name. -/
theorem first_of {al : List At} {i : Nat} {x : At} (hx : al[i]? = some x) : ∃ f y, f ≤ i ∧ al[f]? = some y ∧ y.1 = x.1 ∧ ∀ (j : Nat) (z : At), j < f → al[j]? = some z → z.1 ≠ x.1 := by
  induction i using Nat.strongRecOn generalizing x with
  | ind i ih =>
    by_cases c : ∃ j z, j < i ∧ al[j]? = some z ∧ z.1 = x.1
    · obtain ⟨j, z, h1, h2, h3⟩ := c
      obtain ⟨f, y, g1, g2, g3, g4⟩ := ih j h1 h2
      exact ⟨f, y, by omega, g2, g3.trans h3, fun k u hk hu => h3 ▸ g4 k u hk hu⟩
    · exact ⟨i, x, Nat.le_refl _, hx, rfl, fun j z h1 h2 h3 => c ⟨j, z, h1, h2, h3⟩⟩
set_option maxHeartbeats 8000000 in
theorem scanSorts (al : List At) (A : Option Addr) (ac : Nat) (w : World) (h : IsAttrs w w.heap.size al A ac) :
    Calls Tryz.prog 8 #[.slice A al.length ac] w fun e w' => e = .returned (.bool true) ∧ Below w.heap.size w w' := by
  by_cases hl : 40 < al.length
  · have hz : (40 : Int) < (al.length : Int) := by omega
    clear h
    go_enter Tryz.func8, Tryz.ntmps8
    go_wp2_with fail
    refine (Sc.awake_calls _).mono ?_
    rintro e w1 ⟨rfl, hb⟩
    go_wp2_with fail
    go_ret
    exact ⟨rfl, hb⟩
  have hz : ¬ (40 : Int) < (al.length : Int) := by omega
  have HAL : Hid (al.length ≤ 40) := Lib.hid (by omega)
  have HC := Lib.hid (attrs_calls al A ac _ w h (Nat.le_refl _) (by omega))
  have HIA := Lib.hid h
  clear h hl
  go_enter Tryz.func8, Tryz.ntmps8
  go_wp2_with fail
  refine HC.out.mono ?_
  rintro e w1 ⟨v, rfl, ⟨A1, ac1, rfl, ha1, _⟩, hb1⟩
  have HS := Lib.hid (So.sort_calls al A1 ac1 _ w1 ha1 (Nat.le_refl _) (by have := HAL.out; omega))
  have HB1 := Lib.hid hb1
  clear ha1 hb1 HC
  go_wp2_with fail
  refine HS.out.mono ?_
  rintro e w2 ⟨r, R, rc, rfl, hr, hb2, hso⟩
  have HR := Lib.hid hr
  have HB := Lib.hid (HB1.out.trans (hb2.mono HB1.out.size))
  have HA := Lib.hid (isAttrs_below HIA.out HB.out)
  have HSO := Lib.hid hso
  clear hr hb2 hso HS HB1
  go_wp2_with fail
  clear hz
  go_loopw [4] (fun t4 wr => ∃ j : Nat, t4 = .int .i64 (j : Int) ∧ Hid (j ≤ r.length) ∧ Hid (Below w2.heap.size w2 wr) ∧ Hid (IsAttrs wr wr.heap.size r R rc)) (fun t4 _ => r.length - (intOf t4).toNat)
  case atStart => exact ⟨0, rfl, Lib.hid (Nat.zero_le _), Lib.hid (Below.refl _ _), HR⟩
  case round =>
    obtain ⟨j, rfl, HJ, HW, HR4⟩ := hrel
    rcases Nat.lt_or_ge j r.length with hlt | hge
    · have hqz : (j : Int) < (r.length : Int) := by omega
      have HLT := Lib.hid hlt
      rcases Nat.eq_zero_or_pos j with h0 | h0
      · subst h0
        rw [show ((0 : Nat) : Int) = 0 from rfl]
        have hqz0 : (0 : Int) < (r.length : Int) := by omega
        clear hlt hqz
        go_wp2_with fail
        refine wp_region_quiet_below mixedT (by kernel_rfl) ?_
        repeat (go_big_quiet_step (fail))
        refine wpQuiet_nil ?_
        rintro w5 ⟨gg, hgg⟩
        have hb5 : Below wr.heap.size wr w5 := hgg ▸ below_regrown wr gg.d gg.os
        have HW5 := Lib.hid (HW.out.trans (hb5.mono HW.out.size))
        have HR5 := Lib.hid (isAttrs_below HR4.out hb5)
        clear hgg gg hb5 
        go_wp2_with fail
        go_roundw
        case rel => exact ⟨1, rfl, Lib.hid HLT.out, HW5, HR5⟩
        case measure => simp [intOf]; have := HLT.out; omega
      · obtain ⟨q, rfl⟩ : ∃ q, j = q + 1 := ⟨j - 1, by omega⟩
        rw [show ((q + 1 : Nat) : Int) = (q : Int) + 1 from rfl]
        have hx : r[q + 1]? = some (r[q + 1]'hlt) := List.getElem?_eq_getElem _
        have hy : r[q]? = some (r[q]'(by omega)) := List.getElem?_eq_getElem _
        have hxy := List.pairwise_iff_getElem.1 HSO.out.strict q (q + 1) (by omega) hlt (by omega)
        obtain ⟨ga, oa, rfl, hga, x0, _⟩ := isAttrs_at HR4.out hx
        obtain ⟨gb, ob, eb, _, y0, _⟩ := isAttrs_at HR4.out hy
        injection eb with eb
        injection eb with eb1 eb2
        subst eb1; subst eb2
        generalize r[q + 1]'hlt = x at *
        generalize r[q]'(by omega) = y at *
        have g0 : decide ((q : Int) + 1 > 0) = true := decide_eq_true (by omega)
        have hlen := HSO.out.len
        have hal := HAL.out
        have hql : (q : Int) + 1 < (r.length : Int) := by omega
        have hql2 : (q : Int) < (r.length : Int) := by omega
        have hwi : IntKind.i64.wrap ((q : Int) + 1 + 1) = (q : Int) + 1 + 1 := IntWalk.i64_in _ (by omega)
        have hwj : IntKind.i64.wrap ((q : Int) + 1 - 1) = (q : Int) := by rw [show (q : Int) + 1 - 1 = (q : Int) by omega]; exact IntWalk.i64_in _ (by omega)
        have hqb : (q : Int) ≤ 9223372036854775800 := by omega
        have r0 := cell_regrown x0
        have r1 := cell_regrown y0
        obtain ⟨g1, g2⟩ := less_facts' hxy
        clear hx hy hlt hga hxy h0 hqz hlen hal
        go_wp2_with fail
        refine wp_region_quiet_below mixedT (by kernel_rfl) ?_
        repeat (go_big_quiet_step (fail))
        refine wpQuiet_nil ?_
        rintro w5 ⟨gg, hgg⟩
        have hb5 : Below wr.heap.size wr w5 := hgg ▸ below_regrown wr gg.d gg.os
        have HW5 := Lib.hid (HW.out.trans (hb5.mono HW.out.size))
        have HR5 := Lib.hid (isAttrs_below HR4.out hb5)
        clear hgg gg hb5 r0 r1 x0 y0
        go_wp2_with fail
        go_roundw
        case rel => exact ⟨q + 2, rfl, Lib.hid HLT.out, HW5, HR5⟩
        case measure => simp [intOf]; have := HLT.out; omega
    · have hqz : ¬ (j : Int) < (r.length : Int) := by omega
      have HWo := HW
      obtain ⟨wo, hwo⟩ : ∃ wo, wo = wr := ⟨_, rfl⟩
      subst hwo
      clear hge
      go_wp2_with fail
      clear hqz
      go_loopw [5] (fun t5 wr => ∃ i : Nat, t5 = .int .i64 (i : Int) ∧ Hid (i ≤ al.length) ∧ Hid (Below w2.heap.size w2 wr) ∧ Hid (IsAttrs wr wr.heap.size r R rc) ∧ Hid (IsAttrs wr wr.heap.size al A ac)) (fun t5 _ => al.length - (intOf t5).toNat)
      case atStart => exact ⟨0, rfl, Lib.hid (Nat.zero_le _), HW, HR4, Lib.hid (isAttrs_below HA.out HW.out)⟩
      case round =>
        obtain ⟨i, rfl, HI, HW, HR4, HA4⟩ := hrel
        rcases Nat.lt_or_ge i al.length with hlt | hge
        · have hiz : (i : Int) < (al.length : Int) := by omega
          have HLT := Lib.hid hlt
          obtain ⟨w3, hw3⟩ : ∃ w3, w3 = wr := ⟨_, rfl⟩
          subst hw3
          have hx : al[i]? = some (al[i]'hlt) := List.getElem?_eq_getElem _
          generalize al[i]'hlt = x at *
          obtain ⟨f, y, hf1, hf2, hf3, hf4⟩ := first_of hx
          clear hlt
          go_wp2_with fail
          go_loopw [6] (fun t6 wr => ∃ k : Nat, t6 = .int .i64 (k : Int) ∧ Hid (k ≤ f) ∧ Hid (Below w2.heap.size w2 wr) ∧ Hid (IsAttrs wr wr.heap.size r R rc) ∧ Hid (IsAttrs wr wr.heap.size al A ac)) (fun t6 _ => f - (intOf t6).toNat)
          case atStart => exact ⟨0, rfl, Lib.hid (Nat.zero_le _), HW, HR4, HA4⟩
          case round =>
            obtain ⟨k, rfl, HK, HW, HR5, HA5⟩ := hrel
            have hki : k < al.length := by have := HK.out; have := HLT.out; omega
            have hz : al[k]? = some (al[k]'hki) := List.getElem?_eq_getElem _
            generalize al[k]'hki = z at *
            obtain ⟨ga, oa, rfl, hga, x0, _⟩ := isAttrs_at HA5.out hz
            obtain ⟨gb, ob, eb, _, y0, _⟩ := isAttrs_at HA5.out hx
            injection eb with eb
            injection eb with eb1 eb2
            subst eb1; subst eb2
            have hal := HAL.out
            have hkl : (k : Int) < (al.length : Int) := by omega
            have hwk : IntKind.i64.wrap (k : Int) = (k : Int) := IntWalk.i64_in _ (by omega)
            have hwi : IntKind.i64.wrap (i : Int) = (i : Int) := IntWalk.i64_in _ (by omega)
            have hwn : IntKind.i64.wrap ((k : Int) + 1) = (k : Int) + 1 := IntWalk.i64_in _ (by omega)
            have r0 := cell_regrown x0
            have r1 := cell_regrown y0
            have HX := Lib.hid hx
            have HZ := Lib.hid hz
            have HF2 := Lib.hid hf2
            have HF3 := Lib.hid hf3
            have HF4 := Lib.hid hf4
            have HF1 := Lib.hid hf1
            by_cases hkf : k < f
            · have hne := hf4 k z hkf hz
              have q1 : (z.1.toList == x.1.toList) = false := by rw [beq_eq_false_iff_ne, tl_data', tl_data']; exact fun e => hne (Sr.bytes_eq.1 e)
              have q2 : (z.1.toList != x.1.toList) = true := by rw [bne, q1]; rfl
              have HKF := Lib.hid hkf
              clear hx hz hf2 hf3 hf4 hf1 hga hki hal hkf hne
              go_wp2_with fail
              refine wp_region_quiet_below mixedT (by kernel_rfl) ?_
              repeat (go_big_quiet_step (fail))
              refine wpQuiet_nil ?_
              rintro w5 ⟨gg, hgg⟩
              have hb5 : Below wr.heap.size wr w5 := hgg ▸ below_regrown wr gg.d gg.os
              have HW6 := Lib.hid (HW.out.trans (hb5.mono HW.out.size))
              have HR6 := Lib.hid (isAttrs_below HR5.out hb5)
              have HA6 := Lib.hid (isAttrs_below HA5.out hb5)
              clear hgg gg hb5 r0 r1 x0 y0
              go_wp2_with fail
              go_roundw
              case rel => exact ⟨k + 1, rfl, Lib.hid HKF.out, HW6, HR6, HA6⟩
              case measure => simp [intOf]; have := HKF.out; omega
            · obtain rfl : k = f := by have := HK.out; omega
              obtain rfl : z = y := by rw [hz] at hf2; injection hf2
              have q1 : (z.1.toList == x.1.toList) = true := by rw [hf3]; exact beq_self_eq_true _
              have q2 : (z.1.toList != x.1.toList) = false := by rw [bne, q1]; rfl
              clear hx hz hf2 hf3 hf4 hf1 hga hki hal hkf
              go_wp2_with fail
              refine wp_region_quiet_below mixedT (by kernel_rfl) ?_
              repeat (go_big_quiet_step (fail))
              refine wpQuiet_nil ?_
              rintro w5 ⟨gg, hgg⟩
              have hb5 : Below wr.heap.size wr w5 := hgg ▸ below_regrown wr gg.d gg.os
              have HW6 := Lib.hid (HW.out.trans (hb5.mono HW.out.size))
              have HR6 := Lib.hid (isAttrs_below HR5.out hb5)
              have HA6 := Lib.hid (isAttrs_below HA5.out hb5)
              have HMEM := Lib.hid (HSO.out.all k z HZ.out (fun j u hj hu => by rw [HF3.out]; exact HF4.out j u hj hu))
              clear hgg gg hb5 r0 r1 x0 y0 q1 q2
              go_wp2_with fail
              go_loopw [7, 8] (fun t7 t8 wr => ∃ (m : Nat) (b : Bool), t7 = .bool b ∧ t8 = .int .i64 (m : Int) ∧ Hid (m ≤ r.length) ∧ Hid (b = true ↔ z ∈ r.take m) ∧ Hid (Below w2.heap.size w2 wr) ∧ Hid (IsAttrs wr wr.heap.size r R rc) ∧ Hid (IsAttrs wr wr.heap.size al (some ⟨ga, oa, none⟩) ac)) (fun _ t8 _ => r.length - (intOf t8).toNat)
              case atStart => exact ⟨0, false, rfl, rfl, Lib.hid (Nat.zero_le _), Lib.hid (by simp), HW6, HR6, HA6⟩
              case round =>
                obtain ⟨m, b, rfl, rfl, HM, HBB, HW, HR7, HA7⟩ := hrel
                by_cases hml : m < r.length
                · have hu : r[m]? = some (r[m]'hml) := List.getElem?_eq_getElem _
                  generalize r[m]'hml = u at *
                  have htk : r.take (m + 1) = r.take m ++ [u] := by rw [List.take_add_one, hu]; rfl
                  obtain ⟨gr, or, rfl, hgr, u0, u1⟩ := isAttrs_at HR7.out hu
                  obtain ⟨gb, ob, eb, _, z0, z1⟩ := isAttrs_at HA7.out HZ.out
                  injection eb with eb
                  injection eb with eb1 eb2
                  subst eb1; subst eb2
                  have hrl := HSO.out.len
                  have hal := HAL.out
                  have hkl : (k : Int) < (al.length : Int) := by have := (List.getElem?_eq_some_iff.1 HZ.out).1; omega
                  have hml2 : (m : Int) < (r.length : Int) := by omega
                  have hwk : IntKind.i64.wrap (k : Int) = (k : Int) := IntWalk.i64_in _ (by omega)
                  have hwm : IntKind.i64.wrap (m : Int) = (m : Int) := IntWalk.i64_in _ (by omega)
                  have hwn : IntKind.i64.wrap ((m : Int) + 1) = (m : Int) + 1 := IntWalk.i64_in _ (by omega)
                  have r0 := cell_regrown u0
                  have r1 := cell_regrown u1
                  have r2 := cell_regrown z0
                  have r3 := cell_regrown z1
                  have HML := Lib.hid hml
                  have HTK := Lib.hid htk
                  clear hu htk hgr hrl hal hml u0 u1 z0 z1
                  cases b with
                  | true =>
                    clear r0 r1 r2 r3
                    go_wp2_with fail
                    refine wp_region_quiet_below mixedT (by kernel_rfl) ?_
                    repeat (go_big_quiet_step (fail))
                    refine wpQuiet_nil ?_
                    rintro w5 ⟨gg, hgg⟩
                    have hb5 : Below wr.heap.size wr w5 := hgg ▸ below_regrown wr gg.d gg.os
                    have HW8 := Lib.hid (HW.out.trans (hb5.mono HW.out.size))
                    have HR8 := Lib.hid (isAttrs_below HR7.out hb5)
                    have HA8 := Lib.hid (isAttrs_below HA7.out hb5)
                    clear hgg gg hb5
                    go_wp2_with fail
                    go_roundw
                    case rel => exact ⟨m + 1, true, rfl, rfl, Lib.hid HML.out, Lib.hid ⟨fun _ => by rw [HTK.out]; exact List.mem_append_left _ (HBB.out.1 trivial), fun _ => rfl⟩, HW8, HR8, HA8⟩
                    case measure => simp [intOf]; have := HML.out; omega
                  | false =>
                    by_cases c1 : u.1 = z.1
                    · by_cases c2 : u.2 = z.2
                      · have HUZ := Lib.hid (show u = z from Prod.ext c1 c2)
                        have q1 : (u.1.toList == z.1.toList) = true := by rw [c1]; exact beq_self_eq_true _
                        have d1 : decide (u.1 = z.1) = true := decide_eq_true c1
                        have q2 : (u.2.toList == z.2.toList) = true := by rw [c2]; exact beq_self_eq_true _
                        have d2 : decide (u.2 = z.2) = true := decide_eq_true c2
                        clear c1 c2
                        go_wp2_with fail
                        refine wp_region_quiet_below mixedT (by kernel_rfl) ?_
                        repeat (go_big_quiet_step (fail))
                        refine wpQuiet_nil ?_
                        rintro w5 ⟨gg, hgg⟩
                        have hb5 : Below wr.heap.size wr w5 := hgg ▸ below_regrown wr gg.d gg.os
                        have HW8 := Lib.hid (HW.out.trans (hb5.mono HW.out.size))
                        have HR8 := Lib.hid (isAttrs_below HR7.out hb5)
                        have HA8 := Lib.hid (isAttrs_below HA7.out hb5)
                        clear hgg gg hb5
                        go_wp2_with fail
                        go_roundw
                        case rel => exact ⟨m + 1, true, rfl, rfl, Lib.hid HML.out, Lib.hid ⟨fun _ => by rw [HTK.out]; exact List.mem_append_right _ (List.mem_singleton.2 HUZ.out.symm), fun _ => rfl⟩, HW8, HR8, HA8⟩
                        case measure => simp [intOf]; have := HML.out; omega
                      · have HUZ := Lib.hid (show ¬ u = z from fun e => c2 (by rw [e]))
                        have q1 : (u.1.toList == z.1.toList) = true := by rw [c1]; exact beq_self_eq_true _
                        have d1 : decide (u.1 = z.1) = true := decide_eq_true c1
                        have q2 : (u.2.toList == z.2.toList) = false := by rw [beq_eq_false_iff_ne, tl_data', tl_data']; exact fun e => c2 (Sr.bytes_eq.1 e)
                        have d2 : decide (u.2 = z.2) = false := decide_eq_false c2
                        clear c1 c2
                        go_wp2_with fail
                        refine wp_region_quiet_below mixedT (by kernel_rfl) ?_
                        repeat (go_big_quiet_step (fail))
                        refine wpQuiet_nil ?_
                        rintro w5 ⟨gg, hgg⟩
                        have hb5 : Below wr.heap.size wr w5 := hgg ▸ below_regrown wr gg.d gg.os
                        have HW8 := Lib.hid (HW.out.trans (hb5.mono HW.out.size))
                        have HR8 := Lib.hid (isAttrs_below HR7.out hb5)
                        have HA8 := Lib.hid (isAttrs_below HA7.out hb5)
                        clear hgg gg hb5
                        go_wp2_with fail
                        go_roundw
                        case rel => exact ⟨m + 1, false, rfl, rfl, Lib.hid HML.out, Lib.hid ⟨fun h => (by cases h), fun h => by rw [HTK.out, List.mem_append, List.mem_singleton] at h; rcases h with h | h; exact HBB.out.2 h; exact absurd h.symm HUZ.out⟩, HW8, HR8, HA8⟩
                        case measure => simp [intOf]; have := HML.out; omega
                    · have HUZ := Lib.hid (show ¬ u = z from fun e => c1 (by rw [e]))
                      have q1 : (u.1.toList == z.1.toList) = false := by rw [beq_eq_false_iff_ne, tl_data', tl_data']; exact fun e => c1 (Sr.bytes_eq.1 e)
                      have d1 : decide (u.1 = z.1) = false := decide_eq_false c1
                      clear c1
                      go_wp2_with fail
                      refine wp_region_quiet_below mixedT (by kernel_rfl) ?_
                      repeat (go_big_quiet_step (fail))
                      refine wpQuiet_nil ?_
                      rintro w5 ⟨gg, hgg⟩
                      have hb5 : Below wr.heap.size wr w5 := hgg ▸ below_regrown wr gg.d gg.os
                      have HW8 := Lib.hid (HW.out.trans (hb5.mono HW.out.size))
                      have HR8 := Lib.hid (isAttrs_below HR7.out hb5)
                      have HA8 := Lib.hid (isAttrs_below HA7.out hb5)
                      clear hgg gg hb5
                      go_wp2_with fail
                      go_roundw
                      case rel => exact ⟨m + 1, false, rfl, rfl, Lib.hid HML.out, Lib.hid ⟨fun h => (by cases h), fun h => by rw [HTK.out, List.mem_append, List.mem_singleton] at h; rcases h with h | h; exact HBB.out.2 h; exact absurd h.symm HUZ.out⟩, HW8, HR8, HA8⟩
                      case measure => simp [intOf]; have := HML.out; omega
                · have hml2 : ¬ (m : Int) < (r.length : Int) := by omega
                  have hbt : b = true := HBB.out.2 (by rw [List.take_of_length_le (by omega)]; exact HMEM.out)
                  subst hbt
                  have hwi : IntKind.i64.wrap ((i : Int) + 1) = (i : Int) + 1 := IntWalk.i64_in _ (by have := HAL.out; have := HLT.out; omega)
                  clear hml
                  go_wp2_with fail
                  go_roundw
                  case rel => exact ⟨i + 1, rfl, Lib.hid HLT.out, HW, HR7, HA7⟩
                  case measure => simp [intOf]; have := HLT.out; omega
        · have hiz : ¬ (i : Int) < (al.length : Int) := by omega
          have hrl : (r.length : Int) ≤ (al.length : Int) := by have := HSO.out.len; omega
          clear hge
          go_wp2_with fail
          refine (Sc.awake_calls _).mono ?_
          rintro e w3 ⟨rfl, hb3⟩
          have HB3 := Lib.hid ((HB.out.trans (HW.out.mono HB.out.size)).trans (hb3.mono (Nat.le_trans HB.out.size HW.out.size)))
          clear hb3
          go_wp2_with fail
          go_ret
          exact ⟨rfl, HB3.out⟩
end Go.Proofs.YtbdgoffbkenofaaGreat.Wk
