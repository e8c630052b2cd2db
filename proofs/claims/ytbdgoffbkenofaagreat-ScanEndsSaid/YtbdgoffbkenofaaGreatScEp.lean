/- scan: plain: ScanEnds: what each piece is. -/
import Derived.Test.YtbdgoffbkenofaaGreatScA
namespace Go.Proofs.YtbdgoffbkenofaaGreat.Sc
open Go Go.RowKit Go.Shelf Go.Sort Go.Proofs.YtbdgoffbkenofaaGreat.Tk Go.Proofs.YtbdgoffbkenofaaGreat.Ct
set_option linter.unusedVariables false

/-! ### What is decoded is not empty -/
theorem encPos (v : Int) : 0 < (Utf8.encode v).size := by
  unfold Utf8.encode
  dsimp only
  repeat' split
  all_goals simp [ByteArray.size]
theorem rfindPos {name v : ByteArray} (h : rfind name = some v) : 0 < v.size := by
  rw [rfind_is] at h
  have hm := assoc_mem h
  have key : ∀ p ∈ rpairs, 0 < p.2.size := by decide +kernel
  exact key _ hm
theorem lonPos (s : ByteArray) (k : Nat) : ∀ n, 0 < (lon s k n).1 → 0 < (lon s k n).2.size
  | 0, h => by rw [lon_zero] at h; exact absurd h (Nat.lt_irrefl _)
  | n + 1, h0 => by
    cases h : rfind (s.extract k (k + (n + 1))) with
    | some v => rw [lon_hit h]; exact rfindPos h
    | none => rw [lon_miss h] at h0 ⊢; exact lonPos s k n h0
theorem numAtPos (s : ByteArray) (f : Nat) (hex : Bool) (k : Nat) : 0 < (Ch.numAt s f hex k).1.size := by
  obtain ⟨⟨v, n⟩, hR⟩ : ∃ r, Ch.numL hex (s.data.toList.drop f) 0 = r := ⟨_, rfl⟩
  by_cases h0 : n = 0
  · rw [Ch.numAt_no ((congrArg Prod.snd hR).trans h0)]; decide
  · rw [Ch.numAt_yes (by omega) hR rfl]; exact encPos _
theorem numVPos (s : ByteArray) (k : Nat) : 0 < (Ch.numV s k).1.size := by
  cases h : Ch.hexAt s (k + 2) with
  | false => rw [Ch.numV_dec h]; exact numAtPos _ _ _ _
  | true => rw [Ch.numV_hex h]; exact numAtPos _ _ _ _
theorem refIPos {s : ByteArray} {k : Nat} {attr : Bool} (hk : k < s.size) (h : s[k].toNat = 38) : 0 < (Ch.refI s k attr).1.size := by
  rw [Ch.refI_yes hk h]
  unfold Ch.refV
  split
  · exact numVPos _ _
  · split
    · decide
    · rename_i h1
      split
      · decide
      · have e := longest_in s (k + 1) (by omega)
        rw [show (((k + 1 : Nat)) : Int) = (k : Int) + 1 by omega] at e
        rw [e] at h1 ⊢
        exact lonPos _ _ _ (by omega)
theorem decPos {s : ByteArray} {attr : Bool} (h : 0 < s.size) : Ch.decB s attr ≠ ⟨#[]⟩ := by
  intro e
  have e1 : (Ch.decB s attr).data.toList = [] := by rw [e]
  unfold Ch.decB at e1
  by_cases h38 : s[0].toNat = 38
  · have hp := refIPos (attr := attr) h h38
    rw [Ch.decK_ref h h38] at e1
    have e2 : (Ch.refI s (0 : Nat) attr).1.data.toList = [] := (List.append_eq_nil_iff.1 (by simpa using e1)).1
    have e3 : (Ch.refI s (0 : Nat) attr).1.data.toList.length = 0 := by rw [e2]; rfl
    exact absurd (show (Ch.refI s (0 : Nat) attr).1.size = 0 from e3) (by omega)
  · rw [Ch.decK_one h h38] at e1
    simp at e1
theorem size_pos_ne {s : ByteArray} (h : 0 < s.size) : s ≠ ⟨#[]⟩ := fun e => by rw [e] at h; exact absurd h (by decide)
/-! ### Names -/
theorem lowNameB (c : UInt8) : Ru.lowB (nameB (Ru.lowB c)) = nameB (Ru.lowB c) := by
  have key : ∀ n, n < 256 → Ru.lowB (nameB (Ru.lowB (UInt8.ofNat n))) = nameB (Ru.lowB (UInt8.ofNat n)) := by decide +kernel
  have := key c.toNat c.toNat_lt
  rwa [UInt8.ofNat_toNat] at this
theorem lowNamed (s : ByteArray) : lowS (namedP s) = namedP s := by
  apply Sr.bytes_eq.1
  show (Ru.lower (((Ru.lower s.data.toList).map nameB).toArray.toList)).toArray.toList = ((Ru.lower s.data.toList).map nameB).toArray.toList
  simp only [Ru.lower, List.map_map]
  refine List.map_congr_left fun c _ => ?_
  exact lowNameB c
/-! ### Attributes in order -/
/-- By their names, each once. -/
def StrictA (l : List At) : Prop := l.Pairwise fun x y => Op.bytesLess x.1.data.toList y.1.data.toList = true
theorem hasName_iff {l : List At} {n : ByteArray} : hasName l n = true ↔ ∃ x ∈ l, x.1 = n := by
  unfold hasName; rw [List.any_eq_true]; simp only [decide_eq_true_eq]
theorem attrsP_uniq {s : ByteArray} {start : Bool} : ∀ {n e : Nat} {acc l : List At} {k : Nat}, attrsP s start n e acc = some (l, k) → acc.Pairwise (fun x y => x.1 ≠ y.1) → l.Pairwise (fun x y => x.1 ≠ y.1)
  | 0, e, acc, l, k, h, _ => by unfold attrsP at h; cases h
  | n + 1, e, acc, l, k, h, hp => by
    unfold attrsP at h
    dsimp only at h
    split at h
    · cases h
    · split at h
      · injection h with h; injection h with h _; rw [← h]; exact hp
      · split at h
        · cases h
        · refine attrsP_uniq h ?_
          split
          · rename_i hc
            rw [Bool.and_eq_true] at hc
            rw [List.pairwise_append]
            refine ⟨hp, List.pairwise_singleton _ _, fun a ha b hb => ?_⟩
            rw [List.mem_singleton] at hb
            subst hb
            intro ex
            have := hasName_iff.2 ⟨a, ha, ex⟩
            rw [this] at hc
            exact absurd hc.2 (by decide)
          · exact hp
theorem attrsP_end {s : ByteArray} : ∀ {n e : Nat} {acc l : List At} {k : Nat}, attrsP s false n e acc = some (l, k) → l = acc
  | 0, e, acc, l, k, h => by unfold attrsP at h; cases h
  | n + 1, e, acc, l, k, h => by
    unfold attrsP at h
    dsimp only at h
    split at h
    · cases h
    · split at h
      · injection h with h; injection h with h _; exact h.symm
      · split at h
        · cases h
        · have := attrsP_end h
          simpa using this
theorem leB_iff (x y : ByteArray) : leB x y = true ↔ ¬ y.data.toList < x.data.toList := by
  unfold leB; rw [bytesLess_eq]; simp
theorem sort_strict {l : List At} (hu : l.Pairwise fun x y => x.1 ≠ y.1) : StrictA (sortP l) := by
  have q : (sortP l).Perm l := List.mergeSort_perm _ _
  have hu' : (sortP l).Pairwise fun x y => x.1 ≠ y.1 := (q.pairwise_iff (fun h => Ne.symm h)).2 hu
  have hs : (sortP l).Pairwise fun x y => leB x.1 y.1 = true := by
    refine List.pairwise_mergeSort ?_ ?_ l
    · intro a b c h1 h2
      rw [leB_iff] at *
      exact fun h => absurd (List.le_trans (List.not_lt.1 h1) (List.not_lt.1 h2)) (List.not_le.2 h)
    · intro a b
      rw [Bool.or_eq_true, leB_iff, leB_iff]
      rcases List.le_total a.1.data.toList b.1.data.toList with h | h
      · exact .inl (List.not_lt.2 h)
      · exact .inr (List.not_lt.2 h)
  refine (hs.and hu').imp fun {x y} h => ?_
  have h1 := List.not_lt.1 ((leB_iff _ _).1 h.1)
  rw [bytesLess_eq, decide_eq_true_eq]
  rcases Classical.em (x.1.data.toList < y.1.data.toList) with h2 | h2
  · exact h2
  · exact absurd (Sr.bytes_eq.1 (List.le_antisymm h1 (List.not_lt.1 h2))) h.2
/-! ### Each piece -/
/-- What a piece but the end is. -/
structure GoodT (t : Tok) : Prop where
  k1 : 1 ≤ t.kind
  k5 : t.kind ≤ 5
  nm : t.kind = 1 → t.name ≠ ⟨#[]⟩
  lo : t.kind = 1 → lowS t.name = t.name
  en : t.kind ≠ 1 → t.attrs = []
  tx : t.kind = 3 → t.text ≠ ⟨#[]⟩
  so : StrictA t.attrs
theorem good_plain {t : Tok} (h : t.kind = 4 ∨ t.kind = 5) (ha : t.attrs = []) : GoodT t :=
  ⟨by omega, by omega, fun h' => by omega, fun h' => by omega, fun _ => ha, fun h' => by omega, by rw [ha]; exact List.Pairwise.nil⟩
theorem good_text {t : ByteArray} {raw : Bool} (h : t ≠ ⟨#[]⟩) : GoodT (textTok t raw) :=
  ⟨show (1 : Int) ≤ 3 by decide, show (3 : Int) ≤ 5 by decide, fun h' => absurd h' (show ¬ (3 : Int) = 1 by decide), fun h' => absurd h' (show ¬ (3 : Int) = 1 by decide), fun _ => rfl, fun _ => h, List.Pairwise.nil⟩
theorem tag_good {s : ByteArray} {a : Nat} {start : Bool} (hl : letterAt s a = true) (hy : (tagP s a start).2.2 = true) : GoodT (tagP s a start).1 := by
  have hlt := letter_lt hl
  have hlet := (letter_at.1 hl).2
  unfold tagP at hy ⊢
  dsimp only at hy ⊢
  have hup : a < upT closesN s a := by
    have hc : closesN (bAt s a) = false := by
      have : bAt s a < 256 := bAt_lt s a
      revert hlet
      generalize bAt s a = c at *
      unfold letterN closesN blankN
      intro h
      have h' := of_decide_eq_true h
      simp only [Bool.or_eq_false_iff, decide_eq_false_iff_not]
      omega
    rw [upT_next hlt hc]
    have := upT_ge closesN s (a + 1)
    omega
  have hsz : 0 < (s.extract a (upT closesN s a)).size := by
    rw [ByteArray.size_extract]
    have := upT_le closesN (s := s) (a := a) (by omega)
    omega
  generalize s.extract a (upT closesN s a) = nm at *
  split at hy
  · cases hy
  · rename_i l e2 h
    dsimp only
    cases start with
    | true =>
      refine ⟨show (1 : Int) ≤ 1 by decide, show (1 : Int) ≤ 5 by decide, fun _ => ?_, fun _ => ?_, fun h' => absurd rfl h', fun h' => absurd h' (show ¬ (1 : Int) = 3 by decide), sort_strict (attrsP_uniq h List.Pairwise.nil)⟩
      · exact size_pos_ne (by show 0 < (namedP nm).size; rw [namedP_size]; exact hsz)
      · exact lowNamed nm
    | false =>
      have hn : l = [] := attrsP_end h
      subst hn
      refine ⟨show (1 : Int) ≤ 2 by decide, show (2 : Int) ≤ 5 by decide, fun h' => absurd h' (show ¬ (2 : Int) = 1 by decide), fun h' => absurd h' (show ¬ (2 : Int) = 1 by decide), fun _ => ?_, fun h' => absurd h' (show ¬ (2 : Int) = 3 by decide), ?_⟩
      · show sortP [] = []
        exact List.mergeSort_nil
      · exact sort_strict List.Pairwise.nil
theorem comment_good (s : ByteArray) (a : Nat) : GoodT (commentP s a).1 := by
  have h : (commentP s a).1.kind = 4 ∧ (commentP s a).1.attrs = [] := by
    unfold commentP
    dsimp only
    repeat' split
    all_goals exact ⟨rfl, rfl⟩
  exact good_plain (.inl h.1) h.2
theorem next_good {s raw : ByteArray} {a : Nat} (ha : a < s.size) (hy : (nextP s a raw).2.2 = true) : GoodT (nextP s a raw).1 := by
  unfold nextP at hy ⊢
  by_cases c1 : s.size ≤ a
  · omega
  rw [if_neg c1] at hy ⊢
  by_cases c2 : raw ≠ ⟨#[]⟩ ∧ a < rawEndP s a raw
  · rw [if_pos c2] at hy ⊢
    have hle : rawEndP s a raw ≤ s.size := by have := upI_le (rawOk s raw) (s.size - a) a; unfold rawEndP; omega
    have hz : 0 < (s.extract a (rawEndP s a raw)).size := by rw [ByteArray.size_extract]; omega
    refine good_text ?_
    split
    · exact decPos hz
    · exact size_pos_ne hz
  rw [if_neg c2] at hy ⊢
  by_cases c3 : bAt s a ≠ 60
  · rw [if_pos c3] at hy ⊢
    have h1 := upT_le (fun c => decide (c = 60) || (blankN c != blankN (bAt s a))) (s := s) (a := a) (by omega)
    have h2 : a + 1 ≤ upT (fun c => decide (c = 60) || (blankN c != blankN (bAt s a))) s a := by
      rw [upT_next ha (by simp [c3])]
      exact upT_ge _ _ _
    exact good_text (decPos (by rw [ByteArray.size_extract]; omega))
  rw [if_neg c3] at hy ⊢
  by_cases c4 : letterAt s (a + 1) = true
  · rw [if_pos c4] at hy ⊢; exact tag_good c4 hy
  rw [if_neg c4] at hy ⊢
  by_cases c5 : (startsP s a ⟨#[60, 47]⟩ && letterAt s (a + 2)) = true
  · rw [if_pos c5] at hy ⊢; rw [Bool.and_eq_true] at c5; exact tag_good c5.2 hy
  rw [if_neg c5] at hy ⊢
  by_cases c6 : startsP s a ⟨#[60, 33, 45, 45]⟩ = true
  · rw [if_pos c6] at hy ⊢; exact comment_good _ _
  rw [if_neg c6] at hy ⊢
  by_cases c7 : startsP s a ⟨#[60, 33, 100, 111, 99, 116, 121, 112, 101]⟩ = true
  · rw [if_pos c7] at hy ⊢; exact good_plain (.inr rfl) rfl
  rw [if_neg c7] at hy ⊢
  by_cases c8 : startsP s a ⟨#[60, 47, 62]⟩ = true
  · rw [if_pos c8] at hy; cases hy
  rw [if_neg c8] at hy ⊢
  by_cases c9 : startsP s a ⟨#[60, 63]⟩ = true
  · rw [if_pos c9] at hy ⊢; exact good_plain (.inl rfl) rfl
  rw [if_neg c9] at hy ⊢
  by_cases c10 : (startsP s a ⟨#[60, 33]⟩ || (startsP s a ⟨#[60, 47]⟩ && decide (a + 2 < s.size))) = true
  · rw [if_pos c10] at hy ⊢; exact good_plain (.inl rfl) rfl
  rw [if_neg c10] at hy ⊢
  exact good_text (by decide)
theorem pcsF_good (s : ByteArray) : ∀ n a raw, ∃ xs, pcsF s n a raw = xs ++ [tokE] ∧ ∀ x ∈ xs, GoodT x
  | 0, a, raw => ⟨[], rfl, fun x hx => absurd hx List.not_mem_nil⟩
  | n + 1, a, raw => by
    unfold pcsF
    by_cases h : s.size ≤ a
    · rw [if_pos h]; exact ⟨[], rfl, fun x hx => absurd hx List.not_mem_nil⟩
    · rw [if_neg h]
      by_cases hy : (nextP s a raw).2.2 = true
      · rw [if_pos hy]
        obtain ⟨xs, e, hx⟩ := pcsF_good s n (nextP s a raw).2.1 (rawNx raw (nextP s a raw).1)
        refine ⟨(nextP s a raw).1 :: xs, by rw [e]; rfl, fun x hm => ?_⟩
        rcases List.mem_cons.1 hm with rfl | hm
        · exact next_good (by omega) hy
        · exact hx x hm
      · rw [if_neg hy]
        exact pcsF_good s n _ _
theorem pcsF_names (s : ByteArray) : ∀ n a raw, ∀ x ∈ pcsF s n a raw, x.name.size ≤ s.size
  | 0, a, raw => fun x hx => by
    unfold pcsF at hx
    rw [List.mem_singleton] at hx
    subst hx
    exact Nat.zero_le _
  | n + 1, a, raw => fun x hx => by
    unfold pcsF at hx
    split at hx
    · rw [List.mem_singleton] at hx
      subst hx
      exact Nat.zero_le _
    · split at hx
      · rcases List.mem_cons.1 hx with rfl | hx
        · exact next_name _ _ _
        · exact pcsF_names s n _ _ x hx
      · exact pcsF_names s n _ _ x hx
theorem attrsP_len {s : ByteArray} {start : Bool} : ∀ {n e : Nat} {acc l : List At} {k : Nat}, attrsP s start n e acc = some (l, k) → l.length ≤ acc.length + n
  | 0, e, acc, l, k, h => by unfold attrsP at h; cases h
  | n + 1, e, acc, l, k, h => by
    unfold attrsP at h
    dsimp only at h
    split at h
    · cases h
    · split at h
      · injection h with h; injection h with h _; rw [h]; omega
      · split at h
        · cases h
        · have := attrsP_len h
          split at this
          · simp at this; omega
          · omega
theorem next_attrs (s raw : ByteArray) (a : Nat) : (nextP s a raw).1.attrs.length ≤ s.size + 1 := by
  have tg : ∀ b st, (tagP s b st).1.attrs.length ≤ s.size + 1 := fun b st => by
    unfold tagP
    dsimp only
    split
    · exact Nat.zero_le _
    · rename_i l e2 h
      have := attrsP_len h
      show (sortP l).length ≤ _
      unfold sortP
      rw [List.length_mergeSort]
      simp at this; omega
  have cm : ∀ b, (commentP s b).1.attrs = [] := fun b => by
    unfold commentP
    dsimp only
    repeat' split
    all_goals rfl
  have z : ∀ t : Tok, t.attrs = [] → t.attrs.length ≤ s.size + 1 := fun t h => by rw [h]; exact Nat.zero_le _
  unfold nextP
  dsimp only
  repeat' split
  all_goals first | exact tg _ _ | exact z _ (cm _) | exact z _ rfl
theorem pcsF_attrs (s : ByteArray) : ∀ n a raw, ∀ x ∈ pcsF s n a raw, x.attrs.length ≤ s.size + 1
  | 0, a, raw => fun x hx => by
    unfold pcsF at hx
    rw [List.mem_singleton] at hx
    subst hx
    exact Nat.zero_le _
  | n + 1, a, raw => fun x hx => by
    unfold pcsF at hx
    split at hx
    · rw [List.mem_singleton] at hx
      subst hx
      exact Nat.zero_le _
    · split at hx
      · rcases List.mem_cons.1 hx with rfl | hx
        · exact next_attrs _ _ _
        · exact pcsF_attrs s n _ _ x hx
      · exact pcsF_attrs s n _ _ x hx
theorem pcsF_len (s : ByteArray) : ∀ n a raw, (pcsF s n a raw).length ≤ n + 1
  | 0, a, raw => Nat.le_refl _
  | n + 1, a, raw => by
    unfold pcsF
    split
    · simp
    · split
      · have := pcsF_len s n (nextP s a raw).2.1 (rawNx raw (nextP s a raw).1); simp; omega
      · have := pcsF_len s n (nextP s a raw).2.1 raw; omega
theorem pcsP_len (s : ByteArray) (a : Nat) (raw : ByteArray) : (pcsP s a raw).length ≤ s.size + 1 := by
  have := pcsF_len s (s.size - a) a raw
  unfold pcsP; omega
/-- All pieces but the last one are such, and the last one is the end. -/
theorem pcsP_good (s : ByteArray) (a : Nat) (raw : ByteArray) : ∃ xs, pcsP s a raw = xs ++ [tokE] ∧ ∀ x ∈ xs, GoodT x := pcsF_good s _ a raw
/-- What ScanEnds asks of each piece. -/
structure EndOk (x : Tok) (n j N : Nat) : Prop where
  ends : x.kind = 6 ↔ j + 1 = n
  low : 1 ≤ x.kind
  hi : x.kind ≤ 6
  nm : x.kind = 1 → x.name ≠ ⟨#[]⟩
  lo : x.kind = 1 → lowS x.name = x.name
  en : x.kind ≠ 1 → x.attrs = []
  tx : x.kind = 3 → x.text ≠ ⟨#[]⟩
  so : StrictA x.attrs
  sz : x.name.size ≤ N
  sz2 : x.attrs.length ≤ N + 1
theorem end_ok (s : ByteArray) : ∃ n, (pcsP s 0 ⟨#[]⟩).length = n ∧ 1 ≤ n ∧ n ≤ s.size + 1 ∧ ∀ j x, (pcsP s 0 ⟨#[]⟩)[j]? = some x → EndOk x n j s.size := by
  obtain ⟨ys, e, h⟩ := pcsP_good s 0 ⟨#[]⟩
  have hl : (pcsP s 0 ⟨#[]⟩).length = ys.length + 1 := by rw [e]; simp
  have hle := pcsP_len s 0 ⟨#[]⟩
  refine ⟨_, hl, by omega, by omega, fun j x hx => ?_⟩
  have hz := pcsF_names s _ 0 ⟨#[]⟩ x (List.mem_of_getElem? hx)
  have hz2 := pcsF_attrs s _ 0 ⟨#[]⟩ x (List.mem_of_getElem? hx)
  rw [e] at hx
  rcases Nat.lt_or_ge j ys.length with hj | hj
  · rw [List.getElem?_append_left hj] at hx
    have g := h x (List.mem_of_getElem? hx)
    have := g.k1
    have := g.k5
    exact ⟨by omega, g.k1, by omega, g.nm, g.lo, g.en, g.tx, g.so, hz, hz2⟩
  · rw [List.getElem?_append_right hj] at hx
    have e : j - ys.length = 0 := by
      rcases Nat.lt_or_ge (j - ys.length) 1 with h | h
      · omega
      · rw [List.getElem?_eq_none (by simpa using h)] at hx; cases hx
    rw [e] at hx
    have ex : tokE = x := by simpa using hx
    subst ex
    exact ⟨⟨fun _ => by omega, fun _ => rfl⟩, by decide, by decide, fun h => absurd h (show ¬ (6 : Int) = 1 by decide), fun h => absurd h (show ¬ (6 : Int) = 1 by decide), fun _ => rfl, fun h => absurd h (show ¬ (6 : Int) = 3 by decide), List.Pairwise.nil, hz, hz2⟩
end Go.Proofs.YtbdgoffbkenofaaGreat.Sc
