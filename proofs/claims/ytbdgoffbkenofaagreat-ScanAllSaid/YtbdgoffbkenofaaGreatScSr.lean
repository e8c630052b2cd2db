/- scan: plain: ScanEnds: what each piece is. -/
import Derived.Test.YtbdgoffbkenofaaGreatScA
import Derived.Test.YtbdgoffbkenofaaGreatScSl
namespace Go.Proofs.YtbdgoffbkenofaaGreat.Sc
open Go Go.RowKit Go.Shelf Go.Sort Go.Proofs.YtbdgoffbkenofaaGreat.Tk Go.Proofs.YtbdgoffbkenofaaGreat.Ct
set_option linter.unusedVariables false

/-! ### What is decoded is not empty -/
theorem encPos (v : Int) : 0 < (Utf8.encode v).size := by
  unfold Utf8.encode
  dsimp only
  repeat' split
  all_goals simp [ByteArray.size]
theorem rfindPos {name v : ByteArray} (h : rfind name = some v) : 0 < v.size := by
  rw [rfind_is] at h
  have hm := assoc_mem h
  have key : ∀ p ∈ rpairs, 0 < p.2.size := by decide +kernel
  exact key _ hm
theorem lonPos (s : ByteArray) (k : Nat) : ∀ n, 0 < (lon s k n).1 → 0 < (lon s k n).2.size
  | 0, h => by rw [lon_zero] at h; exact absurd h (Nat.lt_irrefl _)
  | n + 1, h0 => by
    cases h : rfind (s.extract k (k + (n + 1))) with
    | some v => rw [lon_hit h]; exact rfindPos h
    | none => rw [lon_miss h] at h0 ⊢; exact lonPos s k n h0
theorem numAtPos (s : ByteArray) (f : Nat) (hex : Bool) (k : Nat) : 0 < (Ch.numAt s f hex k).1.size := by
  obtain ⟨⟨v, n⟩, hR⟩ : ∃ r, Ch.numL hex (s.data.toList.drop f) 0 = r := ⟨_, rfl⟩
  by_cases h0 : n = 0
  · rw [Ch.numAt_no ((congrArg Prod.snd hR).trans h0)]; decide
  · rw [Ch.numAt_yes (by omega) hR rfl]; exact encPos _
theorem numVPos (s : ByteArray) (k : Nat) : 0 < (Ch.numV s k).1.size := by
  cases h : Ch.hexAt s (k + 2) with
  | false => rw [Ch.numV_dec h]; exact numAtPos _ _ _ _
  | true => rw [Ch.numV_hex h]; exact numAtPos _ _ _ _
theorem refIPos {s : ByteArray} {k : Nat} {attr : Bool} (hk : k < s.size) (h : s[k].toNat = 38) : 0 < (Ch.refI s k attr).1.size := by
  rw [Ch.refI_yes hk h]
  unfold Ch.refV
  split
  · exact numVPos _ _
  · split
    · decide
    · rename_i h1
      split
      · decide
      · have e := longest_in s (k + 1) (by omega)
        rw [show (((k + 1 : Nat)) : Int) = (k : Int) + 1 by omega] at e
        rw [e] at h1 ⊢
        exact lonPos _ _ _ (by omega)
theorem decPos {s : ByteArray} {attr : Bool} (h : 0 < s.size) : Ch.decB s attr ≠ ⟨#[]⟩ := by
  intro e
  have e1 : (Ch.decB s attr).data.toList = [] := by rw [e]
  unfold Ch.decB at e1
  by_cases h38 : s[0].toNat = 38
  · have hp := refIPos (attr := attr) h h38
    rw [Ch.decK_ref h h38] at e1
    have e2 : (Ch.refI s (0 : Nat) attr).1.data.toList = [] := (List.append_eq_nil_iff.1 (by simpa using e1)).1
    have e3 : (Ch.refI s (0 : Nat) attr).1.data.toList.length = 0 := by rw [e2]; rfl
    exact absurd (show (Ch.refI s (0 : Nat) attr).1.size = 0 from e3) (by omega)
  · rw [Ch.decK_one h h38] at e1
    simp at e1
theorem size_pos_ne {s : ByteArray} (h : 0 < s.size) : s ≠ ⟨#[]⟩ := fun e => by rw [e] at h; exact absurd h (by decide)
/-! ### Names -/
theorem lowNameB (c : UInt8) : Ru.lowB (nameB (Ru.lowB c)) = nameB (Ru.lowB c) := by
  have key : ∀ n, n < 256 → Ru.lowB (nameB (Ru.lowB (UInt8.ofNat n))) = nameB (Ru.lowB (UInt8.ofNat n)) := by decide +kernel
  have := key c.toNat c.toNat_lt
  rwa [UInt8.ofNat_toNat] at this
theorem lowNamed (s : ByteArray) : lowS (namedP s) = namedP s := by
  apply Sr.bytes_eq.1
  show (Ru.lower (((Ru.lower s.data.toList).map nameB).toArray.toList)).toArray.toList = ((Ru.lower s.data.toList).map nameB).toArray.toList
  simp only [Ru.lower, List.map_map]
  refine List.map_congr_left fun c _ => ?_
  exact lowNameB c
/-! ### Attributes in order -/
/-- By their names, each once. -/
def StrictA (l : List At) : Prop := l.Pairwise fun x y => Op.bytesLess x.1.data.toList y.1.data.toList = true
theorem hasName_iff {l : List At} {n : ByteArray} : hasName l n = true ↔ ∃ x ∈ l, x.1 = n := by
  unfold hasName; rw [List.any_eq_true]; simp only [decide_eq_true_eq]
theorem attrsP_uniq {s : ByteArray} {start : Bool} : ∀ {n e : Nat} {acc l : List At} {k : Nat}, attrsP s start n e acc = some (l, k) → acc.Pairwise (fun x y => x.1 ≠ y.1) → l.Pairwise (fun x y => x.1 ≠ y.1)
  | 0, e, acc, l, k, h, _ => by unfold attrsP at h; cases h
  | n + 1, e, acc, l, k, h, hp => by
    unfold attrsP at h
    dsimp only at h
    split at h
    · cases h
    · split at h
      · injection h with h; injection h with h _; rw [← h]; exact hp
      · split at h
        · cases h
        · refine attrsP_uniq h ?_
          split
          · rename_i hc
            rw [Bool.and_eq_true] at hc
            rw [List.pairwise_append]
            refine ⟨hp, List.pairwise_singleton _ _, fun a ha b hb => ?_⟩
            rw [List.mem_singleton] at hb
            subst hb
            intro ex
            have := hasName_iff.2 ⟨a, ha, ex⟩
            rw [this] at hc
            exact absurd hc.2 (by decide)
          · exact hp
theorem attrsP_end {s : ByteArray} : ∀ {n e : Nat} {acc l : List At} {k : Nat}, attrsP s false n e acc = some (l, k) → l = acc
  | 0, e, acc, l, k, h => by unfold attrsP at h; cases h
  | n + 1, e, acc, l, k, h => by
    unfold attrsP at h
    dsimp only at h
    split at h
    · cases h
    · split at h
      · injection h with h; injection h with h _; exact h.symm
      · split at h
        · cases h
        · have := attrsP_end h
          simpa using this
theorem leB_iff (x y : ByteArray) : leB x y = true ↔ ¬ y.data.toList < x.data.toList := by
  unfold leB; rw [bytesLess_eq]; simp
theorem sort_strict {l : List At} (hu : l.Pairwise fun x y => x.1 ≠ y.1) : StrictA (sortP l) := by
  have q : (sortP l).Perm l := List.mergeSort_perm _ _
  have hu' : (sortP l).Pairwise fun x y => x.1 ≠ y.1 := (q.pairwise_iff (fun h => Ne.symm h)).2 hu
  have hs : (sortP l).Pairwise fun x y => leB x.1 y.1 = true := by
    refine List.pairwise_mergeSort ?_ ?_ l
    · intro a b c h1 h2
      rw [leB_iff] at *
      exact fun h => absurd (List.le_trans (List.not_lt.1 h1) (List.not_lt.1 h2)) (List.not_le.2 h)
    · intro a b
      rw [Bool.or_eq_true, leB_iff, leB_iff]
      rcases List.le_total a.1.data.toList b.1.data.toList with h | h
      · exact .inl (List.not_lt.2 h)
      · exact .inr (List.not_lt.2 h)
  refine (hs.and hu').imp fun {x y} h => ?_
  have h1 := List.not_lt.1 ((leB_iff _ _).1 h.1)
  rw [bytesLess_eq, decide_eq_true_eq]
  rcases Classical.em (x.1.data.toList < y.1.data.toList) with h2 | h2
  · exact h2
  · exact absurd (Sr.bytes_eq.1 (List.le_antisymm h1 (List.not_lt.1 h2))) h.2
/-! ### Each piece -/
/-- What a piece but the end is. -/
structure GoodT (t : Tok) : Prop where
  k1 : 1 ≤ t.kind
  k5 : t.kind ≤ 5
  nm : t.kind = 1 → t.name ≠ ⟨#[]⟩
  lo : t.kind = 1 → lowS t.name = t.name
  en : t.kind ≠ 1 → t.attrs = []
  tx : t.kind = 3 → t.text ≠ ⟨#[]⟩
  so : StrictA t.attrs
theorem good_plain {t : Tok} (h : t.kind = 4 ∨ t.kind = 5) (ha : t.attrs = []) : GoodT t :=
  ⟨by omega, by omega, fun h' => by omega, fun h' => by omega, fun _ => ha, fun h' => by omega, by rw [ha]; exact List.Pairwise.nil⟩
theorem good_text {t : ByteArray} {raw : Bool} (h : t ≠ ⟨#[]⟩) : GoodT (textTok t raw) :=
  ⟨show (1 : Int) ≤ 3 by decide, show (3 : Int) ≤ 5 by decide, fun h' => absurd h' (show ¬ (3 : Int) = 1 by decide), fun h' => absurd h' (show ¬ (3 : Int) = 1 by decide), fun _ => rfl, fun _ => h, List.Pairwise.nil⟩
theorem tag_good {s : ByteArray} {a : Nat} {start : Bool} (hl : letterAt s a = true) (hy : (tagP s a start).2.2 = true) : GoodT (tagP s a start).1 := by
  have hlt := letter_lt hl
  have hlet := (letter_at.1 hl).2
  unfold tagP at hy ⊢
  dsimp only at hy ⊢
  have hup : a < upT closesN s a := by
    have hc : closesN (bAt s a) = false := by
      have : bAt s a < 256 := bAt_lt s a
      revert hlet
      generalize bAt s a = c at *
      unfold letterN closesN blankN
      intro h
      have h' := of_decide_eq_true h
      simp only [Bool.or_eq_false_iff, decide_eq_false_iff_not]
      omega
    rw [upT_next hlt hc]
    have := upT_ge closesN s (a + 1)
    omega
  have hsz : 0 < (s.extract a (upT closesN s a)).size := by
    rw [ByteArray.size_extract]
    have := upT_le closesN (s := s) (a := a) (by omega)
    omega
  generalize s.extract a (upT closesN s a) = nm at *
  split at hy
  · cases hy
  · rename_i l e2 h
    dsimp only
    cases start with
    | true =>
      refine ⟨show (1 : Int) ≤ 1 by decide, show (1 : Int) ≤ 5 by decide, fun _ => ?_, fun _ => ?_, fun h' => absurd rfl h', fun h' => absurd h' (show ¬ (1 : Int) = 3 by decide), sort_strict (attrsP_uniq h List.Pairwise.nil)⟩
      · exact size_pos_ne (by show 0 < (namedP nm).size; rw [namedP_size]; exact hsz)
      · exact lowNamed nm
    | false =>
      have hn : l = [] := attrsP_end h
      subst hn
      refine ⟨show (1 : Int) ≤ 2 by decide, show (2 : Int) ≤ 5 by decide, fun h' => absurd h' (show ¬ (2 : Int) = 1 by decide), fun h' => absurd h' (show ¬ (2 : Int) = 1 by decide), fun _ => ?_, fun h' => absurd h' (show ¬ (2 : Int) = 3 by decide), ?_⟩
      · show sortP [] = []
        exact List.mergeSort_nil
      · exact sort_strict List.Pairwise.nil
theorem comment_good (s : ByteArray) (a : Nat) : GoodT (commentP s a).1 := by
  have h : (commentP s a).1.kind = 4 ∧ (commentP s a).1.attrs = [] := by
    unfold commentP
    dsimp only
    repeat' split
    all_goals exact ⟨rfl, rfl⟩
  exact good_plain (.inl h.1) h.2
theorem next_good {s raw : ByteArray} {a : Nat} (ha : a < s.size) (hy : (nextP s a raw).2.2 = true) : GoodT (nextP s a raw).1 := by
  unfold nextP at hy ⊢
  by_cases c1 : s.size ≤ a
  · omega
  rw [if_neg c1] at hy ⊢
  by_cases c2 : raw ≠ ⟨#[]⟩ ∧ a < rawEndP s a raw
  · rw [if_pos c2] at hy ⊢
    have hle : rawEndP s a raw ≤ s.size := by have := upI_le (rawOk s raw) (s.size - a) a; unfold rawEndP; omega
    have hz : 0 < (s.extract a (rawEndP s a raw)).size := by rw [ByteArray.size_extract]; omega
    refine good_text ?_
    split
    · exact decPos hz
    · exact size_pos_ne hz
  rw [if_neg c2] at hy ⊢
  by_cases c3 : bAt s a ≠ 60
  · rw [if_pos c3] at hy ⊢
    have h1 := upT_le (fun c => decide (c = 60) || (blankN c != blankN (bAt s a))) (s := s) (a := a) (by omega)
    have h2 : a + 1 ≤ upT (fun c => decide (c = 60) || (blankN c != blankN (bAt s a))) s a := by
      rw [upT_next ha (by simp [c3])]
      exact upT_ge _ _ _
    exact good_text (decPos (by rw [ByteArray.size_extract]; omega))
  rw [if_neg c3] at hy ⊢
  by_cases c4 : letterAt s (a + 1) = true
  · rw [if_pos c4] at hy ⊢; exact tag_good c4 hy
  rw [if_neg c4] at hy ⊢
  by_cases c5 : (startsP s a ⟨#[60, 47]⟩ && letterAt s (a + 2)) = true
  · rw [if_pos c5] at hy ⊢; rw [Bool.and_eq_true] at c5; exact tag_good c5.2 hy
  rw [if_neg c5] at hy ⊢
  by_cases c6 : startsP s a ⟨#[60, 33, 45, 45]⟩ = true
  · rw [if_pos c6] at hy ⊢; exact comment_good _ _
  rw [if_neg c6] at hy ⊢
  by_cases c7 : startsP s a ⟨#[60, 33, 100, 111, 99, 116, 121, 112, 101]⟩ = true
  · rw [if_pos c7] at hy ⊢; exact good_plain (.inr rfl) rfl
  rw [if_neg c7] at hy ⊢
  by_cases c8 : startsP s a ⟨#[60, 47, 62]⟩ = true
  · rw [if_pos c8] at hy; cases hy
  rw [if_neg c8] at hy ⊢
  by_cases c9 : startsP s a ⟨#[60, 63]⟩ = true
  · rw [if_pos c9] at hy ⊢; exact good_plain (.inl rfl) rfl
  rw [if_neg c9] at hy ⊢
  by_cases c10 : (startsP s a ⟨#[60, 33]⟩ || (startsP s a ⟨#[60, 47]⟩ && decide (a + 2 < s.size))) = true
  · rw [if_pos c10] at hy ⊢; exact good_plain (.inl rfl) rfl
  rw [if_neg c10] at hy ⊢
  exact good_text (by decide)
theorem pcsF_good (s : ByteArray) : ∀ n a raw, ∃ xs, pcsF s n a raw = xs ++ [tokE] ∧ ∀ x ∈ xs, GoodT x
  | 0, a, raw => ⟨[], rfl, fun x hx => absurd hx List.not_mem_nil⟩
  | n + 1, a, raw => by
    unfold pcsF
    by_cases h : s.size ≤ a
    · rw [if_pos h]; exact ⟨[], rfl, fun x hx => absurd hx List.not_mem_nil⟩
    · rw [if_neg h]
      by_cases hy : (nextP s a raw).2.2 = true
      · rw [if_pos hy]
        obtain ⟨xs, e, hx⟩ := pcsF_good s n (nextP s a raw).2.1 (rawNx raw (nextP s a raw).1)
        refine ⟨(nextP s a raw).1 :: xs, by rw [e]; rfl, fun x hm => ?_⟩
        rcases List.mem_cons.1 hm with rfl | hm
        · exact next_good (by omega) hy
        · exact hx x hm
      · rw [if_neg hy]
        exact pcsF_good s n _ _
theorem pcsF_names (s : ByteArray) : ∀ n a raw, ∀ x ∈ pcsF s n a raw, x.name.size ≤ s.size
  | 0, a, raw => fun x hx => by
    unfold pcsF at hx
    rw [List.mem_singleton] at hx
    subst hx
    exact Nat.zero_le _
  | n + 1, a, raw => fun x hx => by
    unfold pcsF at hx
    split at hx
    · rw [List.mem_singleton] at hx
      subst hx
      exact Nat.zero_le _
    · split at hx
      · rcases List.mem_cons.1 hx with rfl | hx
        · exact next_name _ _ _
        · exact pcsF_names s n _ _ x hx
      · exact pcsF_names s n _ _ x hx
theorem attrsP_len {s : ByteArray} {start : Bool} : ∀ {n e : Nat} {acc l : List At} {k : Nat}, attrsP s start n e acc = some (l, k) → l.length ≤ acc.length + n
  | 0, e, acc, l, k, h => by unfold attrsP at h; cases h
  | n + 1, e, acc, l, k, h => by
    unfold attrsP at h
    dsimp only at h
    split at h
    · cases h
    · split at h
      · injection h with h; injection h with h _; rw [h]; omega
      · split at h
        · cases h
        · have := attrsP_len h
          split at this
          · simp at this; omega
          · omega
theorem next_attrs (s raw : ByteArray) (a : Nat) : (nextP s a raw).1.attrs.length ≤ s.size + 1 := by
  have tg : ∀ b st, (tagP s b st).1.attrs.length ≤ s.size + 1 := fun b st => by
    unfold tagP
    dsimp only
    split
    · exact Nat.zero_le _
    · rename_i l e2 h
      have := attrsP_len h
      show (sortP l).length ≤ _
      unfold sortP
      rw [List.length_mergeSort]
      simp at this; omega
  have cm : ∀ b, (commentP s b).1.attrs = [] := fun b => by
    unfold commentP
    dsimp only
    repeat' split
    all_goals rfl
  have z : ∀ t : Tok, t.attrs = [] → t.attrs.length ≤ s.size + 1 := fun t h => by rw [h]; exact Nat.zero_le _
  unfold nextP
  dsimp only
  repeat' split
  all_goals first | exact tg _ _ | exact z _ (cm _) | exact z _ rfl
theorem pcsF_attrs (s : ByteArray) : ∀ n a raw, ∀ x ∈ pcsF s n a raw, x.attrs.length ≤ s.size + 1
  | 0, a, raw => fun x hx => by
    unfold pcsF at hx
    rw [List.mem_singleton] at hx
    subst hx
    exact Nat.zero_le _
  | n + 1, a, raw => fun x hx => by
    unfold pcsF at hx
    split at hx
    · rw [List.mem_singleton] at hx
      subst hx
      exact Nat.zero_le _
    · split at hx
      · rcases List.mem_cons.1 hx with rfl | hx
        · exact next_attrs _ _ _
        · exact pcsF_attrs s n _ _ x hx
      · exact pcsF_attrs s n _ _ x hx
theorem pcsF_len (s : ByteArray) : ∀ n a raw, (pcsF s n a raw).length ≤ n + 1
  | 0, a, raw => Nat.le_refl _
  | n + 1, a, raw => by
    unfold pcsF
    split
    · simp
    · split
      · have := pcsF_len s n (nextP s a raw).2.1 (rawNx raw (nextP s a raw).1); simp; omega
      · have := pcsF_len s n (nextP s a raw).2.1 raw; omega
theorem pcsP_len (s : ByteArray) (a : Nat) (raw : ByteArray) : (pcsP s a raw).length ≤ s.size + 1 := by
  have := pcsF_len s (s.size - a) a raw
  unfold pcsP; omega
/-- All pieces but the last one are such, and the last one is the end. -/
theorem pcsP_good (s : ByteArray) (a : Nat) (raw : ByteArray) : ∃ xs, pcsP s a raw = xs ++ [tokE] ∧ ∀ x ∈ xs, GoodT x := pcsF_good s _ a raw
/-- What ScanEnds asks of each piece. -/
structure EndOk (x : Tok) (n j N : Nat) : Prop where
  ends : x.kind = 6 ↔ j + 1 = n
  low : 1 ≤ x.kind
  hi : x.kind ≤ 6
  nm : x.kind = 1 → x.name ≠ ⟨#[]⟩
  lo : x.kind = 1 → lowS x.name = x.name
  en : x.kind ≠ 1 → x.attrs = []
  tx : x.kind = 3 → x.text ≠ ⟨#[]⟩
  so : StrictA x.attrs
  sz : x.name.size ≤ N
  sz2 : x.attrs.length ≤ N + 1
theorem end_ok (s : ByteArray) : ∃ n, (pcsP s 0 ⟨#[]⟩).length = n ∧ 1 ≤ n ∧ n ≤ s.size + 1 ∧ ∀ j x, (pcsP s 0 ⟨#[]⟩)[j]? = some x → EndOk x n j s.size := by
  obtain ⟨ys, e, h⟩ := pcsP_good s 0 ⟨#[]⟩
  have hl : (pcsP s 0 ⟨#[]⟩).length = ys.length + 1 := by rw [e]; simp
  have hle := pcsP_len s 0 ⟨#[]⟩
  refine ⟨_, hl, by omega, by omega, fun j x hx => ?_⟩
  have hz := pcsF_names s _ 0 ⟨#[]⟩ x (List.mem_of_getElem? hx)
  have hz2 := pcsF_attrs s _ 0 ⟨#[]⟩ x (List.mem_of_getElem? hx)
  rw [e] at hx
  rcases Nat.lt_or_ge j ys.length with hj | hj
  · rw [List.getElem?_append_left hj] at hx
    have g := h x (List.mem_of_getElem? hx)
    have := g.k1
    have := g.k5
    exact ⟨by omega, g.k1, by omega, g.nm, g.lo, g.en, g.tx, g.so, hz, hz2⟩
  · rw [List.getElem?_append_right hj] at hx
    have e : j - ys.length = 0 := by
      rcases Nat.lt_or_ge (j - ys.length) 1 with h | h
      · omega
      · rw [List.getElem?_eq_none (by simpa using h)] at hx; cases hx
    rw [e] at hx
    have ex : tokE = x := by simpa using hx
    subst ex
    exact ⟨⟨fun _ => by omega, fun _ => rfl⟩, by decide, by decide, fun h => absurd h (show ¬ (6 : Int) = 1 by decide), fun h => absurd h (show ¬ (6 : Int) = 1 by decide), fun _ => rfl, fun h => absurd h (show ¬ (6 : Int) = 3 by decide), List.Pairwise.nil, hz, hz2⟩
end Go.Proofs.YtbdgoffbkenofaaGreat.Sc
namespace Go.Proofs.YtbdgoffbkenofaaGreat.So
open Go Go.RowKit Go.Shelf Go.Sort Go.Lib Go.Proofs.YtbdgoffbkenofaaGreat.Tk Go.Proofs.YtbdgoffbkenofaaGreat.Tr
set_option linter.unusedVariables false
set_option linter.unusedSimpArgs false
set_option maxRecDepth 100000

def rkA (al : List At) : Array Rk := al.zipIdx.toArray
theorem rkA_size (al : List At) : (rkA al).size = al.length := by simp [rkA]
theorem rkA_get (al : List At) {i : Nat} (h : i < al.length) : (rkA al)[i]! = (al[i], i) := by
  rw [getElem!_pos (rkA al) i (by rw [rkA_size]; exact h)]
  simp [rkA]
theorem rkA_rkd (al : List At) : Rkd 0 (rkA al).size (rkA al) := fun i j _ h2 h3 => by
  rw [rkA_size] at h3
  rw [rkA_get al (by omega), rkA_get al h3]; exact h2
theorem flat_rk (al : List At) : flatK encR 2 (rkA al) = flatK encAt 2 al.toArray := by
  refine ext_get! (by simp [rkA_size]) fun t ht => ?_
  have ht' : t < al.length * 2 := by simpa [rkA_size] using ht
  rw [get_flatK encR 2 _ _ (by rw [rkA_size]; exact ht'), get_flatK encAt 2 _ _ (by simpa using ht'), rkA_get al (by omega)]
  have e : al.toArray[t / 2]! = al[t / 2]'(by omega) := by rw [getElem!_pos al.toArray (t / 2) (by simp; omega)]; simp
  rw [e]; rfl
/-- What attributes in order are: strictly by names; each one the first of its name; the first of each name. -/
structure SortedOf (al r : List At) : Prop where
  strict : Sc.StrictA r
  fst : ∀ x ∈ r, ∃ i : Nat, al[i]? = some x ∧ ∀ (j : Nat) (y : At), j < i → al[j]? = some y → y.1 ≠ x.1
  all : ∀ (i : Nat) (x : At), al[i]? = some x → (∀ (j : Nat) (y : At), j < i → al[j]? = some y → y.1 ≠ x.1) → x ∈ r
  len : r.length ≤ al.length
theorem lt_of_ne {x y : Rk} (h : Prec x y) (hn : y.1.1 ≠ x.1.1) : ltR x y = true := by
  rcases h with h | ⟨h, _⟩
  · exact h
  · rw [ltR_at, decide_eq_false_iff_not] at h
    rw [ltR_at, decide_eq_true_eq]
    rcases Classical.em (x.1.1.data.toList < y.1.1.data.toList) with c | c
    · exact c
    · exact absurd (Sr.bytes_eq.1 (List.le_antisymm (List.not_lt.1 c) (List.not_lt.1 h))) hn
theorem rank_of_eq {x y : Rk} (h : Prec x y) (he : x.1.1 = y.1.1) : x.2 < y.2 := by
  rcases h with h | ⟨_, h⟩
  · rw [ltR_at, decide_eq_true_eq, he] at h; exact absurd h (List.lt_irrefl _)
  · exact h
/-- What is kept. -/
def Kept (e : Array Rk) (j : Nat) : Prop := j = 0 ∨ e[j]!.1.1 ≠ e[j - 1]!.1.1
theorem kp_mem {e : Array Rk} : ∀ n x, x ∈ kp e n ↔ ∃ j, j < n ∧ Kept e j ∧ e[j]! = x
  | 0, x => by simp [kp]
  | n + 1, x => by
    have ih := kp_mem (e := e) n x
    by_cases h : Kept e n
    · rw [kp_yes h, List.mem_append, ih, List.mem_singleton]
      constructor
      · rintro (⟨j, h1, h2, h3⟩ | rfl)
        · exact ⟨j, by omega, h2, h3⟩
        · exact ⟨n, by omega, h, rfl⟩
      · rintro ⟨j, h1, h2, h3⟩
        by_cases c : j = n
        · subst c; exact .inr h3.symm
        · exact .inl ⟨j, by omega, h2, h3⟩
    · rw [kp_no h, ih]
      constructor
      · rintro ⟨j, h1, h2, h3⟩; exact ⟨j, by omega, h2, h3⟩
      · rintro ⟨j, h1, h2, h3⟩
        by_cases c : j = n
        · subst c; exact absurd h2 h
        · exact ⟨j, by omega, h2, h3⟩
theorem kp_strict {e : Array Rk} {N : Nat} (hs : Srt 0 N e) : ∀ n, n ≤ N → (kp e n).Pairwise fun x y => ltR x y = true
  | 0, _ => List.Pairwise.nil
  | n + 1, h => by
    have ih := kp_strict hs n (by omega)
    by_cases c : Kept e n
    · rw [kp_yes c, List.pairwise_append]
      refine ⟨ih, List.pairwise_singleton _ _, fun x hx y hy => ?_⟩
      rw [List.mem_singleton] at hy
      subst hy
      obtain ⟨j, hj, _, rfl⟩ := (kp_mem n x).1 hx
      rcases c with c | c
      · omega
      · have h1 : ltR e[n - 1]! e[n]! = true := lt_of_ne (hs (n - 1) n (by omega) (by omega) (by omega)) c
        rcases Nat.lt_or_ge j (n - 1) with d | d
        · have h2 := hs j (n - 1) (by omega) d (by omega)
          have h3 := h2.trans (.inl h1)
          rcases h3 with h3 | ⟨h3, _⟩
          · exact h3
          · cases h4 : ltR e[j]! e[n]! with
            | true => rfl
            | false =>
              rcases h2 with h2 | ⟨h2, _⟩
              · rw [swoR.trans _ _ _ h2 h1] at h4; cases h4
              · rw [swoR.ntrans _ _ _ h2 h4] at h1; cases h1
        · have : j = n - 1 := by omega
          rw [this]; exact h1
    · rw [kp_no c]; exact ih
theorem sorted_of {al : List At} {e : Array Rk} (h : Merged 0 (rkA al).size (rkA al) e) : SortedOf al ((kp e e.size).map Prod.fst) := by
  have hz : e.size = al.length := h.perm.1.trans (rkA_size al)
  have hs : Srt 0 e.size e := by have := h.srt; rwa [rkA_size, ← hz] at this
  have hp : e.toList.Perm al.zipIdx := by
    have := h.perm.2.2
    rw [show e.extract 0 (rkA al).size = e by rw [← h.perm.1]; simp] at this
    have e2 : ((rkA al).extract 0 (rkA al).size) = rkA al := by simp
    rw [e2] at this
    exact this
  have of_e : ∀ j, j < e.size → ∃ i, i < al.length ∧ al[i]? = some e[j]!.1 ∧ e[j]!.2 = i := fun j hj => by
    have hm : e[j]! ∈ al.zipIdx := hp.mem_iff.1 (by rw [getElem!_pos e j hj]; exact Array.getElem_mem_toList hj)
    obtain ⟨i, hi, ei⟩ := List.getElem_of_mem hm
    have hi' : i < al.length := by simpa using hi
    refine ⟨i, hi', ?_, ?_⟩
    · rw [← ei]; simp
    · rw [← ei]; simp
  have to_e : ∀ i x, al[i]? = some x → ∃ j, j < e.size ∧ e[j]! = (x, i) := fun i x hx => by
    obtain ⟨hi, rfl⟩ := List.getElem?_eq_some_iff.1 hx
    have hm : (al[i], i) ∈ e.toList := hp.mem_iff.2 (by
      have : al.zipIdx[i]'(by simpa using hi) = (al[i], i) := by simp
      rw [← this]; exact List.getElem_mem _)
    obtain ⟨j, hj, ej⟩ := List.getElem_of_mem hm
    have hj' : j < e.size := by simpa using hj
    exact ⟨j, hj', by rw [getElem!_pos e j hj', ← ej]; simp⟩
  refine ⟨?_, fun x hx => ?_, fun i x hx hf => ?_, ?_⟩
  · have := kp_strict hs e.size (Nat.le_refl _)
    unfold Sc.StrictA
    rw [List.pairwise_map]
    refine this.imp fun {x y} hxy => ?_
    rw [ltR_at] at hxy
    rw [Go.Proofs.bytesLess_eq]; exact hxy
  · obtain ⟨p, hp1, rfl⟩ := List.mem_map.1 hx
    obtain ⟨j, hj, hk, rfl⟩ := (kp_mem _ _).1 hp1
    obtain ⟨i, hi, hai, hri⟩ := of_e j hj
    refine ⟨i, hai, fun j2 y hj2 hy hne => ?_⟩
    obtain ⟨q, hq, eq⟩ := to_e j2 y hy
    have hqn : e[q]!.1.1 = e[j]!.1.1 := by rw [eq]; exact hne
    have hqr : e[q]!.2 < e[j]!.2 := by rw [eq, hri]; exact hj2
    have hqj : q < j := by
      rcases Nat.lt_trichotomy q j with c | c | c
      · exact c
      · subst c; omega
      · have := rank_of_eq (hs j q (Nat.zero_le _) c hq) hqn.symm
        omega
    rcases hk with hk | hk
    · omega
    · refine hk ?_
      have h1 : PrecE e[q]! e[j - 1]! := hs.le (Nat.zero_le _) (by omega) (by omega)
      have h2 := hs (j - 1) j (Nat.zero_le _) (by omega) hj
      refine Classical.byContradiction fun hne2 => ?_
      have h3 := lt_of_ne h2 hne2
      have h4 : ltR e[q]! e[j]! = true := by
        rcases h1 with h1 | h1
        · rw [h1]; exact h3
        · cases h5 : ltR e[q]! e[j]! with
          | true => rfl
          | false =>
            rcases h1 with h1 | ⟨h1, _⟩
            · rw [swoR.trans _ _ _ h1 h3] at h5; cases h5
            · rw [swoR.ntrans _ _ _ h1 h5] at h3; cases h3
      rw [ltR_at, hqn, decide_eq_true_eq] at h4
      exact List.lt_irrefl _ h4
  · obtain ⟨j, hj, ej⟩ := to_e i x hx
    refine List.mem_map.2 ⟨e[j]!, (kp_mem _ _).2 ⟨j, hj, ?_, rfl⟩, by rw [ej]⟩
    by_cases c : j = 0
    · exact .inl c
    · refine .inr fun hn => ?_
      obtain ⟨i2, hi2, hai2, hri2⟩ := of_e (j - 1) (by omega)
      have hr := rank_of_eq (hs (j - 1) j (Nat.zero_le _) (by omega) hj) hn.symm
      rw [hri2, ej] at hr
      refine hf i2 _ hr hai2 ?_
      rw [← hn, ej]
  · rw [List.length_map, ← hz]; exact kp_len e e.size
end Go.Proofs.YtbdgoffbkenofaaGreat.So
namespace Go.Proofs.YtbdgoffbkenofaaGreat.So
open Go Go.RowKit Go.Shelf Go.Sort Go.Lib Go.Proofs.YtbdgoffbkenofaaGreat.Tk Go.Proofs.YtbdgoffbkenofaaGreat.Tr
set_option linter.unusedVariables false
set_option linter.unusedSimpArgs false
set_option maxRecDepth 100000

set_option maxHeartbeats 4000000 in
theorem ssf_calls (g cap : Nat) (d : Array Rk) (w : World) (hH : HoldsK encR 2 w g 0 d) (hg : g < w.heap.size) (hn : d.size ≤ 50) (hr : Rkd 0 d.size d) :
    Calls Tryz.prog 30 #[.slice (some ⟨g, 0, none⟩) d.size cap, .func (.func 31) #[] #[]] w fun e w' => e = .returned (.tuple #[]) ∧ ∃ n os e', w' = SW w g n e' os ∧ Merged 0 d.size d e' := by
  have HC := Lib.hid (stable_calls g cap d w hH hg hn hr)
  clear hH hr
  go_enter Tryz.func30, Tryz.ntmps30
  go_wp2_with fail
  refine HC.out.mono ?_
  rintro e w' ⟨rfl, n, os, e', rfl, hm⟩
  have HM := Lib.hid hm
  clear hm HC
  go_wp2_with fail
  go_end0
  exact ⟨rfl, n, os, e', rfl, HM.out⟩
set_option maxHeartbeats 4000000 in
theorem ins_none (F : Value) (w : World) : Calls Tryz.prog 81 #[.slice none 0 0, .int .i64 0, .int .i64 0, F] w fun e w' => e = .returned (.tuple #[]) ∧ w' = w := by
  go_enter Tryz.func81, Tryz.ntmps81
  go_wp2_with fail
  go_loopw [8] (fun t8 wr => t8 = .int .i64 1 ∧ wr = w) (fun t8 _ => 0)
  case atStart => exact ⟨rfl, rfl⟩
  case round =>
    obtain ⟨rfl, rfl⟩ := hrel
    go_wp2_with fail
    go_end0
    exact ⟨rfl, rfl⟩
set_option maxHeartbeats 4000000 in
theorem stable_none (F : Value) (w : World) : Calls Tryz.prog 54 #[.slice none 0 0, .int .i64 0, F] w fun e w' => e = .returned (.tuple #[]) ∧ w' = w := by
  go_enter Tryz.func54, Tryz.ntmps54
  go_wp2_with fail
  go_loopw [7, 8] (fun t7 t8 wr => t7 = .int .i64 0 ∧ t8 = .int .i64 20 ∧ wr = w) (fun _ _ _ => 0)
  case atStart => exact ⟨rfl, rfl, rfl⟩
  case round =>
    obtain ⟨rfl, rfl, rfl⟩ := hrel
    go_wp2_with fail
    refine (ins_none _ _).mono ?_
    rintro e w' ⟨rfl, hw⟩
    obtain rfl := hw
    go_wp2_with fail
    go_loopw [6] (fun t6 wr => t6 = .int .i64 20 ∧ wr = w') (fun _ _ => 0)
    case atStart => exact ⟨rfl, rfl⟩
    case round =>
      obtain ⟨rfl, rfl⟩ := hrel
      go_wp2_with fail
      go_end0
      exact ⟨rfl, rfl⟩
set_option maxHeartbeats 4000000 in
theorem ssf_none (F : Value) (w : World) : Calls Tryz.prog 30 #[.slice none 0 0, F] w fun e w' => e = .returned (.tuple #[]) ∧ w' = w := by
  go_enter Tryz.func30, Tryz.ntmps30
  go_wp2_with fail
  refine (stable_none _ _).mono ?_
  rintro e w' ⟨rfl, hw⟩
  obtain rfl := hw
  go_wp2_with fail
  go_end0
  exact ⟨rfl, rfl⟩
set_option maxHeartbeats 4000000 in
theorem compact_none (F : Value) (w : World) : Calls Tryz.prog 33 #[.slice none 0 0, F] w fun e w' => e = .returned (.slice none 0 0) ∧ w' = w := by
  go_enter Tryz.func33, Tryz.ntmps33
  go_wp2_with fail
  go_ret
  exact ⟨rfl, rfl⟩
def SortEnd (al : List At) (w : World) (e : Ending) (w' : World) : Prop :=
  ∃ r A ac, e = .returned (.slice A r.length ac) ∧ IsAttrs w' w'.heap.size r A ac ∧ Below w.heap.size w w' ∧ SortedOf al r
theorem sorted_nil : SortedOf [] [] := ⟨List.Pairwise.nil, fun x h => absurd h List.not_mem_nil, fun i x h => by simp at h, Nat.le_refl _⟩
theorem sort_end {al : List At} {w w1 w3 : World} {g cap n : Nat} {e : Array Rk} {os : Array Obj} {ee : Ending} (hb : Below w.heap.size w w1) (hgw : w.heap.size ≤ g) (hg1 : g < w1.heap.size) (hcap : al.length ≤ cap) (hcm : cap ≤ maxLen) (h3 : ∀ a ∈ al, a.1.size ≤ maxLen ∧ a.2.size ≤ maxLen) (hm : Merged 0 (rkA al).size (rkA al) e) (hc : CpEnd e g cap (SW w1 g n e os) ee w3) : SortEnd al w ee w3 := by
  obtain ⟨h1, h2, h4⟩ := hc
  have hs := sorted_of hm
  have hz : e.size = al.length := hm.perm.1.trans (rkA_size al)
  have hlen : ((kp e e.size).map Prod.fst).length = (kp e e.size).length := List.length_map ..
  have hf := SW_fr (w := w1) (g := g) n e os
  refine ⟨(kp e e.size).map Prod.fst, some ⟨g, 0, none⟩, cap, by rw [h1, hlen], ⟨Nat.le_trans hs.len hcap, hcm, fun a ha => ?_, fun _ => ⟨g, 0, rfl, Nat.lt_of_lt_of_le hg1 (Nat.le_trans hf.size h4.size), fun i x hx => ?_⟩⟩, ⟨h4.os.trans (hf.os.trans hb.os), h4.tape.trans (hf.tape.trans hb.tape), h4.output.trans (hf.output.trans hb.output), Nat.le_trans hb.size (Nat.le_trans hf.size h4.size), fun k hk => ?_⟩, hs⟩
  · obtain ⟨i, hi, _⟩ := hs.fst a ha
    exact h3 a (List.mem_of_getElem? hi)
  · rw [List.getElem?_map] at hx
    obtain ⟨p, hp, rfl⟩ := Option.map_eq_some_iff.1 hx
    obtain ⟨hi, rfl⟩ := List.getElem?_eq_some_iff.1 hp
    have := h2 i hi
    rw [getElem!_pos (kp e e.size) i hi] at this
    rw [Nat.zero_add]
    exact this
  · have hkg : ¬ k = g := by omega
    have k1 : k < w1.heap.size := by omega
    exact (h4.block k (Nat.lt_of_lt_of_le k1 hf.size) hkg).trans ((hf.block k k1 hkg).trans (hb.block k hk))
set_option maxHeartbeats 8000000 in
theorem sort_calls (al : List At) (A : Option Addr) (ac B : Nat) (w : World) (h : IsAttrs w B al A ac) (hB : B ≤ w.heap.size) (hl : al.length ≤ 50) :
    Calls Tryz.prog 20 #[.slice A al.length ac] w (SortEnd al w) := by
  have H3 := Lib.hid h.2.2.1
  have HC := Lib.hid (clone_calls al A ac B w h hB (by omega))
  clear h
  go_enter Tryz.func20, Tryz.ntmps20
  go_wp2_with fail
  refine HC.out.mono ?_
  rintro e w1 ⟨v, rfl, hrow, hb⟩
  have HB := Lib.hid hb
  rcases hrow.2 with ⟨hv, hnil⟩ | ⟨g, cap, cur, hv, hgb, hblk, hc1, hc2, hc3, hx⟩
  · have h0 : al = [] := List.eq_nil_of_length_eq_zero hnil
    subst h0; subst hv
    clear hrow hb hnil HC
    go_wp2_with fail
    refine (ssf_none _ _).mono ?_
    rintro e w2 ⟨rfl, hw2⟩
    obtain rfl := hw2
    go_wp2_with fail
    refine (compact_none _ _).mono ?_
    rintro e w3 ⟨rfl, hw3⟩
    obtain rfl := hw3
    go_wp2_with fail
    go_ret
    exact ⟨[], none, 0, rfl, isAttrs_nil _ _, HB.out, sorted_nil⟩
  · subst hv
    have hg1 := lt_of_block hblk
    have hH := holds_at (acc := al) hrow.1 hblk hx
    have hHR : HoldsK encR 2 w1 g 0 (rkA al) := by
      unfold HoldsK at hH ⊢
      rw [flat_rk]; exact hH
    have HS := Lib.hid (ssf_calls g cap (rkA al) w1 hHR hg1 (by rw [rkA_size]; exact hl) (rkA_rkd al))
    rw [rkA_size] at HS
    have HCC := Lib.hid (fun n e os (hm : Merged 0 (rkA al).size (rkA al) e) => show Calls Tryz.prog 33 #[.slice (some ⟨g, 0, none⟩) al.length cap, .func (.func 34) #[] #[]] (SW w1 g n e os) (CpEnd e g cap (SW w1 g n e os)) from by
      have hz : e.size = al.length := hm.perm.1.trans (rkA_size al)
      obtain ⟨q1, q2⟩ := SW_holds hHR hg1 n e os hm.perm.1
      rw [← hz]
      exact compact_calls g cap e _ q1 q2 (by omega) hc2 (by omega))
    have HCAP := Lib.hid hc1
    have HCM := Lib.hid hc2
    have HGB := Lib.hid hgb
    clear hrow hb hH hHR hx hc3 hblk HC hc1 hc2
    go_wp2_with fail
    refine HS.out.mono ?_
    rintro e w2 ⟨rfl, n, os, e, rfl, hm⟩
    have HM := Lib.hid (show Merged 0 (rkA al).size (rkA al) e from by rw [rkA_size]; exact hm)
    have HC2 := Lib.hid (HCC.out n e os HM.out)
    have HFIN := Lib.hid (fun ee w3 hc => sort_end (ee := ee) (w3 := w3) HB.out HGB.out hg1 HCAP.out HCM.out H3.out HM.out (n := n) (os := os) hc)
    clear hm HS HCC
    generalize SW w1 g n e os = wq at *
    go_wp2_with fail
    refine HC2.out.mono ?_
    rintro ee w3 hc
    have HE := Lib.hid (HFIN.out ee w3 hc)
    have hee := hc.1
    subst hee
    clear hc
    go_wp2_with fail
    go_ret
    exact HE.out
end Go.Proofs.YtbdgoffbkenofaaGreat.So
