/- ScanCuts, walked (by gen_lc.py). -/
import Derived.Test.YtbdgoffbkenofaaGreatScA
import Derived.Test.YtbdgoffbkenofaaGreatTkPu
import Derived.Test.YtbdgoffbkenofaaGreatTkPb
import Derived.Test.YtbdgoffbkenofaaGreatTkR
namespace Go.Proofs.YtbdgoffbkenofaaGreat.Sc
open Go Go.RowKit Go.Shelf Go.Sort Go.Proofs.YtbdgoffbkenofaaGreat.Tk Go.Proofs.YtbdgoffbkenofaaGreat.Ct
set_option linter.unusedVariables false

/-! ### What is decoded is not empty -/
theorem encPos (v : Int) : 0 < (Utf8.encode v).size := by
  unfold Utf8.encode
  dsimp only
  repeat' split
  all_goals simp [ByteArray.size]
theorem rfindPos {name v : ByteArray} (h : rfind name = some v) : 0 < v.size := by
  rw [rfind_is] at h
  have hm := assoc_mem h
  have key : ∀ p ∈ rpairs, 0 < p.2.size := by decide +kernel
  exact key _ hm
theorem lonPos (s : ByteArray) (k : Nat) : ∀ n, 0 < (lon s k n).1 → 0 < (lon s k n).2.size
  | 0, h => by rw [lon_zero] at h; exact absurd h (Nat.lt_irrefl _)
  | n + 1, h0 => by
    cases h : rfind (s.extract k (k + (n + 1))) with
    | some v => rw [lon_hit h]; exact rfindPos h
    | none => rw [lon_miss h] at h0 ⊢; exact lonPos s k n h0
theorem numAtPos (s : ByteArray) (f : Nat) (hex : Bool) (k : Nat) : 0 < (Ch.numAt s f hex k).1.size := by
  obtain ⟨⟨v, n⟩, hR⟩ : ∃ r, Ch.numL hex (s.data.toList.drop f) 0 = r := ⟨_, rfl⟩
  by_cases h0 : n = 0
  · rw [Ch.numAt_no ((congrArg Prod.snd hR).trans h0)]; decide
  · rw [Ch.numAt_yes (by omega) hR rfl]; exact encPos _
theorem numVPos (s : ByteArray) (k : Nat) : 0 < (Ch.numV s k).1.size := by
  cases h : Ch.hexAt s (k + 2) with
  | false => rw [Ch.numV_dec h]; exact numAtPos _ _ _ _
  | true => rw [Ch.numV_hex h]; exact numAtPos _ _ _ _
theorem refIPos {s : ByteArray} {k : Nat} {attr : Bool} (hk : k < s.size) (h : s[k].toNat = 38) : 0 < (Ch.refI s k attr).1.size := by
  rw [Ch.refI_yes hk h]
  unfold Ch.refV
  split
  · exact numVPos _ _
  · split
    · decide
    · rename_i h1
      split
      · decide
      · have e := longest_in s (k + 1) (by omega)
        rw [show (((k + 1 : Nat)) : Int) = (k : Int) + 1 by omega] at e
        rw [e] at h1 ⊢
        exact lonPos _ _ _ (by omega)
theorem decPos {s : ByteArray} {attr : Bool} (h : 0 < s.size) : Ch.decB s attr ≠ ⟨#[]⟩ := by
  intro e
  have e1 : (Ch.decB s attr).data.toList = [] := by rw [e]
  unfold Ch.decB at e1
  by_cases h38 : s[0].toNat = 38
  · have hp := refIPos (attr := attr) h h38
    rw [Ch.decK_ref h h38] at e1
    have e2 : (Ch.refI s (0 : Nat) attr).1.data.toList = [] := (List.append_eq_nil_iff.1 (by simpa using e1)).1
    have e3 : (Ch.refI s (0 : Nat) attr).1.data.toList.length = 0 := by rw [e2]; rfl
    exact absurd (show (Ch.refI s (0 : Nat) attr).1.size = 0 from e3) (by omega)
  · rw [Ch.decK_one h h38] at e1
    simp at e1
theorem size_pos_ne {s : ByteArray} (h : 0 < s.size) : s ≠ ⟨#[]⟩ := fun e => by rw [e] at h; exact absurd h (by decide)
/-! ### Names -/
theorem lowNameB (c : UInt8) : Ru.lowB (nameB (Ru.lowB c)) = nameB (Ru.lowB c) := by
  have key : ∀ n, n < 256 → Ru.lowB (nameB (Ru.lowB (UInt8.ofNat n))) = nameB (Ru.lowB (UInt8.ofNat n)) := by decide +kernel
  have := key c.toNat c.toNat_lt
  rwa [UInt8.ofNat_toNat] at this
theorem lowNamed (s : ByteArray) : lowS (namedP s) = namedP s := by
  apply Sr.bytes_eq.1
  show (Ru.lower (((Ru.lower s.data.toList).map nameB).toArray.toList)).toArray.toList = ((Ru.lower s.data.toList).map nameB).toArray.toList
  simp only [Ru.lower, List.map_map]
  refine List.map_congr_left fun c _ => ?_
  exact lowNameB c
/-! ### Attributes in order -/
/-- By their names, each once. -/
def StrictA (l : List At) : Prop := l.Pairwise fun x y => Op.bytesLess x.1.data.toList y.1.data.toList = true
theorem hasName_iff {l : List At} {n : ByteArray} : hasName l n = true ↔ ∃ x ∈ l, x.1 = n := by
  unfold hasName; rw [List.any_eq_true]; simp only [decide_eq_true_eq]
theorem attrsP_uniq {s : ByteArray} {start : Bool} : ∀ {n e : Nat} {acc l : List At} {k : Nat}, attrsP s start n e acc = some (l, k) → acc.Pairwise (fun x y => x.1 ≠ y.1) → l.Pairwise (fun x y => x.1 ≠ y.1)
  | 0, e, acc, l, k, h, _ => by unfold attrsP at h; cases h
  | n + 1, e, acc, l, k, h, hp => by
    unfold attrsP at h
    dsimp only at h
    split at h
    · cases h
    · split at h
      · injection h with h; injection h with h _; rw [← h]; exact hp
      · split at h
        · cases h
        · refine attrsP_uniq h ?_
          split
          · rename_i hc
            rw [Bool.and_eq_true] at hc
            rw [List.pairwise_append]
            refine ⟨hp, List.pairwise_singleton _ _, fun a ha b hb => ?_⟩
            rw [List.mem_singleton] at hb
            subst hb
            intro ex
            have := hasName_iff.2 ⟨a, ha, ex⟩
            rw [this] at hc
            exact absurd hc.2 (by decide)
          · exact hp
theorem attrsP_end {s : ByteArray} : ∀ {n e : Nat} {acc l : List At} {k : Nat}, attrsP s false n e acc = some (l, k) → l = acc
  | 0, e, acc, l, k, h => by unfold attrsP at h; cases h
  | n + 1, e, acc, l, k, h => by
    unfold attrsP at h
    dsimp only at h
    split at h
    · cases h
    · split at h
      · injection h with h; injection h with h _; exact h.symm
      · split at h
        · cases h
        · have := attrsP_end h
          simpa using this
theorem leB_iff (x y : ByteArray) : leB x y = true ↔ ¬ y.data.toList < x.data.toList := by
  unfold leB; rw [bytesLess_eq]; simp
theorem sort_strict {l : List At} (hu : l.Pairwise fun x y => x.1 ≠ y.1) : StrictA (sortP l) := by
  have q : (sortP l).Perm l := List.mergeSort_perm _ _
  have hu' : (sortP l).Pairwise fun x y => x.1 ≠ y.1 := (q.pairwise_iff (fun h => Ne.symm h)).2 hu
  have hs : (sortP l).Pairwise fun x y => leB x.1 y.1 = true := by
    refine List.pairwise_mergeSort ?_ ?_ l
    · intro a b c h1 h2
      rw [leB_iff] at *
      exact fun h => absurd (List.le_trans (List.not_lt.1 h1) (List.not_lt.1 h2)) (List.not_le.2 h)
    · intro a b
      rw [Bool.or_eq_true, leB_iff, leB_iff]
      rcases List.le_total a.1.data.toList b.1.data.toList with h | h
      · exact .inl (List.not_lt.2 h)
      · exact .inr (List.not_lt.2 h)
  refine (hs.and hu').imp fun {x y} h => ?_
  have h1 := List.not_lt.1 ((leB_iff _ _).1 h.1)
  rw [bytesLess_eq, decide_eq_true_eq]
  rcases Classical.em (x.1.data.toList < y.1.data.toList) with h2 | h2
  · exact h2
  · exact absurd (Sr.bytes_eq.1 (List.le_antisymm h1 (List.not_lt.1 h2))) h.2
/-! ### Each piece -/
/-- What a piece but the end is. -/
structure GoodT (t : Tok) : Prop where
  k1 : 1 ≤ t.kind
  k5 : t.kind ≤ 5
  nm : t.kind = 1 → t.name ≠ ⟨#[]⟩
  lo : t.kind = 1 → lowS t.name = t.name
  en : t.kind ≠ 1 → t.attrs = []
  tx : t.kind = 3 → t.text ≠ ⟨#[]⟩
  so : StrictA t.attrs
theorem good_plain {t : Tok} (h : t.kind = 4 ∨ t.kind = 5) (ha : t.attrs = []) : GoodT t :=
  ⟨by omega, by omega, fun h' => by omega, fun h' => by omega, fun _ => ha, fun h' => by omega, by rw [ha]; exact List.Pairwise.nil⟩
theorem good_text {t : ByteArray} {raw : Bool} (h : t ≠ ⟨#[]⟩) : GoodT (textTok t raw) :=
  ⟨show (1 : Int) ≤ 3 by decide, show (3 : Int) ≤ 5 by decide, fun h' => absurd h' (show ¬ (3 : Int) = 1 by decide), fun h' => absurd h' (show ¬ (3 : Int) = 1 by decide), fun _ => rfl, fun _ => h, List.Pairwise.nil⟩
theorem tag_good {s : ByteArray} {a : Nat} {start : Bool} (hl : letterAt s a = true) (hy : (tagP s a start).2.2 = true) : GoodT (tagP s a start).1 := by
  have hlt := letter_lt hl
  have hlet := (letter_at.1 hl).2
  unfold tagP at hy ⊢
  dsimp only at hy ⊢
  have hup : a < upT closesN s a := by
    have hc : closesN (bAt s a) = false := by
      have : bAt s a < 256 := bAt_lt s a
      revert hlet
      generalize bAt s a = c at *
      unfold letterN closesN blankN
      intro h
      have h' := of_decide_eq_true h
      simp only [Bool.or_eq_false_iff, decide_eq_false_iff_not]
      omega
    rw [upT_next hlt hc]
    have := upT_ge closesN s (a + 1)
    omega
  have hsz : 0 < (s.extract a (upT closesN s a)).size := by
    rw [ByteArray.size_extract]
    have := upT_le closesN (s := s) (a := a) (by omega)
    omega
  generalize s.extract a (upT closesN s a) = nm at *
  split at hy
  · cases hy
  · rename_i l e2 h
    dsimp only
    cases start with
    | true =>
      refine ⟨show (1 : Int) ≤ 1 by decide, show (1 : Int) ≤ 5 by decide, fun _ => ?_, fun _ => ?_, fun h' => absurd rfl h', fun h' => absurd h' (show ¬ (1 : Int) = 3 by decide), sort_strict (attrsP_uniq h List.Pairwise.nil)⟩
      · exact size_pos_ne (by show 0 < (namedP nm).size; rw [namedP_size]; exact hsz)
      · exact lowNamed nm
    | false =>
      have hn : l = [] := attrsP_end h
      subst hn
      refine ⟨show (1 : Int) ≤ 2 by decide, show (2 : Int) ≤ 5 by decide, fun h' => absurd h' (show ¬ (2 : Int) = 1 by decide), fun h' => absurd h' (show ¬ (2 : Int) = 1 by decide), fun _ => ?_, fun h' => absurd h' (show ¬ (2 : Int) = 3 by decide), ?_⟩
      · show sortP [] = []
        exact List.mergeSort_nil
      · exact sort_strict List.Pairwise.nil
theorem comment_good (s : ByteArray) (a : Nat) : GoodT (commentP s a).1 := by
  have h : (commentP s a).1.kind = 4 ∧ (commentP s a).1.attrs = [] := by
    unfold commentP
    dsimp only
    repeat' split
    all_goals exact ⟨rfl, rfl⟩
  exact good_plain (.inl h.1) h.2
theorem next_good {s raw : ByteArray} {a : Nat} (ha : a < s.size) (hy : (nextP s a raw).2.2 = true) : GoodT (nextP s a raw).1 := by
  unfold nextP at hy ⊢
  by_cases c1 : s.size ≤ a
  · omega
  rw [if_neg c1] at hy ⊢
  by_cases c2 : raw ≠ ⟨#[]⟩ ∧ a < rawEndP s a raw
  · rw [if_pos c2] at hy ⊢
    have hle : rawEndP s a raw ≤ s.size := by have := upI_le (rawOk s raw) (s.size - a) a; unfold rawEndP; omega
    have hz : 0 < (s.extract a (rawEndP s a raw)).size := by rw [ByteArray.size_extract]; omega
    refine good_text ?_
    split
    · exact decPos hz
    · exact size_pos_ne hz
  rw [if_neg c2] at hy ⊢
  by_cases c3 : bAt s a ≠ 60
  · rw [if_pos c3] at hy ⊢
    have h1 := upT_le (fun c => decide (c = 60) || (blankN c != blankN (bAt s a))) (s := s) (a := a) (by omega)
    have h2 : a + 1 ≤ upT (fun c => decide (c = 60) || (blankN c != blankN (bAt s a))) s a := by
      rw [upT_next ha (by simp [c3])]
      exact upT_ge _ _ _
    exact good_text (decPos (by rw [ByteArray.size_extract]; omega))
  rw [if_neg c3] at hy ⊢
  by_cases c4 : letterAt s (a + 1) = true
  · rw [if_pos c4] at hy ⊢; exact tag_good c4 hy
  rw [if_neg c4] at hy ⊢
  by_cases c5 : (startsP s a ⟨#[60, 47]⟩ && letterAt s (a + 2)) = true
  · rw [if_pos c5] at hy ⊢; rw [Bool.and_eq_true] at c5; exact tag_good c5.2 hy
  rw [if_neg c5] at hy ⊢
  by_cases c6 : startsP s a ⟨#[60, 33, 45, 45]⟩ = true
  · rw [if_pos c6] at hy ⊢; exact comment_good _ _
  rw [if_neg c6] at hy ⊢
  by_cases c7 : startsP s a ⟨#[60, 33, 100, 111, 99, 116, 121, 112, 101]⟩ = true
  · rw [if_pos c7] at hy ⊢; exact good_plain (.inr rfl) rfl
  rw [if_neg c7] at hy ⊢
  by_cases c8 : startsP s a ⟨#[60, 47, 62]⟩ = true
  · rw [if_pos c8] at hy; cases hy
  rw [if_neg c8] at hy ⊢
  by_cases c9 : startsP s a ⟨#[60, 63]⟩ = true
  · rw [if_pos c9] at hy ⊢; exact good_plain (.inl rfl) rfl
  rw [if_neg c9] at hy ⊢
  by_cases c10 : (startsP s a ⟨#[60, 33]⟩ || (startsP s a ⟨#[60, 47]⟩ && decide (a + 2 < s.size))) = true
  · rw [if_pos c10] at hy ⊢; exact good_plain (.inl rfl) rfl
  rw [if_neg c10] at hy ⊢
  exact good_text (by decide)
theorem pcsF_good (s : ByteArray) : ∀ n a raw, ∃ xs, pcsF s n a raw = xs ++ [tokE] ∧ ∀ x ∈ xs, GoodT x
  | 0, a, raw => ⟨[], rfl, fun x hx => absurd hx List.not_mem_nil⟩
  | n + 1, a, raw => by
    unfold pcsF
    by_cases h : s.size ≤ a
    · rw [if_pos h]; exact ⟨[], rfl, fun x hx => absurd hx List.not_mem_nil⟩
    · rw [if_neg h]
      by_cases hy : (nextP s a raw).2.2 = true
      · rw [if_pos hy]
        obtain ⟨xs, e, hx⟩ := pcsF_good s n (nextP s a raw).2.1 (rawNx raw (nextP s a raw).1)
        refine ⟨(nextP s a raw).1 :: xs, by rw [e]; rfl, fun x hm => ?_⟩
        rcases List.mem_cons.1 hm with rfl | hm
        · exact next_good (by omega) hy
        · exact hx x hm
      · rw [if_neg hy]
        exact pcsF_good s n _ _
theorem pcsF_names (s : ByteArray) : ∀ n a raw, ∀ x ∈ pcsF s n a raw, x.name.size ≤ s.size
  | 0, a, raw => fun x hx => by
    unfold pcsF at hx
    rw [List.mem_singleton] at hx
    subst hx
    exact Nat.zero_le _
  | n + 1, a, raw => fun x hx => by
    unfold pcsF at hx
    split at hx
    · rw [List.mem_singleton] at hx
      subst hx
      exact Nat.zero_le _
    · split at hx
      · rcases List.mem_cons.1 hx with rfl | hx
        · exact next_name _ _ _
        · exact pcsF_names s n _ _ x hx
      · exact pcsF_names s n _ _ x hx
theorem attrsP_len {s : ByteArray} {start : Bool} : ∀ {n e : Nat} {acc l : List At} {k : Nat}, attrsP s start n e acc = some (l, k) → l.length ≤ acc.length + n
  | 0, e, acc, l, k, h => by unfold attrsP at h; cases h
  | n + 1, e, acc, l, k, h => by
    unfold attrsP at h
    dsimp only at h
    split at h
    · cases h
    · split at h
      · injection h with h; injection h with h _; rw [h]; omega
      · split at h
        · cases h
        · have := attrsP_len h
          split at this
          · simp at this; omega
          · omega
theorem next_attrs (s raw : ByteArray) (a : Nat) : (nextP s a raw).1.attrs.length ≤ s.size + 1 := by
  have tg : ∀ b st, (tagP s b st).1.attrs.length ≤ s.size + 1 := fun b st => by
    unfold tagP
    dsimp only
    split
    · exact Nat.zero_le _
    · rename_i l e2 h
      have := attrsP_len h
      show (sortP l).length ≤ _
      unfold sortP
      rw [List.length_mergeSort]
      simp at this; omega
  have cm : ∀ b, (commentP s b).1.attrs = [] := fun b => by
    unfold commentP
    dsimp only
    repeat' split
    all_goals rfl
  have z : ∀ t : Tok, t.attrs = [] → t.attrs.length ≤ s.size + 1 := fun t h => by rw [h]; exact Nat.zero_le _
  unfold nextP
  dsimp only
  repeat' split
  all_goals first | exact tg _ _ | exact z _ (cm _) | exact z _ rfl
theorem pcsF_attrs (s : ByteArray) : ∀ n a raw, ∀ x ∈ pcsF s n a raw, x.attrs.length ≤ s.size + 1
  | 0, a, raw => fun x hx => by
    unfold pcsF at hx
    rw [List.mem_singleton] at hx
    subst hx
    exact Nat.zero_le _
  | n + 1, a, raw => fun x hx => by
    unfold pcsF at hx
    split at hx
    · rw [List.mem_singleton] at hx
      subst hx
      exact Nat.zero_le _
    · split at hx
      · rcases List.mem_cons.1 hx with rfl | hx
        · exact next_attrs _ _ _
        · exact pcsF_attrs s n _ _ x hx
      · exact pcsF_attrs s n _ _ x hx
theorem pcsF_len (s : ByteArray) : ∀ n a raw, (pcsF s n a raw).length ≤ n + 1
  | 0, a, raw => Nat.le_refl _
  | n + 1, a, raw => by
    unfold pcsF
    split
    · simp
    · split
      · have := pcsF_len s n (nextP s a raw).2.1 (rawNx raw (nextP s a raw).1); simp; omega
      · have := pcsF_len s n (nextP s a raw).2.1 raw; omega
theorem pcsP_len (s : ByteArray) (a : Nat) (raw : ByteArray) : (pcsP s a raw).length ≤ s.size + 1 := by
  have := pcsF_len s (s.size - a) a raw
  unfold pcsP; omega
/-- All pieces but the last one are such, and the last one is the end. -/
theorem pcsP_good (s : ByteArray) (a : Nat) (raw : ByteArray) : ∃ xs, pcsP s a raw = xs ++ [tokE] ∧ ∀ x ∈ xs, GoodT x := pcsF_good s _ a raw
/-- What ScanEnds asks of each piece. -/
structure EndOk (x : Tok) (n j N : Nat) : Prop where
  ends : x.kind = 6 ↔ j + 1 = n
  low : 1 ≤ x.kind
  hi : x.kind ≤ 6
  nm : x.kind = 1 → x.name ≠ ⟨#[]⟩
  lo : x.kind = 1 → lowS x.name = x.name
  en : x.kind ≠ 1 → x.attrs = []
  tx : x.kind = 3 → x.text ≠ ⟨#[]⟩
  so : StrictA x.attrs
  sz : x.name.size ≤ N
  sz2 : x.attrs.length ≤ N + 1
theorem end_ok (s : ByteArray) : ∃ n, (pcsP s 0 ⟨#[]⟩).length = n ∧ 1 ≤ n ∧ n ≤ s.size + 1 ∧ ∀ j x, (pcsP s 0 ⟨#[]⟩)[j]? = some x → EndOk x n j s.size := by
  obtain ⟨ys, e, h⟩ := pcsP_good s 0 ⟨#[]⟩
  have hl : (pcsP s 0 ⟨#[]⟩).length = ys.length + 1 := by rw [e]; simp
  have hle := pcsP_len s 0 ⟨#[]⟩
  refine ⟨_, hl, by omega, by omega, fun j x hx => ?_⟩
  have hz := pcsF_names s _ 0 ⟨#[]⟩ x (List.mem_of_getElem? hx)
  have hz2 := pcsF_attrs s _ 0 ⟨#[]⟩ x (List.mem_of_getElem? hx)
  rw [e] at hx
  rcases Nat.lt_or_ge j ys.length with hj | hj
  · rw [List.getElem?_append_left hj] at hx
    have g := h x (List.mem_of_getElem? hx)
    have := g.k1
    have := g.k5
    exact ⟨by omega, g.k1, by omega, g.nm, g.lo, g.en, g.tx, g.so, hz, hz2⟩
  · rw [List.getElem?_append_right hj] at hx
    have e : j - ys.length = 0 := by
      rcases Nat.lt_or_ge (j - ys.length) 1 with h | h
      · omega
      · rw [List.getElem?_eq_none (by simpa using h)] at hx; cases hx
    rw [e] at hx
    have ex : tokE = x := by simpa using hx
    subst ex
    exact ⟨⟨fun _ => by omega, fun _ => rfl⟩, by decide, by decide, fun h => absurd h (show ¬ (6 : Int) = 1 by decide), fun h => absurd h (show ¬ (6 : Int) = 1 by decide), fun _ => rfl, fun h => absurd h (show ¬ (6 : Int) = 3 by decide), List.Pairwise.nil, hz, hz2⟩
end Go.Proofs.YtbdgoffbkenofaaGreat.Sc
namespace Go.Proofs.YtbdgoffbkenofaaGreat.Sc
open Go Go.RowKit Go.Proofs.YtbdgoffbkenofaaGreat.Tk
set_option linter.unusedVariables false

def gtB : ByteArray := ⟨#[62]⟩
/-- <n> or </n>, at a place. -/
theorem tag_plain {S n : ByteArray} {a : Nat} (start : Bool) (hn : NameOk n) (H0 : Has S a (preB start)) (H1 : Has S (a + (preB start).size) n) (H2 : Has S (a + (preB start).size + n.size) gtB) :
    nextP S a ⟨#[]⟩ = (⟨if start then 1 else 2, n, ⟨#[]⟩, [], false⟩, a + (preB start).size + n.size + 1, true) := by
  have hp := hn.pos
  have hz := H2.le
  have zg : gtB.size = 1 := rfl
  have he : upT closesN S (a + (preB start).size) = a + (preB start).size + n.size := upT_eq (by omega) (by omega) (fun j h1 h2 => by
    rw [H1.one (i := j - (a + (preB start).size)) (by omega) (by omega)]
    exact (hn.ok _ (by omega)).1) (fun _ => by rw [H2.one (i := 0) (by decide) (by omega)]; decide)
  have h62 : bAt S (a + (preB start).size + n.size) = 62 := (H2.one (i := 0) (by decide) (by omega)).trans (by decide)
  have hg : upT (fun c => !blankN c && !decide (c = 47)) S (a + (preB start).size + n.size) = a + (preB start).size + n.size := upT_eq (Nat.le_refl _) (by omega) (fun j h1 h2 => by omega) (fun _ => by rw [h62]; decide)
  have hnm : namedP (S.extract (a + (preB start).size) (a + (preB start).size + n.size)) = n := by
    rw [H1.ext]
    exact named_plain rfl (fun i hi => (hn.ok i hi).2.1) (fun i hi => (hn.ok i hi).2.2)
  have hat : attrsP S start (S.size + 1 - (a + (preB start).size + n.size)) (a + (preB start).size + n.size) [] = some ([], a + (preB start).size + n.size) := by
    rw [show S.size + 1 - (a + (preB start).size + n.size) = (S.size - (a + (preB start).size + n.size)) + 1 by omega]
    unfold attrsP
    dsimp only
    rw [hg, if_neg (by omega), if_pos h62]
  have ht : tagP S (a + (preB start).size) start = (⟨if start then 1 else 2, n, ⟨#[]⟩, [], false⟩, a + (preB start).size + n.size + 1, true) := by
    unfold tagP
    dsimp only
    rw [he, hat, hnm]
    show ((⟨if start then 1 else 2, n, ⟨#[]⟩, sortP [], false⟩, a + (preB start).size + n.size + 1, true) : Out) = _
    rw [show sortP [] = [] from List.mergeSort_nil]
  rw [← ht]
  cases start with
  | true =>
    have z : (preB true).size = 1 := rfl
    rw [z] at H1 ⊢
    exact next_start ((H0.one (i := 0) (by decide) (by omega)).trans (by decide)) (letter_at.2 ⟨by omega, by rw [H1.one (i := 0) hp (by omega)]; exact hn.let_⟩)
  | false =>
    have z : (preB false).size = 2 := rfl
    rw [z] at H1 ⊢
    exact next_close ((H0.one (i := 0) (by decide) (by omega)).trans (by decide)) ((H0.one (i := 1) (by decide) (by omega)).trans (by decide)) (letter_at.2 ⟨by omega, by rw [H1.one (i := 0) hp (by omega)]; exact hn.let_⟩)
end Go.Proofs.YtbdgoffbkenofaaGreat.Sc
namespace Go.Proofs.YtbdgoffbkenofaaGreat.Sc
open Go Go.RowKit Go.Lib Go.Proofs.YtbdgoffbkenofaaGreat.Tk
set_option linter.unusedVariables false

theorem clean_one : ∀ n, n < 128 → n ≠ 0 → n ≠ 13 → validD [UInt8.ofNat n] = true ∧ Rc.clean [UInt8.ofNat n] = [UInt8.ofNat n] := by decide +kernel
theorem clean_plain : ∀ l : List UInt8, (∀ x ∈ l, x.toNat < 128 ∧ x.toNat ≠ 0 ∧ x.toNat ≠ 13) → Rc.clean l = l
  | [], _ => rfl
  | c :: b, h => by
    obtain ⟨h1, h2, h3⟩ := h c (List.mem_cons_self ..)
    obtain ⟨k1, k2⟩ := clean_one c.toNat h1 h2 h3
    have e : UInt8.ofNat c.toNat = c := UInt8.ofNat_toNat
    rw [e] at k1 k2
    have hl : [c].getLast? ≠ some 13 := by
      intro x; simp at x; rw [x] at h3; exact h3 rfl
    have := Rc.clean_append b [c] k1 hl
    rw [k2, clean_plain b (fun x hx => h x (List.mem_cons_of_mem _ hx))] at this
    exact this
theorem cleanB_plain {s : ByteArray} (h : ∀ i, i < s.size → bAt s i < 128 ∧ bAt s i ≠ 0 ∧ bAt s i ≠ 13) : cleanB s = s := by
  apply Sr.bytes_eq.1
  show Rc.clean s.data.toList = s.data.toList
  refine clean_plain _ fun x hx => ?_
  obtain ⟨i, hi, rfl⟩ := List.getElem_of_mem hx
  have hi' : i < s.size := hi
  have := h i hi'
  rw [bAt_in hi'] at this
  exact this
end Go.Proofs.YtbdgoffbkenofaaGreat.Sc
namespace Go.Proofs.YtbdgoffbkenofaaGreat.Sc
open Go Go.RowKit Go.Proofs.YtbdgoffbkenofaaGreat.Tk
set_option linter.unusedVariables false

/-- Two texts are alike up to m. -/
structure Alike (s t : ByteArray) (m : Nat) : Prop where
  ls : m ≤ s.size
  lt : m ≤ t.size
  at_ : ∀ i, i < m → bAt s i = bAt t i
section
variable {s t : ByteArray} {m : Nat}
theorem Alike.symm (h : Alike s t m) : Alike t s m := ⟨h.lt, h.ls, fun i hi => (h.at_ i hi).symm⟩
theorem Alike.ext (h : Alike s t m) {a b : Nat} (hb : b ≤ m) : s.extract a b = t.extract a b := by
  have h1 := h.ls
  have h2 := h.lt
  refine ext_bAt (by rw [ByteArray.size_extract, ByteArray.size_extract]; omega) fun i hi => ?_
  rw [ByteArray.size_extract] at hi
  rw [bAt_ext (by omega) (by omega), bAt_ext (by omega) (by omega), h.at_ _ (by omega)]
theorem Alike.upT (h : Alike s t m) {p : Nat → Bool} {a : Nat} (hk : Tk.upT p s a < m ∨ (Tk.upT p s a = m ∧ t.size = m)) : Tk.upT p t a = Tk.upT p s a := by
  have h1 := h.ls
  have h2 := h.lt
  have hge := upT_ge p s a
  show upI (fun i => p (bAt t i)) (t.size - a) a = _
  refine upI_eq hge (by omega) (fun j hj1 hj2 => ?_) (fun hv => ?_)
  · have := upI_before (fun i => p (bAt s i)) (s.size - a) a j hj1 hj2
    show p (bAt t j) = false
    rw [← h.at_ j (by omega)]; exact this
  · have := upT_at (p := p) (s := s) (a := a) (by omega) (by omega)
    show p (bAt t _) = true
    rw [← h.at_ _ (by omega)]; exact this
theorem Alike.starts (h : Alike s t m) {u : ByteArray} {a : Nat} (hu : a + u.size ≤ m) : startsP s a u = startsP t a u := by
  have h1 := h.ls
  have h2 := h.lt
  unfold startsP
  rw [h.ext hu, decide_eq_true (show a + u.size ≤ s.size by omega), decide_eq_true (show a + u.size ≤ t.size by omega)]
theorem Alike.letter (h : Alike s t m) {i : Nat} (hi : i < m) : letterAt s i = letterAt t i := by
  have h1 := h.ls
  have h2 := h.lt
  unfold letterAt
  rw [h.at_ i hi, decide_eq_true (show i < s.size by omega), decide_eq_true (show i < t.size by omega)]
theorem Alike.attr (h : Alike s t m) {a : Nat} {n v : ByteArray} {k : Nat} (ha : a < m) (hr : attrP s a = some (n, v, k)) (hk : k < m) : attrP t a = some (n, v, k) := by
  have h1 := h.ls
  have h2 := h.lt
  unfold attrP at hr ⊢
  dsimp only at hr ⊢
  have g1 := upT_ge (fun c => closesN c || decide (c = 61)) s (a + 1)
  have u1 := h.upT (p := fun c => closesN c || decide (c = 61)) (a := a + 1)
  generalize Tk.upT (fun c => closesN c || decide (c = 61)) s (a + 1) = e at *
  have g2 : e ≤ pastP s e := upT_ge _ _ _
  have u2 : pastP s e < m ∨ (pastP s e = m ∧ t.size = m) → pastP t e = pastP s e := h.upT
  generalize pastP s e = n1 at *
  by_cases c1 : s.size ≤ n1 ∨ bAt s n1 ≠ 61
  · rw [if_pos c1] at hr
    injection hr with hr; injection hr with q1 hr; injection hr with q2 q3
    have b1 : n1 < m := by omega
    rw [u1 (.inl (by omega)), u2 (.inl b1), if_pos (.inr (by rw [← h.at_ _ b1]; rcases c1 with c | c; omega; exact c)), ← h.ext (by omega), q1, q2, q3]
  · rw [if_neg c1] at hr
    have g3 : n1 + 1 ≤ pastP s (n1 + 1) := upT_ge _ _ _
    have u3 : pastP s (n1 + 1) < m ∨ (pastP s (n1 + 1) = m ∧ t.size = m) → pastP t (n1 + 1) = pastP s (n1 + 1) := h.upT
    generalize pastP s (n1 + 1) = n2 at *
    by_cases c2 : s.size ≤ n2
    · rw [if_pos c2] at hr; cases hr
    rw [if_neg c2] at hr
    by_cases c3 : bAt s n2 = 34 ∨ bAt s n2 = 39
    · rw [if_pos c3] at hr
      have g4 := upT_ge (fun c => decide (c = bAt s n2)) s (n2 + 1)
      have u4 := h.upT (p := fun c => decide (c = bAt s n2)) (a := n2 + 1)
      generalize Tk.upT (fun c => decide (c = bAt s n2)) s (n2 + 1) = e2 at *
      by_cases c4 : s.size ≤ e2
      · rw [if_pos c4] at hr; cases hr
      rw [if_neg c4] at hr
      injection hr with hr; injection hr with q1 hr; injection hr with q2 q3
      have b1 : e2 < m := by omega
      have b2 : n2 < m := by omega
      have b3 : n1 < m := by omega
      rw [u1 (.inl (by omega)), u2 (.inl b3), if_neg (by rw [← h.at_ _ b3]; omega), u3 (.inl b2), if_neg (by omega), ← h.at_ _ b2, if_pos c3, u4 (.inl b1), if_neg (by omega), ← h.ext (a := a) (b := e) (by omega), ← h.ext (a := n2 + 1) (b := e2) (by omega), q1, q2, q3]
    · rw [if_neg c3] at hr
      have g4 := upT_ge (fun c => blankN c || decide (c = 62)) s n2
      have u4 := h.upT (p := fun c => blankN c || decide (c = 62)) (a := n2)
      generalize Tk.upT (fun c => blankN c || decide (c = 62)) s n2 = e2 at *
      injection hr with hr; injection hr with q1 hr; injection hr with q2 q3
      have b1 : e2 < m := by omega
      have b2 : n2 < m := by omega
      have b3 : n1 < m := by omega
      rw [u1 (.inl (by omega)), u2 (.inl b3), if_neg (by rw [← h.at_ _ b3]; omega), u3 (.inl b2), if_neg (by omega), ← h.at_ _ b2, if_neg c3, u4 (.inl b1), ← h.ext (a := a) (b := e) (by omega), ← h.ext (a := n2) (b := e2) (by omega), q1, q2, q3]
theorem Alike.attrs (h : Alike s t m) (start : Bool) : ∀ {n e : Nat} {acc l : List (ByteArray × ByteArray)} {k : Nat}, attrsP s start n e acc = some (l, k) → k < m → attrsP t start n e acc = some (l, k)
  | 0, e, acc, l, k, hr, _ => by unfold attrsP at hr; cases hr
  | n + 1, e, acc, l, k, hr, hk => by
    have h1 := h.ls
    have h2 := h.lt
    unfold attrsP at hr ⊢
    dsimp only at hr ⊢
    have g1 := upT_ge (fun c => !blankN c && !decide (c = 47)) s e
    have u1 := h.upT (p := fun c => !blankN c && !decide (c = 47)) (a := e)
    generalize Tk.upT (fun c => !blankN c && !decide (c = 47)) s e = e1 at *
    by_cases c1 : s.size ≤ e1
    · rw [if_pos c1] at hr; cases hr
    rw [if_neg c1] at hr
    by_cases c2 : bAt s e1 = 62
    · rw [if_pos c2] at hr
      injection hr with hr; injection hr with q1 q2
      have b1 : e1 < m := by omega
      rw [u1 (.inl b1), if_neg (by omega), if_pos (by rw [← h.at_ _ b1]; exact c2), q1, q2]
    · rw [if_neg c2] at hr
      cases ca : attrP s e1 with
      | none => rw [ca] at hr; cases hr
      | some r =>
        obtain ⟨nm, vl, nx⟩ := r
        rw [ca] at hr
        dsimp only at hr
        have b1 := attrP_le (by omega) ca
        have b2 := attrsP_le hr
        rw [u1 (.inl (by omega)), if_neg (by omega), if_neg (by rw [← h.at_ _ (by omega)]; exact c2), h.attr (by omega) ca (by omega)]
        exact h.attrs start hr hk
end
theorem attrsP_enough (s : ByteArray) (start : Bool) : ∀ (n m e : Nat) (acc : List (ByteArray × ByteArray)), s.size + 1 - e ≤ n → s.size + 1 - e ≤ m → attrsP s start n e acc = attrsP s start m e acc
  | 0, 0, e, acc, _, _ => rfl
  | 0, m + 1, e, acc, hn, _ => by
    unfold attrsP
    dsimp only
    rw [upT_end (by omega), if_pos (by omega)]
  | n + 1, 0, e, acc, _, hm => by
    unfold attrsP
    dsimp only
    rw [upT_end (by omega), if_pos (by omega)]
  | n + 1, m + 1, e, acc, hn, hm => by
    unfold attrsP
    dsimp only
    have g1 := upT_ge (fun c => !blankN c && !decide (c = 47)) s e
    generalize Tk.upT (fun c => !blankN c && !decide (c = 47)) s e = e1 at *
    by_cases c1 : s.size ≤ e1
    · rw [if_pos c1, if_pos c1]
    rw [if_neg c1, if_neg c1]
    by_cases c2 : bAt s e1 = 62
    · rw [if_pos c2, if_pos c2]
    rw [if_neg c2, if_neg c2]
    cases ca : attrP s e1 with
    | none => rfl
    | some r =>
      obtain ⟨nm, vl, nx⟩ := r
      dsimp only
      have b1 := attrP_le (by omega) ca
      exact attrsP_enough s start n m nx _ (by omega) (by omega)
theorem attrsP_more {s : ByteArray} {start : Bool} : ∀ {n m e : Nat} {acc : List (ByteArray × ByteArray)} {r : List (ByteArray × ByteArray) × Nat}, attrsP s start n e acc = some r → n ≤ m → attrsP s start m e acc = some r
  | 0, m, e, acc, r, h, _ => by unfold attrsP at h; cases h
  | n + 1, 0, e, acc, r, h, hm => by omega
  | n + 1, m + 1, e, acc, r, h, hm => by
    unfold attrsP at h ⊢
    dsimp only at h ⊢
    generalize Tk.upT (fun c => !blankN c && !decide (c = 47)) s e = e1 at *
    by_cases c1 : s.size ≤ e1
    · rw [if_pos c1] at h; cases h
    rw [if_neg c1] at h ⊢
    by_cases c2 : bAt s e1 = 62
    · rw [if_pos c2] at h ⊢; exact h
    rw [if_neg c2] at h ⊢
    cases ca : attrP s e1 with
    | none => rw [ca] at h; cases h
    | some x =>
      obtain ⟨nm, vl, nx⟩ := x
      rw [ca] at h
      dsimp only at h ⊢
      exact attrsP_more h (by omega)
section
variable {s t : ByteArray} {m : Nat}
theorem Alike.tag (h : Alike s t m) {b : Nat} {st : Bool} {o : Tok} {k : Nat} (hr : tagP s b st = (o, k, true)) (hk : k ≤ m) : tagP t b st = (o, k, true) := by
  have h1 := h.ls
  have h2 := h.lt
  unfold tagP at hr ⊢
  dsimp only at hr ⊢
  have u1 := h.upT (p := closesN) (a := b)
  generalize Tk.upT closesN s b = e at *
  cases ca : attrsP s st (s.size + 1 - e) e [] with
  | none => rw [ca] at hr; exact absurd (congrArg (fun x => x.2.2) hr) Bool.false_ne_true
  | some r =>
    obtain ⟨l, e2⟩ := r
    rw [ca] at hr
    dsimp only at hr
    injection hr with q1 hr; injection hr with q2 q3
    have b1 := attrsP_le ca
    have ct := h.attrs st ca (by omega)
    have ct2 : attrsP t st (t.size + 1 - e) e [] = some (l, e2) := by
      rw [attrsP_enough t st (t.size + 1 - e) (max (s.size + 1 - e) (t.size + 1 - e)) e [] (Nat.le_refl _) (by omega)]
      exact attrsP_more ct (by omega)
    rw [u1 (.inl (by omega)), ct2]
    dsimp only
    rw [← h.ext (by omega), q1, q2]
/-- A text stands at a place. -/
def AtP (s : ByteArray) (i : Nat) (p : ByteArray) : Prop := i + p.size ≤ s.size ∧ ∀ j, j < p.size → bAt s (i + j) = bAt p j
theorem Alike.atP (h : Alike s t m) {i : Nat} {p : ByteArray} (hp : i + p.size ≤ m) (hs : AtP s i p) : AtP t i p := by
  have h1 := h.lt
  exact ⟨by omega, fun j hj => by rw [← h.at_ _ (by omega)]; exact hs.2 j hj⟩
theorem end_iff {p : ByteArray} {a i : Nat} (hp : 0 < p.size) : Sr.hasPre ((s.extract a s.size).extract i (s.extract a s.size).size) p = true ↔ AtP s (a + i) p := by
  have e : (s.extract a s.size).size = s.size - a := by rw [ByteArray.size_extract]; omega
  rw [pre_iff]
  unfold AtP
  have e2 : ((s.extract a s.size).extract i (s.extract a s.size).size).size = s.size - a - i := by rw [ByteArray.size_extract, e]; omega
  rw [e2]
  constructor
  · rintro ⟨q1, q2⟩
    refine ⟨by omega, fun j hj => ?_⟩
    have := q2 j hj
    rw [bAt_ext (Nat.le_refl _) (by omega), bAt_ext (Nat.le_refl _) (by omega)] at this
    rw [Nat.add_assoc]; exact this
  · rintro ⟨q1, q2⟩
    refine ⟨by omega, fun j hj => ?_⟩
    rw [bAt_ext (Nat.le_refl _) (by omega), bAt_ext (Nat.le_refl _) (by omega), ← Nat.add_assoc]
    exact q2 j hj
theorem pre_at {p : ByteArray} {a : Nat} (hp : 0 < p.size) : Sr.hasPre (s.extract a s.size) p = true ↔ AtP s a p := by
  have e : (s.extract a s.size).size = s.size - a := by rw [ByteArray.size_extract]; omega
  have e2 : (s.extract a s.size).extract 0 (s.extract a s.size).size = s.extract a s.size := by
    refine ext_bAt (by rw [ByteArray.size_extract, e]; omega) fun i hi => ?_
    rw [ByteArray.size_extract, e] at hi
    rw [bAt_ext (Nat.le_refl _) (by omega), Nat.zero_add]
  have := end_iff (s := s) (a := a) (i := 0) hp
  rw [e2] at this
  exact this
theorem cut_head {a i : Nat} (h : a + i ≤ s.size) : (s.extract a s.size).extract 0 i = s.extract a (a + i) := by
  have e : (s.extract a s.size).size = s.size - a := by rw [ByteArray.size_extract]; omega
  refine ext_bAt (by rw [ByteArray.size_extract, e, ByteArray.size_extract]; omega) fun j hj => ?_
  rw [ByteArray.size_extract, e] at hj
  rw [bAt_ext (by omega) (by omega), bAt_ext (Nat.le_refl _) (by omega), bAt_ext (by omega) (by omega), Nat.zero_add]
theorem Alike.comment (h : Alike s t m) {a : Nat} {o : Tok} {k : Nat} {ok : Bool} (ha : a ≤ s.size) (hr : commentP s a = (o, k, ok)) (hk : k ≤ m) (hs : k < s.size) : commentP t a = (o, k, ok) := by
  have h1 := h.ls
  have h2 := h.lt
  have z1 : (⟨#[62]⟩ : ByteArray).size = 1 := rfl
  have z2 : (⟨#[45, 62]⟩ : ByteArray).size = 2 := rfl
  have z3 : (⟨#[45, 45, 62]⟩ : ByteArray).size = 3 := rfl
  have z4 : (⟨#[45, 45, 33, 62]⟩ : ByteArray).size = 4 := rfl
  have eS : (s.extract a s.size).size = s.size - a := by rw [ByteArray.size_extract]; omega
  have eT : (t.extract a t.size).size = t.size - a := by rw [ByteArray.size_extract]; omega
  unfold commentP at hr ⊢
  dsimp only at hr ⊢
  by_cases c1 : Sr.hasPre (s.extract a s.size) ⟨#[62]⟩ = true
  · rw [if_pos c1] at hr
    injection hr with q1 hr; injection hr with q2 q3
    rw [if_pos ((pre_at (by decide)).2 (h.atP (by omega) ((pre_at (by decide)).1 c1))), q1, q2, q3]
  rw [if_neg c1] at hr
  have d1 : a + 1 ≤ m → ¬ Sr.hasPre (t.extract a t.size) ⟨#[62]⟩ = true := fun hm hc => c1 ((pre_at (by decide)).2 (h.symm.atP hm ((pre_at (by decide)).1 hc)))
  by_cases c2 : Sr.hasPre (s.extract a s.size) ⟨#[45, 62]⟩ = true
  · rw [if_pos c2] at hr
    injection hr with q1 hr; injection hr with q2 q3
    rw [if_neg (d1 (by omega)), if_pos ((pre_at (by decide)).2 (h.atP (by omega) ((pre_at (by decide)).1 c2))), q1, q2, q3]
  rw [if_neg c2] at hr
  have d2 : a + 2 ≤ m → ¬ Sr.hasPre (t.extract a t.size) ⟨#[45, 62]⟩ = true := fun hm hc => c2 ((pre_at (by decide)).2 (h.symm.atP hm ((pre_at (by decide)).1 hc)))
  have i1 := upI_at (fun i => cEnd1 (s.extract a s.size) i || cEnd2 (s.extract a s.size) i) (s.extract a s.size).size 0
  have i2 := upI_before (fun i => cEnd1 (s.extract a s.size) i || cEnd2 (s.extract a s.size) i) (s.extract a s.size).size 0
  generalize upI (fun i => cEnd1 (s.extract a s.size) i || cEnd2 (s.extract a s.size) i) (s.extract a s.size).size 0 = i at *
  by_cases c3 : i < (s.extract a s.size).size
  · rw [if_pos c3] at hr
    injection hr with q1 hr; injection hr with q2 q3
    have i3 := i1 (by omega)
    have kge : a + i + 3 ≤ k := by rw [← q2]; split <;> omega
    have e1 : ∀ j, a + j + 3 ≤ m → cEnd1 (t.extract a t.size) j = cEnd1 (s.extract a s.size) j := fun j hj => by
      rw [Bool.eq_iff_iff]
      unfold cEnd1
      rw [end_iff (by decide), end_iff (by decide)]
      exact ⟨h.symm.atP hj, h.atP hj⟩
    have e2 : ∀ j, a + j + 4 ≤ m → cEnd2 (t.extract a t.size) j = cEnd2 (s.extract a s.size) j := fun j hj => by
      rw [Bool.eq_iff_iff]
      unfold cEnd2
      rw [end_iff (by decide), end_iff (by decide)]
      exact ⟨h.symm.atP hj, h.atP hj⟩
    have hT : upI (fun i => cEnd1 (t.extract a t.size) i || cEnd2 (t.extract a t.size) i) (t.extract a t.size).size 0 = i := by
      refine upI_eq (Nat.zero_le _) (by omega) (fun j hj1 hj2 => ?_) (fun hv => ?_)
      · show (cEnd1 (t.extract a t.size) j || cEnd2 (t.extract a t.size) j) = false
        rw [e1 j (by omega), e2 j (by omega)]
        exact i2 j hj1 hj2
      · show (cEnd1 (t.extract a t.size) i || cEnd2 (t.extract a t.size) i) = true
        rw [e1 i (by omega)]
        cases hc : cEnd1 (s.extract a s.size) i with
        | true => rfl
        | false =>
          rw [hc, if_neg Bool.false_ne_true] at q2
          rw [e2 i (by omega)]
          rw [hc] at i3; exact i3
    rw [if_neg (d1 (by omega)), if_neg (d2 (by omega)), hT, if_pos (by omega), e1 i (by omega), cut_head (by omega), ← h.ext (by omega), ← cut_head (s := s) (by omega), q1, q2, q3]
  · rw [if_neg c3] at hr
    injection hr with q1 hr; injection hr with q2 q3
    omega
theorem Alike.bogus (h : Alike s t m) {a : Nat} {o : Tok} {k : Nat} {ok : Bool} (hr : bogusP s a = (o, k, ok)) (hk : k ≤ m) (hs : k < s.size) : bogusP t a = (o, k, ok) := by
  have h1 := h.ls
  have h2 := h.lt
  unfold bogusP closedEnd at hr ⊢
  have u1 := h.upT (p := fun c => decide (c = 62)) (a := a)
  generalize Tk.upT (fun c => decide (c = 62)) s a = e at *
  injection hr with q1 hr; injection hr with q2 q3
  rw [u1 (.inl (by omega)), ← h.ext (by omega), q1, q3, ← q2, Nat.min_eq_left (by omega), Nat.min_eq_left (by omega)]
theorem Alike.doctype (h : Alike s t m) {a : Nat} {o : Tok} {k : Nat} {ok : Bool} (hr : doctypeP s a = (o, k, ok)) (hk : k ≤ m) (hs : k < s.size) : doctypeP t a = (o, k, ok) := by
  have h1 := h.ls
  have h2 := h.lt
  unfold doctypeP closedEnd pastP at hr ⊢
  dsimp only at hr ⊢
  have u0 := h.upT (p := fun c => !blankN c) (a := a)
  generalize Tk.upT (fun c => !blankN c) s a = b at *
  have g1 := upT_ge (fun c => blankN c || decide (c = 62)) s b
  have u1 := h.upT (p := fun c => blankN c || decide (c = 62)) (a := b)
  generalize Tk.upT (fun c => blankN c || decide (c = 62)) s b = e at *
  have g2 := upT_ge (fun c => decide (c = 62)) s e
  have u2 := h.upT (p := fun c => decide (c = 62)) (a := e)
  generalize Tk.upT (fun c => decide (c = 62)) s e = e2 at *
  injection hr with q1 hr; injection hr with q2 q3
  rw [u0 (.inl (by omega)), u1 (.inl (by omega)), u2 (.inl (by omega)), ← h.ext (by omega), q1, q3, ← q2, Nat.min_eq_left (by omega), Nat.min_eq_left (by omega)]
/-- What t does not have beyond s at a place; a raw element's end is the same. -/
structure Cut (s t : ByteArray) (m a : Nat) (raw : ByteArray) : Prop where
  st : ∀ u, u = ⟨#[60, 47]⟩ ∨ u = ⟨#[60, 33, 45, 45]⟩ ∨ u = ⟨#[60, 33, 100, 111, 99, 116, 121, 112, 101]⟩ ∨ u = ⟨#[60, 47, 62]⟩ ∨ u = ⟨#[60, 63]⟩ ∨ u = ⟨#[60, 33]⟩ → startsP t a u = true → startsP s a u = true
  l1 : bAt t a = 60 → letterAt t (a + 1) = true → letterAt s (a + 1) = true
  l2 : startsP t a ⟨#[60, 47]⟩ = true → letterAt t (a + 2) = true → letterAt s (a + 2) = true
  l3 : startsP t a ⟨#[60, 47]⟩ = true → a + 2 < t.size → a + 2 < s.size
  rw_ : raw ≠ ⟨#[]⟩ → rawEndP s a raw ≤ m → (rawEndP s a raw = m → t.size = m) → rawEndP t a raw = rawEndP s a raw
theorem next_cut (h : Alike s t m) {a : Nat} {raw : ByteArray} (hc : Cut s t m a raw) (ha : a < m) {o : Tok} {k : Nat} {ok : Bool} (hr : nextP s a raw = (o, k, ok)) (hks : k < s.size ∨ (ok = true ∧ o.kind = 2)) (hk : k ≤ m) (hkm : k = m → t.size = m ∨ o.kind = 2) : nextP t a raw = (o, k, ok) := by
  have h1 := h.ls
  have h2 := h.lt
  have gg := next_goes s raw a (by omega)
  rw [hr] at gg
  have gk : a < k := gg.gt
  unfold nextP at hr ⊢
  rw [if_neg (by omega)] at hr ⊢
  have hra : raw ≠ ⟨#[]⟩ → a ≤ rawEndP s a raw := fun _ => upI_ge _ _ _
  by_cases c2 : raw ≠ ⟨#[]⟩ ∧ a < rawEndP s a raw
  · rw [if_pos c2] at hr
    injection hr with q1 hr; injection hr with q2 q3
    have k3 : o.kind = 3 := by rw [← q1]; rfl
    have e := hc.rw_ c2.1 (by omega) (fun x => by rcases hkm (by omega) with y | y <;> omega)
    rw [e, if_pos c2, ← h.ext (by omega), q1, q2, q3]
  rw [if_neg c2] at hr
  have c2' : ¬ (raw ≠ ⟨#[]⟩ ∧ a < rawEndP t a raw) := by
    rintro ⟨x1, x2⟩
    have x3 : rawEndP s a raw = a := by have := hra x1; have : ¬ a < rawEndP s a raw := fun y => c2 ⟨x1, y⟩; omega
    have e := hc.rw_ x1 (by omega) (fun y => by omega)
    omega
  rw [if_neg c2']
  rw [← h.at_ a ha]
  by_cases c3 : bAt s a ≠ 60
  · rw [if_pos c3] at hr ⊢
    dsimp only at hr ⊢
    have u1 := h.upT (p := fun c => decide (c = 60) || (blankN c != blankN (bAt s a))) (a := a)
    generalize Tk.upT (fun c => decide (c = 60) || (blankN c != blankN (bAt s a))) s a = e at *
    injection hr with q1 hr; injection hr with q2 q3
    have k3 : o.kind = 3 := by rw [← q1]; rfl
    rw [u1 (by rcases Nat.lt_or_ge e m with x | x; exact .inl x; exact .inr ⟨by omega, by rcases hkm (by omega) with y | y <;> omega⟩), ← h.ext (by omega), q1, q2, q3]
  rw [if_neg c3] at hr ⊢
  have c3' : bAt t a = 60 := by rw [← h.at_ a ha]; omega
  by_cases c4 : letterAt s (a + 1) = true
  · rw [if_pos c4] at hr
    have b1 : a + 1 < k := by have := (tagP_goes (s := s) (start := true) (letter_lt c4)).gt; rw [hr] at this; exact this
    have hok : ok = true := by
      cases ok with
      | true => rfl
      | false =>
        exfalso
        unfold tagP at hr
        dsimp only at hr
        split at hr
        · injection hr with _ hr; injection hr with hr _
          rcases hks with x | x
          · omega
          · exact absurd x.1 Bool.false_ne_true
        · injection hr with _ hr; injection hr with _ hr; cases hr
    subst hok
    rw [if_pos (by rw [← h.letter (by omega)]; exact c4)]
    exact h.tag hr hk
  rw [if_neg c4] at hr
  rw [if_neg (fun x => c4 (hc.l1 c3' x))]
  by_cases c5 : (startsP s a ⟨#[60, 47]⟩ && letterAt s (a + 2)) = true
  · rw [if_pos c5] at hr
    rw [Bool.and_eq_true] at c5
    have b1 : a + 2 < k := by have := (tagP_goes (s := s) (start := false) (letter_lt c5.2)).gt; rw [hr] at this; exact this
    have hok : ok = true := by
      cases ok with
      | true => rfl
      | false =>
        exfalso
        unfold tagP at hr
        dsimp only at hr
        split at hr
        · injection hr with _ hr; injection hr with hr _
          rcases hks with x | x
          · omega
          · exact absurd x.1 Bool.false_ne_true
        · injection hr with _ hr; injection hr with _ hr; cases hr
    subst hok
    rw [if_pos (by rw [Bool.and_eq_true, ← h.letter (by omega), ← h.starts (u := ⟨#[60, 47]⟩) (show a + 2 ≤ m by omega)]; exact c5)]
    exact h.tag hr hk
  rw [if_neg c5] at hr
  rw [if_neg (fun x => c5 (by rw [Bool.and_eq_true] at x ⊢; exact ⟨hc.st _ (.inl rfl) x.1, hc.l2 x.1 x.2⟩))]
  by_cases c6 : startsP s a ⟨#[60, 33, 45, 45]⟩ = true
  · rw [if_pos c6] at hr
    have b0 : a + 4 ≤ s.size := starts_le c6
    have b1 := (commentP_goes (s := s) (a := a + 4) (by omega)).1
    rw [hr] at b1
    have b2 : a + 4 ≤ k := b1
    rw [if_pos (by rw [← h.starts (u := ⟨#[60, 33, 45, 45]⟩) (show a + 4 ≤ m by omega)]; exact c6)]
    have b3 : o.kind = 4 := by have := (commentP_goes (s := s) (a := a + 4) (by omega)).2.2.2; rw [hr] at this; exact this
    exact h.comment b0 hr hk (by omega)
  rw [if_neg c6] at hr
  rw [if_neg (fun x => c6 (hc.st _ (.inr (.inl rfl)) x))]
  by_cases c7 : startsP s a ⟨#[60, 33, 100, 111, 99, 116, 121, 112, 101]⟩ = true
  · rw [if_pos c7] at hr
    have b0 : a + 9 ≤ s.size := starts_le c7
    have b1 := (doctypeP_goes (s := s) (a := a + 9) (b := a + 8) b0 (by omega)).gt
    rw [hr] at b1
    have b2 : a + 8 < k := b1
    rw [if_pos (by rw [← h.starts (u := ⟨#[60, 33, 100, 111, 99, 116, 121, 112, 101]⟩) (show a + 9 ≤ m by omega)]; exact c7)]
    have b3 : o.kind = 5 := (congrArg (fun x : Out => x.1.kind) hr).symm
    exact h.doctype hr hk (by omega)
  rw [if_neg c7] at hr
  rw [if_neg (fun x => c7 (hc.st _ (.inr (.inr (.inl rfl))) x))]
  by_cases c8 : startsP s a ⟨#[60, 47, 62]⟩ = true
  · rw [if_pos c8] at hr
    injection hr with q1 hr; injection hr with q2 q3
    rw [if_pos (by rw [← h.starts (u := ⟨#[60, 47, 62]⟩) (show a + 3 ≤ m by omega)]; exact c8), q1, q2, q3]
  rw [if_neg c8] at hr
  rw [if_neg (fun x => c8 (hc.st _ (.inr (.inr (.inr (.inl rfl)))) x))]
  by_cases c9 : startsP s a ⟨#[60, 63]⟩ = true
  · rw [if_pos c9] at hr
    have b0 : a + 2 ≤ s.size := starts_le c9
    have b1 := (bogusP_goes (s := s) (a := a + 1) (b := a) (by omega) (by omega)).gt
    have b2 : a + 1 ≤ closedEnd s (a + 1) := upT_ge _ _ _
    have b3 : min (closedEnd s (a + 1) + 1) s.size = k := congrArg (fun x => x.2.1) hr
    rw [if_pos (by rw [← h.starts (u := ⟨#[60, 63]⟩) (show a + 2 ≤ m by omega)]; exact c9)]
    have b4 : o.kind = 4 := (congrArg (fun x : Out => x.1.kind) hr).symm
    exact h.bogus hr hk (by omega)
  rw [if_neg c9] at hr
  rw [if_neg (fun x => c9 (hc.st _ (.inr (.inr (.inr (.inr (.inl rfl))))) x))]
  by_cases c10 : (startsP s a ⟨#[60, 33]⟩ || (startsP s a ⟨#[60, 47]⟩ && decide (a + 2 < s.size))) = true
  · rw [if_pos c10] at hr
    have b2 : a + 2 ≤ closedEnd s (a + 2) := upT_ge _ _ _
    have b3 : min (closedEnd s (a + 2) + 1) s.size = k := congrArg (fun x => x.2.1) hr
    have b4 : o.kind = 4 := (congrArg (fun x : Out => x.1.kind) hr).symm
    have b0 : a + 2 < m := by omega
    rw [if_pos (by
      rw [← h.starts (u := ⟨#[60, 33]⟩) (show a + 2 ≤ m by omega), ← h.starts (u := ⟨#[60, 47]⟩) (show a + 2 ≤ m by omega), decide_eq_true (show a + 2 < t.size by omega)]
      rw [Bool.or_eq_true, Bool.and_eq_true] at c10 ⊢
      exact c10.imp id fun x => ⟨x.1, rfl⟩)]
    have b4 : o.kind = 4 := (congrArg (fun x : Out => x.1.kind) hr).symm
    exact h.bogus hr hk (by omega)
  rw [if_neg c10] at hr
  rw [if_neg (fun x => c10 (by
    rw [Bool.or_eq_true, Bool.and_eq_true, decide_eq_true_eq] at x ⊢
    exact x.imp (hc.st _ (.inr (.inr (.inr (.inr (.inr rfl)))))) fun y => ⟨hc.st _ (.inl rfl) y.1, hc.l3 y.1 y.2⟩))]
  exact hr
end
end Go.Proofs.YtbdgoffbkenofaaGreat.Sc
namespace Go.Proofs.YtbdgoffbkenofaaGreat.Sc
open Go Go.RowKit Go.Proofs.YtbdgoffbkenofaaGreat.Tk
set_option linter.unusedVariables false

theorem sUpI {d : Nat} {q q' : Nat → Bool} (h : ∀ i, q (d + i) = q' i) : ∀ n i, upI q n (d + i) = d + upI q' n i
  | 0, i => rfl
  | n + 1, i => by
    cases hq : q' i with
    | true => rw [upI_here hq, upI_here (by rw [h]; exact hq)]
    | false => rw [upI_next hq, upI_next (by rw [h]; exact hq), Nat.add_assoc]; exact sUpI h n (i + 1)
section
variable (x b : ByteArray)
theorem sBat (i : Nat) : bAt (x ++ b) (x.size + i) = bAt b i := by rw [bAt_r (by omega)]; congr 1; omega
theorem sSize : (x ++ b).size = x.size + b.size := ByteArray.size_append
theorem sExt (i j : Nat) : (x ++ b).extract (x.size + i) (x.size + j) = b.extract i j := by
  refine ext_bAt (by rw [ByteArray.size_extract, ByteArray.size_extract, sSize]; omega) fun k hk => ?_
  rw [ByteArray.size_extract, sSize] at hk
  have e1 : bAt ((x ++ b).extract (x.size + i) (x.size + j)) k = bAt (x ++ b) (x.size + i + k) := by
    rw [bAt_in (by rw [ByteArray.size_extract, sSize]; omega), bAt_in (by rw [sSize]; omega), ByteArray.getElem_extract]
  have e2 : bAt (b.extract i j) k = bAt b (i + k) := by
    rw [bAt_in (by rw [ByteArray.size_extract]; omega), bAt_in (by omega), ByteArray.getElem_extract]
  rw [e1, e2, Nat.add_assoc, sBat]
theorem sUpT (p : Nat → Bool) (a : Nat) : upT p (x ++ b) (x.size + a) = x.size + upT p b a := by
  unfold Tk.upT
  rw [sSize, show x.size + b.size - (x.size + a) = b.size - a by omega]
  exact sUpI (fun i => by rw [sBat]) _ _
theorem sPast (a : Nat) : pastP (x ++ b) (x.size + a) = x.size + pastP b a := sUpT x b _ a
theorem sStarts (a : Nat) (t : ByteArray) : startsP (x ++ b) (x.size + a) t = startsP b a t := by
  unfold startsP
  rw [Nat.add_assoc, sExt, sSize]
  congr 1
  exact decide_eq_decide.2 (by omega)
theorem sLetter (i : Nat) : letterAt (x ++ b) (x.size + i) = letterAt b i := by
  unfold letterAt
  rw [sBat, sSize]
  congr 1
  exact decide_eq_decide.2 (by omega)
theorem sRawOk (raw : ByteArray) (i : Nat) : rawOk (x ++ b) raw (x.size + i) = rawOk b raw i := by
  unfold rawOk
  rw [sStarts, show x.size + i + 2 + raw.size = x.size + (i + 2 + raw.size) by omega, sBat, sSize]
  congr 2
  exact decide_eq_decide.2 (by omega)
theorem sRawEnd (a : Nat) (raw : ByteArray) : rawEndP (x ++ b) (x.size + a) raw = x.size + rawEndP b a raw := by
  unfold rawEndP
  rw [sSize, show x.size + b.size - (x.size + a) = b.size - a by omega]
  exact sUpI (fun i => sRawOk x b raw i) _ _
theorem sAttr (a : Nat) : attrP (x ++ b) (x.size + a) = (attrP b a).map fun r => (r.1, r.2.1, x.size + r.2.2) := by
  unfold attrP
  dsimp only
  rw [Nat.add_assoc, sUpT]
  generalize Tk.upT (fun c => closesN c || decide (c = 61)) b (a + 1) = e
  rw [sPast, sExt]
  generalize pastP b e = n1
  rw [sBat, sSize]
  by_cases c1 : b.size ≤ n1 ∨ bAt b n1 ≠ 61
  · rw [if_pos (by omega), if_pos c1]; rfl
  rw [if_neg (by omega), if_neg c1, Nat.add_assoc, sPast]
  generalize pastP b (n1 + 1) = n2
  by_cases c2 : b.size ≤ n2
  · rw [if_pos (by omega), if_pos c2]; rfl
  rw [if_neg (by omega), if_neg c2, sBat]
  by_cases c3 : bAt b n2 = 34 ∨ bAt b n2 = 39
  · rw [if_pos c3, if_pos c3, Nat.add_assoc, sUpT]
    generalize Tk.upT (fun c => decide (c = bAt b n2)) b (n2 + 1) = e2
    by_cases c4 : b.size ≤ e2
    · rw [if_pos (by omega), if_pos c4]; rfl
    · rw [if_neg (by omega), if_neg c4, sExt]; rfl
  · rw [if_neg c3, if_neg c3, sUpT, sExt]; rfl
theorem sAttrs (start : Bool) : ∀ (n e : Nat) (acc : List (ByteArray × ByteArray)), attrsP (x ++ b) start n (x.size + e) acc = (attrsP b start n e acc).map fun r => (r.1, x.size + r.2)
  | 0, e, acc => rfl
  | n + 1, e, acc => by
    unfold attrsP
    dsimp only
    rw [sUpT]
    generalize Tk.upT (fun c => !blankN c && !decide (c = 47)) b e = e1
    rw [sBat, sSize]
    by_cases c1 : b.size ≤ e1
    · rw [if_pos (by omega), if_pos c1]; rfl
    rw [if_neg (by omega), if_neg c1]
    by_cases c2 : bAt b e1 = 62
    · rw [if_pos c2, if_pos c2]; rfl
    rw [if_neg c2, if_neg c2, sAttr]
    cases ca : attrP b e1 with
    | none => rfl
    | some r => exact sAttrs start n _ _
def shO (o : Out) : Out := (o.1, x.size + o.2.1, o.2.2)
theorem sTag (a : Nat) (st : Bool) : tagP (x ++ b) (x.size + a) st = shO x (tagP b a st) := by
  unfold tagP
  dsimp only
  rw [sUpT]
  generalize Tk.upT closesN b a = e
  rw [sExt, sSize, show x.size + b.size + 1 - (x.size + e) = b.size + 1 - e by omega, sAttrs]
  cases attrsP b st (b.size + 1 - e) e [] with
  | none => rfl
  | some r => rfl
theorem sComment (a : Nat) : commentP (x ++ b) (x.size + a) = shO x (commentP b a) := by
  unfold commentP
  dsimp only
  rw [sSize, sExt]
  generalize b.extract a b.size = r
  by_cases c1 : Sr.hasPre r ⟨#[62]⟩ = true
  · rw [if_pos c1, if_pos c1]; unfold shO; rw [Nat.add_assoc]
  rw [if_neg c1, if_neg c1]
  by_cases c2 : Sr.hasPre r ⟨#[45, 62]⟩ = true
  · rw [if_pos c2, if_pos c2]; unfold shO; rw [Nat.add_assoc]
  rw [if_neg c2, if_neg c2]
  by_cases c3 : upI (fun i => cEnd1 r i || cEnd2 r i) r.size 0 < r.size
  · rw [if_pos c3, if_pos c3]; unfold shO; rw [Nat.add_assoc, Nat.add_assoc, ← Nat.add_assoc a]
  · rw [if_neg c3, if_neg c3]; rfl
theorem sClosed (a : Nat) : closedEnd (x ++ b) (x.size + a) = x.size + closedEnd b a := sUpT x b _ a
theorem sMin (v n : Nat) : min (x.size + v + 1) (x.size + n) = x.size + min (v + 1) n := by omega
theorem sBogus (a : Nat) : bogusP (x ++ b) (x.size + a) = shO x (bogusP b a) := by
  unfold bogusP
  rw [sClosed, sExt, sSize, sMin]; rfl
theorem sDoctype (a : Nat) : doctypeP (x ++ b) (x.size + a) = shO x (doctypeP b a) := by
  unfold doctypeP
  dsimp only
  rw [sPast, sUpT, sExt, sClosed, sSize, sMin]; rfl
theorem sNext (a : Nat) (raw : ByteArray) : nextP (x ++ b) (x.size + a) raw = shO x (nextP b a raw) := by
  unfold nextP
  dsimp only
  rw [sSize, sRawEnd, sBat, sUpT, Nat.add_assoc, Nat.add_assoc, Nat.add_assoc, Nat.add_assoc, Nat.add_assoc, sLetter, sLetter, sStarts, sStarts, sStarts, sStarts, sStarts, sStarts, sExt, sExt, sTag, sTag, sComment, sDoctype, sBogus, sBogus]
  by_cases c1 : b.size ≤ a
  · rw [if_pos (by omega), if_pos c1]; rfl
  rw [if_neg (by omega), if_neg c1]
  by_cases c2 : raw ≠ ⟨#[]⟩ ∧ a < rawEndP b a raw
  · rw [if_pos ⟨c2.1, by omega⟩, if_pos c2]; rfl
  rw [if_neg (fun h => c2 ⟨h.1, by omega⟩), if_neg c2]
  by_cases c3 : bAt b a ≠ 60
  · rw [if_pos c3, if_pos c3]; rfl
  rw [if_neg c3, if_neg c3]
  by_cases c4 : letterAt b (a + 1) = true
  · rw [if_pos c4, if_pos c4]
  rw [if_neg c4, if_neg c4]
  by_cases c5 : (startsP b a ⟨#[60, 47]⟩ && letterAt b (a + 2)) = true
  · rw [if_pos c5, if_pos c5]
  rw [if_neg c5, if_neg c5]
  by_cases c6 : startsP b a ⟨#[60, 33, 45, 45]⟩ = true
  · rw [if_pos c6, if_pos c6]
  rw [if_neg c6, if_neg c6]
  by_cases c7 : startsP b a ⟨#[60, 33, 100, 111, 99, 116, 121, 112, 101]⟩ = true
  · rw [if_pos c7, if_pos c7]
  rw [if_neg c7, if_neg c7]
  by_cases c8 : startsP b a ⟨#[60, 47, 62]⟩ = true
  · rw [if_pos c8, if_pos c8]; rfl
  rw [if_neg c8, if_neg c8]
  by_cases c9 : startsP b a ⟨#[60, 63]⟩ = true
  · rw [if_pos c9, if_pos c9]
  rw [if_neg c9, if_neg c9, show decide (x.size + (a + 2) < x.size + b.size) = decide (a + 2 < b.size) from decide_eq_decide.2 (by omega)]
  by_cases c10 : (startsP b a ⟨#[60, 33]⟩ || (startsP b a ⟨#[60, 47]⟩ && decide (a + 2 < b.size))) = true
  · rw [if_pos c10, if_pos c10]
  · rw [if_neg c10, if_neg c10]; rfl
theorem sPcsF : ∀ (n a : Nat) (raw : ByteArray), pcsF (x ++ b) n (x.size + a) raw = pcsF b n a raw
  | 0, a, raw => rfl
  | n + 1, a, raw => by
    unfold pcsF
    rw [sNext, sSize]
    by_cases c1 : b.size ≤ a
    · rw [if_pos (by omega), if_pos c1]
    rw [if_neg (by omega), if_neg c1]
    show (if (nextP b a raw).2.2 = true then (nextP b a raw).1 :: pcsF (x ++ b) n (x.size + (nextP b a raw).2.1) _ else pcsF (x ++ b) n (x.size + (nextP b a raw).2.1) raw) = _
    rw [sPcsF n, sPcsF n]; rfl
/-- The pieces of a text are the same behind another one. -/
theorem pcsP_behind (raw : ByteArray) : pcsP (x ++ b) x.size raw = pcsP b 0 raw := by
  unfold pcsP
  have := sPcsF x b (b.size - 0) 0 raw
  rw [Nat.add_zero] at this
  rw [sSize, show x.size + b.size - x.size = b.size - 0 by omega, this]
end
end Go.Proofs.YtbdgoffbkenofaaGreat.Sc
namespace Go.Proofs.YtbdgoffbkenofaaGreat.Sc
open Go Go.RowKit Go.Lib Go.Proofs.YtbdgoffbkenofaaGreat.Tk
set_option linter.unusedVariables false

theorem bad_more (l t : List UInt8) (c : UInt8) (hc : c.toNat < 128) (hne : l ≠ []) (hb : Rc.Bad l) : Rc.Bad (l ++ c :: t) := by
  apply Classical.byContradiction
  intro hn
  unfold Rc.Bad at hn hb
  rw [decodeL_N] at hn hb
  have g : ∀ i, i < l.length → (l ++ c :: t).getD i 0 = l.getD i 0 := fun i hi => by simp [List.getD, List.getElem?_append_left hi]
  have gl : (l ++ c :: t).getD l.length 0 = c := by simp [List.getD]
  have hl : 0 < l.length := List.length_pos_iff.2 hne
  have hlen : (l ++ c :: t).length = l.length + (t.length + 1) := by simp
  have ne : ∀ i, ((l ++ c :: t).getD i 0).toNat / 64 = 2 → i ≠ l.length := fun i h e => by rw [e, gl] at h; omega
  rcases decodeN_shape (l ++ c :: t).length ((l ++ c :: t).getD 0 0).toNat ((l ++ c :: t).getD 1 0).toNat ((l ++ c :: t).getD 2 0).toNat ((l ++ c :: t).getD 3 0).toNat with ⟨q, e⟩ | ⟨c1, c2, c3, cv, e⟩ | ⟨c1, c2, c3, c4, cv, cs, e⟩ | ⟨c1, c2, c3, c4, c5, cv, cw, e⟩ | e
  · rw [g 0 hl] at q
    unfold decodeN at hb
    rw [if_pos q] at hb
    have := hb.1
    dsimp only at this
    omega
  · have n1 := ne 1 c3
    rw [g 0 hl] at c1 cv
    rw [g 1 (by omega)] at c3 cv
    unfold decodeN at hb
    rw [if_neg (by omega), if_pos ⟨c1, by omega, c3⟩, if_pos (by omega)] at hb
    exact absurd hb.2 (show ¬ (2 : Nat) = 1 by decide)
  · have n1 := ne 1 c3
    have n2 := ne 2 c4
    rw [g 0 hl] at c1 cv cs
    rw [g 1 (by omega)] at c3 cv cs
    rw [g 2 (by omega)] at c4 cv cs
    unfold decodeN at hb
    rw [if_neg (by omega), if_neg (by omega), if_pos ⟨c1, ⟨by omega, c3⟩, by omega, c4⟩, if_pos (by omega)] at hb
    exact absurd hb.2 (show ¬ (3 : Nat) = 1 by decide)
  · have n1 := ne 1 c3
    have n2 := ne 2 c4
    have n3 := ne 3 c5
    rw [g 0 hl] at c1 cv cw
    rw [g 1 (by omega)] at c3 cv cw
    rw [g 2 (by omega)] at c4 cv cw
    rw [g 3 (by omega)] at c5 cv cw
    unfold decodeN at hb
    rw [if_neg (by omega), if_neg (by omega), if_neg (by omega), if_pos ⟨c1, ⟨by omega, c3⟩, ⟨by omega, c4⟩, by omega, c5⟩, if_pos (by omega)] at hb
    exact absurd hb.2 (show ¬ (4 : Nat) = 1 by decide)
  · rw [e] at hn; exact hn ⟨rfl, rfl⟩
theorem clean_cut (c : UInt8) (t : List UInt8) (hc : c.toNat < 128) (h10 : c ≠ 10) : ∀ l, Rc.clean (l ++ c :: t) = Rc.clean l ++ Rc.clean (c :: t) := by
  refine Rc.clean_induct (by simp [Rc.clean_nil]) ?_ ?_ ?_
  · intro a hne h ih
    have hg : (a ++ c :: t).getD 0 0 = a.getD 0 0 := by cases a with | nil => exact absurd rfl hne | cons x xs => rfl
    have h2 : Rc.Bad (a ++ c :: t) ∨ (a ++ c :: t).getD 0 0 = 0 := h.imp (bad_more a t c hc hne) (fun x => hg.trans x)
    rw [Rc.clean_bad a hne h, Rc.clean_bad (a ++ c :: t) (by simp [hne]) h2, List.append_assoc, ← ih]
    congr 2
    cases a with | nil => exact absurd rfl hne | cons x xs => rfl
  · intro a h ih
    match a with
    | [] => simp at h
    | [x] =>
      simp at h; subst h
      rw [Rc.clean_13 [13] rfl, show ([13] : List UInt8) ++ c :: t = 13 :: c :: t from rfl, Rc.clean_13 (13 :: c :: t) rfl]
      show 10 :: Rc.clean (List.drop (if c = 10 then 2 else 1) (13 :: c :: t)) = 10 :: (Rc.clean [] ++ Rc.clean (c :: t))
      rw [if_neg h10]; rfl
    | x :: y :: xs =>
      simp at h; subst h
      rw [Rc.clean_13 (13 :: y :: xs ++ c :: t) rfl, Rc.clean_13 (13 :: y :: xs) rfl]
      change Rc.clean (List.drop (if y = 10 then 2 else 1) (13 :: y :: xs) ++ c :: t) = Rc.clean (List.drop (if y = 10 then 2 else 1) (13 :: y :: xs)) ++ Rc.clean (c :: t) at ih
      show 10 :: Rc.clean (List.drop (if y = 10 then 2 else 1) (13 :: y :: (xs ++ c :: t))) = 10 :: (Rc.clean (List.drop (if y = 10 then 2 else 1) (13 :: y :: xs)) ++ Rc.clean (c :: t))
      by_cases hy : y = 10
      · subst hy
        rw [← ih]
        rfl
      · rw [← ih, if_neg hy]
        rfl
  · intro a hne hb h0 h13 ih
    have hm := Rc.decode_more a (c :: t) hne hb
    have hle := decodeL_le a hne
    have hg : (a ++ c :: t).getD 0 0 = a.getD 0 0 := by cases a with | nil => exact absurd rfl hne | cons x xs => rfl
    have hbm : ¬ Rc.Bad (a ++ c :: t) := by unfold Rc.Bad; rw [hm]; exact hb
    rw [Rc.clean_rune a hne hb h0 h13, Rc.clean_rune (a ++ c :: t) (by simp [hne]) hbm (by rw [hg]; exact h0) (by rw [hg]; exact h13), hm, List.take_append_of_le_length hle, List.drop_append_of_le_length hle, List.append_assoc, ih]
/-- Cleaned ahead of a text that begins with a byte of ASCII, but a line's end. -/
theorem cleanB_cut (a u : ByteArray) (h0 : 0 < u.size) (h1 : bAt u 0 < 128) (h2 : bAt u 0 ≠ 10) : cleanB (a ++ u) = cleanB a ++ cleanB u := by
  apply Sr.bytes_eq.1
  rw [ByteArray.toList_data_append]
  show Rc.clean (a ++ u).data.toList = Rc.clean a.data.toList ++ Rc.clean u.data.toList
  rw [ByteArray.toList_data_append]
  rw [bAt_in h0] at h1 h2
  have hu : u.data.toList = u[0] :: u.data.toList.drop 1 := by
    have := List.drop_eq_getElem_cons (show 0 < u.data.toList.length from h0)
    rwa [List.drop_zero] at this
  rw [hu]
  exact clean_cut _ _ h1 (fun e => h2 (by rw [e]; rfl)) _
/-- Cleaned behind a text that is right, and that does not end with a byte 13. -/
theorem cleanB_behind (a b : ByteArray) (hv : validD a.data.toList = true) (h13 : a.data.toList.getLast? ≠ some 13) : cleanB (a ++ b) = cleanB a ++ cleanB b := by
  apply Sr.bytes_eq.1
  rw [ByteArray.toList_data_append]
  show Rc.clean (a ++ b).data.toList = Rc.clean a.data.toList ++ Rc.clean b.data.toList
  rw [ByteArray.toList_data_append]
  exact Rc.clean_append _ _ hv h13
def bTag : ByteArray := ⟨#[60, 47, 98, 62]⟩
theorem bTag_clean : cleanB bTag = bTag := cleanB_plain (by decide)
theorem clean_tag (a : ByteArray) : cleanB (a ++ bTag) = cleanB a ++ bTag := by
  rw [cleanB_cut a bTag (by decide) (by decide) (by decide), bTag_clean]
theorem clean_both (a b : ByteArray) : cleanB (a ++ bTag ++ b) = cleanB a ++ bTag ++ cleanB b := by
  rw [ByteArray.append_assoc, cleanB_cut a (bTag ++ b) (by rw [ByteArray.size_append]; exact Nat.lt_of_lt_of_le (by decide : 0 < bTag.size) (Nat.le_add_right _ _)) (by rw [bAt_l (by decide)]; decide) (by rw [bAt_l (by decide)]; decide), cleanB_behind bTag b (by decide +kernel) (by decide), bTag_clean, ByteArray.append_assoc]
end Go.Proofs.YtbdgoffbkenofaaGreat.Sc
namespace Go.Proofs.YtbdgoffbkenofaaGreat.Sc
open Go Go.RowKit Go.Proofs.YtbdgoffbkenofaaGreat.Tk
set_option linter.unusedVariables false

def RawOK (raw : ByteArray) : Prop := raw = ⟨#[]⟩ ∨ (2 ≤ raw.size ∧ ∀ i, i < raw.size → bAt raw i ≠ 60)
theorem raw_named {n : ByteArray} (h : rawP n ≠ 0) : 2 ≤ n.size ∧ ∀ i, i < n.size → bAt n i ≠ 60 := by
  have key : ∀ x ∈ titN ++ rawN, 2 ≤ x.size ∧ ∀ i, i < x.size → bAt x i ≠ 60 := by decide +kernel
  refine key n ?_
  unfold rawP at h
  rw [List.mem_append]
  by_cases c1 : (titN.any fun x => decide (n = x)) = true
  · left
    obtain ⟨x, hx, e⟩ := List.any_eq_true.1 c1
    rw [of_decide_eq_true e]; exact hx
  · rw [if_neg c1] at h
    by_cases c2 : (rawN.any fun x => decide (n = x)) = true
    · right
      obtain ⟨x, hx, e⟩ := List.any_eq_true.1 c2
      rw [of_decide_eq_true e]; exact hx
    · rw [if_neg c2] at h; exact absurd rfl h
theorem rawNx_ok {raw : ByteArray} (t : Tok) (h : RawOK raw) : RawOK (rawNx raw t) := by
  unfold rawNx
  split
  · rename_i c; exact .inr (raw_named c.2)
  · split
    · exact .inl rfl
    · exact h
theorem RawOK.no60 {raw : ByteArray} (h : RawOK raw) : ∀ i, i < raw.size → bAt raw i ≠ 60 := by
  rcases h with rfl | h
  · intro i hi; exact absurd hi (Nat.not_lt_zero _)
  · exact h.2
theorem Alike.rawOk {s t : ByteArray} {m : Nat} (h : Alike s t m) {raw : ByteArray} {i : Nat} (hi : i + 2 + raw.size < m) : Tk.rawOk s raw i = Tk.rawOk t raw i := by
  have h1 := h.ls
  have h2 := h.lt
  unfold Tk.rawOk
  rw [h.starts (show i + ((⟨#[60, 47]⟩ : ByteArray) ++ raw).size ≤ m by rw [ByteArray.size_append]; show i + (2 + raw.size) ≤ m; omega), h.at_ _ hi, decide_eq_true (show i + 2 + raw.size < s.size by omega), decide_eq_true (show i + 2 + raw.size < t.size by omega)]
theorem rawOk_lt {s raw : ByteArray} {i : Nat} (h : Tk.rawOk s raw i = true) : i + 2 + raw.size < s.size ∧ closesN (bAt s (i + 2 + raw.size)) = true ∧ bAt s i = 60 ∧ bAt s (i + 1) = 47 ∧ ∀ j, j < raw.size → lowN (bAt s (i + 2 + j)) = lowN (bAt raw j) := by
  unfold Tk.rawOk at h
  rw [Bool.and_eq_true, Bool.and_eq_true, decide_eq_true_eq] at h
  have := st_raw.1 h.1.1
  exact ⟨h.1.2, h.2, this.2.1, this.2.2.1, this.2.2.2⟩
theorem alike_app (x b : ByteArray) : Alike x (x ++ b) x.size := ⟨Nat.le_refl _, by rw [ByteArray.size_append]; omega, fun i hi => (bAt_l hi).symm⟩
theorem cut_up {x b : ByteArray} {a : Nat} {raw : ByteArray} (h62 : bAt x (x.size - 1) = 62) (ha : a < x.size) : Cut x (x ++ b) x.size a raw := by
  have hA := alike_app x b
  have hU : bAt (x ++ b) (x.size - 1) = 62 := by rw [bAt_l (by omega)]; exact h62
  refine ⟨fun u hu hs => ?_, fun h0 h1 => ?_, fun h0 h1 => ?_, fun h0 h1 => ?_, fun h0 h1 h2 => ?_⟩
  · by_cases c : a + u.size ≤ x.size
    · rw [hA.starts c]; exact hs
    · exfalso
      have h1 := (starts_iff.1 hs).2 (x.size - 1 - a) (by omega)
      rw [show a + (x.size - 1 - a) = x.size - 1 by omega, hU] at h1
      have key : ∀ j, j < 9 → j + 1 < u.size → lowN 62 ≠ lowN (bAt u j) := by
        rcases hu with rfl | rfl | rfl | rfl | rfl | rfl <;> decide
      have hz : u.size ≤ 9 := by rcases hu with rfl | rfl | rfl | rfl | rfl | rfl <;> decide
      exact key _ (by omega) (by omega) h1
  · by_cases c : a + 1 < x.size
    · rw [hA.letter c]; exact h1
    · rw [show a = x.size - 1 by omega, hU] at h0; cases h0
  · obtain ⟨g1, g2, g3⟩ := st_close.1 h0
    by_cases c : a + 2 < x.size
    · rw [hA.letter c]; exact h1
    · by_cases c2 : a + 1 < x.size
      · rw [show a + 1 = x.size - 1 by omega, hU] at g3; cases g3
      · rw [show a = x.size - 1 by omega, hU] at g2; cases g2
  · obtain ⟨g1, g2, g3⟩ := st_close.1 h0
    by_cases c : a + 2 < x.size
    · exact c
    · by_cases c2 : a + 1 < x.size
      · rw [show a + 1 = x.size - 1 by omega, hU] at g3; cases g3
      · rw [show a = x.size - 1 by omega, hU] at g2; cases g2
  · have hge : a ≤ rawEndP x a raw := upI_ge _ _ _
    have hz : x.size ≤ (x ++ b).size := by rw [ByteArray.size_append]; omega
    refine upI_eq hge (by omega) (fun j hj1 hj2 => ?_) (fun hv => ?_)
    · cases hq : Tk.rawOk (x ++ b) raw j with
      | false => rfl
      | true =>
        exfalso
        have hb := upI_before (Tk.rawOk x raw) (x.size - a) a j hj1 hj2
        have g := (rawOk_lt hq).1
        have hm : j + 2 + raw.size < x.size := by
          rcases Nat.lt_or_ge (rawEndP x a raw) x.size with hlt | hge2
          · have h3 := upI_at (Tk.rawOk x raw) (x.size - a) a (show upI (Tk.rawOk x raw) (x.size - a) a < _ by show rawEndP x a raw < _; omega)
            have := (rawOk_lt h3).1
            have e : upI (Tk.rawOk x raw) (x.size - a) a = rawEndP x a raw := rfl
            omega
          · have := h2 (by omega); omega
        rw [hA.rawOk hm, hq] at hb
        cases hb
    · have hlt : rawEndP x a raw < x.size := by
        rcases Nat.lt_or_ge (rawEndP x a raw) x.size with h | h
        · exact h
        · have := h2 (by omega); omega
      have h3 : Tk.rawOk x raw (rawEndP x a raw) = true := upI_at (Tk.rawOk x raw) (x.size - a) a (show upI (Tk.rawOk x raw) (x.size - a) a < _ by show rawEndP x a raw < _; omega)
      rw [← hA.rawOk (rawOk_lt h3).1]; exact h3
theorem cut_down {s t : ByteArray} {a : Nat} {raw : ByteArray} (h60 : bAt (s ++ t) s.size = 60) (ha : a < s.size) (hraw : ∀ i, i < raw.size → bAt raw i ≠ 60) : Cut (s ++ t) s s.size a raw := by
  have hA := (alike_app s t).symm
  refine ⟨fun u hu hs => ?_, fun h0 h1 => ?_, fun h0 h1 => ?_, fun h0 h1 => ?_, fun h0 h1 h2 => ?_⟩
  · rw [hA.starts (starts_le hs)]; exact hs
  · rw [hA.letter (letter_lt h1)]; exact h1
  · rw [hA.letter (letter_lt h1)]; exact h1
  · rw [ByteArray.size_append]; omega
  · have hge : a ≤ rawEndP (s ++ t) a raw := upI_ge _ _ _
    have hz : s.size ≤ (s ++ t).size := by rw [ByteArray.size_append]; omega
    refine upI_eq hge (by omega) (fun j hj1 hj2 => ?_) (fun hv => ?_)
    · cases hq : Tk.rawOk s raw j with
      | false => rfl
      | true =>
        exfalso
        have hb := upI_before (Tk.rawOk (s ++ t) raw) ((s ++ t).size - a) a j hj1 hj2
        rw [hA.rawOk (rawOk_lt hq).1, hq] at hb
        cases hb
    · have h3 : Tk.rawOk (s ++ t) raw (rawEndP (s ++ t) a raw) = true := upI_at (Tk.rawOk (s ++ t) raw) ((s ++ t).size - a) a (show upI (Tk.rawOk (s ++ t) raw) ((s ++ t).size - a) a < _ by show rawEndP (s ++ t) a raw < _; omega)
      have hv' : rawEndP (s ++ t) a raw < s.size := by omega
      generalize rawEndP (s ++ t) a raw = v at *
      obtain ⟨g1, g2, g3, g4, g5⟩ := rawOk_lt h3
      have hm : v + 2 + raw.size < s.size := by
        rcases Nat.lt_or_ge (v + 2 + raw.size) s.size with h | h
        · exact h
        · exfalso
          rcases Nat.eq_or_lt_of_le h with e | h
          · rw [← e, h60] at g2; revert g2; decide
          · rcases Nat.lt_or_ge (v + 1) s.size with h4 | h4
            · have := g5 (s.size - (v + 2)) (by omega)
              rw [show v + 2 + (s.size - (v + 2)) = s.size by omega, h60] at this
              exact hraw (s.size - (v + 2)) (by omega) ((lowN_lit (by decide)).1 this.symm)
            · rw [show v + 1 = s.size by omega, h60] at g4; cases g4
      rw [← hA.rawOk hm]; exact h3
theorem attrsP_gt {s : ByteArray} {start : Bool} : ∀ {n e : Nat} {acc l : List (ByteArray × ByteArray)} {k : Nat}, attrsP s start n e acc = some (l, k) → bAt s k = 62
  | 0, e, acc, l, k, h => by unfold attrsP at h; cases h
  | n + 1, e, acc, l, k, h => by
    unfold attrsP at h
    dsimp only at h
    split at h
    · cases h
    · split at h
      · rename_i c; injection h with h; injection h with _ h; rw [← h]; exact c
      · split at h
        · cases h
        · exact attrsP_gt h
theorem tag_gt {s : ByteArray} {b : Nat} {st : Bool} {o : Tok} {k : Nat} {ok : Bool} (h : tagP s b st = (o, k, ok)) : k = s.size ∨ (0 < k ∧ bAt s (k - 1) = 62) := by
  unfold tagP at h
  dsimp only at h
  split at h
  · injection h with _ h; injection h with h _; exact .inl h.symm
  · rename_i l e2 c
    injection h with _ h; injection h with h _
    right
    rw [← h]
    exact ⟨by omega, attrsP_gt c⟩
theorem closed_gt {s : ByteArray} {a k : Nat} (ha : a ≤ s.size) (h : min (closedEnd s a + 1) s.size = k) : k = s.size ∨ (0 < k ∧ bAt s (k - 1) = 62) := by
  rcases Nat.lt_or_ge (closedEnd s a) s.size with hc | hc
  · right
    have h1 := upT_at (p := fun c => decide (c = 62)) hc ha
    rw [Nat.min_eq_left (by omega)] at h
    rw [← h]
    exact ⟨by omega, of_decide_eq_true h1⟩
  · left; omega
theorem comment_gt {s : ByteArray} {a : Nat} {o : Tok} {k : Nat} {ok : Bool} (ha : a ≤ s.size) (h : commentP s a = (o, k, ok)) : k = s.size ∨ (0 < k ∧ bAt s (k - 1) = 62) := by
  have z1 : (⟨#[62]⟩ : ByteArray).size = 1 := rfl
  have z2 : (⟨#[45, 62]⟩ : ByteArray).size = 2 := rfl
  have z3 : (⟨#[45, 45, 62]⟩ : ByteArray).size = 3 := rfl
  have z4 : (⟨#[45, 45, 33, 62]⟩ : ByteArray).size = 4 := rfl
  unfold commentP at h
  dsimp only at h
  by_cases c1 : Sr.hasPre (s.extract a s.size) ⟨#[62]⟩ = true
  · rw [if_pos c1] at h
    injection h with _ h; injection h with h _
    right
    have := ((pre_at (by decide)).1 c1).2 0 (by decide)
    exact ⟨by omega, by rw [← h, show a + 1 - 1 = a + 0 by omega, this]; decide⟩
  rw [if_neg c1] at h
  by_cases c2 : Sr.hasPre (s.extract a s.size) ⟨#[45, 62]⟩ = true
  · rw [if_pos c2] at h
    injection h with _ h; injection h with h _
    right
    have := ((pre_at (by decide)).1 c2).2 1 (by decide)
    exact ⟨by omega, by rw [← h, show a + 2 - 1 = a + 1 by omega, this]; decide⟩
  rw [if_neg c2] at h
  have i1 := upI_at (fun i => cEnd1 (s.extract a s.size) i || cEnd2 (s.extract a s.size) i) (s.extract a s.size).size 0
  generalize upI (fun i => cEnd1 (s.extract a s.size) i || cEnd2 (s.extract a s.size) i) (s.extract a s.size).size 0 = i at *
  by_cases c3 : i < (s.extract a s.size).size
  · rw [if_pos c3] at h
    injection h with _ h; injection h with h _
    have i3 := i1 (by omega)
    right
    cases hc : cEnd1 (s.extract a s.size) i with
    | true =>
      rw [hc, if_pos rfl] at h
      have := ((end_iff (by decide)).1 hc).2 2 (by decide)
      exact ⟨by omega, by rw [← h, show a + i + 3 - 1 = a + i + 2 by omega, this]; decide⟩
    | false =>
      rw [hc, if_neg Bool.false_ne_true] at h
      rw [hc] at i3
      have := ((end_iff (by decide)).1 (show cEnd2 _ _ = true from i3)).2 3 (by decide)
      exact ⟨by omega, by rw [← h, show a + i + 4 - 1 = a + i + 3 by omega, this]; decide⟩
  · rw [if_neg c3] at h
    injection h with _ h; injection h with h _
    exact .inl h.symm
section
variable (A : ByteArray)
theorem xSize : (A ++ bTag).size = A.size + 4 := ByteArray.size_append
theorem xAt (d : Nat) : bAt (A ++ bTag) (A.size + d) = bAt bTag d := sBat A bTag d
theorem x60 : bAt (A ++ bTag) A.size = 60 := xAt A 0
theorem x62 : bAt (A ++ bTag) ((A ++ bTag).size - 1) = 62 := by
  rw [xSize, show A.size + 4 - 1 = A.size + 3 by omega, xAt]; decide
theorem xGt {j : Nat} (h : A.size ≤ j) (hj : bAt (A ++ bTag) j = 62) : j = A.size + 3 := by
  obtain ⟨d, rfl⟩ : ∃ d, j = A.size + d := ⟨j - A.size, by omega⟩
  rw [xAt] at hj
  rcases Nat.lt_or_ge d 4 with hd | hd
  · have : d = 3 := by
      have key : ∀ d, d < 4 → bAt bTag d = 62 → d = 3 := by decide
      exact key d hd hj
    omega
  · rw [bAt_out (show bTag.size ≤ d from hd)] at hj; cases hj
theorem xLt {j : Nat} (h : A.size < j) : bAt (A ++ bTag) j ≠ 60 := by
  obtain ⟨d, rfl⟩ : ∃ d, j = A.size + d := ⟨j - A.size, by omega⟩
  rw [xAt]
  rcases Nat.lt_or_ge d 4 with hd | hd
  · have key : ∀ d, d < 4 → 0 < d → bAt bTag d ≠ 60 := by decide
    exact key d hd (by omega)
  · rw [bAt_out (show bTag.size ≤ d from hd)]; decide
/-- A piece that goes beyond the source goes up to the tag's end. -/
theorem next_far {a : Nat} {raw : ByteArray} {o : Tok} {k : Nat} {ok : Bool} (ha : a < A.size) (hr : nextP (A ++ bTag) a raw = (o, k, ok)) (hk : A.size < k) : k = (A ++ bTag).size := by
  have hz := xSize A
  have fin : k = (A ++ bTag).size ∨ (0 < k ∧ bAt (A ++ bTag) (k - 1) = 62) → k = (A ++ bTag).size := fun h => by
    rcases h with h | ⟨h1, h2⟩
    · exact h
    · have := xGt A (by omega) h2; omega
  unfold nextP at hr
  rw [if_neg (by omega)] at hr
  by_cases c2 : raw ≠ ⟨#[]⟩ ∧ a < rawEndP (A ++ bTag) a raw
  · rw [if_pos c2] at hr
    injection hr with q1 hr; injection hr with q2 q3
    have hle := upI_le (Tk.rawOk (A ++ bTag) raw) ((A ++ bTag).size - a) a
    have e : upI (Tk.rawOk (A ++ bTag) raw) ((A ++ bTag).size - a) a = rawEndP (A ++ bTag) a raw := rfl
    rcases Nat.lt_or_ge k (A ++ bTag).size with h | h
    · have h3 := upI_at (Tk.rawOk (A ++ bTag) raw) ((A ++ bTag).size - a) a (by omega)
      rw [e, q2] at h3
      exact absurd (rawOk_lt h3).2.2.1 (xLt A hk)
    · omega
  rw [if_neg c2] at hr
  by_cases c3 : bAt (A ++ bTag) a ≠ 60
  · rw [if_pos c3] at hr
    dsimp only at hr
    injection hr with q1 hr; injection hr with q2 q3
    have q2' : upI (fun i => (decide (bAt (A ++ bTag) i = 60) || (blankN (bAt (A ++ bTag) i) != blankN (bAt (A ++ bTag) a)))) ((A ++ bTag).size - a) a = k := q2
    have := upI_before (fun i => (decide (bAt (A ++ bTag) i = 60) || (blankN (bAt (A ++ bTag) i) != blankN (bAt (A ++ bTag) a)))) ((A ++ bTag).size - a) a A.size (by omega) (by rw [q2']; omega)
    rw [x60] at this
    simp at this
  rw [if_neg c3] at hr
  by_cases c4 : letterAt (A ++ bTag) (a + 1) = true
  · rw [if_pos c4] at hr; exact fin (tag_gt hr)
  rw [if_neg c4] at hr
  by_cases c5 : (startsP (A ++ bTag) a ⟨#[60, 47]⟩ && letterAt (A ++ bTag) (a + 2)) = true
  · rw [if_pos c5] at hr; exact fin (tag_gt hr)
  rw [if_neg c5] at hr
  by_cases c6 : startsP (A ++ bTag) a ⟨#[60, 33, 45, 45]⟩ = true
  · rw [if_pos c6] at hr
    have b0 : a + 4 ≤ (A ++ bTag).size := starts_le c6
    exact fin (comment_gt b0 hr)
  rw [if_neg c6] at hr
  by_cases c7 : startsP (A ++ bTag) a ⟨#[60, 33, 100, 111, 99, 116, 121, 112, 101]⟩ = true
  · rw [if_pos c7] at hr
    have b0 : a + 9 ≤ (A ++ bTag).size := starts_le c7
    unfold doctypeP at hr
    dsimp only at hr
    injection hr with _ hr; injection hr with q2 _
    exact fin (closed_gt (upT_le _ (upT_le _ b0)) q2)
  rw [if_neg c7] at hr
  by_cases c8 : startsP (A ++ bTag) a ⟨#[60, 47, 62]⟩ = true
  · rw [if_pos c8] at hr
    injection hr with _ hr; injection hr with q2 _
    have := (starts_iff.1 c8).2 2 (by decide)
    rw [show lowN (bAt ⟨#[60, 47, 62]⟩ 2) = 62 by decide, lowN_lit (by decide)] at this
    have := xGt A (by omega) this
    omega
  rw [if_neg c8] at hr
  by_cases c9 : startsP (A ++ bTag) a ⟨#[60, 63]⟩ = true
  · rw [if_pos c9] at hr
    unfold bogusP at hr
    injection hr with _ hr; injection hr with q2 _
    exact fin (closed_gt (by omega) q2)
  rw [if_neg c9] at hr
  by_cases c10 : (startsP (A ++ bTag) a ⟨#[60, 33]⟩ || (startsP (A ++ bTag) a ⟨#[60, 47]⟩ && decide (a + 2 < (A ++ bTag).size))) = true
  · rw [if_pos c10] at hr
    unfold bogusP at hr
    injection hr with _ hr; injection hr with q2 _
    exact fin (closed_gt (by omega) q2)
  rw [if_neg c10] at hr
  injection hr with _ hr; injection hr with q2 _
  omega
def tokB : Tok := ⟨2, ⟨#[98]⟩, ⟨#[]⟩, [], false⟩
theorem next_b : nextP bTag 0 ⟨#[]⟩ = (tokB, 4, true) := by
  have := tag_plain (S := bTag) (n := ⟨#[98]⟩) (a := 0) false ⟨by decide, by decide, by decide⟩ ⟨by decide, by decide⟩ ⟨by decide, by decide⟩ ⟨by decide, by decide⟩
  exact this
theorem next_braw {raw : ByteArray} (h : 2 ≤ raw.size) : ∃ t, nextP bTag 0 raw = (textTok t true, 4, true) := by
  have hne : raw ≠ ⟨#[]⟩ := fun e => by rw [e] at h; exact absurd h (by decide)
  have e : rawEndP bTag 0 raw = 4 := upI_eq (Nat.zero_le _) (by decide) (fun j h1 h2 => by
    cases hq : Tk.rawOk bTag raw j with
    | false => rfl
    | true => have := (rawOk_lt hq).1; have z : bTag.size = 4 := rfl; omega) (fun h => absurd h (by decide))
  unfold nextP
  rw [if_neg (by decide), e, if_pos ⟨hne, by decide⟩]
  exact ⟨_, rfl⟩
end
/-- The last piece but the end is an end tag. -/
def Last2 (l : List Tok) : Prop := ∃ ys q, l = ys ++ [q, tokE] ∧ q.kind = 2
theorem last2_cons {o : Tok} {l : List Tok} (h : Last2 (o :: l)) : (l = [tokE] ∧ o.kind = 2) ∨ Last2 l := by
  obtain ⟨ys, q, e, hq⟩ := h
  cases ys with
  | nil =>
    injection e with e1 e2
    exact .inl ⟨e2, by rw [e1]; exact hq⟩
  | cons y ys =>
    injection e with e1 e2
    exact .inr ⟨ys, q, e2, hq⟩
theorem last2_one {o : Tok} (h : Last2 [o]) : False := by
  obtain ⟨ys, q, e, hq⟩ := h
  have := congrArg List.length e
  simp at this
def rawAft (raw : ByteArray) (l : List Tok) : ByteArray := l.foldl rawNx raw
theorem cuts_at (A B raw : ByteArray) (hraw : RawOK raw) (hlast : Last2 (pcsP (A ++ bTag) A.size raw)) :
    pcsP (A ++ bTag ++ B) A.size raw = (pcsP (A ++ bTag) A.size raw).dropLast ++ pcsP (A ++ bTag ++ B) (A ++ bTag).size (rawAft raw (pcsP (A ++ bTag) A.size raw).dropLast) := by
  have hX := sNext A bTag 0 raw
  have hz := xSize A
  have hzu : (A ++ bTag ++ B).size = (A ++ bTag).size + B.size := ByteArray.size_append
  rw [Nat.add_zero] at hX
  rcases hraw with rfl | ⟨h2, _⟩
  · rw [next_b] at hX
    have hX' : nextP (A ++ bTag) A.size ⟨#[]⟩ = (tokB, A.size + 4, true) := hX
    have hU : nextP (A ++ bTag ++ B) A.size ⟨#[]⟩ = (tokB, A.size + 4, true) := next_cut (alike_app _ B) (cut_up (x62 A) (by omega)) (by omega) hX' (.inr ⟨rfl, rfl⟩) (by omega) (fun _ => .inr rfl)
    rw [pcsP_yes (by omega) hX', pcsP_yes (by omega) hU, pcsP_end (s := A ++ bTag) _ (by omega), hz]
    rfl
  · obtain ⟨t, ht⟩ := next_braw h2
    rw [ht] at hX
    have hX' : nextP (A ++ bTag) A.size raw = (textTok t true, A.size + 4, true) := hX
    rw [pcsP_yes (by omega) hX', pcsP_end (s := A ++ bTag) _ (by omega)] at hlast
    rcases last2_cons hlast with ⟨_, e⟩ | h
    · exact absurd e (show ¬ (3 : Int) = 2 by decide)
    · exact absurd h last2_one
theorem cuts (A B : ByteArray) : ∀ n a raw, A.size - a ≤ n → a ≤ A.size → RawOK raw → (pcsP (A ++ bTag) a raw).length = (pcsP A a raw).length + 1 → Last2 (pcsP (A ++ bTag) a raw) →
    pcsP (A ++ bTag ++ B) a raw = (pcsP (A ++ bTag) a raw).dropLast ++ pcsP (A ++ bTag ++ B) (A ++ bTag).size (rawAft raw (pcsP (A ++ bTag) a raw).dropLast) := by
  intro n
  induction n with
  | zero =>
    intro a raw hn ha hraw hlen hlast
    have ea : a = A.size := by omega
    subst ea
    exact cuts_at A B raw hraw hlast
  | succ n ih =>
    intro a raw hn ha hraw hlen hlast
    rcases Nat.eq_or_lt_of_le ha with ea | hlt
    · subst ea
      exact cuts_at A B raw hraw hlast
    · have hz := xSize A
      have hzu : (A ++ bTag ++ B).size = (A ++ bTag).size + B.size := ByteArray.size_append
      obtain ⟨⟨o, k, ok⟩, hX⟩ : ∃ x, nextP (A ++ bTag) a raw = x := ⟨_, rfl⟩
      have gX := next_goes (A ++ bTag) raw a (by omega)
      rw [hX] at gX
      have gk : a < k := gX.gt
      have gl : k ≤ (A ++ bTag).size := gX.le
      by_cases hk : k ≤ A.size
      · have hU : nextP (A ++ bTag ++ B) a raw = (o, k, ok) := next_cut (alike_app _ B) (cut_up (x62 A) (by omega)) (by omega) hX (.inl (by omega)) (by omega) (fun e => absurd e (by omega))
        have hA : nextP A a raw = (o, k, ok) := next_cut (alike_app A bTag).symm (cut_down (x60 A) hlt hraw.no60) hlt hX (.inl (by omega)) hk (fun _ => .inl rfl)
        cases ok with
        | false =>
          rw [pcsP_no (by omega) hX] at hlen hlast ⊢
          rw [pcsP_no hlt hA] at hlen
          rw [pcsP_no (by omega) hU]
          exact ih k raw (by omega) hk hraw hlen hlast
        | true =>
          rw [pcsP_yes (by omega) hX] at hlen hlast ⊢
          rw [pcsP_yes hlt hA] at hlen
          rw [pcsP_yes (by omega) hU]
          simp only [List.length_cons] at hlen
          rcases last2_cons hlast with ⟨e1, e2⟩ | hl2
          · rw [e1] at hlen
            have := List.length_pos_iff.2 (pcsP_ne A k (rawNx raw o))
            have h1 : [tokE].length = 1 := rfl
            omega
          · rw [List.dropLast_cons_of_ne_nil (pcsP_ne _ _ _), List.cons_append, ih k (rawNx raw o) (by omega) hk (rawNx_ok o hraw) (by omega) hl2]
            rfl
      · have ek := next_far A hlt hX (by omega)
        cases ok with
        | false =>
          rw [pcsP_no (by omega) hX, pcsP_end (s := A ++ bTag) _ (by omega)] at hlast
          exact absurd hlast last2_one
        | true =>
          rw [pcsP_yes (by omega) hX, pcsP_end (s := A ++ bTag) _ (by omega)] at hlast ⊢
          rcases last2_cons hlast with ⟨_, e2⟩ | hl2
          · have hU : nextP (A ++ bTag ++ B) a raw = (o, k, true) := next_cut (alike_app _ B) (cut_up (x62 A) (by omega)) (by omega) hX (.inr ⟨rfl, e2⟩) gl (fun _ => .inr e2)
            rw [pcsP_yes (by omega) hU, ek]
            rfl
          · exact absurd hl2 last2_one
/-- The pieces of a source, and of another one behind a whole tag: of both. -/
theorem cuts_all (A B : ByteArray) (hlen : (pcsP (A ++ bTag) 0 ⟨#[]⟩).length = (pcsP A 0 ⟨#[]⟩).length + 1) (hlast : Last2 (pcsP (A ++ bTag) 0 ⟨#[]⟩)) (hraw : rawAft ⟨#[]⟩ (pcsP (A ++ bTag) 0 ⟨#[]⟩).dropLast = ⟨#[]⟩) :
    pcsP (A ++ bTag ++ B) 0 ⟨#[]⟩ = (pcsP (A ++ bTag) 0 ⟨#[]⟩).dropLast ++ pcsP B 0 ⟨#[]⟩ := by
  rw [cuts A B A.size 0 ⟨#[]⟩ (by omega) (Nat.zero_le _) (.inl rfl) hlen hlast, hraw, pcsP_behind]
end Go.Proofs.YtbdgoffbkenofaaGreat.Sc
namespace Go.Proofs.YtbdgoffbkenofaaGreat.Tk
open Go Go.RowKit
set_option linter.unusedVariables false
set_option maxHeartbeats 4000000 in
set_option maxRecDepth 100000 in
theorem rraw_calls (n : ByteArray) (w : World) : Calls Tryz.prog 25 #[.string n] w fun e w' => e = .returned (.int .i64 (rawP n)) ∧ w' = w := by
  rw [← rawC_eq]
  have q0 := lit_eq n [116, 105, 116, 108, 101] ⟨#[116, 105, 116, 108, 101]⟩ (by decide +kernel)
  have q1 := lit_eq n [116, 101, 120, 116, 97, 114, 101, 97] ⟨#[116, 101, 120, 116, 97, 114, 101, 97]⟩ (by decide +kernel)
  have q2 := lit_eq n [115, 116, 121, 108, 101] ⟨#[115, 116, 121, 108, 101]⟩ (by decide +kernel)
  have q3 := lit_eq n [115, 99, 114, 105, 112, 116] ⟨#[115, 99, 114, 105, 112, 116]⟩ (by decide +kernel)
  have q4 := lit_eq n [120, 109, 112] ⟨#[120, 109, 112]⟩ (by decide +kernel)
  have q5 := lit_eq n [105, 102, 114, 97, 109, 101] ⟨#[105, 102, 114, 97, 109, 101]⟩ (by decide +kernel)
  have q6 := lit_eq n [110, 111, 101, 109, 98, 101, 100] ⟨#[110, 111, 101, 109, 98, 101, 100]⟩ (by decide +kernel)
  have q7 := lit_eq n [110, 111, 102, 114, 97, 109, 101, 115] ⟨#[110, 111, 102, 114, 97, 109, 101, 115]⟩ (by decide +kernel)
  go_enter Tryz.func25, Tryz.ntmps25
  by_cases d0 : n = ⟨#[116, 105, 116, 108, 101]⟩
  · rw [decide_eq_true d0] at q0
    have HV : Hid (rawC n = 1) := Lib.hid (by unfold rawC; rw [if_pos d0])
    clear d0
    go_wp2_with fail
    go_ret
    exact ⟨by rw [HV.out]; rfl, rfl⟩
  rw [decide_eq_false d0] at q0
  by_cases d1 : n = ⟨#[116, 101, 120, 116, 97, 114, 101, 97]⟩
  · rw [decide_eq_true d1] at q1
    have HV : Hid (rawC n = 1) := Lib.hid (by unfold rawC; rw [if_neg d0, if_pos d1])
    clear d0 d1
    go_wp2_with fail
    go_ret
    exact ⟨by rw [HV.out]; rfl, rfl⟩
  rw [decide_eq_false d1] at q1
  by_cases d2 : n = ⟨#[115, 116, 121, 108, 101]⟩
  · rw [decide_eq_true d2] at q2
    have HV : Hid (rawC n = 2) := Lib.hid (by unfold rawC; rw [if_neg d0, if_neg d1, if_pos d2])
    clear d0 d1 d2
    go_wp2_with fail
    go_ret
    exact ⟨by rw [HV.out]; rfl, rfl⟩
  rw [decide_eq_false d2] at q2
  by_cases d3 : n = ⟨#[115, 99, 114, 105, 112, 116]⟩
  · rw [decide_eq_true d3] at q3
    have HV : Hid (rawC n = 2) := Lib.hid (by unfold rawC; rw [if_neg d0, if_neg d1, if_neg d2, if_pos d3])
    clear d0 d1 d2 d3
    go_wp2_with fail
    go_ret
    exact ⟨by rw [HV.out]; rfl, rfl⟩
  rw [decide_eq_false d3] at q3
  by_cases d4 : n = ⟨#[120, 109, 112]⟩
  · rw [decide_eq_true d4] at q4
    have HV : Hid (rawC n = 2) := Lib.hid (by unfold rawC; rw [if_neg d0, if_neg d1, if_neg d2, if_neg d3, if_pos d4])
    clear d0 d1 d2 d3 d4
    go_wp2_with fail
    go_ret
    exact ⟨by rw [HV.out]; rfl, rfl⟩
  rw [decide_eq_false d4] at q4
  by_cases d5 : n = ⟨#[105, 102, 114, 97, 109, 101]⟩
  · rw [decide_eq_true d5] at q5
    have HV : Hid (rawC n = 2) := Lib.hid (by unfold rawC; rw [if_neg d0, if_neg d1, if_neg d2, if_neg d3, if_neg d4, if_pos d5])
    clear d0 d1 d2 d3 d4 d5
    go_wp2_with fail
    go_ret
    exact ⟨by rw [HV.out]; rfl, rfl⟩
  rw [decide_eq_false d5] at q5
  by_cases d6 : n = ⟨#[110, 111, 101, 109, 98, 101, 100]⟩
  · rw [decide_eq_true d6] at q6
    have HV : Hid (rawC n = 2) := Lib.hid (by unfold rawC; rw [if_neg d0, if_neg d1, if_neg d2, if_neg d3, if_neg d4, if_neg d5, if_pos d6])
    clear d0 d1 d2 d3 d4 d5 d6
    go_wp2_with fail
    go_ret
    exact ⟨by rw [HV.out]; rfl, rfl⟩
  rw [decide_eq_false d6] at q6
  by_cases d7 : n = ⟨#[110, 111, 102, 114, 97, 109, 101, 115]⟩
  · rw [decide_eq_true d7] at q7
    have HV : Hid (rawC n = 2) := Lib.hid (by unfold rawC; rw [if_neg d0, if_neg d1, if_neg d2, if_neg d3, if_neg d4, if_neg d5, if_neg d6, if_pos d7])
    clear d0 d1 d2 d3 d4 d5 d6 d7
    go_wp2_with fail
    go_ret
    exact ⟨by rw [HV.out]; rfl, rfl⟩
  rw [decide_eq_false d7] at q7
  have HV : Hid (rawC n = 0) := Lib.hid (by unfold rawC; rw [if_neg d0, if_neg d1, if_neg d2, if_neg d3, if_neg d4, if_neg d5, if_neg d6, if_neg d7])
  clear d0 d1 d2 d3 d4 d5 d6 d7
  go_wp2_with fail
  go_ret
  exact ⟨by rw [HV.out]; rfl, rfl⟩
end Go.Proofs.YtbdgoffbkenofaaGreat.Tk
namespace Go.Proofs.YtbdgoffbkenofaaGreat.Wk
open Go Go.RowKit Go.Proofs.YtbdgoffbkenofaaGreat.Tk Go.Proofs.YtbdgoffbkenofaaGreat.Tr Go.Proofs.YtbdgoffbkenofaaGreat.Sc
set_option linter.unusedVariables false
set_option linter.unusedSimpArgs false
set_option maxRecDepth 100000

def rawAf (raw : ByteArray) (l : List Tok) : ByteArray := l.foldl rawNx raw
/-- The raw element behind the first i pieces. -/
def rawI (xs : List Itm) (i : Nat) : ByteArray := rawAf ⟨#[]⟩ ((xs.take i).map Prod.fst)
theorem rawI_zero (xs : List Itm) : rawI xs 0 = ⟨#[]⟩ := rfl
theorem rawI_next {xs : List Itm} {i : Nat} {x : Itm} (h : xs[i]? = some x) : rawI xs (i + 1) = rawNx (rawI xs i) x.1 := by
  unfold rawI rawAf
  rw [List.take_add_one, h]
  simp
theorem rawI_is (xs : List Itm) (i : Nat) : rawI xs i = ((xs.take i).map Prod.fst).foldl rawNx ⟨#[]⟩ := rfl
attribute [irreducible] rawI
set_option maxHeartbeats 8000000 in
theorem open_calls (xs : List Itm) (g ac n : Nat) (w : World) (hT : Toks w g xs) (hn : n ≤ xs.length) (hbig : xs.length ≤ 1000000) :
    Calls Tryz.prog 12 #[.slice (some ⟨g, 0, none⟩) n ac] w fun e w' => e = .returned (.bool (!decide (rawI xs n = ⟨#[]⟩))) ∧ w' = w := by
  have HT := Lib.hid hT
  have HNL := Lib.hid hn
  have HR0 : Hid (rawI xs 0 = ⟨#[]⟩) := Lib.hid (rawI_zero xs)
  have hn4 : n ≤ 1000000 := by omega
  clear hT hn hbig
  go_enter Tryz.func12, Tryz.ntmps12
  go_wp2_with fail
  go_loop [3, 4] (fun t3 t4 => ∃ i r, Hid (i ≤ n) ∧ t4 = .int .i64 (i : Nat) ∧ t3 = .string r ∧ Hid (r = rawI xs i)) (fun _ t4 => n - (intOf t4).toNat)
  case atStart => exact ⟨0, ⟨#[]⟩, Lib.hid (Nat.zero_le _), rfl, rfl, Lib.hid HR0.out.symm⟩
  case round =>
    obtain ⟨i, r, HI, rfl, rfl, HR⟩ := hrel
    rcases Nat.lt_or_ge i n with hlt | hge
    · have hx : xs[i]? = some (xs[i]'(by have := HNL.out; omega)) := List.getElem?_eq_getElem _
      generalize xs[i]'(by have := HNL.out; omega) = x at hx
      obtain ⟨c0, c1, _, _, _⟩ := HT.out.at_ i x hx
      have HNX := Lib.hid (rawI_next hx)
      have HLT := Lib.hid hlt
      have hz : (i : Int) < (n : Int) := by omega
      have HRC := Lib.hid (rraw_calls x.1.name)
      clear hx
      by_cases k1 : x.1.kind = 1
      · have q1 : (x.1.kind == 1) = true := by rw [k1]; rfl
        by_cases k2 : rawP x.1.name = 0
        · have HV := Lib.hid (show rawNx r x.1 = ⟨#[]⟩ by unfold rawNx; rw [if_neg (fun y => y.2 k2), if_pos (.inl k1)])
          have q2 : ¬ rawP x.1.name > 0 := by omega
          clear k1 k2
          go_wp2_with (go_at_call 25; refine (HRC.out _).mono ?_; rintro e wz ⟨rfl, rfl⟩)
          go_round
          case rel => exact ⟨i + 1, _, Lib.hid HLT.out, by go_num, rfl, Lib.hid (by rw [HNX.out, ← HR.out, HV.out])⟩
          case measure => simp [intOf]; have := HLT.out; omega
        · have HV := Lib.hid (show rawNx r x.1 = x.1.name by unfold rawNx; rw [if_pos ⟨k1, k2⟩])
          have q2 : rawP x.1.name > 0 := by
            have : 0 ≤ rawP x.1.name := by unfold rawP; split; decide; split <;> decide
            omega
          clear k1 k2
          go_wp2_with (go_at_call 25; refine (HRC.out _).mono ?_; rintro e wz ⟨rfl, rfl⟩)
          go_round
          case rel => exact ⟨i + 1, _, Lib.hid HLT.out, by go_num, rfl, Lib.hid (by rw [HNX.out, ← HR.out, HV.out])⟩
          case measure => simp [intOf]; have := HLT.out; omega
      · have q1 : (x.1.kind == 1) = false := by rw [beq_eq_false_iff_ne]; exact k1
        by_cases k2 : x.1.kind = 2
        · have q2 : (x.1.kind == 2) = true := by rw [k2]; rfl
          by_cases k3 : x.1.name = r
          · have q3 := (Sr.str_eq x.1.name r).trans (decide_eq_true k3)
            have HV := Lib.hid (show rawNx r x.1 = ⟨#[]⟩ by unfold rawNx; rw [if_neg (fun y => k1 y.1), if_pos (.inr ⟨k2, k3⟩)])
            clear k1 k2 k3
            go_wp2_with fail
            go_round
            case rel => exact ⟨i + 1, _, Lib.hid HLT.out, by go_num, rfl, Lib.hid (by rw [HNX.out, ← HR.out, HV.out])⟩
            case measure => simp [intOf]; have := HLT.out; omega
          · have q3 := (Sr.str_eq x.1.name r).trans (decide_eq_false k3)
            have HV := Lib.hid (show rawNx r x.1 = r by unfold rawNx; rw [if_neg (fun y => k1 y.1), if_neg (by rintro (y | y); exact k1 y; exact k3 y.2)])
            clear k1 k2 k3
            go_wp2_with fail
            go_round
            case rel => exact ⟨i + 1, _, Lib.hid HLT.out, by go_num, rfl, Lib.hid (by rw [HNX.out, ← HR.out, HV.out])⟩
            case measure => simp [intOf]; have := HLT.out; omega
        · have q2 : (x.1.kind == 2) = false := by rw [beq_eq_false_iff_ne]; exact k2
          have HV := Lib.hid (show rawNx r x.1 = r by unfold rawNx; rw [if_neg (fun y => k1 y.1), if_neg (by rintro (y | y); exact k1 y; exact k2 y.1)])
          clear k1 k2
          go_wp2_with fail
          go_round
          case rel => exact ⟨i + 1, _, Lib.hid HLT.out, by go_num, rfl, Lib.hid (by rw [HNX.out, ← HR.out, HV.out])⟩
          case measure => simp [intOf]; have := HLT.out; omega
    · have hz : ¬ (i : Int) < (n : Int) := by omega
      have ei : i = n := by have := HI.out; omega
      have HE := Lib.hid (show rawI xs n = r by rw [← ei, ← HR.out])
      clear ei
      by_cases kr : r = ⟨#[]⟩
      · have q0 := (lit_eq r [] ⟨#[]⟩ (by decide +kernel)).trans (decide_eq_true kr)
        have HV := Lib.hid (show decide (rawI xs n = ⟨#[]⟩) = true from decide_eq_true (by rw [HE.out]; exact kr))
        clear kr
        go_wp2_with fail
        go_ret
        exact ⟨by rw [HV.out]; rfl, rfl⟩
      · have q0 := (lit_eq r [] ⟨#[]⟩ (by decide +kernel)).trans (decide_eq_false kr)
        have HV := Lib.hid (show decide (rawI xs n = ⟨#[]⟩) = false from decide_eq_false (by rw [HE.out]; exact kr))
        clear kr
        go_wp2_with fail
        go_ret
        exact ⟨by rw [HV.out]; rfl, rfl⟩
end Go.Proofs.YtbdgoffbkenofaaGreat.Wk
namespace Go.Proofs.YtbdgoffbkenofaaGreat.Wk
open Go Go.RowKit Go.Proofs.YtbdgoffbkenofaaGreat.Tk Go.Proofs.YtbdgoffbkenofaaGreat.Tr Go.Proofs.YtbdgoffbkenofaaGreat.Sc
set_option linter.unusedVariables false
set_option linter.unusedSimpArgs false
set_option maxRecDepth 100000

theorem all_as2 (s : ByteArray) (hs : s.size ≤ 20000) (w : World) :
    Calls Tryz.prog 10 #[.string s] w fun e w' => ∃ g ac xs, e = .returned (.slice (some ⟨g, 0, none⟩) xs.length ac) ∧ xs.map Prod.fst = pcsP (cleanB s) 0 ⟨#[]⟩ ∧ Toks w' g xs ∧ Below w.heap.size w w' ∧ xs.length ≤ ac := by
  refine (all_calls s hs (by have := cleanB_size s; omega) w).mono ?_
  rintro e w' ⟨v, xs, rfl, hx, hr, ha, hb⟩
  rcases hr.2 with ⟨_, h0⟩ | ⟨g, cap, cur, hv, hg, hblk, hc1, hc2, hc3, ht⟩
  · have : xs = [] := List.eq_nil_of_length_eq_zero h0
    subst this
    exact absurd hx.symm (pcsP_ne _ _ _)
  · refine ⟨g, cap, xs, by rw [hv], hx, ⟨fun i x hi => ?_, ha, lt_of_block hblk⟩, hb, hc1⟩
    have hl : i < xs.length := by
      rcases Nat.lt_or_ge i xs.length with h | h
      · exact h
      · rw [List.getElem?_eq_none h] at hi; cases hi
    have key : ∀ k u, k < 5 → (fiveT x)[k]? = some u → w'.cell? ⟨g, i * 5 + k, none⟩ = some u := fun k u hk hu => by
      have h := cellsT_at xs i x hi k u hu
      rw [← ht, List.getElem?_take_of_lt (by omega)] at h
      rw [block_cell hblk, ← Array.getElem?_toList]; exact h
    exact ⟨key 0 _ (by decide) rfl, key 1 _ (by decide) rfl, key 2 _ (by decide) rfl, key 3 _ (by decide) rfl, key 4 _ (by decide) rfl⟩
theorem same_one (o : Tok) (A B : Option Addr) (ac bc : Nat) (W : World) (hN : o.attrs.length ≤ 1000000) (hA : IsAttrs W W.heap.size o.attrs A ac) (hB : IsAttrs W W.heap.size o.attrs B bc) :
    Calls Tryz.prog 13 #[.agg #[.int .i64 o.kind, .string o.name, .string o.text, .slice A o.attrs.length ac, .bool o.raw], .agg #[.int .i64 o.kind, .string o.name, .string o.text, .slice B o.attrs.length bc, .bool o.raw]] W fun e w' => e = .returned (.bool true) ∧ Below W.heap.size W w' := by
  have := same_token o o A B ac bc W hN hA hB
  rw [decide_eq_true rfl] at this
  exact this
/-- What the pieces of the three sources are, where ScanCuts asks. -/
structure CutOk (xs ys zs : List Itm) (p : Nat) : Prop where
  len : zs.length = p + 1 + ys.length
  left : ∀ i z x, i < p + 1 → zs[i]? = some z → xs[i]? = some x → z.1 = x.1
  right : ∀ i z y, zs[p + 1 + i]? = some z → ys[i]? = some y → z.1 = y.1
theorem cut_ok {A B : ByteArray} {xs ys zs ws : List Itm} {p : Nat} {q : Itm} (hx : xs.map Prod.fst = pcsP (A ++ bTag) 0 ⟨#[]⟩) (hy : ys.map Prod.fst = pcsP B 0 ⟨#[]⟩) (hz : zs.map Prod.fst = pcsP (A ++ bTag ++ B) 0 ⟨#[]⟩) (ha : ws.map Prod.fst = pcsP A 0 ⟨#[]⟩)
    (hxl : xs.length = p + 2) (hal : ws.length = p + 1) (hq : xs[p]? = some q) (hk : q.1.kind = 2) (hr : rawI xs (p + 1) = ⟨#[]⟩) : CutOk xs ys zs p := by
  have hlx : (pcsP (A ++ bTag) 0 ⟨#[]⟩).length = p + 2 := by rw [← hx, List.length_map, hxl]
  have hla : (pcsP A 0 ⟨#[]⟩).length = p + 1 := by rw [← ha, List.length_map, hal]
  have hdl : (pcsP (A ++ bTag) 0 ⟨#[]⟩).dropLast = (xs.take (p + 1)).map Prod.fst := by
    rw [← hx, List.dropLast_eq_take, List.length_map, hxl, List.map_take]; rfl
  have hall := cuts_all A B (by omega) ?_ ?_
  · rw [← hx, ← hy, ← hz] at hall
    have hdl2 : ((xs.map Prod.fst).dropLast).length = p + 1 := by rw [List.length_dropLast, List.length_map, hxl]; rfl
    refine ⟨?_, fun i z x hi h1 h2 => ?_, fun i z y h1 h2 => ?_⟩
    · have := congrArg List.length hall
      rw [List.length_map, List.length_append, hdl2, List.length_map] at this
      exact this
    · have e := congrArg (fun l => l[i]?) hall
      rw [List.getElem?_map, h1, List.getElem?_append_left (by omega), List.getElem?_dropLast, List.length_map, hxl, if_pos (by omega), List.getElem?_map, h2] at e
      simpa using e
    · have e := congrArg (fun l => l[p + 1 + i]?) hall
      rw [List.getElem?_map, h1, List.getElem?_append_right (by omega), hdl2, Nat.add_sub_cancel_left, List.getElem?_map, h2] at e
      simpa using e
  · obtain ⟨l, e, _⟩ := pcsP_good (A ++ bTag) 0 ⟨#[]⟩
    have hll : l.length = p + 1 := by rw [e] at hlx; simp at hlx; omega
    obtain ⟨l', t, rfl⟩ : ∃ l' t, l = l' ++ [t] := ⟨l.dropLast, l.getLast (fun h => by rw [h] at hll; simp at hll), (List.dropLast_concat_getLast _).symm⟩
    refine ⟨l', t, by rw [e]; simp, ?_⟩
    have hp : l'.length = p := by simp at hll; omega
    have : (pcsP (A ++ bTag) 0 ⟨#[]⟩)[p]? = some t := by
      rw [e, List.append_assoc, List.getElem?_append_right (by omega), hp, Nat.sub_self]; rfl
    rw [← hx, List.getElem?_map, hq] at this
    have hqt : q.1 = t := by simpa using this
    rw [← hqt]; exact hk
  · rw [hdl]
    have := rawI_is xs (p + 1)
    rw [hr] at this
    exact this.symm
set_option maxHeartbeats 16000000 in
theorem scanCuts (a b : ByteArray) (w0 : a.size ≤ maxLen) (w1 : b.size ≤ maxLen) (w : World) :
    Calls Tryz.prog 4 #[.string a, .string b] w fun e w' => e = .returned (.bool true) ∧ Below w.heap.size w w' := by
  by_cases hl : 1500 < a.size
  · go_enter Tryz.func4, Tryz.ntmps4
    go_wp2_with fail
    refine (Sc.awake_calls _).mono ?_
    rintro e w1 ⟨rfl, hb⟩
    go_wp2_with fail
    go_ret
    exact ⟨rfl, hb⟩
  by_cases hl2 : 1500 < b.size
  · go_enter Tryz.func4, Tryz.ntmps4
    go_wp2_with fail
    refine (Sc.awake_calls _).mono ?_
    rintro e w1 ⟨rfl, hb⟩
    go_wp2_with fail
    go_ret
    exact ⟨rfl, hb⟩
  have hza : a.size ≤ 1500 := by omega
  have hzb : b.size ≤ 1500 := by omega
  have zt : bTag.size = 4 := rfl
  have HX := Lib.hid (all_as2 (a ++ bTag) (by rw [ByteArray.size_append]; omega))
  rw [clean_tag] at HX
  have HY := Lib.hid (all_as b (by omega))
  have HZ := Lib.hid (all_as (a ++ bTag ++ b) (by rw [ByteArray.size_append, ByteArray.size_append]; omega))
  rw [clean_both] at HZ
  have HA := Lib.hid (all_as a (by omega))
  have sA := cleanB_size a
  have sB := cleanB_size b
  generalize cleanB a = A at *
  generalize cleanB b = B at *
  have lX := pcsP_len (A ++ bTag) 0 ⟨#[]⟩
  have lY := pcsP_len B 0 ⟨#[]⟩
  have lZ := pcsP_len (A ++ bTag ++ B) 0 ⟨#[]⟩
  have lA := pcsP_len A 0 ⟨#[]⟩
  have atZ := pcsF_attrs (A ++ bTag ++ B) ((A ++ bTag ++ B).size - 0) 0 ⟨#[]⟩
  rw [ByteArray.size_append] at lX
  rw [ByteArray.size_append, ByteArray.size_append] at lZ
  have HAT : Hid (∀ x ∈ pcsP (A ++ bTag ++ B) 0 ⟨#[]⟩, x.attrs.length ≤ 1000000) := Lib.hid fun x hx => by
    have := atZ x hx
    rw [ByteArray.size_append, ByteArray.size_append] at this
    omega
  clear atZ
  unfold bTag at HX HZ
  clear w0 w1 hl hl2
  go_enter Tryz.func4, Tryz.ntmps4
  go_wp2_with fail
  refine (HX.out _).mono ?_
  rintro e w1 ⟨g1, ac1, xs, rfl, hx, htx, hb1, hcap⟩
  replace hx : xs.map Prod.fst = pcsP (A ++ bTag) 0 ⟨#[]⟩ := hx
  have lx : xs.length ≤ 20000 := by rw [← List.length_map (f := Prod.fst), hx]; omega
  have hx1 : 1 ≤ xs.length := by
    rw [← List.length_map (f := Prod.fst), hx]
    exact List.length_pos_iff.2 (pcsP_ne _ _ _)
  have HHX := Lib.hid hx
  have HB1 := Lib.hid hb1
  have HTX := Lib.hid htx
  clear hx htx hb1 HX
  go_wp2_with fail
  refine (HY.out _).mono ?_
  rintro e w2 ⟨g2, ac2, ys, rfl, hy, hty, hb2⟩
  have ly : ys.length ≤ 20000 := by rw [← List.length_map (f := Prod.fst), hy]; omega
  have HHY := Lib.hid hy
  have HB2 := Lib.hid (HB1.out.trans (hb2.mono HB1.out.size))
  replace HTX := Lib.hid (HTX.out.keep hb2)
  have HTY := Lib.hid hty
  clear hy hty hb2 HY HB1
  go_wp2_with fail
  refine (HZ.out _).mono ?_
  rintro e w3 ⟨g3, ac3, zs, rfl, hz, htz, hb3⟩
  replace hz : zs.map Prod.fst = pcsP (A ++ bTag ++ B) 0 ⟨#[]⟩ := hz
  have lz : zs.length ≤ 20000 := by rw [← List.length_map (f := Prod.fst), hz]; omega
  have HHZ := Lib.hid hz
  have HB3 := Lib.hid (HB2.out.trans (hb3.mono HB2.out.size))
  replace HTX := Lib.hid (HTX.out.keep hb3)
  replace HTY := Lib.hid (HTY.out.keep hb3)
  have HTZ := Lib.hid htz
  clear hz htz hb3 HZ HB2
  obtain ⟨nx, hnx⟩ : ∃ nx, xs.length = nx := ⟨_, rfl⟩
  obtain ⟨ny, hny⟩ : ∃ ny, ys.length = ny := ⟨_, rfl⟩
  obtain ⟨nz, hnz⟩ : ∃ nz, zs.length = nz := ⟨_, rfl⟩
  rw [hnx] at lx hx1 ⊢
  rw [hny] at ly ⊢
  rw [hnz] at lz ⊢
  have HNX := Lib.hid hnx
  have HNY := Lib.hid hny
  have HNZ := Lib.hid hnz
  clear hnx hny hnz hza hzb lX lY lZ zt
  by_cases c1 : nx = 1
  · subst c1
    go_wp2_with fail
    refine (Sc.awake_calls _).mono ?_
    rintro e w9 ⟨rfl, hb9⟩
    have HB9 := Lib.hid (HB3.out.trans (hb9.mono HB3.out.size))
    clear hb9
    go_wp2_with fail
    go_ret
    exact ⟨rfl, HB9.out⟩
  obtain ⟨p, rfl⟩ : ∃ p, nx = p + 2 := ⟨nx - 2, by omega⟩
  go_upto_region 7 with (fail)
  rw [show ((p : Int) + 2 - 1) = (p : Int) + 1 by omega]
  have k0 : ¬ (p : Int) + 1 < 1 := by omega
  go_wp2_with fail
  refine (HA.out _).mono ?_
  rintro e w4 ⟨g4, ac4, ws, rfl, hw, htw, hb4⟩
  have lw : ws.length ≤ 20000 := by rw [← List.length_map (f := Prod.fst), hw]; omega
  have HB4 := Lib.hid (HB3.out.trans (hb4.mono HB3.out.size))
  replace HTX := Lib.hid (HTX.out.keep hb4)
  replace HTY := Lib.hid (HTY.out.keep hb4)
  replace HTZ := Lib.hid (HTZ.out.keep hb4)
  have HHA := Lib.hid hw
  obtain ⟨nw, hnw⟩ : ∃ nw, ws.length = nw := ⟨_, rfl⟩
  rw [hnw] at lw ⊢
  have HNW := Lib.hid hnw
  clear hw htw hb4 hnw HA HB3 lA
  by_cases c2 : nw = p + 1
  case neg =>
    have q2 : (((p : Int) + 1) != (nw : Int)) = true := by rw [bne_iff_ne]; omega
    clear c2
    go_wp2_with fail
    refine (Sc.awake_calls _).mono ?_
    rintro e w9 ⟨rfl, hb9⟩
    have HB9 := Lib.hid (HB4.out.trans (hb9.mono HB4.out.size))
    clear hb9
    go_wp2_with fail
    go_ret
    exact ⟨rfl, HB9.out⟩
  subst c2
  have hq : xs[p]? = some (xs[p]'(by have := HNX.out; omega)) := List.getElem?_eq_getElem _
  generalize xs[p]'(by have := HNX.out; omega) = q at hq
  obtain ⟨e0, e1, e2, e3, e4⟩ := HTX.out.at_ p q hq
  have HQ := Lib.hid hq
  have hpx : (p : Int) < (p : Int) + 2 := by omega
  clear hq e2 e3 e4
  by_cases c3 : q.1.kind = 2
  case neg =>
    have q3 : (q.1.kind != 2) = true := by rw [bne_iff_ne]; exact c3
    clear c3
    go_wp2_with fail
    refine (Sc.awake_calls _).mono ?_
    rintro e w9 ⟨rfl, hb9⟩
    have HB9 := Lib.hid (HB4.out.trans (hb9.mono HB4.out.size))
    clear hb9
    go_wp2_with fail
    go_ret
    exact ⟨rfl, HB9.out⟩
  have q3 : (q.1.kind != 2) = false := by rw [c3]; rfl
  by_cases c4 : q.1.name = ⟨#[98]⟩
  case neg =>
    have q4 := (lit_eq q.1.name [98] ⟨#[98]⟩ (by decide +kernel)).trans (decide_eq_false c4)
    have q5 : (q.1.name.toList != [98]) = true := by unfold bne; rw [q4]; rfl
    clear c3 c4
    go_wp2_with fail
    refine (Sc.awake_calls _).mono ?_
    rintro e w9 ⟨rfl, hb9⟩
    have HB9 := Lib.hid (HB4.out.trans (hb9.mono HB4.out.size))
    clear hb9
    go_wp2_with fail
    go_ret
    exact ⟨rfl, HB9.out⟩
  have q4 := (lit_eq q.1.name [98] ⟨#[98]⟩ (by decide +kernel)).trans (decide_eq_true c4)
  have q5 : (q.1.name.toList != [98]) = false := by unfold bne; rw [q4]; rfl
  have HC3 := Lib.hid c3
  clear c3 c4
  have HOP := Lib.hid (open_calls xs g1 ac1 (p + 1) w4 HTX.out (by have := HNX.out; omega) (by have := HNX.out; omega))
  have hcap1 : p + 1 ≤ ac1 := by have := HNX.out; omega
  go_wp2_with fail
  refine HOP.out.mono ?_
  rintro e w5 ⟨rfl, hw5⟩
  obtain rfl : w4 = w5 := hw5.symm
  by_cases c5 : rawI xs (p + 1) = ⟨#[]⟩
  case neg =>
    rw [decide_eq_false c5]
    clear c5
    go_wp2_with fail
    refine (Sc.awake_calls _).mono ?_
    rintro e w9 ⟨rfl, hb9⟩
    have HB9 := Lib.hid (HB4.out.trans (hb9.mono HB4.out.size))
    clear hb9
    go_wp2_with fail
    go_ret
    exact ⟨rfl, HB9.out⟩
  rw [decide_eq_true c5]
  have HOK := Lib.hid (cut_ok HHX.out HHY.out HHZ.out HHA.out HNX.out HNW.out HQ.out HC3.out c5)
  have q6 : ((nz : Int) != (p : Int) + 1 + (ny : Int)) = false := by
    have := HOK.out.len
    have := HNZ.out
    have := HNY.out
    rw [bne_eq_false_iff_eq]; omega
  clear c5 HOP e0 e1 q3 q4 q5 hpx
  go_wp2_with fail
  go_loopw [9] (fun t9 wr => ∃ i : Nat, t9 = .int .i64 (i : Int) ∧ Hid (i ≤ nz) ∧ Hid (Below w4.heap.size w4 wr)) (fun t9 _ => nz - (intOf t9).toNat)
  case atStart => exact ⟨0, rfl, Lib.hid (Nat.zero_le _), Lib.hid (Below.refl _ _)⟩
  case round =>
    obtain ⟨i, rfl, HI, HWR⟩ := hrel
    have HNE := Lib.hid (show nz = p + 1 + ny by have := HOK.out.len; have := HNZ.out; have := HNY.out; omega)
    by_cases hlt : i < nz
    · have HLT := Lib.hid hlt
      have k1 : (i : Int) < (nz : Int) := by omega
      have hz : zs[i]? = some (zs[i]'(by have := HNZ.out; omega)) := List.getElem?_eq_getElem _
      generalize zs[i]'(by have := HNZ.out; omega) = z at hz
      by_cases hi : i < p + 1
      · have k2 : (i : Int) < (p : Int) + 1 := by omega
        have k3 : ¬ (i : Int) ≥ (p : Int) + 1 := by omega
        have k4 : (i : Int) < (p : Int) + 2 := by omega
        have hd1 : decide ((i : Int) < (p : Int) + 1) = true := decide_eq_true k2
        have hd2 : decide ((i : Int) ≥ (p : Int) + 1) = false := decide_eq_false k3
        have hy : xs[i]? = some (xs[i]'(by have := HNX.out; omega)) := List.getElem?_eq_getElem _
        generalize xs[i]'(by have := HNX.out; omega) = v at hy
        have hzy : z.1 = v.1 := HOK.out.left i z v hi hz hy
        have HW := Lib.hid (HB4.out.trans (HWR.out.mono HB4.out.size))
        obtain ⟨z0, z1, z2, z3, z4⟩ := (HTZ.out.keep HWR.out).at_ i _ hz
        obtain ⟨y0, y1, y2, y3, y4⟩ := (HTX.out.keep HWR.out).at_ i _ hy
        have HZA := (HTZ.out.keep HWR.out).att _ (List.mem_of_getElem? hz)
        have HYA := (HTX.out.keep HWR.out).att _ (List.mem_of_getElem? hy)
        have hzn := HAT.out z.1 (by rw [← HHZ.out]; exact List.mem_map_of_mem (List.mem_of_getElem? hz))
        obtain ⟨o, A1, c1⟩ := z
        obtain ⟨o2, A2, c2⟩ := v
        dsimp only at hzy z0 z1 z2 z3 z4 y0 y1 y2 y3 y4 HZA HYA hzn
        subst hzy
        have HSM := Lib.hid (fun W (hW : Below wr.heap.size wr W) => same_one o A1 A2 c1 c2 W hzn (isAttrs_below HZA hW) (isAttrs_below HYA hW))
        have r0 := cell_regrown z0
        have r1 := cell_regrown z1
        have r2 := cell_regrown z2
        have r3 := cell_regrown z3
        have r4 := cell_regrown z4
        have s0 := cell_regrown y0
        have s1 := cell_regrown y1
        have s2 := cell_regrown y2
        have s3 := cell_regrown y3
        have s4 := cell_regrown y4
        clear hz hy HZA HYA hzn z0 z1 z2 z3 z4 y0 y1 y2 y3 y4
        go_wp2_with fail
        refine wp_region_quiet_below mixedT (by kernel_rfl) ?_
        iterate 12 (go_big_quiet_step (fail))
        go_big_quiet_step ((go_at_call 13; exact Calls.regrown_of (HSM.out _ (below_regrown wr _ _))))
        repeat (go_big_quiet_step (fail))
        refine wpQuiet_nil ?_
        rintro w6 ⟨gg, hgg⟩
        have hb6 : Below wr.heap.size wr w6 := hgg ▸ below_regrown wr gg.d gg.os
        have HWR2 := Lib.hid (HWR.out.trans (hb6.mono HWR.out.size))
        clear hgg gg hb6 r0 r1 r2 r3 r4 s0 s1 s2 s3 s4
        go_wp2_with fail
        go_roundw
        case rel => exact ⟨i + 1, by go_num, Lib.hid HLT.out, HWR2⟩
        case measure => simp [intOf]; have := HLT.out; omega
      · obtain ⟨d, hid⟩ : ∃ d, i = p + 1 + d := ⟨i - (p + 1), by omega⟩
        have hdn : d < ny := by have := HNE.out; omega
        have k2 : ¬ (i : Int) < (p : Int) + 1 := by omega
        have k3 : (i : Int) ≥ (p : Int) + 1 := by omega
        have k4 : (d : Int) < (ny : Int) := by omega
        have k5 : (i : Int) - ((p : Int) + 1) = (d : Int) := by omega
        have hd1 : decide ((i : Int) < (p : Int) + 1) = false := decide_eq_false k2
        have hd2 : decide ((i : Int) ≥ (p : Int) + 1) = true := decide_eq_true k3
        have hd3 : decide ((i : Int) ≤ (p : Int)) = false := decide_eq_false (by omega)
        have hd4 : decide ((p : Int) < (i : Int)) = true := decide_eq_true (by omega)
        have hd5 : decide (i ≤ p) = false := decide_eq_false (by omega)
        have hd6 : decide (i < p + 1) = false := decide_eq_false (by omega)
        have hy : ys[d]? = some (ys[d]'(by have := HNY.out; omega)) := List.getElem?_eq_getElem _
        generalize ys[d]'(by have := HNY.out; omega) = v at hy
        have hzy : z.1 = v.1 := HOK.out.right d z v (hid ▸ hz) hy
        clear hid
        have HW := Lib.hid (HB4.out.trans (HWR.out.mono HB4.out.size))
        obtain ⟨z0, z1, z2, z3, z4⟩ := (HTZ.out.keep HWR.out).at_ i _ hz
        obtain ⟨y0, y1, y2, y3, y4⟩ := (HTY.out.keep HWR.out).at_ d _ hy
        have HZA := (HTZ.out.keep HWR.out).att _ (List.mem_of_getElem? hz)
        have HYA := (HTY.out.keep HWR.out).att _ (List.mem_of_getElem? hy)
        have hzn := HAT.out z.1 (by rw [← HHZ.out]; exact List.mem_map_of_mem (List.mem_of_getElem? hz))
        obtain ⟨o, A1, c1⟩ := z
        obtain ⟨o2, A2, c2⟩ := v
        dsimp only at hzy z0 z1 z2 z3 z4 y0 y1 y2 y3 y4 HZA HYA hzn
        subst hzy
        have HSM := Lib.hid (fun W (hW : Below wr.heap.size wr W) => same_one o A1 A2 c1 c2 W hzn (isAttrs_below HZA hW) (isAttrs_below HYA hW))
        have r0 := cell_regrown z0
        have r1 := cell_regrown z1
        have r2 := cell_regrown z2
        have r3 := cell_regrown z3
        have r4 := cell_regrown z4
        have s0 := cell_regrown y0
        have s1 := cell_regrown y1
        have s2 := cell_regrown y2
        have s3 := cell_regrown y3
        have s4 := cell_regrown y4
        clear hz hy HZA HYA hzn z0 z1 z2 z3 z4 y0 y1 y2 y3 y4
        go_wp2_with fail
        refine wp_region_quiet_below mixedT (by kernel_rfl) ?_
        iterate 30 (go_big_quiet_step (fail))
        go_big_quiet_step ((go_at_call 13; exact Calls.regrown_of (HSM.out _ (below_regrown wr _ _))))
        repeat (go_big_quiet_step (fail))
        refine wpQuiet_nil ?_
        rintro w6 ⟨gg, hgg⟩
        have hb6 : Below wr.heap.size wr w6 := hgg ▸ below_regrown wr gg.d gg.os
        have HWR2 := Lib.hid (HWR.out.trans (hb6.mono HWR.out.size))
        clear hgg gg hb6 r0 r1 r2 r3 r4 s0 s1 s2 s3 s4
        go_wp2_with fail
        go_roundw
        case rel => exact ⟨i + 1, by go_num, Lib.hid HLT.out, HWR2⟩
        case measure => simp [intOf]; have := HLT.out; omega
    · have k1 : ¬ (i : Int) < (nz : Int) := by omega
      go_wp2_with fail
      refine (Sc.awake_calls _).mono ?_
      rintro e w9 ⟨rfl, hb9⟩
      have HB5 := Lib.hid (HB4.out.trans (HWR.out.mono HB4.out.size))
      have HB9 := Lib.hid (HB5.out.trans (hb9.mono HB5.out.size))
      clear hb9
      go_wp2_with fail
      go_ret
      exact ⟨rfl, HB9.out⟩
end Go.Proofs.YtbdgoffbkenofaaGreat.Wk
