/- The document's token, plain: what it answers is what the program's answers (but for tags). -/
import Derived.Test.YtbdgoffbkenofaaGreatRnE
import Derived.Test.YtbdgoffbkenofaaGreatRnC
import Derived.Test.YtbdgoffbkenofaaGreatTkPb
import Derived.Test.YtbdgoffbkenofaaGreatRnI
import Derived.Test.YtbdgoffbkenofaaGreatScSr
import Derived.Test.YtbdgoffbkenofaaGreatRnN
import Derived.Test.YtbdgoffbkenofaaGreatRcRf
import Derived.Test.YtbdgoffbkenofaaGreatScA
import Derived.Test.YtbdgoffbkenofaaGreatKr
namespace Go.Proofs.YtbdgoffbkenofaaGreat.Rn
open Go Go.RowKit Go.Proofs.YtbdgoffbkenofaaGreat.Tk
set_option linter.unusedVariables false
set_option maxRecDepth 100000

theorem hasR_is {s t : ByteArray} {a : Nat} (h : lowS t = t) : hasR s a t = startsP s a t := by unfold hasR startsP; rw [h]
theorem lowN_idem (c : Nat) : lowN (lowN c) = lowN c := by unfold lowN; split <;> (try split) <;> omega
theorem lowS_idem (x : ByteArray) : lowS (lowS x) = lowS x :=
  ext_bAt (by rw [lowS_size]) fun i _ => by rw [bAt_low, bAt_low, lowN_idem]
theorem lowS_app (x y : ByteArray) : lowS (x ++ y) = lowS x ++ lowS y :=
  ext_bAt (by rw [lowS_size, ByteArray.size_append, ByteArray.size_append, lowS_size, lowS_size]) fun i _ => by
    rw [bAt_low, bAt_app, bAt_app, lowS_size]
    split
    · rw [bAt_low]
    · rw [bAt_low]
theorem upI_congr {q q' : Nat → Bool} {n i : Nat} (h : ∀ j, i ≤ j → j < i + n → q j = q' j) : upI q n i = upI q' n i := by
  refine upI_eq (upI_ge _ _ _) (upI_le _ _ _) (fun j h1 h2 => ?_) fun h4 => ?_
  · have := upI_le q' n i
    rw [h j h1 (by omega)]; exact upI_before _ _ _ _ h1 h2
  · rw [h _ (upI_ge _ _ _) h4]; exact upI_at _ _ _ h4
/-- A byte that lower case leaves. -/
def Stays (c : Nat) : Prop := c < 65 ∨ (90 < c ∧ c < 97) ∨ 122 < c
theorem one_low {t : ByteArray} (ht : t.size = 1) (hc : Stays (bAt t 0)) : lowS t = t :=
  ext_bAt (lowS_size t) fun i hi => by
    rw [lowS_size, ht] at hi
    obtain rfl : i = 0 := by omega
    rw [bAt_low]; exact (lowN_lit hc).2 rfl
theorem has_one {s t : ByteArray} {j : Nat} (ht : t.size = 1) (hc : Stays (bAt t 0)) (hj : j < s.size) : hasR s j t = decide (bAt s j = bAt t 0) := by
  rw [hasR_is (one_low ht hc), Bool.eq_iff_iff, starts_iff, decide_eq_true_eq, ht]
  constructor
  · rintro ⟨_, h⟩
    have := h 0 (by decide)
    rw [Nat.add_zero, (lowN_lit hc).2 rfl] at this
    exact (lowN_lit hc).1 this
  · intro h
    refine ⟨by omega, fun i hi => ?_⟩
    obtain rfl : i = 0 := by omega
    rw [Nat.add_zero, h]
theorem find_one {s t : ByteArray} {a : Nat} (ht : t.size = 1) (hc : Stays (bAt t 0)) : findR s a t = upT (fun c => decide (c = bAt t 0)) s a :=
  upI_congr fun j h1 h2 => has_one ht hc (by omega)
theorem find_gt (s : ByteArray) (a : Nat) : findR s a ⟨#[62]⟩ = closedEnd s a := find_one rfl (.inl (by decide))
theorem bogus_eq (s : ByteArray) (a : Nat) : bogusR s a = bogusP s a := by unfold bogusR bogusP; rw [find_gt]
theorem sg1 (c : Nat) : sgN ⟨#[62]⟩ c = decide (c = 62) := by
  unfold sgN
  refine decide_eq_decide.2 ⟨?_, fun h => ⟨0, by decide, h.symm⟩⟩
  rintro ⟨i, hi, rfl⟩
  have h1 : i < 1 := hi
  obtain rfl : i = 0 := by omega
  rfl
theorem sg2 (c : Nat) : sgN ⟨#[47, 62]⟩ c = decide (c = 47 ∨ c = 62) := by
  unfold sgN
  refine decide_eq_decide.2 ⟨?_, ?_⟩
  · rintro ⟨i, hi, rfl⟩
    have h1 : i < 2 := hi
    rcases (show i = 0 ∨ i = 1 by omega) with rfl | rfl
    · exact .inl rfl
    · exact .inr rfl
  · rintro (rfl | rfl)
    · exact ⟨0, by decide, rfl⟩
    · exact ⟨1, by decide, rfl⟩
theorem sg3 (c : Nat) : sgN ⟨#[47, 62, 61]⟩ c = decide (c = 47 ∨ c = 62 ∨ c = 61) := by
  unfold sgN
  refine decide_eq_decide.2 ⟨?_, ?_⟩
  · rintro ⟨i, hi, rfl⟩
    have h1 : i < 3 := hi
    rcases (show i = 0 ∨ i = 1 ∨ i = 2 by omega) with rfl | rfl | rfl
    · exact .inl rfl
    · exact .inr (.inl rfl)
    · exact .inr (.inr rfl)
  · rintro (rfl | rfl | rfl)
    · exact ⟨0, by decide, rfl⟩
    · exact ⟨1, by decide, rfl⟩
    · exact ⟨2, by decide, rfl⟩
theorem up1 (s : ByteArray) (a : Nat) : upR ⟨#[62]⟩ s a = upT (fun c => blankN c || decide (c = 62)) s a := by
  unfold upR; congr; funext c; rw [sg1]
theorem up2 (s : ByteArray) (a : Nat) : upR ⟨#[47, 62]⟩ s a = upT closesN s a := by
  unfold upR; congr; funext c; rw [sg2]; unfold closesN; rw [Bool.or_assoc, ← Bool.decide_or]
theorem up3 (s : ByteArray) (a : Nat) : upR ⟨#[47, 62, 61]⟩ s a = upT (fun c => closesN c || decide (c = 61)) s a := by
  unfold upR; congr; funext c; rw [sg3]; unfold closesN; rw [Bool.or_assoc, Bool.or_assoc, ← Bool.decide_or, ← Bool.decide_or]
theorem doctype_eq (s : ByteArray) (a : Nat) : doctypeR s a = doctypeP s a := by
  unfold doctypeR doctypeP; dsimp only; rw [up1, find_gt]
theorem upI_shift (f : Nat → Bool) (a : Nat) : ∀ n k, upI f n (a + k) = a + upI (fun i => f (a + i)) n k
  | 0, k => rfl
  | n + 1, k => by
    cases h : f (a + k) with
    | true => rw [upI_here h, upI_here (q := fun i => f (a + i)) h]
    | false => rw [upI_next h, upI_next (q := fun i => f (a + i)) h, Nat.add_assoc]; exact upI_shift f a n (k + 1)
theorem upI_or (f g : Nat → Bool) : ∀ n k, upI (fun i => f i || g i) n k = min (upI f n k) (upI g n k)
  | 0, k => (Nat.min_self k).symm
  | n + 1, k => by
    have hf := upI_ge f n (k + 1)
    have hg := upI_ge g n (k + 1)
    cases h1 : f k with
    | true =>
      rw [upI_here h1, upI_here (q := fun i => f i || g i) (by simp [h1])]
      exact (Nat.min_eq_left (upI_ge g (n + 1) k)).symm
    | false =>
      cases h2 : g k with
      | true =>
        rw [upI_here h2, upI_here (q := fun i => f i || g i) (by simp [h2])]
        exact (Nat.min_eq_right (upI_ge f (n + 1) k)).symm
      | false => rw [upI_next h1, upI_next h2, upI_next (q := fun i => f i || g i) (by simp [h1, h2])]; exact upI_or f g n (k + 1)
theorem has_gt {s : ByteArray} {a : Nat} (ha : a ≤ s.size) : hasR s a ⟨#[62]⟩ = Sr.hasPre (s.extract a s.size) ⟨#[62]⟩ := by
  rw [hasR_is (by decide +kernel), Bool.eq_iff_iff, starts_iff, pre_iff, ByteArray.size_extract]
  constructor
  · rintro ⟨h1, h2⟩
    have h1' : a + 1 ≤ s.size := h1
    refine ⟨by show 1 ≤ _; omega, fun i hi => ?_⟩
    have hi' : i < 1 := hi
    obtain rfl : i = 0 := by omega
    rw [bAt_ext (Nat.le_refl _) (by omega)]
    exact (lowN_lit (.inl (by decide))).1 (h2 0 (by decide))
  · rintro ⟨h1, h2⟩
    have h1' : 1 ≤ min s.size s.size - a := h1
    refine ⟨by show a + 1 ≤ _; omega, fun i hi => ?_⟩
    have hi' : i < 1 := hi
    obtain rfl : i = 0 := by omega
    rw [← bAt_ext (Nat.le_refl s.size) (by omega), h2 0 (by decide)]
theorem has_to {s : ByteArray} {a : Nat} (ha : a ≤ s.size) : hasR s a ⟨#[45, 62]⟩ = Sr.hasPre (s.extract a s.size) ⟨#[45, 62]⟩ := by
  rw [hasR_is (by decide +kernel), Bool.eq_iff_iff, starts_iff, pre_iff, ByteArray.size_extract]
  constructor
  · rintro ⟨h1, h2⟩
    have h1' : a + 2 ≤ s.size := h1
    refine ⟨by show 2 ≤ _; omega, fun i hi => ?_⟩
    have hi' : i < 2 := hi
    rw [bAt_ext (Nat.le_refl _) (by omega)]
    have := h2 i hi
    rcases (show i = 0 ∨ i = 1 by omega) with rfl | rfl
    · exact (lowN_lit (.inl (by decide))).1 this
    · exact (lowN_lit (.inl (by decide))).1 this
  · rintro ⟨h1, h2⟩
    have h1' : 2 ≤ min s.size s.size - a := h1
    refine ⟨by show a + 2 ≤ _; omega, fun i hi => ?_⟩
    have hi' : i < 2 := hi
    rw [← bAt_ext (Nat.le_refl s.size) (by omega), h2 i hi]
theorem has_end1 {s : ByteArray} {a j : Nat} (ha : a ≤ s.size) : hasR s (a + j) ⟨#[45, 45, 62]⟩ = cEnd1 (s.extract a s.size) j := by
  rw [hasR_is (by decide +kernel), Bool.eq_iff_iff, starts_iff, cEnd1_iff, ByteArray.size_extract]
  constructor
  · rintro ⟨h1, h2⟩
    have h1' : a + j + 3 ≤ s.size := h1
    have e0 := (lowN_lit (.inl (by decide))).1 (h2 0 (by decide))
    have e1 := (lowN_lit (.inl (by decide))).1 (h2 1 (by decide))
    have e2 := (lowN_lit (.inl (by decide))).1 (h2 2 (by decide))
    rw [bAt_ext (Nat.le_refl _) (by omega), bAt_ext (Nat.le_refl _) (by omega), bAt_ext (Nat.le_refl _) (by omega), ← Nat.add_assoc, ← Nat.add_assoc]
    exact ⟨by omega, e0, e1, e2⟩
  · rintro ⟨h1, e0, e1, e2⟩
    rw [bAt_ext (Nat.le_refl _) (by omega)] at e0 e1 e2
    rw [← Nat.add_assoc] at e1 e2
    refine ⟨by show a + j + 3 ≤ _; omega, fun i hi => ?_⟩
    have hi' : i < 3 := hi
    rcases (show i = 0 ∨ i = 1 ∨ i = 2 by omega) with rfl | rfl | rfl
    · rw [Nat.add_zero, e0]; rfl
    · rw [e1]; rfl
    · rw [e2]; rfl
theorem has_end2 {s : ByteArray} {a j : Nat} (ha : a ≤ s.size) : hasR s (a + j) ⟨#[45, 45, 33, 62]⟩ = cEnd2 (s.extract a s.size) j := by
  rw [hasR_is (by decide +kernel), Bool.eq_iff_iff, starts_iff, cEnd2_iff, ByteArray.size_extract]
  constructor
  · rintro ⟨h1, h2⟩
    have h1' : a + j + 4 ≤ s.size := h1
    have e0 := (lowN_lit (.inl (by decide))).1 (h2 0 (by decide))
    have e1 := (lowN_lit (.inl (by decide))).1 (h2 1 (by decide))
    have e2 := (lowN_lit (.inl (by decide))).1 (h2 2 (by decide))
    have e3 := (lowN_lit (.inl (by decide))).1 (h2 3 (by decide))
    rw [bAt_ext (Nat.le_refl _) (by omega), bAt_ext (Nat.le_refl _) (by omega), bAt_ext (Nat.le_refl _) (by omega), bAt_ext (Nat.le_refl _) (by omega), ← Nat.add_assoc, ← Nat.add_assoc, ← Nat.add_assoc]
    exact ⟨by omega, e0, e1, e2, e3⟩
  · rintro ⟨h1, e0, e1, e2, e3⟩
    rw [bAt_ext (Nat.le_refl _) (by omega)] at e0 e1 e2 e3
    rw [← Nat.add_assoc] at e1 e2 e3
    refine ⟨by show a + j + 4 ≤ _; omega, fun i hi => ?_⟩
    have hi' : i < 4 := hi
    rcases (show i = 0 ∨ i = 1 ∨ i = 2 ∨ i = 3 by omega) with rfl | rfl | rfl | rfl
    · rw [Nat.add_zero, e0]; rfl
    · rw [e1]; rfl
    · rw [e2]; rfl
    · rw [e3]; rfl
theorem ext_ext (s : ByteArray) (a x : Nat) (hx : a + x ≤ s.size) : (s.extract a s.size).extract 0 x = s.extract a (a + x) :=
  ext_bAt (by simp only [ByteArray.size_extract]; omega) fun i hi => by
    simp only [ByteArray.size_extract] at hi
    rw [bAt_ext (by simp only [ByteArray.size_extract]; omega) (by omega), bAt_ext (Nat.le_refl _) (by omega), bAt_ext hx (by omega), Nat.zero_add]
theorem ends_apart {r : ByteArray} {i : Nat} (h1 : cEnd1 r i = true) (h2 : cEnd2 r i = true) : False := by
  have a := cEnd1_iff.1 h1
  have b := cEnd2_iff.1 h2
  omega
theorem comment_eq {s : ByteArray} {a : Nat} (ha : a ≤ s.size) : commentR s a = commentP s a := by
  unfold commentR commentP
  dsimp only
  rw [has_gt ha, has_to ha]
  by_cases k1 : Sr.hasPre (s.extract a s.size) ⟨#[62]⟩ = true
  · rw [if_pos k1, if_pos k1]
  rw [if_neg k1, if_neg k1]
  by_cases k2 : Sr.hasPre (s.extract a s.size) ⟨#[45, 62]⟩ = true
  · rw [if_pos k2, if_pos k2]
  rw [if_neg k2, if_neg k2]
  have hz : (s.extract a s.size).size = s.size - a := by rw [ByteArray.size_extract]; omega
  have hp : findR s a ⟨#[45, 45, 62]⟩ = a + upI (cEnd1 (s.extract a s.size)) (s.extract a s.size).size 0 := by
    unfold findR
    have := upI_shift (fun i => hasR s i ⟨#[45, 45, 62]⟩) a (s.size - a) 0
    rw [Nat.add_zero] at this
    rw [this, hz]
    congr 2
    funext i
    exact has_end1 ha
  have hq : findR s a ⟨#[45, 45, 33, 62]⟩ = a + upI (cEnd2 (s.extract a s.size)) (s.extract a s.size).size 0 := by
    unfold findR
    have := upI_shift (fun i => hasR s i ⟨#[45, 45, 33, 62]⟩) a (s.size - a) 0
    rw [Nat.add_zero] at this
    rw [this, hz]
    congr 2
    funext i
    exact has_end2 ha
  have hx := ext_ext s a
  rw [hp, hq, upI_or]
  generalize s.extract a s.size = r at *
  have x1 := upI_le (cEnd1 r) r.size 0
  have y1 := upI_le (cEnd2 r) r.size 0
  have x2 := upI_at (cEnd1 r) r.size 0
  have y2 := upI_at (cEnd2 r) r.size 0
  generalize upI (cEnd1 r) r.size 0 = x at *
  generalize upI (cEnd2 r) r.size 0 = y at *
  rw [Nat.zero_add] at x1 x2 y1 y2
  rcases Nat.lt_trichotomy x y with h | h | h
  · have h1 := x2 (by omega)
    rw [Nat.min_eq_left (by omega), if_pos (by omega), if_pos (by omega), if_pos h1, hx x (by omega)]
  · subst h
    have hxn : ¬ x < r.size := fun hx => ends_apart (x2 hx) (y2 hx)
    rw [Nat.min_self, if_neg (by omega), if_neg (by omega), if_neg hxn]
    unfold sufV
    rfl
  · have h2 := y2 (by omega)
    have h1 : ¬ cEnd1 r y = true := fun h1 => ends_apart h1 h2
    rw [Nat.min_eq_right (by omega), if_neg (by omega), if_pos (by omega), if_pos (by omega), if_neg h1, hx y (by omega)]
theorem ends_eq (s raw : ByteArray) (i : Nat) : endsR s i (lowS raw) = rawOk s raw i := by
  have h : hasR s i ((⟨#[60, 47]⟩ : ByteArray) ++ lowS raw) = startsP s i ((⟨#[60, 47]⟩ : ByteArray) ++ raw) := by
    unfold hasR startsP
    rw [lowS_app, show lowS ⟨#[60, 47]⟩ = ⟨#[60, 47]⟩ by decide +kernel, ByteArray.size_append, ByteArray.size_append, lowS_size]
  unfold endsR rawOk
  rw [h, lowS_size]
end Go.Proofs.YtbdgoffbkenofaaGreat.Rn
namespace Go.Proofs.YtbdgoffbkenofaaGreat.Rn
open Go Go.RowKit Go.Proofs.YtbdgoffbkenofaaGreat.Tk Go.Proofs.YtbdgoffbkenofaaGreat.Sc
set_option linter.unusedVariables false
set_option maxRecDepth 100000

/-! ### Attributes in order -/
def insP (n v : ByteArray) : List At → List At
  | [] => [(n, v)]
  | x :: xs => if geB x.1 n then (n, v) :: (x :: xs).filter (fun y => decide (y.1 ≠ n)) else x :: insP n v xs
theorem geB_iff (x y : ByteArray) : geB x y = true ↔ ¬ x.data.toList < y.data.toList := by
  unfold geB; rw [bytesLess_eq, ByteArray.toList_eq, ByteArray.toList_eq]; simp
theorem fold_done (n v : ByteArray) (l : List At) : ∀ m, l.foldl (wStep n v) (m, true) = (m ++ l.filter (fun y => decide (y.1 ≠ n)), true) := by
  induction l with
  | nil => intro m; simp
  | cons x xs ih =>
    intro m
    by_cases c : x.1 = n
    · rw [List.foldl_cons, show wStep n v (m, true) x = (m, true) by simp [wStep, c], ih]; simp [c]
    · rw [List.foldl_cons, show wStep n v (m, true) x = (m ++ [x], true) by simp [wStep, c], ih]; simp [c]
theorem fold_ins (n v : ByteArray) (l : List At) : ∀ m, (if (l.foldl (wStep n v) (m, false)).2 then (l.foldl (wStep n v) (m, false)).1 else (l.foldl (wStep n v) (m, false)).1 ++ [(n, v)]) = m ++ insP n v l := by
  induction l with
  | nil => intro m; simp [insP]
  | cons x xs ih =>
    intro m
    cases g : geB x.1 n with
    | true =>
      by_cases c : x.1 = n
      · rw [List.foldl_cons, show wStep n v (m, false) x = (m ++ [(n, v)], true) by simp [wStep, c, geB_refl], fold_done]
        simp [insP, c, geB_refl]
      · rw [List.foldl_cons, show wStep n v (m, false) x = (m ++ [(n, v)] ++ [x], true) by simp [wStep, c, g], fold_done]
        simp [insP, c, g]
    | false =>
      have c : ¬ x.1 = n := fun e => by rw [e, geB_refl] at g; cases g
      rw [List.foldl_cons, show wStep n v (m, false) x = (m ++ [x], false) by simp [wStep, c, g], ih]
      simp [insP, g]
theorem withP_ins (l : List At) (n v : ByteArray) : withP l n v = insP n v l := by
  have := fold_ins n v l []
  rw [List.nil_append] at this
  exact this
theorem ins_mem {n v : ByteArray} {l : List At} {x : At} : x ∈ insP n v l ↔ x = (n, v) ∨ (x ∈ l ∧ x.1 ≠ n) := by
  induction l with
  | nil => simp [insP]
  | cons y ys ih =>
    cases g : geB y.1 n with
    | true =>
      have e : insP n v (y :: ys) = (n, v) :: (y :: ys).filter (fun z => decide (z.1 ≠ n)) := by unfold insP; rw [if_pos g]
      rw [e, List.mem_cons, List.mem_filter, decide_eq_true_eq]
    | false =>
      have c : ¬ y.1 = n := fun e => by rw [e, geB_refl] at g; cases g
      have e : insP n v (y :: ys) = y :: insP n v ys := by rw [insP, if_neg (by rw [g]; decide)]
      rw [e, List.mem_cons, ih, List.mem_cons]
      constructor
      · rintro (h | h | ⟨h, h2⟩)
        · exact .inr ⟨.inl h, by rw [h]; exact c⟩
        · exact .inl h
        · exact .inr ⟨.inr h, h2⟩
      · rintro (h | ⟨h | h, h2⟩)
        · exact .inr (.inl h)
        · exact .inl h
        · exact .inr (.inr ⟨h, h2⟩)
theorem bl_iff (x y : ByteArray) : Op.bytesLess x.data.toList y.data.toList = true ↔ x.data.toList < y.data.toList := by rw [bytesLess_eq, decide_eq_true_eq]
theorem lt_of_ge {x n : ByteArray} (h : ¬ x.data.toList < n.data.toList) (hn : x ≠ n) : n.data.toList < x.data.toList := by
  rcases Classical.em (n.data.toList < x.data.toList) with h2 | h2
  · exact h2
  · exact absurd (Sr.bytes_eq.1 (List.le_antisymm (List.not_lt.1 h2) (List.not_lt.1 h))) hn
theorem ins_strict {n v : ByteArray} {l : List At} (h : StrictA l) : StrictA (insP n v l) := by
  induction l with
  | nil => exact List.pairwise_singleton _ _
  | cons y ys ih =>
    unfold StrictA at h ih ⊢
    rw [List.pairwise_cons] at h
    cases g : geB y.1 n with
    | true =>
      have e : insP n v (y :: ys) = (n, v) :: (y :: ys).filter (fun z => decide (z.1 ≠ n)) := by unfold insP; rw [if_pos g]
      rw [e, List.pairwise_cons]
      refine ⟨fun z hz => ?_, ((List.pairwise_cons.2 h).filter _)⟩
      rw [List.mem_filter, decide_eq_true_eq, List.mem_cons] at hz
      rw [geB_iff] at g
      rw [bl_iff]
      obtain ⟨hz, hzn⟩ := hz
      rcases hz with rfl | hz
      · exact lt_of_ge g hzn
      · have h1 := (bl_iff _ _).1 (h.1 z hz)
        exact List.lt_of_le_of_lt (List.not_lt.1 g) h1
    | false =>
      have e : insP n v (y :: ys) = y :: insP n v ys := by rw [insP, if_neg (by rw [g]; decide)]
      rw [e, List.pairwise_cons]
      refine ⟨fun z hz => ?_, ih h.2⟩
      rcases ins_mem.1 hz with rfl | ⟨hz, _⟩
      · rw [bl_iff]
        have : ¬ geB y.1 n = true := by rw [g]; decide
        rw [geB_iff] at this
        exact Classical.not_not.1 this
      · exact h.1 z hz
theorem strict_ext {l r : List At} (hl : StrictA l) (hr : StrictA r) (h : ∀ x, x ∈ l ↔ x ∈ r) : l = r := by
  have nd : ∀ l : List At, StrictA l → l.Nodup := fun l hl => hl.imp fun {x y} hxy e => by
    rw [e, bl_iff] at hxy
    exact List.lt_irrefl _ hxy
  refine List.Perm.eq_of_pairwise (le := fun x y : At => Op.bytesLess x.1.data.toList y.1.data.toList = true) ?_ hl hr ((List.perm_ext_iff_of_nodup (nd l hl) (nd r hr)).2 h)
  intro a b _ _ h1 h2
  rw [bl_iff] at h1 h2
  exact absurd (List.lt_trans h1 h2) (List.lt_irrefl _)
theorem sort_mem {l : List At} {x : At} : x ∈ sortP l ↔ x ∈ l := (List.mergeSort_perm _ _).mem_iff
theorem sort_with {acc : List At} {n v : ByteArray} (hu : (acc ++ [(n, v)]).Pairwise fun x y => x.1 ≠ y.1) : withP (sortP acc) n v = sortP (acc ++ [(n, v)]) := by
  rw [withP_ins]
  have hu2 := List.pairwise_append.1 hu
  refine strict_ext (ins_strict (sort_strict hu2.1)) (sort_strict hu) fun x => ?_
  rw [ins_mem, sort_mem, sort_mem, List.mem_append, List.mem_singleton]
  constructor
  · rintro (h | ⟨h, _⟩)
    · exact .inr h
    · exact .inl h
  · rintro (h | h)
    · exact .inr ⟨h, hu2.2.2 x h (n, v) (List.mem_singleton.2 rfl)⟩
    · exact .inl h
theorem hasName_sort (acc : List At) (n : ByteArray) : hasName (sortP acc) n = hasName acc n := by
  rw [Bool.eq_iff_iff, hasName_iff, hasName_iff]
  constructor
  · rintro ⟨x, h1, h2⟩; exact ⟨x, sort_mem.1 h1, h2⟩
  · rintro ⟨x, h1, h2⟩; exact ⟨x, sort_mem.2 h1, h2⟩
/-! ### A tag -/
theorem attr_cases {s : ByteArray} {a : Nat} (ha : a < s.size) : attrR s a = attrP s a ∨ (attrP s a = none ∧ ∃ x y, attrR s a = some (x, y, s.size)) := by
  unfold attrR attrP
  dsimp only
  rw [up3]
  have h1 : upT (fun c => closesN c || decide (c = 61)) s (a + 1) ≤ s.size := upT_le _ (by omega)
  generalize upT (fun c => closesN c || decide (c = 61)) s (a + 1) = e at *
  have h2 : pastP s e ≤ s.size := upT_le _ h1
  generalize pastP s e = n1 at *
  by_cases c : n1 < s.size ∧ bAt s n1 = 61
  · rw [if_pos c, if_neg (show ¬ (s.size ≤ n1 ∨ bAt s n1 ≠ 61) from fun h => by rcases h with h | h; exact absurd c.1 (by omega); exact h c.2)]
    have h3 : pastP s (n1 + 1) ≤ s.size := upT_le _ (by omega)
    generalize pastP s (n1 + 1) = n2 at *
    by_cases d : s.size ≤ n2
    · rw [if_pos d]
      have hv : valueR s n2 = (Ch.decB (s.extract n2 s.size) true, s.size) := by
        have hn : n2 = s.size := by omega
        subst hn
        unfold valueR
        rw [if_neg (fun h => absurd h.1 (Nat.lt_irrefl _)), up1, upT_end (Nat.le_refl _)]
      rw [hv]
      exact .inr ⟨rfl, _, _, if_neg (Nat.lt_irrefl _)⟩
    · rw [if_neg d]
      by_cases q : bAt s n2 = 34 ∨ bAt s n2 = 39
      · rw [if_pos q]
        have hz : (s.extract n2 (n2 + 1)).size = 1 := by rw [ByteArray.size_extract]; omega
        have hb : bAt (s.extract n2 (n2 + 1)) 0 = bAt s n2 := by rw [bAt_ext (by omega) (by omega), Nat.add_zero]
        have hs : Stays (bAt (s.extract n2 (n2 + 1)) 0) := by rw [hb]; unfold Stays; omega
        have hf : findR s (n2 + 1) (s.extract n2 (n2 + 1)) = upT (fun c => decide (c = bAt s n2)) s (n2 + 1) := by rw [find_one hz hs, hb]
        have hv : valueR s n2 = if s.size ≤ upT (fun c => decide (c = bAt s n2)) s (n2 + 1) then (⟨#[]⟩, s.size + 1) else (Ch.decB (s.extract (n2 + 1) (upT (fun c => decide (c = bAt s n2)) s (n2 + 1))) true, upT (fun c => decide (c = bAt s n2)) s (n2 + 1) + 1) := by
          unfold valueR
          rw [if_pos ⟨by omega, q⟩, hf]
        rw [hv]
        generalize upT (fun c => decide (c = bAt s n2)) s (n2 + 1) = e2 at *
        by_cases k : s.size ≤ e2
        · rw [if_pos k, if_pos k]
          exact .inl (if_pos (by show s.size < s.size + 1; omega))
        · rw [if_neg k, if_neg k]
          exact .inl (if_neg (by show ¬ s.size < e2 + 1; omega))
      · rw [if_neg q]
        have hv : valueR s n2 = (Ch.decB (s.extract n2 (upT (fun c => blankN c || decide (c = 62)) s n2)) true, upT (fun c => blankN c || decide (c = 62)) s n2) := by
          unfold valueR
          rw [if_neg (fun h => q h.2), up1]
        have h4 : upT (fun c => blankN c || decide (c = 62)) s n2 ≤ s.size := upT_le _ h3
        rw [hv]
        exact .inl (if_neg (by show ¬ s.size < upT (fun c => blankN c || decide (c = 62)) s n2; omega))
  · rw [if_neg c, if_pos (by
      rcases Classical.em (n1 < s.size) with h | h
      · exact .inr fun e => c ⟨h, e⟩
      · exact .inl (by omega))]
    exact .inl rfl
theorem attrs_eq {s : ByteArray} : ∀ (n e : Nat) (acc : List At), e ≤ s.size → s.size + 1 - e ≤ n → (acc.Pairwise fun x y => x.1 ≠ y.1) → attrsR s n e (sortP acc) = (attrsP s true n e acc).map fun r => (sortP r.1, r.2)
  | 0, e, acc, h1, h2, _ => by omega
  | n + 1, e, acc, h1, h2, hu => by
    have hg : e ≤ upT gapC s e := upT_ge _ _ _
    by_cases c1 : s.size ≤ upT gapC s e
    · rw [attrsR_1 rfl c1, attrsP_1 rfl c1]; rfl
    by_cases c2 : bAt s (upT gapC s e) = 62
    · rw [attrsR_2 rfl c1 c2, attrsP_2 rfl c1 c2]; rfl
    rcases attr_cases (s := s) (a := upT gapC s e) (by omega) with h | ⟨h, x, y, h'⟩
    · cases hp : attrP s (upT gapC s e) with
      | none => rw [hp] at h; rw [attrsR_3 rfl c1 c2 h, attrsP_3 rfl c1 c2 hp]; rfl
      | some r =>
        obtain ⟨nm, v, k⟩ := r
        rw [hp] at h
        have hb := attrP_bd (by omega) hp
        rw [attrsR_4 rfl c1 c2 h, attrsP_4 rfl c1 c2 hp, hasName_sort]
        unfold accN
        cases hn : hasName acc nm with
        | true =>
          rw [if_pos rfl, if_neg (by decide)]
          exact attrs_eq n k acc hb.2 (by omega) hu
        | false =>
          rw [if_neg (by decide), if_pos (by decide)]
          have hu2 : (acc ++ [(nm, v)]).Pairwise fun x y => x.1 ≠ y.1 := by
            rw [List.pairwise_append]
            refine ⟨hu, List.pairwise_singleton _ _, fun x hx y hy e => ?_⟩
            rw [List.mem_singleton.1 hy] at e
            have := hasName_iff.2 ⟨x, hx, e⟩
            rw [hn] at this; cases this
          rw [sort_with hu2]
          exact attrs_eq n k _ hb.2 (by omega) hu2
    · rw [attrsR_4 rfl c1 c2 h', attrsP_3 rfl c1 c2 h]
      obtain ⟨m, rfl⟩ : ∃ m, n = m + 1 := ⟨n - 1, by omega⟩
      exact attrsR_1 (upT_end (Nat.le_refl _)) (Nat.le_refl _)
theorem attrs_place {s : ByteArray} : ∀ (n e : Nat) (acc acc2 : List At), attrsP s false n e acc = (attrsP s true n e acc2).map fun r => (acc, r.2)
  | 0, e, acc, acc2 => rfl
  | n + 1, e, acc, acc2 => by
    by_cases c1 : s.size ≤ upT gapC s e
    · rw [attrsP_1 rfl c1, attrsP_1 rfl c1]; rfl
    by_cases c2 : bAt s (upT gapC s e) = 62
    · rw [attrsP_2 rfl c1 c2, attrsP_2 rfl c1 c2]; rfl
    cases hp : attrP s (upT gapC s e) with
    | none => rw [attrsP_3 rfl c1 c2 hp, attrsP_3 rfl c1 c2 hp]; rfl
    | some r =>
      obtain ⟨nm, v, k⟩ := r
      rw [attrsP_4 rfl c1 c2 hp, attrsP_4 rfl c1 c2 hp]
      exact attrs_place n k acc _
theorem sort_nil : sortP [] = [] := List.mergeSort_nil
theorem tag_eq {s : ByteArray} {a : Nat} (ha : a ≤ s.size) (start : Bool) : tagR s a start = tagP s a start := by
  have he : upT closesN s a ≤ s.size := upT_le _ ha
  have h0 := attrs_eq (s := s) (s.size + 1 - upT closesN s a) (upT closesN s a) [] he (Nat.le_refl _) List.Pairwise.nil
  rw [sort_nil] at h0
  unfold tagR tagP
  dsimp only
  rw [up2, h0]
  cases start with
  | true =>
    cases hp : attrsP s true (s.size + 1 - upT closesN s a) (upT closesN s a) [] with
    | none => rfl
    | some r => rfl
  | false =>
    rw [attrs_place _ _ [] []]
    cases hp : attrsP s true (s.size + 1 - upT closesN s a) (upT closesN s a) [] with
    | none => rfl
    | some r =>
      show ((⟨2, _, ⟨#[]⟩, [], false⟩, r.2 + 1, true) : Out) = (⟨2, _, ⟨#[]⟩, sortP [], false⟩, r.2 + 1, true)
      rw [sort_nil]
/-! ### Next -/
theorem rawE_eq (s raw : ByteArray) (a : Nat) : rawER s a (lowS raw) = rawEndP s a raw := by
  unfold rawER rawEndP
  congr
  funext i
  exact ends_eq s raw i
theorem two_at {s t : ByteArray} {a : Nat} (ht : t.size = 2) (h : startsP s a t = true) : lowN (bAt s (a + 1)) = lowN (bAt t 1) := (starts_iff.1 h).2 1 (by omega)
theorem rest_lt_eq {s : ByteArray} {a : Nat} (ha : a < s.size) (h : bAt s a = 60) : restR s a = nextP s a ⟨#[]⟩ := by
  rw [restR_lt h, next_lt ha h]
  rw [hasR_is (t := ⟨#[60, 47]⟩) (by decide +kernel), hasR_is (t := ⟨#[60, 33, 45, 45]⟩) (by decide +kernel), hasR_is (t := ⟨#[60, 33, 100, 111, 99, 116, 121, 112, 101]⟩) (by decide +kernel), hasR_is (t := ⟨#[60, 47, 62]⟩) (by decide +kernel), hasR_is (t := ⟨#[60, 33]⟩) (by decide +kernel), hasR_is (t := ⟨#[60, 63]⟩) (by decide +kernel)]
  by_cases c1 : letterAt s (a + 1) = true
  · rw [if_pos c1, if_pos c1, tag_eq (Nat.le_of_lt (letter_lt c1))]
  rw [if_neg c1, if_neg c1]
  by_cases c2 : (startsP s a ⟨#[60, 47]⟩ && letterAt s (a + 2)) = true
  · rw [if_pos c2, if_pos c2, tag_eq (Nat.le_of_lt (letter_lt (by rw [Bool.and_eq_true] at c2; exact c2.2)))]
  rw [if_neg c2, if_neg c2]
  by_cases c3 : startsP s a ⟨#[60, 33, 45, 45]⟩ = true
  · rw [if_pos c3, if_pos c3, comment_eq (show a + 4 ≤ s.size from starts_le c3)]
  rw [if_neg c3, if_neg c3]
  by_cases c4 : startsP s a ⟨#[60, 33, 100, 111, 99, 116, 121, 112, 101]⟩ = true
  · rw [if_pos c4, if_pos c4, doctype_eq]
  rw [if_neg c4, if_neg c4]
  by_cases c5 : startsP s a ⟨#[60, 47, 62]⟩ = true
  · rw [if_pos c5, if_pos c5]
  rw [if_neg c5, if_neg c5]
  by_cases c6 : startsP s a ⟨#[60, 63]⟩ = true
  · have n1 : ¬ (startsP s a ⟨#[60, 33]⟩ || (startsP s a ⟨#[60, 47]⟩ && decide (a + 2 < s.size))) = true := fun h => by
      have e1 := two_at rfl c6
      rw [Bool.or_eq_true, Bool.and_eq_true] at h
      rcases h with h | ⟨h, _⟩
      · have e2 := two_at rfl h
        rw [e1] at e2; exact absurd e2 (by decide)
      · have e2 := two_at rfl h
        rw [e1] at e2; exact absurd e2 (by decide)
    rw [if_neg n1, if_pos c6, if_pos c6, bogus_eq]
  rw [if_neg c6, if_neg c6]
  by_cases c7 : (startsP s a ⟨#[60, 33]⟩ || (startsP s a ⟨#[60, 47]⟩ && decide (a + 2 < s.size))) = true
  · rw [if_pos c7, if_pos c7, bogus_eq]
  rw [if_neg c7, if_neg c7]
theorem next_eq (s raw : ByteArray) (a : Nat) : nextR s a raw = nextP s a raw := by
  by_cases c1 : s.size ≤ a
  · rw [nextR_end c1, next_end s raw a c1]
  by_cases c2 : raw ≠ ⟨#[]⟩ ∧ a < rawEndP s a raw
  · have c2' : raw ≠ ⟨#[]⟩ ∧ a < rawER s a (lowS raw) := by rw [rawE_eq]; exact c2
    rw [nextR_raw c1 (rawE_eq s raw a) c2 rfl, nextP_raw c1 rfl c2 rfl]
  · rw [nextR_rest c1 (by rw [rawE_eq]; exact c2), nextP_rest c1 c2]
    by_cases h : bAt s a = 60
    · exact rest_lt_eq (by omega) h
    · rw [restR_text h, next_text (by omega) h]; rfl
/-! ### Sort -/
def sortR (l : List At) : List At := l.foldr (fun x m => withP m x.1 x.2) []
theorem sortR_strict : ∀ l, StrictA (sortR l)
  | [] => List.Pairwise.nil
  | x :: xs => by
    show StrictA (withP (sortR xs) x.1 x.2)
    rw [withP_ins]; exact ins_strict (sortR_strict xs)
theorem sortR_mem : ∀ (l : List At) (x : At), x ∈ sortR l ↔ ∃ i : Nat, l[i]? = some x ∧ ∀ (j : Nat) (y : At), j < i → l[j]? = some y → y.1 ≠ x.1
  | [], x => ⟨fun h => absurd h List.not_mem_nil, fun ⟨i, h, _⟩ => by simp at h⟩
  | y :: ys, x => by
    show x ∈ withP (sortR ys) y.1 y.2 ↔ _
    rw [withP_ins, ins_mem, sortR_mem ys x]
    constructor
    · rintro (h | ⟨⟨i, h1, h2⟩, h3⟩)
      · exact ⟨0, by rw [h]; rfl, fun j y hj => absurd hj (Nat.not_lt_zero _)⟩
      · refine ⟨i + 1, by simpa using h1, fun j z hj hz => ?_⟩
        cases j with
        | zero => simp at hz; rw [← hz]; exact fun e => h3 e.symm
        | succ j => exact h2 j z (by omega) (by simpa using hz)
    · rintro ⟨i, h1, h2⟩
      cases i with
      | zero => simp at h1; exact .inl (by rw [← h1])
      | succ i =>
        refine .inr ⟨⟨i, by simpa using h1, fun j z hj hz => h2 (j + 1) z (by omega) (by simpa using hz)⟩, fun e => h2 0 y (by omega) rfl e.symm⟩
theorem sort_same {al r : List At} (h : So.SortedOf al r) : sortR al = r :=
  strict_ext (sortR_strict al) h.strict fun x => (sortR_mem al x).trans ⟨fun ⟨i, h1, h2⟩ => h.all i x h1 h2, fun hx => h.fst x hx⟩
end Go.Proofs.YtbdgoffbkenofaaGreat.Rn
namespace Go.Proofs.YtbdgoffbkenofaaGreat.Rn
open Go Go.RowKit Go.Proofs.YtbdgoffbkenofaaGreat.Tk Go.Proofs.YtbdgoffbkenofaaGreat.Tr Go.Proofs.YtbdgoffbkenofaaGreat.Sc
set_option linter.unusedVariables false
set_option maxRecDepth 100000

/-- The list so far, a row of its own; each piece's attributes beside it. -/
structure RL (w0 : World) (pre : List Itm) (v : Value) (W : World) : Prop where
  row : W.ownsRow (w0.heap.size + 1) 27 5 v pre.length (cellsT pre)
  att : ∀ x ∈ pre, IsAttrs W W.heap.size x.1.attrs x.2.1 x.2.2
  sep : ∀ x ∈ pre, x.1.attrs ≠ [] → ∀ p, x.2.1 = some p → v.ownBlock ≠ some p.block
  bel : Below w0.heap.size w0 W
theorem RL.new (w0 W : World) (h : Below w0.heap.size w0 W) : RL w0 [] (.slice none 0 0) W := ⟨⟨rfl, .inl ⟨rfl, rfl⟩⟩, fun x h => absurd h List.not_mem_nil, fun x h => absurd h List.not_mem_nil, h⟩
theorem row_keep {W W' : World} {B n : Nat} {T : TypeId} {k : Nat} {v : Value} {cs : List Value} (h : W.ownsRow B T k v n cs) (hb : ∀ g, g < W.heap.size → W'.heap[g]? = W.heap[g]?) : W'.ownsRow B T k v n cs := by
  refine ⟨h.1, ?_⟩
  rcases h.2 with h2 | ⟨g, cap, cur, h1, h5, h6, h7⟩
  · exact .inl h2
  · exact .inr ⟨g, cap, cur, h1, h5, (hb g (lt_of_block h6)).trans h6, h7⟩
theorem RL.keep {w0 W W' : World} {pre : List Itm} {v : Value} (h : RL w0 pre v W) (hb : Below W.heap.size W W') : RL w0 pre v W' :=
  ⟨row_keep h.row (fun g hg => hb.block g hg), fun x hx => isAttrs_below (h.att x hx) hb, h.sep, h.bel.trans (hb.mono h.bel.size)⟩
theorem RL.push {w0 W W8 : World} {pre : List Itm} {v v' : Value} {x : Itm} (h : RL w0 pre v W) (hx : IsAttrs W W.heap.size x.1.attrs x.2.1 x.2.2) (hxs : x.1.attrs ≠ [] → ∀ p, x.2.1 = some p → v.ownBlock ≠ some p.block)
    (hr : W8.ownsRow (w0.heap.size + 1) 27 5 v' (pre.length + 1) (cellsT pre ++ fiveT x)) (g8 : (W.alloc (.cells (fiveT x).toArray 27)).grownBy W8 v.ownBlock)
    (hor : v'.ownBlock = v.ownBlock ∨ v'.ownBlock = some (W.alloc (.cells (fiveT x).toArray 27)).heap.size) : RL w0 (pre ++ [x]) v' W8 := by
  have e7 : (W.alloc (.cells (fiveT x).toArray 27)).heap.size = W.heap.size + 1 := by simp
  have s8 := g8.size
  have old : ∀ k, k < W.heap.size → some k ≠ v.ownBlock → W8.heap[k]? = W.heap[k]? := fun k hk h1 => (g8.block k (by omega) h1).trans (Below.heap_alloc W _ k hk)
  have pres : ∀ y : Itm, IsAttrs W W.heap.size y.1.attrs y.2.1 y.2.2 → (y.1.attrs ≠ [] → ∀ p, y.2.1 = some p → v.ownBlock ≠ some p.block) → IsAttrs W8 W8.heap.size y.1.attrs y.2.1 y.2.2 := fun y hy hp =>
    isAttrs_cells hy (by omega) fun hne p e cs t f hk => (old _ (lt_of_block hk) (fun e2 => hp hne p e e2.symm)).trans hk
  have newp : ∀ y : Itm, IsAttrs W W.heap.size y.1.attrs y.2.1 y.2.2 → (y.1.attrs ≠ [] → ∀ p, y.2.1 = some p → v.ownBlock ≠ some p.block) → (y.1.attrs ≠ [] → ∀ p, y.2.1 = some p → v'.ownBlock ≠ some p.block) := fun y hy hp hne' p e => by
    obtain ⟨_, _, _, h4⟩ := hy
    obtain ⟨g, off, eA, hg, _⟩ := h4 hne'
    rw [e] at eA; injection eA with eA; subst eA
    rcases hor with ho | ho
    · rw [ho]; exact hp hne' _ e
    · rw [ho]; intro e3; injection e3 with e3; rw [e7] at e3; have : g < W.heap.size := hg; have e4 : W.heap.size + 1 = g := e3; omega
  refine ⟨?_, fun y hy => ?_, fun y hy => ?_, (h.bel.alloc h.bel.size _).grown g8 (Nat.le_trans h.bel.size (by omega)) (fun k hk => by have := (h.row.lt k hk).1; omega)⟩
  · have el : (pre ++ [x]).length = pre.length + 1 := by simp
    have ec : cellsT (pre ++ [x]) = cellsT pre ++ fiveT x := by simp [cellsT]
    rw [el, ec]
    exact hr
  · rcases List.mem_append.1 hy with hy | hy
    · exact pres y (h.att y hy) (h.sep y hy)
    · rw [List.mem_singleton.1 hy]; exact pres x hx hxs
  · rcases List.mem_append.1 hy with hy | hy
    · exact newp y (h.att y hy) (h.sep y hy)
    · rw [List.mem_singleton.1 hy]; exact newp x hx hxs
theorem rnext_as (s raw : ByteArray) (hs : s.size ≤ 800000) (hr : raw.size ≤ 800000) (a : Nat) (ha : a ≤ 1000000) (o : Tok) (k : Nat) (ok : Bool) (h : nextP s a raw = (o, k, ok)) (W : World) :
    Calls Tryz.prog 28 #[.string s, .int .i64 (a : Int), .string raw] W fun e w' => ∃ A ac, e = .returned (.tuple #[.agg #[.int .i64 o.kind, .string o.name, .string o.text, .slice A o.attrs.length ac, .bool o.raw], .int .i64 (k : Int), .bool ok]) ∧ IsAttrs w' w'.heap.size o.attrs A ac ∧ Below W.heap.size W w' ∧ ∀ p, A = some p → W.heap.size ≤ p.block := by
  have := rnext_calls s raw hs hr a ha W
  rw [next_eq, h] at this
  exact this
theorem rawP_cases (n : ByteArray) : rawP n = 0 ∨ rawP n = 1 ∨ rawP n = 2 := by
  unfold rawP
  split
  · exact .inr (.inl rfl)
  · split
    · exact .inr (.inr rfl)
    · exact .inl rfl
/-- What a step says. -/
theorem rnext_kind {s raw : ByteArray} {a k : Nat} {o : Tok} (ha : a < s.size) (h : nextP s a raw = (o, k, true)) : ¬ o.kind = 6 := by
  have := next_good (raw := raw) ha (by rw [h])
  rw [h] at this
  have := this.k5
  intro e
  have e' : o.kind = 6 := e
  have h5 : o.kind ≤ 5 := this
  omega
structure RQ (c : ByteArray) (pre : List Itm) (a : Nat) (raw : ByteArray) : Prop where
  le : a ≤ c.size
  rw_ : raw.size ≤ c.size
  pcs : pre.map Prod.fst ++ pcsP c a raw = pcsP c 0 ⟨#[]⟩
  len : pre.length ≤ a
theorem RQ.no {c : ByteArray} {pre : List Itm} {a k : Nat} {raw : ByteArray} {o : Tok} (h : RQ c pre a raw) (ha : a < c.size) (hn : nextP c a raw = (o, k, false)) : RQ c pre k raw ∧ a < k := by
  have g := next_goes c raw a ha
  rw [hn] at g
  have g1 : a < k := g.gt
  have g2 : k ≤ c.size := g.le
  exact ⟨⟨g2, h.rw_, by rw [← h.pcs, pcsP_no ha hn], by have := h.len; omega⟩, g1⟩
theorem RQ.yes {c : ByteArray} {pre : List Itm} {a k : Nat} {raw : ByteArray} {o : Tok} (h : RQ c pre a raw) (ha : a < c.size) (hn : nextP c a raw = (o, k, true)) (A : Option Addr) (ac : Nat) : RQ c (pre ++ [(o, A, ac)]) k (rawNx raw o) ∧ a < k := by
  have g := next_goes c raw a ha
  rw [hn] at g
  have g1 : a < k := g.gt
  have g2 : k ≤ c.size := g.le
  have hnm := next_name c raw a
  rw [hn] at hnm
  refine ⟨⟨g2, rawNx_size hnm h.rw_, ?_, by have := h.len; simp; omega⟩, g1⟩
  rw [← h.pcs, pcsP_yes ha hn]
  simp
theorem rawNx_1 {raw : ByteArray} {o : Tok} (h : o.kind = 1) (hr : rawP o.name ≠ 0) : rawNx raw o = o.name := by unfold rawNx; exact if_pos ⟨h, hr⟩
theorem rawNx_2 {raw : ByteArray} {o : Tok} (h : o.kind = 1) (hr : rawP o.name = 0) : rawNx raw o = ⟨#[]⟩ := by unfold rawNx; rw [if_neg (fun x => x.2 hr), if_pos (.inl h)]
theorem rawNx_3 {raw : ByteArray} {o : Tok} (h : o.kind = 2) (hr : o.name = raw) : rawNx raw o = ⟨#[]⟩ := by unfold rawNx; rw [if_neg (fun x => by have := x.1; omega), if_pos (.inr ⟨h, hr⟩)]
theorem rawNx_4 {raw : ByteArray} {o : Tok} (h : ¬ o.kind = 1) (hr : ¬ (o.kind = 2 ∧ o.name = raw)) : rawNx raw o = raw := by
  unfold rawNx; rw [if_neg (fun x => h x.1), if_neg (by rintro (x | x); exact h x; exact hr x)]
set_option maxHeartbeats 16000000 in
theorem rall_calls (s : ByteArray) (hs : s.size ≤ 20000) (w : World) :
    Calls Tryz.prog 18 #[.string s] w (AllEnd (pcsP (cleanB s) 0 ⟨#[]⟩) w) := by
  obtain ⟨i0, hi0, hz0, hz1, hz2⟩ := info_parts tok_info
  have HC : Hid (∀ W, Calls Tryz.prog 16 #[.string s] W fun e w' => e = .returned (.string (cleanB s)) ∧ Below W.heap.size W w') := Lib.hid (fun W => (Rc.rclean_calls s W (Nat.le_trans hs (by decide))).mono fun e w' ⟨h1, h2⟩ => ⟨h1, h2 ▸ Below.refl _ _⟩)
  have HCS : Hid ((cleanB s).size ≤ 100000) := Lib.hid (by have := cleanB_size s; omega)
  generalize cleanB s = c at *
  clear hs
  go_enter Tryz.func18, Tryz.ntmps18
  go_wp2_with fail
  refine (HC.out _).mono ?_
  rintro e w1 ⟨rfl, hb1⟩
  have HL := Lib.hid (RL.new w w1 hb1)
  clear hb1 HC
  go_wp2_with fail
  go_loopw [4, 5, 6] (fun t4 t5 t6 wr => ∃ (pre : List Itm) (a : Nat) (raw : ByteArray), Hid (RL w pre t4 wr) ∧ t5 = .string raw ∧ t6 = .int .i64 (a : Int) ∧ Hid (RQ c pre a raw)) (fun _ _ t6 _ => c.size - (intOf t6).toNat)
  case atStart => exact ⟨[], 0, ⟨#[]⟩, HL, rfl, rfl, Lib.hid ⟨Nat.zero_le _, Nat.zero_le _, rfl, Nat.zero_le _⟩⟩
  case round =>
    clear HL
    obtain ⟨pre, a, raw, HL, rfl, rfl, HQ⟩ := hrel
    have HPL : Hid (pre.length ≤ 100000) := Lib.hid (by have := HQ.out.le; have := HQ.out.len; have := HCS.out; omega)
    by_cases hlt : a < c.size
    · have HLT := Lib.hid hlt
      obtain ⟨o, k, ok, hn⟩ : ∃ o k ok, nextP c a raw = (o, k, ok) := ⟨_, _, _, rfl⟩
      cases ok with
      | false =>
        have HQ2 := Lib.hid (HQ.out.no hlt hn).1
        have HGT := Lib.hid (HQ.out.no hlt hn).2
        clear hlt
        have HX := Lib.hid (rnext_as c raw (by have := HCS.out; omega) (by have := HQ.out.rw_; have := HCS.out; omega) a (by have := HQ.out.le; have := HCS.out; omega) o k false hn)
        have HRS := Lib.hid (fun g h => (HL.out.row.lt g h).2)
        clear hn
        go_wp2_with fail
        refine (HX.out _).mono ?_
        rintro e w2 ⟨A, ac, rfl, hat, hb, hfr⟩
        have HL2 := Lib.hid (HL.out.keep hb)
        have HSEP : Hid ((o).attrs ≠ [] → ∀ p, A = some p → u4.ownBlock ≠ some p.block) := Lib.hid (fun _ p hp e => by have := HRS.out p.block e; have := hfr p hp; omega)
        have HAT := Lib.hid hat
        clear hat hb hfr HX HRS HL
        have hbt := (Below.refl _ w2).alloc (Nat.le_refl _) (.cells #[.int .i64 o.kind, .string o.name, .string o.text, .slice A o.attrs.length ac, .bool o.raw] 27)
        have HL3 := Lib.hid (HL2.out.keep hbt)
        have HAT3 := Lib.hid (isAttrs_below HAT.out hbt)
        have ht3 := alloc_new w2 (.cells #[.int .i64 o.kind, .string o.name, .string o.text, .slice A o.attrs.length ac, .bool o.raw] 27)
        have HVT : Hid (some w2.heap.size ≠ u4.ownBlock) := Lib.hid (fun e => by have := (HL2.out.row.lt _ e.symm).2; omega)
        clear hbt HL2 HAT
        go_wp2_with fail
        go_roundw
        case rel => exact ⟨pre, k, raw, HL3, rfl, rfl, HQ2⟩
        case measure => simp [intOf]; have := HGT.out; have := HLT.out; omega
      | true =>
        have HQ1 := Lib.hid (fun A ac => (HQ.out.yes hlt hn A ac).1)
        have HGT := Lib.hid (HQ.out.yes hlt hn none 0).2
        have k6 := rnext_kind hlt hn
        have q6 : (o.kind == 6) = false := by rw [beq_eq_false_iff_ne]; exact k6
        clear hlt k6
        have HX := Lib.hid (rnext_as c raw (by have := HCS.out; omega) (by have := HQ.out.rw_; have := HCS.out; omega) a (by have := HQ.out.le; have := HCS.out; omega) o k true hn)
        have HRS := Lib.hid (fun g h => (HL.out.row.lt g h).2)
        clear hn
        go_wp2_with fail
        refine (HX.out _).mono ?_
        rintro e w2 ⟨A, ac, rfl, hat, hb, hfr⟩
        have HL2 := Lib.hid (HL.out.keep hb)
        have HSEP : Hid ((o).attrs ≠ [] → ∀ p, A = some p → u4.ownBlock ≠ some p.block) := Lib.hid (fun _ p hp e => by have := HRS.out p.block e; have := hfr p hp; omega)
        have HAT := Lib.hid hat
        clear hat hb hfr HX HRS HL
        have hbt := (Below.refl _ w2).alloc (Nat.le_refl _) (.cells #[.int .i64 o.kind, .string o.name, .string o.text, .slice A o.attrs.length ac, .bool o.raw] 27)
        have HL3 := Lib.hid (HL2.out.keep hbt)
        have HAT3 := Lib.hid (isAttrs_below HAT.out hbt)
        have ht3 := alloc_new w2 (.cells #[.int .i64 o.kind, .string o.name, .string o.text, .slice A o.attrs.length ac, .bool o.raw] 27)
        have HVT : Hid (some w2.heap.size ≠ u4.ownBlock) := Lib.hid (fun e => by have := (HL2.out.row.lt _ e.symm).2; omega)
        clear hbt HL2 HAT
        go_upto_region 8 with (fail)
        generalize hw3 : w2.alloc (.cells #[.int .i64 o.kind, .string o.name, .string o.text, .slice A o.attrs.length ac, .bool o.raw] 27) = w3 at *
        obtain ⟨tb, htb⟩ : ∃ tb, w2.heap.size = tb := ⟨_, rfl⟩
        rw [htb] at ht3 HVT ⊢
        clear htb hw3
        obtain ⟨b0, b1, b2, b3, b4⟩ := tbox5 ht3
        have HT3 := Lib.hid ht3
        have HROW := Lib.hid (row_keep HL3.out.row (W' := w3.alloc (.cells #[.int .i64 o.kind, .string o.name, .string o.text, .slice A o.attrs.length ac, .bool o.raw] 27)) (fun g hg => Below.heap_alloc w3 _ g hg))
        have HN2 : Hid (∀ j u, (fiveT (o, A, ac))[j]? = some u → (w3.alloc (.cells #[.int .i64 o.kind, .string o.name, .string o.text, .slice A o.attrs.length ac, .bool o.raw] 27)).cell? ((⟨w3.heap.size, 0, none⟩ : Addr).add j) = some u) := Lib.hid fun j u hj => by
          have ha : (⟨w3.heap.size, 0, none⟩ : Addr).add j = ⟨w3.heap.size, j, none⟩ := by unfold Addr.add; split <;> simp_all
          rw [ha, block_cell (alloc_new w3 _)]
          simpa [fiveT] using hj
        have HONE : Hid (∀ u ∈ fiveT (o, A, ac), u.oneCell' = true) := Lib.hid fun u hu => by
          simp [fiveT] at hu
          rcases hu with rfl | rfl | rfl | rfl | rfl <;> rfl
        have hbs := HL3.out.bel.size
        have hln := HPL.out
        clear ht3
        go_wp2_with (at_builtin; refine wpList_append_own_at _ rfl (.tmp 23) (.tmp 25) 23 rfl (w.heap.size + 1) 27 i0 _ 5 72 Tryz.underlying23 hi0 hz0 hz1 hz2 rfl (by decide) _ _ _ rfl HROW.out ⟨w3.heap.size, 0, none⟩ 1 1 (fiveT (o, A, ac)) rfl rfl HN2.out HONE.out (by unfold maxLen; omega) (by omega) (by simp; omega) ?_)
        intro v' w8 g1 g2 _ g3
        have HL8 := Lib.hid (HL3.out.push (x := (o, A, ac)) HAT3.out HSEP.out g1 g2 (by rw [World.size_alloc]; exact g3))
        have ht8 := (g2.block tb (by rw [World.size_alloc]; have := lt_of_block HT3.out; omega) HVT.out).trans ((Below.heap_alloc w3 _ tb (lt_of_block HT3.out)).trans HT3.out)
        obtain ⟨d0, d1, d2, d3, d4⟩ := tbox5 ht8
        clear g1 g2 g3 ht8 HN2 HONE HROW hbs hln b0 b1 b2 b3 b4
        have HQ2 := Lib.hid (HQ1.out A ac)
        clear HQ1
        by_cases k1 : o.kind = 1
        · have q1 : (o.kind == 1) = true := by rw [k1]; rfl
          have HRW := Lib.hid (rraw_calls o.name)
          rcases rawP_cases o.name with h | h | h
          · rw [h] at HRW
            have HQ3 := HQ2
            rw [rawNx_2 k1 h] at HQ3
            clear h k1
            go_wp2_with fail
            refine (HRW.out _).mono ?_
            rintro e w9 ⟨rfl, hw9⟩
            obtain rfl := hw9
            go_wp2_with fail
            go_roundw
            case rel => exact ⟨pre ++ [(o, A, ac)], k, ⟨#[]⟩, HL8, rfl, rfl, HQ3⟩
            case measure => simp [intOf]; have := HGT.out; have := HLT.out; omega
          · rw [h] at HRW
            have HQ3 := HQ2
            rw [rawNx_1 k1 (by rw [h]; decide)] at HQ3
            clear h k1
            go_wp2_with fail
            refine (HRW.out _).mono ?_
            rintro e w9 ⟨rfl, hw9⟩
            obtain rfl := hw9
            go_wp2_with fail
            go_roundw
            case rel => exact ⟨pre ++ [(o, A, ac)], k, o.name, HL8, rfl, rfl, HQ3⟩
            case measure => simp [intOf]; have := HGT.out; have := HLT.out; omega
          · rw [h] at HRW
            have HQ3 := HQ2
            rw [rawNx_1 k1 (by rw [h]; decide)] at HQ3
            clear h k1
            go_wp2_with fail
            refine (HRW.out _).mono ?_
            rintro e w9 ⟨rfl, hw9⟩
            obtain rfl := hw9
            go_wp2_with fail
            go_roundw
            case rel => exact ⟨pre ++ [(o, A, ac)], k, o.name, HL8, rfl, rfl, HQ3⟩
            case measure => simp [intOf]; have := HGT.out; have := HLT.out; omega
        have q1 : (o.kind == 1) = false := by rw [beq_eq_false_iff_ne]; exact k1
        by_cases k2 : o.kind = 2
        · have q2 : (o.kind == 2) = true := by rw [k2]; rfl
          by_cases k3 : o.name = raw
          · have q3 : (o.name.toList == raw.toList) = true := (Sr.str_eq o.name raw).trans (decide_eq_true k3)
            have HQ3 := HQ2
            rw [rawNx_3 k2 k3] at HQ3
            clear k1 k2 k3
            go_wp2_with fail
            go_roundw
            case rel => exact ⟨pre ++ [(o, A, ac)], k, ⟨#[]⟩, HL8, rfl, rfl, HQ3⟩
            case measure => simp [intOf]; have := HGT.out; have := HLT.out; omega
          · have q3 : (o.name.toList == raw.toList) = false := (Sr.str_eq o.name raw).trans (decide_eq_false k3)
            have HQ3 := HQ2
            rw [rawNx_4 k1 (fun h => k3 h.2)] at HQ3
            clear k1 k2 k3
            go_wp2_with fail
            go_roundw
            case rel => exact ⟨pre ++ [(o, A, ac)], k, raw, HL8, rfl, rfl, HQ3⟩
            case measure => simp [intOf]; have := HGT.out; have := HLT.out; omega
        · have q2 : (o.kind == 2) = false := by rw [beq_eq_false_iff_ne]; exact k2
          have HQ3 := HQ2
          rw [rawNx_4 k1 (fun h => k2 h.1)] at HQ3
          clear k1 k2
          go_wp2_with fail
          go_roundw
          case rel => exact ⟨pre ++ [(o, A, ac)], k, raw, HL8, rfl, rfl, HQ3⟩
          case measure => simp [intOf]; have := HGT.out; have := HLT.out; omega
    · have hn : nextP c a raw = (tokE, c.size, true) := next_end c raw a (by omega)
      have HPC := Lib.hid (show pre.map Prod.fst ++ [tokE] = pcsP c 0 ⟨#[]⟩ by rw [← HQ.out.pcs, pcsP_end raw (by omega)])
      clear hlt
      unfold tokE at hn
      have HX := Lib.hid (rnext_as c raw (by have := HCS.out; omega) (by have := HQ.out.rw_; have := HCS.out; omega) a (by have := HQ.out.le; have := HCS.out; omega) ⟨6, ⟨#[]⟩, ⟨#[]⟩, [], false⟩ c.size true hn)
      have HRS := Lib.hid (fun g h => (HL.out.row.lt g h).2)
      clear hn
      go_wp2_with fail
      refine (HX.out _).mono ?_
      rintro e w2 ⟨A, ac, rfl, hat, hb, hfr⟩
      have HL2 := Lib.hid (HL.out.keep hb)
      have HSEP : Hid (([] : List (ByteArray × ByteArray)) ≠ [] → ∀ p, A = some p → u4.ownBlock ≠ some p.block) := Lib.hid (fun _ p hp e => by have := HRS.out p.block e; have := hfr p hp; omega)
      have HAT := Lib.hid hat
      clear hat hb hfr HX HRS HL
      have hbt := (Below.refl _ w2).alloc (Nat.le_refl _) (.cells #[.int .i64 6, .string ⟨#[]⟩, .string ⟨#[]⟩, .slice A 0 ac, .bool false] 27)
      have HL3 := Lib.hid (HL2.out.keep hbt)
      have HAT3 := Lib.hid (isAttrs_below HAT.out hbt)
      have ht3 := alloc_new w2 (.cells #[.int .i64 6, .string ⟨#[]⟩, .string ⟨#[]⟩, .slice A 0 ac, .bool false] 27)
      have HVT : Hid (some w2.heap.size ≠ u4.ownBlock) := Lib.hid (fun e => by have := (HL2.out.row.lt _ e.symm).2; omega)
      clear hbt HL2 HAT
      go_upto_region 8 with (fail)
      generalize hw3 : w2.alloc (.cells #[.int .i64 6, .string ⟨#[]⟩, .string ⟨#[]⟩, .slice A 0 ac, .bool false] 27) = w3 at *
      obtain ⟨tb, htb⟩ : ∃ tb, w2.heap.size = tb := ⟨_, rfl⟩
      rw [htb] at ht3 HVT ⊢
      clear htb hw3
      obtain ⟨b0, b1, b2, b3, b4⟩ := tbox5 ht3
      have HT3 := Lib.hid ht3
      have HROW := Lib.hid (row_keep HL3.out.row (W' := w3.alloc (.cells #[.int .i64 6, .string ⟨#[]⟩, .string ⟨#[]⟩, .slice A 0 ac, .bool false] 27)) (fun g hg => Below.heap_alloc w3 _ g hg))
      have HN2 : Hid (∀ j u, (fiveT ((⟨6, ⟨#[]⟩, ⟨#[]⟩, [], false⟩ : Tok), A, ac))[j]? = some u → (w3.alloc (.cells #[.int .i64 6, .string ⟨#[]⟩, .string ⟨#[]⟩, .slice A 0 ac, .bool false] 27)).cell? ((⟨w3.heap.size, 0, none⟩ : Addr).add j) = some u) := Lib.hid fun j u hj => by
        have ha : (⟨w3.heap.size, 0, none⟩ : Addr).add j = ⟨w3.heap.size, j, none⟩ := by unfold Addr.add; split <;> simp_all
        rw [ha, block_cell (alloc_new w3 _)]
        simpa [fiveT] using hj
      have HONE : Hid (∀ u ∈ fiveT ((⟨6, ⟨#[]⟩, ⟨#[]⟩, [], false⟩ : Tok), A, ac), u.oneCell' = true) := Lib.hid fun u hu => by
        simp [fiveT] at hu
        rcases hu with rfl | rfl | rfl | rfl | rfl <;> rfl
      have hbs := HL3.out.bel.size
      have hln := HPL.out
      clear ht3
      go_wp2_with (at_builtin; refine wpList_append_own_at _ rfl (.tmp 23) (.tmp 25) 23 rfl (w.heap.size + 1) 27 i0 _ 5 72 Tryz.underlying23 hi0 hz0 hz1 hz2 rfl (by decide) _ _ _ rfl HROW.out ⟨w3.heap.size, 0, none⟩ 1 1 (fiveT ((⟨6, ⟨#[]⟩, ⟨#[]⟩, [], false⟩ : Tok), A, ac)) rfl rfl HN2.out HONE.out (by unfold maxLen; omega) (by omega) (by simp; omega) ?_)
      intro v' w8 g1 g2 _ g3
      have HL8 := Lib.hid (HL3.out.push (x := ((⟨6, ⟨#[]⟩, ⟨#[]⟩, [], false⟩ : Tok), A, ac)) HAT3.out HSEP.out g1 g2 (by rw [World.size_alloc]; exact g3))
      have ht8 := (g2.block tb (by rw [World.size_alloc]; have := lt_of_block HT3.out; omega) HVT.out).trans ((Below.heap_alloc w3 _ tb (lt_of_block HT3.out)).trans HT3.out)
      obtain ⟨d0, d1, d2, d3, d4⟩ := tbox5 ht8
      clear g1 g2 g3 ht8 HN2 HONE HROW hbs hln b0 b1 b2 b3 b4
      go_wp2_with fail
      go_ret
      exact ⟨_, pre ++ [((⟨6, ⟨#[]⟩, ⟨#[]⟩, [], false⟩ : Tok), A, ac)], rfl, by rw [← HPC.out, List.map_append]; rfl, HL8.out.row, HL8.out.att, HL8.out.bel⟩
end Go.Proofs.YtbdgoffbkenofaaGreat.Rn
namespace Go.Proofs.YtbdgoffbkenofaaGreat.Rn
open Go Go.RowKit Go.Proofs.YtbdgoffbkenofaaGreat.Tk Go.Proofs.YtbdgoffbkenofaaGreat.Tr Go.Proofs.YtbdgoffbkenofaaGreat.Sc
set_option linter.unusedVariables false
set_option maxRecDepth 100000

theorem sortR_len : ∀ l : List At, (sortR l).length ≤ l.length
  | [] => Nat.le_refl _
  | x :: xs => by
    have := sortR_len xs
    have h := withP_len (sortR xs) x.1 x.2
    show (withP (sortR xs) x.1 x.2).length ≤ xs.length + 1
    omega
theorem sortR_drop {al : List At} {q : Nat} {x : At} (hx : al[q]? = some x) : sortR (al.drop q) = withP (sortR (al.drop (q + 1))) x.1 x.2 := by
  obtain ⟨h, rfl⟩ := List.getElem?_eq_some_iff.1 hx
  rw [List.drop_eq_getElem_cons h]; rfl
/-- Attributes with a slice of theirs. -/
def SpW (m : List At) : Value → World → Prop := fun v W => ∃ A ac, v = .slice A m.length ac ∧ IsAttrs W W.heap.size m A ac
set_option maxHeartbeats 8000000 in
theorem rsort_calls (al : List At) (A : Option Addr) (ac : Nat) (w : World) (h : IsAttrs w w.heap.size al A ac) (hl : al.length ≤ 1000) :
    Calls Tryz.prog 22 #[.slice A al.length ac] w fun e w' => ∃ A' ac', e = .returned (.slice A' (sortR al).length ac') ∧ IsAttrs w' w'.heap.size (sortR al) A' ac' ∧ Below w.heap.size w w' := by
  have HA := Lib.hid h
  have HL := Lib.hid hl
  have hw0 : IntKind.i64.wrap ((al.length : Int) - 1) = (al.length : Int) - 1 := IntWalk.i64_in _ (by omega)
  clear h
  go_enter Tryz.func22, Tryz.ntmps22
  go_wp2_with fail
  obtain ⟨n0, hn0⟩ : ∃ n0, (al.length : Int) - 1 = n0 := ⟨_, rfl⟩
  rw [hn0]
  have HN0 := Lib.hid hn0
  clear hn0 hw0 hl
  go_loopw [3, 4] (fun t3 t4 wr => ∃ (j : Nat) (n : Int) (m : List At) (A' : Option Addr) (ac' : Nat), t3 = .slice A' m.length ac' ∧ t4 = .int .i64 n ∧ Hid (n = (j : Int) - 1) ∧ Hid (j ≤ al.length) ∧ Hid (m = sortR (al.drop j)) ∧ Hid (IsAttrs wr wr.heap.size m A' ac') ∧ Hid (Below w.heap.size w wr)) (fun _ t4 _ => (intOf t4 + 1).toNat)
  case atStart => exact ⟨al.length, n0, [], none, 0, rfl, rfl, Lib.hid HN0.out.symm, Lib.hid (Nat.le_refl _), Lib.hid (by rw [List.drop_of_length_le (Nat.le_refl _)]; rfl), Lib.hid (isAttrs_nil _ _), Lib.hid (Below.refl _ _)⟩
  case round =>
    obtain ⟨j, n, m, A', ac', rfl, rfl, HN, HJ, HM, HI, HB⟩ := hrel
    cases j with
    | zero =>
      obtain rfl : n = -1 := by have := HN.out; omega
      have hm : m = sortR al := HM.out
      subst hm
      go_wp2_with fail
      go_ret
      exact ⟨_, _, rfl, HI.out, HB.out⟩
    | succ q =>
      obtain rfl : n = (q : Int) := by have := HN.out; omega
      have hq : q < al.length := HJ.out
      have hx : al[q]? = some (al[q]'hq) := List.getElem?_eq_getElem _
      generalize al[q]'hq = x at hx
      have HS := Lib.hid (sortR_drop hx)
      have HSZ := HA.out.2.2.1 x (List.mem_of_getElem? hx)
      obtain ⟨g, o, rfl, hg, x0, x1⟩ := isAttrs_at (isAttrs_below HA.out HB.out) hx
      have hml : m.length ≤ 1000 := by rw [HM.out]; have h1 := sortR_len (al.drop (q + 1)); have := HL.out; rw [List.length_drop] at h1; omega
      have HW : Hid (∀ W, Below wr.heap.size wr W → Calls Tryz.prog 35 #[.slice A' m.length ac', .string x.1, .string x.2] W (NewAttrs (withP m x.1 x.2) W)) := Lib.hid fun W hW => with_calls m A' ac' x.1 x.2 W (isAttrs_below HI.out hW) (by omega) HSZ.1 HSZ.2
      have HM2 : Hid (withP m x.1 x.2 = sortR (al.drop q)) := Lib.hid (by rw [HS.out, HM.out])
      generalize withP m x.1 x.2 = m2 at *
      have r0 := cell_regrown x0
      have r1 := cell_regrown x1
      have hql : (q : Int) < (al.length : Int) := by omega
      have hq0 : (0 : Int) ≤ (q : Int) := by omega
      have hwq : IntKind.i64.wrap (q : Int) = (q : Int) := IntWalk.i64_in _ (by have := HL.out; omega)
      have hwn : IntKind.i64.wrap ((q : Int) - 1) = (q : Int) - 1 := IntWalk.i64_in _ (by have := HL.out; omega)
      have HQ := Lib.hid hq
      clear hx hq hg x0 x1 HSZ HS hml
      go_wp2_with fail
      refine Kr.wp_region_R [(11, SpW m2)] mixedT (by kernel_rfl) ?_
      repeat (refine Kr.wpR_one rfl rfl ?_; go_big_quiet_step (fail); refine wpQuiet_nil ?_)
      refine Kr.wpR_call _ rfl rfl rfl ?_ ?_
      · intro W hW hk
        have HWW := Lib.hid (Kr.later_iff.1 hW)
        go_simp
        refine Kr.upMany_enter ((HW.out W HWW.out).mono ?_)
        rintro e w' ⟨A2, ac2, rfl, h1, h2, _⟩
        exact ⟨_, rfl, ⟨A2, ac2, rfl, h1⟩, h2⟩
      rintro v ⟨_, _, _, _, hS, _⟩
      obtain ⟨A2, ac2, rfl, _⟩ := hS
      go_frame
      repeat (refine Kr.wpR_one rfl rfl ?_; go_big_quiet_step (fail); refine wpQuiet_nil ?_)
      refine Kr.wpR_nil ?_
      intro w7 hb7 hH
      obtain ⟨W1, ⟨A3, ac3, e, h1⟩, h2⟩ := hH _ _ (.inl ⟨rfl, rfl⟩)
      injection e with e1 e2 e3
      subst e1; subst e3
      have HI7 := Lib.hid (isAttrs_below h1 h2)
      have HB7 := Lib.hid (HB.out.trans (hb7.mono HB.out.size))
      clear hb7 hH h1 h2 r0 r1 e2
      go_wp2_with fail
      go_roundw
      case rel => exact ⟨q, _, m2, A2, ac2, rfl, rfl, Lib.hid (by first | rfl | omega), Lib.hid (Nat.le_of_lt HQ.out), HM2, HI7, HB7⟩
      case measure => first | (simp [intOf]; done) | (simp [intOf]; omega)
theorem all_end_as {l : List Tok} {w w' : World} {e : Ending} (h : AllEnd l w e w') (hl : l ≠ []) : ∃ g ac xs, e = .returned (.slice (some ⟨g, 0, none⟩) xs.length ac) ∧ xs.map Prod.fst = l ∧ Toks w' g xs ∧ Below w.heap.size w w' := by
  obtain ⟨v, xs, rfl, hx, hr, ha, hb⟩ := h
  rcases hr.2 with ⟨_, h0⟩ | ⟨g, cap, cur, hv, hg, hblk, hc1, hc2, hc3, ht⟩
  · have : xs = [] := List.eq_nil_of_length_eq_zero h0
    subst this
    exact absurd hx.symm hl
  · refine ⟨g, cap, xs, by rw [hv], hx, ⟨fun i x hi => ?_, ha, lt_of_block hblk⟩, hb⟩
    have hl : i < xs.length := by
      rcases Nat.lt_or_ge i xs.length with h | h
      · exact h
      · rw [List.getElem?_eq_none h] at hi; cases hi
    have key : ∀ k u, k < 5 → (fiveT x)[k]? = some u → w'.cell? ⟨g, i * 5 + k, none⟩ = some u := fun k u hk hu => by
      have h := cellsT_at xs i x hi k u hu
      rw [← ht, List.getElem?_take_of_lt (by omega)] at h
      rw [block_cell hblk, ← Array.getElem?_toList]; exact h
    exact ⟨key 0 _ (by decide) rfl, key 1 _ (by decide) rfl, key 2 _ (by decide) rfl, key 3 _ (by decide) rfl, key 4 _ (by decide) rfl⟩
theorem rall_as (s : ByteArray) (hs : s.size ≤ 20000) (w : World) :
    Calls Tryz.prog 18 #[.string s] w fun e w' => ∃ g ac xs, e = .returned (.slice (some ⟨g, 0, none⟩) xs.length ac) ∧ xs.map Prod.fst = pcsP (cleanB s) 0 ⟨#[]⟩ ∧ Toks w' g xs ∧ Below w.heap.size w w' :=
  (rall_calls s hs w).mono fun e w' h => all_end_as h (pcsP_ne _ _ _)
theorem same_one (o : Tok) (A B : Option Addr) (ac bc : Nat) (W : World) (hN : o.attrs.length ≤ 1000000) (hA : IsAttrs W W.heap.size o.attrs A ac) (hB : IsAttrs W W.heap.size o.attrs B bc) :
    Calls Tryz.prog 13 #[.agg #[.int .i64 o.kind, .string o.name, .string o.text, .slice A o.attrs.length ac, .bool o.raw], .agg #[.int .i64 o.kind, .string o.name, .string o.text, .slice B o.attrs.length bc, .bool o.raw]] W fun e w' => e = .returned (.bool true) ∧ Below W.heap.size W w' := by
  have := same_token o o A B ac bc W hN hA hB
  rw [decide_eq_true rfl] at this
  exact this
set_option maxHeartbeats 8000000 in
theorem same_tokens (xs ys : List Itm) (g1 c1 g2 c2 : Nat) (w : World) (hx : Toks w g1 xs) (hy : Toks w g2 ys) (hm : xs.map Prod.fst = ys.map Prod.fst) (hl : xs.length ≤ 100000) (hat : ∀ x ∈ xs, x.1.attrs.length ≤ 1000000) :
    Calls Tryz.prog 17 #[.slice (some ⟨g1, 0, none⟩) xs.length c1, .slice (some ⟨g2, 0, none⟩) ys.length c2] w fun e w' => e = .returned (.bool true) ∧ Below w.heap.size w w' := by
  have hly : ys.length = xs.length := by have := congrArg List.length hm; simpa using this.symm
  rw [hly]
  have HY := Lib.hid hly
  have HM := Lib.hid hm
  have HTX := Lib.hid hx
  have HTY := Lib.hid hy
  have HAT := Lib.hid hat
  have HL := Lib.hid hl
  obtain ⟨nx, hnx⟩ : ∃ nx, xs.length = nx := ⟨_, rfl⟩
  rw [hnx]
  have HNX := Lib.hid hnx
  clear hx hy hm hat hl hly hnx
  go_enter Tryz.func17, Tryz.ntmps17
  go_wp2_with fail
  go_loopw [5] (fun t5 wr => ∃ i : Nat, t5 = .int .i64 (i : Int) ∧ Hid (i ≤ nx) ∧ Hid (Below w.heap.size w wr)) (fun t5 _ => nx - (intOf t5).toNat)
  case atStart => exact ⟨0, rfl, Lib.hid (Nat.zero_le _), Lib.hid (Below.refl _ _)⟩
  case round =>
    obtain ⟨i, rfl, HI, HB⟩ := hrel
    by_cases hlt : i < nx
    · have HLT := Lib.hid hlt
      have k1 : (i : Int) < (nx : Int) := by omega
      have hw0 : IntKind.i64.wrap (i : Int) = (i : Int) := IntWalk.i64_in _ (by have := HL.out; have := HNX.out; omega)
      have hw1 : IntKind.i64.wrap ((i : Int) + 1) = (i : Int) + 1 := IntWalk.i64_in _ (by have := HL.out; have := HNX.out; omega)
      have hz : xs[i]? = some (xs[i]'(by have := HNX.out; omega)) := List.getElem?_eq_getElem _
      have hy : ys[i]? = some (ys[i]'(by have := HNX.out; have := HY.out; omega)) := List.getElem?_eq_getElem _
      generalize xs[i]'(by have := HNX.out; omega) = z at hz
      generalize ys[i]'(by have := HNX.out; have := HY.out; omega) = v at hy
      have hzy : z.1 = v.1 := by
        have e := congrArg (fun l => l[i]?) HM.out
        rw [List.getElem?_map, List.getElem?_map, hz, hy] at e
        simpa using e
      obtain ⟨z0, z1, z2, z3, z4⟩ := (HTX.out.keep HB.out).at_ i _ hz
      obtain ⟨y0, y1, y2, y3, y4⟩ := (HTY.out.keep HB.out).at_ i _ hy
      have HZA := (HTX.out.keep HB.out).att _ (List.mem_of_getElem? hz)
      have HYA := (HTY.out.keep HB.out).att _ (List.mem_of_getElem? hy)
      have hzn := HAT.out z (List.mem_of_getElem? hz)
      obtain ⟨o, A1, a1⟩ := z
      obtain ⟨o2, A2, a2⟩ := v
      dsimp only at hzy z0 z1 z2 z3 z4 y0 y1 y2 y3 y4 HZA HYA hzn
      subst hzy
      have HSM := Lib.hid (fun W (hW : Below wr.heap.size wr W) => same_one o A1 A2 a1 a2 W hzn (isAttrs_below HZA hW) (isAttrs_below HYA hW))
      have r0 := cell_regrown z0
      have r1 := cell_regrown z1
      have r2 := cell_regrown z2
      have r3 := cell_regrown z3
      have r4 := cell_regrown z4
      have s0 := cell_regrown y0
      have s1 := cell_regrown y1
      have s2 := cell_regrown y2
      have s3 := cell_regrown y3
      have s4 := cell_regrown y4
      clear hz hy HZA HYA hzn z0 z1 z2 z3 z4 y0 y1 y2 y3 y4 hlt
      go_wp2_with fail
      refine wp_region_quiet_below mixedT (by kernel_rfl) ?_
      iterate 8 (go_big_quiet_step (fail))
      go_big_quiet_step ((go_at_call 13; exact Calls.regrown_of (HSM.out _ (below_regrown wr _ _))))
      repeat (go_big_quiet_step (fail))
      refine wpQuiet_nil ?_
      rintro w6 ⟨gg, hgg⟩
      have hb6 : Below wr.heap.size wr w6 := hgg ▸ below_regrown wr gg.d gg.os
      have HB2 := Lib.hid (HB.out.trans (hb6.mono HB.out.size))
      clear hgg gg hb6 r0 r1 r2 r3 r4 s0 s1 s2 s3 s4
      go_wp2_with fail
      go_roundw
      case rel => exact ⟨i + 1, by go_num, Lib.hid HLT.out, HB2⟩
      case measure => simp [intOf]; have := HLT.out; omega
    · have k1 : ¬ (i : Int) < (nx : Int) := by omega
      clear hlt
      go_wp2_with fail
      go_ret
      exact ⟨rfl, HB.out⟩
end Go.Proofs.YtbdgoffbkenofaaGreat.Rn
namespace Go.Proofs.YtbdgoffbkenofaaGreat.Wk
open Go Go.RowKit Go.Proofs.YtbdgoffbkenofaaGreat.Tk Go.Proofs.YtbdgoffbkenofaaGreat.Tr Go.Proofs.YtbdgoffbkenofaaGreat.Sc
set_option linter.unusedVariables false
set_option linter.unusedSimpArgs false
set_option maxRecDepth 100000

theorem attrs_len {s : ByteArray} {x : Tok} (hx : x ∈ pcsP s 0 ⟨#[]⟩) : x.attrs.length ≤ s.size + 1 := pcsF_attrs s _ 0 ⟨#[]⟩ x hx
set_option maxHeartbeats 8000000 in
theorem scanAll (s : ByteArray) (al : List At) (A : Option Addr) (ac : Nat) (w : World) (w0 : s.size ≤ maxLen) (h : IsAttrs w w.heap.size al A ac) :
    Calls Tryz.prog 7 #[.string s, .slice A al.length ac] w fun e w' => e = .returned (.bool true) ∧ Below w.heap.size w w' := by
  by_cases c : 3000 < s.size ∨ 50 < al.length
  · have HAW := Lib.hid Sc.awake_calls
    clear h w0
    by_cases c1 : 3000 < s.size
    · have hz : (3000 : Int) < (s.size : Int) := by omega
      have hd : decide ((s.size : Int) > 3000) = true := decide_eq_true hz
      clear c c1
      go_enter Tryz.func7, Tryz.ntmps7
      go_wp2_with fail
      refine (HAW.out _).mono ?_
      rintro e w1 ⟨rfl, hb⟩
      have HB := Lib.hid hb
      clear hb
      go_wp2_with fail
      go_ret
      exact ⟨rfl, HB.out⟩
    · have c2 : 50 < al.length := by omega
      have hz : ¬ (3000 : Int) < (s.size : Int) := by omega
      have hd : decide ((s.size : Int) > 3000) = false := decide_eq_false hz
      have hz2 : (50 : Int) < (al.length : Int) := by omega
      have hd2 : decide ((al.length : Int) > 50) = true := decide_eq_true hz2
      clear c c1 c2
      go_enter Tryz.func7, Tryz.ntmps7
      go_wp2_with fail
      refine (HAW.out _).mono ?_
      rintro e w1 ⟨rfl, hb⟩
      have HB := Lib.hid hb
      clear hb
      go_wp2_with fail
      go_ret
      exact ⟨rfl, HB.out⟩
  have hz : ¬ (3000 : Int) < (s.size : Int) := by omega
  have hd : decide ((s.size : Int) > 3000) = false := decide_eq_false hz
  have hz2 : ¬ (50 : Int) < (al.length : Int) := by omega
  have hd2 : decide ((al.length : Int) > 50) = false := decide_eq_false hz2
  have H1 := Lib.hid (all_as s (by omega))
  have H2 := Lib.hid (Rn.rall_as s (by omega))
  have hcz := cleanB_size s
  have hpl := pcsP_len (cleanB s) 0 ⟨#[]⟩
  have HPL : Hid ((pcsP (cleanB s) 0 ⟨#[]⟩).length ≤ 100000) := Lib.hid (by omega)
  have HAL : Hid (∀ x ∈ pcsP (cleanB s) 0 ⟨#[]⟩, x.attrs.length ≤ 1000000) := Lib.hid fun x hx => by have := attrs_len hx; omega
  have HL : Hid (al.length ≤ 50) := Lib.hid (by omega)
  have HIA := Lib.hid h
  clear h w0 c hcz hpl
  go_enter Tryz.func7, Tryz.ntmps7
  go_wp2_with fail
  refine (H1.out _).mono ?_
  rintro e w1 ⟨g1, ac1, xs, rfl, hx, htx, hb1⟩
  have HB1 := Lib.hid hb1
  have HX := Lib.hid hx
  have HTX := Lib.hid htx
  clear hx htx hb1 H1
  go_wp2_with fail
  refine (H2.out _).mono ?_
  rintro e w2 ⟨g2, ac2, ys, rfl, hy, hty, hb2⟩
  have HB2 := Lib.hid (HB1.out.trans (hb2.mono HB1.out.size))
  have HS := Lib.hid (Rn.same_tokens xs ys g1 ac1 g2 ac2 w2 (HTX.out.keep hb2) hty (HX.out.trans hy.symm) (by rw [← List.length_map (f := Prod.fst), HX.out]; exact HPL.out) fun x hx => HAL.out x.1 (by rw [← HX.out]; exact List.mem_map_of_mem hx))
  clear hy hty hb2 H2 HTX HX HB1
  go_wp2_with fail
  refine HS.out.mono ?_
  rintro e w3 ⟨rfl, hb3⟩
  have HB3 := Lib.hid (HB2.out.trans (hb3.mono HB2.out.size))
  have HI3 := Lib.hid (isAttrs_below HIA.out HB3.out)
  have HC := Lib.hid (attrs_calls al A ac _ w3 HI3.out (Nat.le_refl _) (by have := HL.out; omega))
  clear hb3 HS HB2
  go_wp2_with fail
  refine HC.out.mono ?_
  rintro e w4 ⟨v, rfl, ⟨A1, a1, rfl, ha1, _⟩, hb4⟩
  have HB4 := Lib.hid (HB3.out.trans (hb4.mono HB3.out.size))
  have HSO := Lib.hid (So.sort_calls al A1 a1 _ w4 ha1 (Nat.le_refl _) HL.out)
  clear ha1 hb4 HC
  go_wp2_with fail
  refine HSO.out.mono ?_
  rintro e w5 ⟨r, R, rc, rfl, hr, hb5, hso⟩
  have HB5 := Lib.hid (HB4.out.trans (hb5.mono HB4.out.size))
  have HR := Lib.hid hr
  have HRS := Lib.hid (Rn.sort_same hso)
  have HRL : Hid (r.length ≤ 1000000) := Lib.hid (by have := hso.len; have := HL.out; omega)
  have HRT := Lib.hid (Rn.rsort_calls al A ac w5 (isAttrs_below HIA.out HB5.out) (by have := HL.out; omega))
  rw [HRS.out] at HRT
  clear hr hb5 hso HSO HB4
  go_wp2_with fail
  refine HRT.out.mono ?_
  rintro e w6 ⟨Q, qc, rfl, hq, hb6⟩
  have HB6 := Lib.hid (HB5.out.trans (hb6.mono HB5.out.size))
  have HSA := Lib.hid (same_attrs r r R Q rc qc w6 HRL.out (isAttrs_below HR.out hb6) hq)
  rw [decide_eq_true rfl] at HSA
  clear hq hb6 HRT HB5
  go_wp2_with fail
  refine HSA.out.mono ?_
  rintro e w7 ⟨rfl, hb7⟩
  have HB7 := Lib.hid (HB6.out.trans (hb7.mono HB6.out.size))
  clear hb7 HSA HB6
  go_wp2_with fail
  refine (Sc.awake_calls _).mono ?_
  rintro e w8 ⟨rfl, hb8⟩
  have HB8 := Lib.hid (HB7.out.trans (hb8.mono HB7.out.size))
  clear hb8
  go_wp2_with fail
  go_ret
  exact ⟨rfl, HB8.out⟩
end Go.Proofs.YtbdgoffbkenofaaGreat.Wk
