/- ScanTexts, walked. -/
import Derived.Test.YtbdgoffbkenofaaGreatTkPu
import Derived.Test.YtbdgoffbkenofaaGreatScA
import Derived.Test.YtbdgoffbkenofaaGreatTkPb
import Derived.Test.YtbdgoffbkenofaaGreatProg
import Derived.WalkKit
import Derived.BigCall
import Derived.Lib.Hide
import Derived.Below
import Derived.BigQuiet
import Derived.Outline
import Derived.Handy
import Derived.Deep.QuietTactic
import Derived.WalkLawsBesides
import Derived.WalkSpells
import Derived.Test.YtbdgoffbkenofaaGreatRef
import Derived.Test.YtbdgoffbkenofaaGreatDec
import Derived.Test.YtbdgoffbkenofaaGreatTkPo
import Derived.Test.YtbdgoffbkenofaaGreatTkPh
namespace Go.Proofs.YtbdgoffbkenofaaGreat.Sc
open Go Go.RowKit Go.Proofs.YtbdgoffbkenofaaGreat.Tk
set_option linter.unusedVariables false

def gtB : ByteArray := ⟨#[62]⟩
/-- <n> or </n>, at a place. -/
theorem tag_plain {S n : ByteArray} {a : Nat} (start : Bool) (hn : NameOk n) (H0 : Has S a (preB start)) (H1 : Has S (a + (preB start).size) n) (H2 : Has S (a + (preB start).size + n.size) gtB) :
    nextP S a ⟨#[]⟩ = (⟨if start then 1 else 2, n, ⟨#[]⟩, [], false⟩, a + (preB start).size + n.size + 1, true) := by
  have hp := hn.pos
  have hz := H2.le
  have zg : gtB.size = 1 := rfl
  have he : upT closesN S (a + (preB start).size) = a + (preB start).size + n.size := upT_eq (by omega) (by omega) (fun j h1 h2 => by
    rw [H1.one (i := j - (a + (preB start).size)) (by omega) (by omega)]
    exact (hn.ok _ (by omega)).1) (fun _ => by rw [H2.one (i := 0) (by decide) (by omega)]; decide)
  have h62 : bAt S (a + (preB start).size + n.size) = 62 := (H2.one (i := 0) (by decide) (by omega)).trans (by decide)
  have hg : upT (fun c => !blankN c && !decide (c = 47)) S (a + (preB start).size + n.size) = a + (preB start).size + n.size := upT_eq (Nat.le_refl _) (by omega) (fun j h1 h2 => by omega) (fun _ => by rw [h62]; decide)
  have hnm : namedP (S.extract (a + (preB start).size) (a + (preB start).size + n.size)) = n := by
    rw [H1.ext]
    exact named_plain rfl (fun i hi => (hn.ok i hi).2.1) (fun i hi => (hn.ok i hi).2.2)
  have hat : attrsP S start (S.size + 1 - (a + (preB start).size + n.size)) (a + (preB start).size + n.size) [] = some ([], a + (preB start).size + n.size) := by
    rw [show S.size + 1 - (a + (preB start).size + n.size) = (S.size - (a + (preB start).size + n.size)) + 1 by omega]
    unfold attrsP
    dsimp only
    rw [hg, if_neg (by omega), if_pos h62]
  have ht : tagP S (a + (preB start).size) start = (⟨if start then 1 else 2, n, ⟨#[]⟩, [], false⟩, a + (preB start).size + n.size + 1, true) := by
    unfold tagP
    dsimp only
    rw [he, hat, hnm]
    show ((⟨if start then 1 else 2, n, ⟨#[]⟩, sortP [], false⟩, a + (preB start).size + n.size + 1, true) : Out) = _
    rw [show sortP [] = [] from List.mergeSort_nil]
  rw [← ht]
  cases start with
  | true =>
    have z : (preB true).size = 1 := rfl
    rw [z] at H1 ⊢
    exact next_start ((H0.one (i := 0) (by decide) (by omega)).trans (by decide)) (letter_at.2 ⟨by omega, by rw [H1.one (i := 0) hp (by omega)]; exact hn.let_⟩)
  | false =>
    have z : (preB false).size = 2 := rfl
    rw [z] at H1 ⊢
    exact next_close ((H0.one (i := 0) (by decide) (by omega)).trans (by decide)) ((H0.one (i := 1) (by decide) (by omega)).trans (by decide)) (letter_at.2 ⟨by omega, by rw [H1.one (i := 0) hp (by omega)]; exact hn.let_⟩)
end Go.Proofs.YtbdgoffbkenofaaGreat.Sc
namespace Go.Proofs.YtbdgoffbkenofaaGreat.Sc
open Go Go.RowKit Go.Lib Go.Proofs.YtbdgoffbkenofaaGreat.Tk
set_option linter.unusedVariables false

theorem clean_one : ∀ n, n < 128 → n ≠ 0 → n ≠ 13 → validD [UInt8.ofNat n] = true ∧ Rc.clean [UInt8.ofNat n] = [UInt8.ofNat n] := by decide +kernel
theorem clean_plain : ∀ l : List UInt8, (∀ x ∈ l, x.toNat < 128 ∧ x.toNat ≠ 0 ∧ x.toNat ≠ 13) → Rc.clean l = l
  | [], _ => rfl
  | c :: b, h => by
    obtain ⟨h1, h2, h3⟩ := h c (List.mem_cons_self ..)
    obtain ⟨k1, k2⟩ := clean_one c.toNat h1 h2 h3
    have e : UInt8.ofNat c.toNat = c := UInt8.ofNat_toNat
    rw [e] at k1 k2
    have hl : [c].getLast? ≠ some 13 := by
      intro x; simp at x; rw [x] at h3; exact h3 rfl
    have := Rc.clean_append b [c] k1 hl
    rw [k2, clean_plain b (fun x hx => h x (List.mem_cons_of_mem _ hx))] at this
    exact this
theorem cleanB_plain {s : ByteArray} (h : ∀ i, i < s.size → bAt s i < 128 ∧ bAt s i ≠ 0 ∧ bAt s i ≠ 13) : cleanB s = s := by
  apply Sr.bytes_eq.1
  show Rc.clean s.data.toList = s.data.toList
  refine clean_plain _ fun x hx => ?_
  obtain ⟨i, hi, rfl⟩ := List.getElem_of_mem hx
  have hi' : i < s.size := hi
  have := h i hi'
  rw [bAt_in hi'] at this
  exact this
end Go.Proofs.YtbdgoffbkenofaaGreat.Sc
namespace Go.Proofs.YtbdgoffbkenofaaGreat.Sc
open Go Go.RowKit Go.Proofs.YtbdgoffbkenofaaGreat.Tk
set_option linter.unusedVariables false

/-- Two texts are alike up to m. -/
structure Alike (s t : ByteArray) (m : Nat) : Prop where
  ls : m ≤ s.size
  lt : m ≤ t.size
  at_ : ∀ i, i < m → bAt s i = bAt t i
section
variable {s t : ByteArray} {m : Nat}
theorem Alike.symm (h : Alike s t m) : Alike t s m := ⟨h.lt, h.ls, fun i hi => (h.at_ i hi).symm⟩
theorem Alike.ext (h : Alike s t m) {a b : Nat} (hb : b ≤ m) : s.extract a b = t.extract a b := by
  have h1 := h.ls
  have h2 := h.lt
  refine ext_bAt (by rw [ByteArray.size_extract, ByteArray.size_extract]; omega) fun i hi => ?_
  rw [ByteArray.size_extract] at hi
  rw [bAt_ext (by omega) (by omega), bAt_ext (by omega) (by omega), h.at_ _ (by omega)]
theorem Alike.upT (h : Alike s t m) {p : Nat → Bool} {a : Nat} (hk : Tk.upT p s a < m ∨ (Tk.upT p s a = m ∧ t.size = m)) : Tk.upT p t a = Tk.upT p s a := by
  have h1 := h.ls
  have h2 := h.lt
  have hge := upT_ge p s a
  show upI (fun i => p (bAt t i)) (t.size - a) a = _
  refine upI_eq hge (by omega) (fun j hj1 hj2 => ?_) (fun hv => ?_)
  · have := upI_before (fun i => p (bAt s i)) (s.size - a) a j hj1 hj2
    show p (bAt t j) = false
    rw [← h.at_ j (by omega)]; exact this
  · have := upT_at (p := p) (s := s) (a := a) (by omega) (by omega)
    show p (bAt t _) = true
    rw [← h.at_ _ (by omega)]; exact this
theorem Alike.starts (h : Alike s t m) {u : ByteArray} {a : Nat} (hu : a + u.size ≤ m) : startsP s a u = startsP t a u := by
  have h1 := h.ls
  have h2 := h.lt
  unfold startsP
  rw [h.ext hu, decide_eq_true (show a + u.size ≤ s.size by omega), decide_eq_true (show a + u.size ≤ t.size by omega)]
theorem Alike.letter (h : Alike s t m) {i : Nat} (hi : i < m) : letterAt s i = letterAt t i := by
  have h1 := h.ls
  have h2 := h.lt
  unfold letterAt
  rw [h.at_ i hi, decide_eq_true (show i < s.size by omega), decide_eq_true (show i < t.size by omega)]
theorem Alike.attr (h : Alike s t m) {a : Nat} {n v : ByteArray} {k : Nat} (ha : a < m) (hr : attrP s a = some (n, v, k)) (hk : k < m) : attrP t a = some (n, v, k) := by
  have h1 := h.ls
  have h2 := h.lt
  unfold attrP at hr ⊢
  dsimp only at hr ⊢
  have g1 := upT_ge (fun c => closesN c || decide (c = 61)) s (a + 1)
  have u1 := h.upT (p := fun c => closesN c || decide (c = 61)) (a := a + 1)
  generalize Tk.upT (fun c => closesN c || decide (c = 61)) s (a + 1) = e at *
  have g2 : e ≤ pastP s e := upT_ge _ _ _
  have u2 : pastP s e < m ∨ (pastP s e = m ∧ t.size = m) → pastP t e = pastP s e := h.upT
  generalize pastP s e = n1 at *
  by_cases c1 : s.size ≤ n1 ∨ bAt s n1 ≠ 61
  · rw [if_pos c1] at hr
    injection hr with hr; injection hr with q1 hr; injection hr with q2 q3
    have b1 : n1 < m := by omega
    rw [u1 (.inl (by omega)), u2 (.inl b1), if_pos (.inr (by rw [← h.at_ _ b1]; rcases c1 with c | c; omega; exact c)), ← h.ext (by omega), q1, q2, q3]
  · rw [if_neg c1] at hr
    have g3 : n1 + 1 ≤ pastP s (n1 + 1) := upT_ge _ _ _
    have u3 : pastP s (n1 + 1) < m ∨ (pastP s (n1 + 1) = m ∧ t.size = m) → pastP t (n1 + 1) = pastP s (n1 + 1) := h.upT
    generalize pastP s (n1 + 1) = n2 at *
    by_cases c2 : s.size ≤ n2
    · rw [if_pos c2] at hr; cases hr
    rw [if_neg c2] at hr
    by_cases c3 : bAt s n2 = 34 ∨ bAt s n2 = 39
    · rw [if_pos c3] at hr
      have g4 := upT_ge (fun c => decide (c = bAt s n2)) s (n2 + 1)
      have u4 := h.upT (p := fun c => decide (c = bAt s n2)) (a := n2 + 1)
      generalize Tk.upT (fun c => decide (c = bAt s n2)) s (n2 + 1) = e2 at *
      by_cases c4 : s.size ≤ e2
      · rw [if_pos c4] at hr; cases hr
      rw [if_neg c4] at hr
      injection hr with hr; injection hr with q1 hr; injection hr with q2 q3
      have b1 : e2 < m := by omega
      have b2 : n2 < m := by omega
      have b3 : n1 < m := by omega
      rw [u1 (.inl (by omega)), u2 (.inl b3), if_neg (by rw [← h.at_ _ b3]; omega), u3 (.inl b2), if_neg (by omega), ← h.at_ _ b2, if_pos c3, u4 (.inl b1), if_neg (by omega), ← h.ext (a := a) (b := e) (by omega), ← h.ext (a := n2 + 1) (b := e2) (by omega), q1, q2, q3]
    · rw [if_neg c3] at hr
      have g4 := upT_ge (fun c => blankN c || decide (c = 62)) s n2
      have u4 := h.upT (p := fun c => blankN c || decide (c = 62)) (a := n2)
      generalize Tk.upT (fun c => blankN c || decide (c = 62)) s n2 = e2 at *
      injection hr with hr; injection hr with q1 hr; injection hr with q2 q3
      have b1 : e2 < m := by omega
      have b2 : n2 < m := by omega
      have b3 : n1 < m := by omega
      rw [u1 (.inl (by omega)), u2 (.inl b3), if_neg (by rw [← h.at_ _ b3]; omega), u3 (.inl b2), if_neg (by omega), ← h.at_ _ b2, if_neg c3, u4 (.inl b1), ← h.ext (a := a) (b := e) (by omega), ← h.ext (a := n2) (b := e2) (by omega), q1, q2, q3]
theorem Alike.attrs (h : Alike s t m) (start : Bool) : ∀ {n e : Nat} {acc l : List (ByteArray × ByteArray)} {k : Nat}, attrsP s start n e acc = some (l, k) → k < m → attrsP t start n e acc = some (l, k)
  | 0, e, acc, l, k, hr, _ => by unfold attrsP at hr; cases hr
  | n + 1, e, acc, l, k, hr, hk => by
    have h1 := h.ls
    have h2 := h.lt
    unfold attrsP at hr ⊢
    dsimp only at hr ⊢
    have g1 := upT_ge (fun c => !blankN c && !decide (c = 47)) s e
    have u1 := h.upT (p := fun c => !blankN c && !decide (c = 47)) (a := e)
    generalize Tk.upT (fun c => !blankN c && !decide (c = 47)) s e = e1 at *
    by_cases c1 : s.size ≤ e1
    · rw [if_pos c1] at hr; cases hr
    rw [if_neg c1] at hr
    by_cases c2 : bAt s e1 = 62
    · rw [if_pos c2] at hr
      injection hr with hr; injection hr with q1 q2
      have b1 : e1 < m := by omega
      rw [u1 (.inl b1), if_neg (by omega), if_pos (by rw [← h.at_ _ b1]; exact c2), q1, q2]
    · rw [if_neg c2] at hr
      cases ca : attrP s e1 with
      | none => rw [ca] at hr; cases hr
      | some r =>
        obtain ⟨nm, vl, nx⟩ := r
        rw [ca] at hr
        dsimp only at hr
        have b1 := attrP_le (by omega) ca
        have b2 := attrsP_le hr
        rw [u1 (.inl (by omega)), if_neg (by omega), if_neg (by rw [← h.at_ _ (by omega)]; exact c2), h.attr (by omega) ca (by omega)]
        exact h.attrs start hr hk
end
theorem attrsP_enough (s : ByteArray) (start : Bool) : ∀ (n m e : Nat) (acc : List (ByteArray × ByteArray)), s.size + 1 - e ≤ n → s.size + 1 - e ≤ m → attrsP s start n e acc = attrsP s start m e acc
  | 0, 0, e, acc, _, _ => rfl
  | 0, m + 1, e, acc, hn, _ => by
    unfold attrsP
    dsimp only
    rw [upT_end (by omega), if_pos (by omega)]
  | n + 1, 0, e, acc, _, hm => by
    unfold attrsP
    dsimp only
    rw [upT_end (by omega), if_pos (by omega)]
  | n + 1, m + 1, e, acc, hn, hm => by
    unfold attrsP
    dsimp only
    have g1 := upT_ge (fun c => !blankN c && !decide (c = 47)) s e
    generalize Tk.upT (fun c => !blankN c && !decide (c = 47)) s e = e1 at *
    by_cases c1 : s.size ≤ e1
    · rw [if_pos c1, if_pos c1]
    rw [if_neg c1, if_neg c1]
    by_cases c2 : bAt s e1 = 62
    · rw [if_pos c2, if_pos c2]
    rw [if_neg c2, if_neg c2]
    cases ca : attrP s e1 with
    | none => rfl
    | some r =>
      obtain ⟨nm, vl, nx⟩ := r
      dsimp only
      have b1 := attrP_le (by omega) ca
      exact attrsP_enough s start n m nx _ (by omega) (by omega)
theorem attrsP_more {s : ByteArray} {start : Bool} : ∀ {n m e : Nat} {acc : List (ByteArray × ByteArray)} {r : List (ByteArray × ByteArray) × Nat}, attrsP s start n e acc = some r → n ≤ m → attrsP s start m e acc = some r
  | 0, m, e, acc, r, h, _ => by unfold attrsP at h; cases h
  | n + 1, 0, e, acc, r, h, hm => by omega
  | n + 1, m + 1, e, acc, r, h, hm => by
    unfold attrsP at h ⊢
    dsimp only at h ⊢
    generalize Tk.upT (fun c => !blankN c && !decide (c = 47)) s e = e1 at *
    by_cases c1 : s.size ≤ e1
    · rw [if_pos c1] at h; cases h
    rw [if_neg c1] at h ⊢
    by_cases c2 : bAt s e1 = 62
    · rw [if_pos c2] at h ⊢; exact h
    rw [if_neg c2] at h ⊢
    cases ca : attrP s e1 with
    | none => rw [ca] at h; cases h
    | some x =>
      obtain ⟨nm, vl, nx⟩ := x
      rw [ca] at h
      dsimp only at h ⊢
      exact attrsP_more h (by omega)
section
variable {s t : ByteArray} {m : Nat}
theorem Alike.tag (h : Alike s t m) {b : Nat} {st : Bool} {o : Tok} {k : Nat} (hr : tagP s b st = (o, k, true)) (hk : k ≤ m) : tagP t b st = (o, k, true) := by
  have h1 := h.ls
  have h2 := h.lt
  unfold tagP at hr ⊢
  dsimp only at hr ⊢
  have u1 := h.upT (p := closesN) (a := b)
  generalize Tk.upT closesN s b = e at *
  cases ca : attrsP s st (s.size + 1 - e) e [] with
  | none => rw [ca] at hr; exact absurd (congrArg (fun x => x.2.2) hr) Bool.false_ne_true
  | some r =>
    obtain ⟨l, e2⟩ := r
    rw [ca] at hr
    dsimp only at hr
    injection hr with q1 hr; injection hr with q2 q3
    have b1 := attrsP_le ca
    have ct := h.attrs st ca (by omega)
    have ct2 : attrsP t st (t.size + 1 - e) e [] = some (l, e2) := by
      rw [attrsP_enough t st (t.size + 1 - e) (max (s.size + 1 - e) (t.size + 1 - e)) e [] (Nat.le_refl _) (by omega)]
      exact attrsP_more ct (by omega)
    rw [u1 (.inl (by omega)), ct2]
    dsimp only
    rw [← h.ext (by omega), q1, q2]
/-- A text stands at a place. -/
def AtP (s : ByteArray) (i : Nat) (p : ByteArray) : Prop := i + p.size ≤ s.size ∧ ∀ j, j < p.size → bAt s (i + j) = bAt p j
theorem Alike.atP (h : Alike s t m) {i : Nat} {p : ByteArray} (hp : i + p.size ≤ m) (hs : AtP s i p) : AtP t i p := by
  have h1 := h.lt
  exact ⟨by omega, fun j hj => by rw [← h.at_ _ (by omega)]; exact hs.2 j hj⟩
theorem end_iff {p : ByteArray} {a i : Nat} (hp : 0 < p.size) : Sr.hasPre ((s.extract a s.size).extract i (s.extract a s.size).size) p = true ↔ AtP s (a + i) p := by
  have e : (s.extract a s.size).size = s.size - a := by rw [ByteArray.size_extract]; omega
  rw [pre_iff]
  unfold AtP
  have e2 : ((s.extract a s.size).extract i (s.extract a s.size).size).size = s.size - a - i := by rw [ByteArray.size_extract, e]; omega
  rw [e2]
  constructor
  · rintro ⟨q1, q2⟩
    refine ⟨by omega, fun j hj => ?_⟩
    have := q2 j hj
    rw [bAt_ext (Nat.le_refl _) (by omega), bAt_ext (Nat.le_refl _) (by omega)] at this
    rw [Nat.add_assoc]; exact this
  · rintro ⟨q1, q2⟩
    refine ⟨by omega, fun j hj => ?_⟩
    rw [bAt_ext (Nat.le_refl _) (by omega), bAt_ext (Nat.le_refl _) (by omega), ← Nat.add_assoc]
    exact q2 j hj
theorem pre_at {p : ByteArray} {a : Nat} (hp : 0 < p.size) : Sr.hasPre (s.extract a s.size) p = true ↔ AtP s a p := by
  have e : (s.extract a s.size).size = s.size - a := by rw [ByteArray.size_extract]; omega
  have e2 : (s.extract a s.size).extract 0 (s.extract a s.size).size = s.extract a s.size := by
    refine ext_bAt (by rw [ByteArray.size_extract, e]; omega) fun i hi => ?_
    rw [ByteArray.size_extract, e] at hi
    rw [bAt_ext (Nat.le_refl _) (by omega), Nat.zero_add]
  have := end_iff (s := s) (a := a) (i := 0) hp
  rw [e2] at this
  exact this
theorem cut_head {a i : Nat} (h : a + i ≤ s.size) : (s.extract a s.size).extract 0 i = s.extract a (a + i) := by
  have e : (s.extract a s.size).size = s.size - a := by rw [ByteArray.size_extract]; omega
  refine ext_bAt (by rw [ByteArray.size_extract, e, ByteArray.size_extract]; omega) fun j hj => ?_
  rw [ByteArray.size_extract, e] at hj
  rw [bAt_ext (by omega) (by omega), bAt_ext (Nat.le_refl _) (by omega), bAt_ext (by omega) (by omega), Nat.zero_add]
theorem Alike.comment (h : Alike s t m) {a : Nat} {o : Tok} {k : Nat} {ok : Bool} (ha : a ≤ s.size) (hr : commentP s a = (o, k, ok)) (hk : k ≤ m) (hs : k < s.size) : commentP t a = (o, k, ok) := by
  have h1 := h.ls
  have h2 := h.lt
  have z1 : (⟨#[62]⟩ : ByteArray).size = 1 := rfl
  have z2 : (⟨#[45, 62]⟩ : ByteArray).size = 2 := rfl
  have z3 : (⟨#[45, 45, 62]⟩ : ByteArray).size = 3 := rfl
  have z4 : (⟨#[45, 45, 33, 62]⟩ : ByteArray).size = 4 := rfl
  have eS : (s.extract a s.size).size = s.size - a := by rw [ByteArray.size_extract]; omega
  have eT : (t.extract a t.size).size = t.size - a := by rw [ByteArray.size_extract]; omega
  unfold commentP at hr ⊢
  dsimp only at hr ⊢
  by_cases c1 : Sr.hasPre (s.extract a s.size) ⟨#[62]⟩ = true
  · rw [if_pos c1] at hr
    injection hr with q1 hr; injection hr with q2 q3
    rw [if_pos ((pre_at (by decide)).2 (h.atP (by omega) ((pre_at (by decide)).1 c1))), q1, q2, q3]
  rw [if_neg c1] at hr
  have d1 : a + 1 ≤ m → ¬ Sr.hasPre (t.extract a t.size) ⟨#[62]⟩ = true := fun hm hc => c1 ((pre_at (by decide)).2 (h.symm.atP hm ((pre_at (by decide)).1 hc)))
  by_cases c2 : Sr.hasPre (s.extract a s.size) ⟨#[45, 62]⟩ = true
  · rw [if_pos c2] at hr
    injection hr with q1 hr; injection hr with q2 q3
    rw [if_neg (d1 (by omega)), if_pos ((pre_at (by decide)).2 (h.atP (by omega) ((pre_at (by decide)).1 c2))), q1, q2, q3]
  rw [if_neg c2] at hr
  have d2 : a + 2 ≤ m → ¬ Sr.hasPre (t.extract a t.size) ⟨#[45, 62]⟩ = true := fun hm hc => c2 ((pre_at (by decide)).2 (h.symm.atP hm ((pre_at (by decide)).1 hc)))
  have i1 := upI_at (fun i => cEnd1 (s.extract a s.size) i || cEnd2 (s.extract a s.size) i) (s.extract a s.size).size 0
  have i2 := upI_before (fun i => cEnd1 (s.extract a s.size) i || cEnd2 (s.extract a s.size) i) (s.extract a s.size).size 0
  generalize upI (fun i => cEnd1 (s.extract a s.size) i || cEnd2 (s.extract a s.size) i) (s.extract a s.size).size 0 = i at *
  by_cases c3 : i < (s.extract a s.size).size
  · rw [if_pos c3] at hr
    injection hr with q1 hr; injection hr with q2 q3
    have i3 := i1 (by omega)
    have kge : a + i + 3 ≤ k := by rw [← q2]; split <;> omega
    have e1 : ∀ j, a + j + 3 ≤ m → cEnd1 (t.extract a t.size) j = cEnd1 (s.extract a s.size) j := fun j hj => by
      rw [Bool.eq_iff_iff]
      unfold cEnd1
      rw [end_iff (by decide), end_iff (by decide)]
      exact ⟨h.symm.atP hj, h.atP hj⟩
    have e2 : ∀ j, a + j + 4 ≤ m → cEnd2 (t.extract a t.size) j = cEnd2 (s.extract a s.size) j := fun j hj => by
      rw [Bool.eq_iff_iff]
      unfold cEnd2
      rw [end_iff (by decide), end_iff (by decide)]
      exact ⟨h.symm.atP hj, h.atP hj⟩
    have hT : upI (fun i => cEnd1 (t.extract a t.size) i || cEnd2 (t.extract a t.size) i) (t.extract a t.size).size 0 = i := by
      refine upI_eq (Nat.zero_le _) (by omega) (fun j hj1 hj2 => ?_) (fun hv => ?_)
      · show (cEnd1 (t.extract a t.size) j || cEnd2 (t.extract a t.size) j) = false
        rw [e1 j (by omega), e2 j (by omega)]
        exact i2 j hj1 hj2
      · show (cEnd1 (t.extract a t.size) i || cEnd2 (t.extract a t.size) i) = true
        rw [e1 i (by omega)]
        cases hc : cEnd1 (s.extract a s.size) i with
        | true => rfl
        | false =>
          rw [hc, if_neg Bool.false_ne_true] at q2
          rw [e2 i (by omega)]
          rw [hc] at i3; exact i3
    rw [if_neg (d1 (by omega)), if_neg (d2 (by omega)), hT, if_pos (by omega), e1 i (by omega), cut_head (by omega), ← h.ext (by omega), ← cut_head (s := s) (by omega), q1, q2, q3]
  · rw [if_neg c3] at hr
    injection hr with q1 hr; injection hr with q2 q3
    omega
theorem Alike.bogus (h : Alike s t m) {a : Nat} {o : Tok} {k : Nat} {ok : Bool} (hr : bogusP s a = (o, k, ok)) (hk : k ≤ m) (hs : k < s.size) : bogusP t a = (o, k, ok) := by
  have h1 := h.ls
  have h2 := h.lt
  unfold bogusP closedEnd at hr ⊢
  have u1 := h.upT (p := fun c => decide (c = 62)) (a := a)
  generalize Tk.upT (fun c => decide (c = 62)) s a = e at *
  injection hr with q1 hr; injection hr with q2 q3
  rw [u1 (.inl (by omega)), ← h.ext (by omega), q1, q3, ← q2, Nat.min_eq_left (by omega), Nat.min_eq_left (by omega)]
theorem Alike.doctype (h : Alike s t m) {a : Nat} {o : Tok} {k : Nat} {ok : Bool} (hr : doctypeP s a = (o, k, ok)) (hk : k ≤ m) (hs : k < s.size) : doctypeP t a = (o, k, ok) := by
  have h1 := h.ls
  have h2 := h.lt
  unfold doctypeP closedEnd pastP at hr ⊢
  dsimp only at hr ⊢
  have u0 := h.upT (p := fun c => !blankN c) (a := a)
  generalize Tk.upT (fun c => !blankN c) s a = b at *
  have g1 := upT_ge (fun c => blankN c || decide (c = 62)) s b
  have u1 := h.upT (p := fun c => blankN c || decide (c = 62)) (a := b)
  generalize Tk.upT (fun c => blankN c || decide (c = 62)) s b = e at *
  have g2 := upT_ge (fun c => decide (c = 62)) s e
  have u2 := h.upT (p := fun c => decide (c = 62)) (a := e)
  generalize Tk.upT (fun c => decide (c = 62)) s e = e2 at *
  injection hr with q1 hr; injection hr with q2 q3
  rw [u0 (.inl (by omega)), u1 (.inl (by omega)), u2 (.inl (by omega)), ← h.ext (by omega), q1, q3, ← q2, Nat.min_eq_left (by omega), Nat.min_eq_left (by omega)]
/-- What t does not have beyond s at a place; a raw element's end is the same. -/
structure Cut (s t : ByteArray) (m a : Nat) (raw : ByteArray) : Prop where
  st : ∀ u, u = ⟨#[60, 47]⟩ ∨ u = ⟨#[60, 33, 45, 45]⟩ ∨ u = ⟨#[60, 33, 100, 111, 99, 116, 121, 112, 101]⟩ ∨ u = ⟨#[60, 47, 62]⟩ ∨ u = ⟨#[60, 63]⟩ ∨ u = ⟨#[60, 33]⟩ → startsP t a u = true → startsP s a u = true
  l1 : bAt t a = 60 → letterAt t (a + 1) = true → letterAt s (a + 1) = true
  l2 : startsP t a ⟨#[60, 47]⟩ = true → letterAt t (a + 2) = true → letterAt s (a + 2) = true
  l3 : startsP t a ⟨#[60, 47]⟩ = true → a + 2 < t.size → a + 2 < s.size
  rw_ : raw ≠ ⟨#[]⟩ → rawEndP s a raw ≤ m → (rawEndP s a raw = m → t.size = m) → rawEndP t a raw = rawEndP s a raw
theorem next_cut (h : Alike s t m) {a : Nat} {raw : ByteArray} (hc : Cut s t m a raw) (ha : a < m) {o : Tok} {k : Nat} {ok : Bool} (hr : nextP s a raw = (o, k, ok)) (hks : k < s.size ∨ (ok = true ∧ o.kind = 2)) (hk : k ≤ m) (hkm : k = m → t.size = m ∨ o.kind = 2) : nextP t a raw = (o, k, ok) := by
  have h1 := h.ls
  have h2 := h.lt
  have gg := next_goes s raw a (by omega)
  rw [hr] at gg
  have gk : a < k := gg.gt
  unfold nextP at hr ⊢
  rw [if_neg (by omega)] at hr ⊢
  have hra : raw ≠ ⟨#[]⟩ → a ≤ rawEndP s a raw := fun _ => upI_ge _ _ _
  by_cases c2 : raw ≠ ⟨#[]⟩ ∧ a < rawEndP s a raw
  · rw [if_pos c2] at hr
    injection hr with q1 hr; injection hr with q2 q3
    have k3 : o.kind = 3 := by rw [← q1]; rfl
    have e := hc.rw_ c2.1 (by omega) (fun x => by rcases hkm (by omega) with y | y <;> omega)
    rw [e, if_pos c2, ← h.ext (by omega), q1, q2, q3]
  rw [if_neg c2] at hr
  have c2' : ¬ (raw ≠ ⟨#[]⟩ ∧ a < rawEndP t a raw) := by
    rintro ⟨x1, x2⟩
    have x3 : rawEndP s a raw = a := by have := hra x1; have : ¬ a < rawEndP s a raw := fun y => c2 ⟨x1, y⟩; omega
    have e := hc.rw_ x1 (by omega) (fun y => by omega)
    omega
  rw [if_neg c2']
  rw [← h.at_ a ha]
  by_cases c3 : bAt s a ≠ 60
  · rw [if_pos c3] at hr ⊢
    dsimp only at hr ⊢
    have u1 := h.upT (p := fun c => decide (c = 60) || (blankN c != blankN (bAt s a))) (a := a)
    generalize Tk.upT (fun c => decide (c = 60) || (blankN c != blankN (bAt s a))) s a = e at *
    injection hr with q1 hr; injection hr with q2 q3
    have k3 : o.kind = 3 := by rw [← q1]; rfl
    rw [u1 (by rcases Nat.lt_or_ge e m with x | x; exact .inl x; exact .inr ⟨by omega, by rcases hkm (by omega) with y | y <;> omega⟩), ← h.ext (by omega), q1, q2, q3]
  rw [if_neg c3] at hr ⊢
  have c3' : bAt t a = 60 := by rw [← h.at_ a ha]; omega
  by_cases c4 : letterAt s (a + 1) = true
  · rw [if_pos c4] at hr
    have b1 : a + 1 < k := by have := (tagP_goes (s := s) (start := true) (letter_lt c4)).gt; rw [hr] at this; exact this
    have hok : ok = true := by
      cases ok with
      | true => rfl
      | false =>
        exfalso
        unfold tagP at hr
        dsimp only at hr
        split at hr
        · injection hr with _ hr; injection hr with hr _
          rcases hks with x | x
          · omega
          · exact absurd x.1 Bool.false_ne_true
        · injection hr with _ hr; injection hr with _ hr; cases hr
    subst hok
    rw [if_pos (by rw [← h.letter (by omega)]; exact c4)]
    exact h.tag hr hk
  rw [if_neg c4] at hr
  rw [if_neg (fun x => c4 (hc.l1 c3' x))]
  by_cases c5 : (startsP s a ⟨#[60, 47]⟩ && letterAt s (a + 2)) = true
  · rw [if_pos c5] at hr
    rw [Bool.and_eq_true] at c5
    have b1 : a + 2 < k := by have := (tagP_goes (s := s) (start := false) (letter_lt c5.2)).gt; rw [hr] at this; exact this
    have hok : ok = true := by
      cases ok with
      | true => rfl
      | false =>
        exfalso
        unfold tagP at hr
        dsimp only at hr
        split at hr
        · injection hr with _ hr; injection hr with hr _
          rcases hks with x | x
          · omega
          · exact absurd x.1 Bool.false_ne_true
        · injection hr with _ hr; injection hr with _ hr; cases hr
    subst hok
    rw [if_pos (by rw [Bool.and_eq_true, ← h.letter (by omega), ← h.starts (u := ⟨#[60, 47]⟩) (show a + 2 ≤ m by omega)]; exact c5)]
    exact h.tag hr hk
  rw [if_neg c5] at hr
  rw [if_neg (fun x => c5 (by rw [Bool.and_eq_true] at x ⊢; exact ⟨hc.st _ (.inl rfl) x.1, hc.l2 x.1 x.2⟩))]
  by_cases c6 : startsP s a ⟨#[60, 33, 45, 45]⟩ = true
  · rw [if_pos c6] at hr
    have b0 : a + 4 ≤ s.size := starts_le c6
    have b1 := (commentP_goes (s := s) (a := a + 4) (by omega)).1
    rw [hr] at b1
    have b2 : a + 4 ≤ k := b1
    rw [if_pos (by rw [← h.starts (u := ⟨#[60, 33, 45, 45]⟩) (show a + 4 ≤ m by omega)]; exact c6)]
    have b3 : o.kind = 4 := by have := (commentP_goes (s := s) (a := a + 4) (by omega)).2.2.2; rw [hr] at this; exact this
    exact h.comment b0 hr hk (by omega)
  rw [if_neg c6] at hr
  rw [if_neg (fun x => c6 (hc.st _ (.inr (.inl rfl)) x))]
  by_cases c7 : startsP s a ⟨#[60, 33, 100, 111, 99, 116, 121, 112, 101]⟩ = true
  · rw [if_pos c7] at hr
    have b0 : a + 9 ≤ s.size := starts_le c7
    have b1 := (doctypeP_goes (s := s) (a := a + 9) (b := a + 8) b0 (by omega)).gt
    rw [hr] at b1
    have b2 : a + 8 < k := b1
    rw [if_pos (by rw [← h.starts (u := ⟨#[60, 33, 100, 111, 99, 116, 121, 112, 101]⟩) (show a + 9 ≤ m by omega)]; exact c7)]
    have b3 : o.kind = 5 := (congrArg (fun x : Out => x.1.kind) hr).symm
    exact h.doctype hr hk (by omega)
  rw [if_neg c7] at hr
  rw [if_neg (fun x => c7 (hc.st _ (.inr (.inr (.inl rfl))) x))]
  by_cases c8 : startsP s a ⟨#[60, 47, 62]⟩ = true
  · rw [if_pos c8] at hr
    injection hr with q1 hr; injection hr with q2 q3
    rw [if_pos (by rw [← h.starts (u := ⟨#[60, 47, 62]⟩) (show a + 3 ≤ m by omega)]; exact c8), q1, q2, q3]
  rw [if_neg c8] at hr
  rw [if_neg (fun x => c8 (hc.st _ (.inr (.inr (.inr (.inl rfl)))) x))]
  by_cases c9 : startsP s a ⟨#[60, 63]⟩ = true
  · rw [if_pos c9] at hr
    have b0 : a + 2 ≤ s.size := starts_le c9
    have b1 := (bogusP_goes (s := s) (a := a + 1) (b := a) (by omega) (by omega)).gt
    have b2 : a + 1 ≤ closedEnd s (a + 1) := upT_ge _ _ _
    have b3 : min (closedEnd s (a + 1) + 1) s.size = k := congrArg (fun x => x.2.1) hr
    rw [if_pos (by rw [← h.starts (u := ⟨#[60, 63]⟩) (show a + 2 ≤ m by omega)]; exact c9)]
    have b4 : o.kind = 4 := (congrArg (fun x : Out => x.1.kind) hr).symm
    exact h.bogus hr hk (by omega)
  rw [if_neg c9] at hr
  rw [if_neg (fun x => c9 (hc.st _ (.inr (.inr (.inr (.inr (.inl rfl))))) x))]
  by_cases c10 : (startsP s a ⟨#[60, 33]⟩ || (startsP s a ⟨#[60, 47]⟩ && decide (a + 2 < s.size))) = true
  · rw [if_pos c10] at hr
    have b2 : a + 2 ≤ closedEnd s (a + 2) := upT_ge _ _ _
    have b3 : min (closedEnd s (a + 2) + 1) s.size = k := congrArg (fun x => x.2.1) hr
    have b4 : o.kind = 4 := (congrArg (fun x : Out => x.1.kind) hr).symm
    have b0 : a + 2 < m := by omega
    rw [if_pos (by
      rw [← h.starts (u := ⟨#[60, 33]⟩) (show a + 2 ≤ m by omega), ← h.starts (u := ⟨#[60, 47]⟩) (show a + 2 ≤ m by omega), decide_eq_true (show a + 2 < t.size by omega)]
      rw [Bool.or_eq_true, Bool.and_eq_true] at c10 ⊢
      exact c10.imp id fun x => ⟨x.1, rfl⟩)]
    have b4 : o.kind = 4 := (congrArg (fun x : Out => x.1.kind) hr).symm
    exact h.bogus hr hk (by omega)
  rw [if_neg c10] at hr
  rw [if_neg (fun x => c10 (by
    rw [Bool.or_eq_true, Bool.and_eq_true, decide_eq_true_eq] at x ⊢
    exact x.imp (hc.st _ (.inr (.inr (.inr (.inr (.inr rfl)))))) fun y => ⟨hc.st _ (.inl rfl) y.1, hc.l3 y.1 y.2⟩))]
  exact hr
end
end Go.Proofs.YtbdgoffbkenofaaGreat.Sc
namespace Go.Proofs.YtbdgoffbkenofaaGreat.Sc
open Go Go.RowKit Go.Proofs.YtbdgoffbkenofaaGreat.Tk
set_option linter.unusedVariables false

theorem sUpI {d : Nat} {q q' : Nat → Bool} (h : ∀ i, q (d + i) = q' i) : ∀ n i, upI q n (d + i) = d + upI q' n i
  | 0, i => rfl
  | n + 1, i => by
    cases hq : q' i with
    | true => rw [upI_here hq, upI_here (by rw [h]; exact hq)]
    | false => rw [upI_next hq, upI_next (by rw [h]; exact hq), Nat.add_assoc]; exact sUpI h n (i + 1)
section
variable (x b : ByteArray)
theorem sBat (i : Nat) : bAt (x ++ b) (x.size + i) = bAt b i := by rw [bAt_r (by omega)]; congr 1; omega
theorem sSize : (x ++ b).size = x.size + b.size := ByteArray.size_append
theorem sExt (i j : Nat) : (x ++ b).extract (x.size + i) (x.size + j) = b.extract i j := by
  refine ext_bAt (by rw [ByteArray.size_extract, ByteArray.size_extract, sSize]; omega) fun k hk => ?_
  rw [ByteArray.size_extract, sSize] at hk
  have e1 : bAt ((x ++ b).extract (x.size + i) (x.size + j)) k = bAt (x ++ b) (x.size + i + k) := by
    rw [bAt_in (by rw [ByteArray.size_extract, sSize]; omega), bAt_in (by rw [sSize]; omega), ByteArray.getElem_extract]
  have e2 : bAt (b.extract i j) k = bAt b (i + k) := by
    rw [bAt_in (by rw [ByteArray.size_extract]; omega), bAt_in (by omega), ByteArray.getElem_extract]
  rw [e1, e2, Nat.add_assoc, sBat]
theorem sUpT (p : Nat → Bool) (a : Nat) : upT p (x ++ b) (x.size + a) = x.size + upT p b a := by
  unfold Tk.upT
  rw [sSize, show x.size + b.size - (x.size + a) = b.size - a by omega]
  exact sUpI (fun i => by rw [sBat]) _ _
theorem sPast (a : Nat) : pastP (x ++ b) (x.size + a) = x.size + pastP b a := sUpT x b _ a
theorem sStarts (a : Nat) (t : ByteArray) : startsP (x ++ b) (x.size + a) t = startsP b a t := by
  unfold startsP
  rw [Nat.add_assoc, sExt, sSize]
  congr 1
  exact decide_eq_decide.2 (by omega)
theorem sLetter (i : Nat) : letterAt (x ++ b) (x.size + i) = letterAt b i := by
  unfold letterAt
  rw [sBat, sSize]
  congr 1
  exact decide_eq_decide.2 (by omega)
theorem sRawOk (raw : ByteArray) (i : Nat) : rawOk (x ++ b) raw (x.size + i) = rawOk b raw i := by
  unfold rawOk
  rw [sStarts, show x.size + i + 2 + raw.size = x.size + (i + 2 + raw.size) by omega, sBat, sSize]
  congr 2
  exact decide_eq_decide.2 (by omega)
theorem sRawEnd (a : Nat) (raw : ByteArray) : rawEndP (x ++ b) (x.size + a) raw = x.size + rawEndP b a raw := by
  unfold rawEndP
  rw [sSize, show x.size + b.size - (x.size + a) = b.size - a by omega]
  exact sUpI (fun i => sRawOk x b raw i) _ _
theorem sAttr (a : Nat) : attrP (x ++ b) (x.size + a) = (attrP b a).map fun r => (r.1, r.2.1, x.size + r.2.2) := by
  unfold attrP
  dsimp only
  rw [Nat.add_assoc, sUpT]
  generalize Tk.upT (fun c => closesN c || decide (c = 61)) b (a + 1) = e
  rw [sPast, sExt]
  generalize pastP b e = n1
  rw [sBat, sSize]
  by_cases c1 : b.size ≤ n1 ∨ bAt b n1 ≠ 61
  · rw [if_pos (by omega), if_pos c1]; rfl
  rw [if_neg (by omega), if_neg c1, Nat.add_assoc, sPast]
  generalize pastP b (n1 + 1) = n2
  by_cases c2 : b.size ≤ n2
  · rw [if_pos (by omega), if_pos c2]; rfl
  rw [if_neg (by omega), if_neg c2, sBat]
  by_cases c3 : bAt b n2 = 34 ∨ bAt b n2 = 39
  · rw [if_pos c3, if_pos c3, Nat.add_assoc, sUpT]
    generalize Tk.upT (fun c => decide (c = bAt b n2)) b (n2 + 1) = e2
    by_cases c4 : b.size ≤ e2
    · rw [if_pos (by omega), if_pos c4]; rfl
    · rw [if_neg (by omega), if_neg c4, sExt]; rfl
  · rw [if_neg c3, if_neg c3, sUpT, sExt]; rfl
theorem sAttrs (start : Bool) : ∀ (n e : Nat) (acc : List (ByteArray × ByteArray)), attrsP (x ++ b) start n (x.size + e) acc = (attrsP b start n e acc).map fun r => (r.1, x.size + r.2)
  | 0, e, acc => rfl
  | n + 1, e, acc => by
    unfold attrsP
    dsimp only
    rw [sUpT]
    generalize Tk.upT (fun c => !blankN c && !decide (c = 47)) b e = e1
    rw [sBat, sSize]
    by_cases c1 : b.size ≤ e1
    · rw [if_pos (by omega), if_pos c1]; rfl
    rw [if_neg (by omega), if_neg c1]
    by_cases c2 : bAt b e1 = 62
    · rw [if_pos c2, if_pos c2]; rfl
    rw [if_neg c2, if_neg c2, sAttr]
    cases ca : attrP b e1 with
    | none => rfl
    | some r => exact sAttrs start n _ _
def shO (o : Out) : Out := (o.1, x.size + o.2.1, o.2.2)
theorem sTag (a : Nat) (st : Bool) : tagP (x ++ b) (x.size + a) st = shO x (tagP b a st) := by
  unfold tagP
  dsimp only
  rw [sUpT]
  generalize Tk.upT closesN b a = e
  rw [sExt, sSize, show x.size + b.size + 1 - (x.size + e) = b.size + 1 - e by omega, sAttrs]
  cases attrsP b st (b.size + 1 - e) e [] with
  | none => rfl
  | some r => rfl
theorem sComment (a : Nat) : commentP (x ++ b) (x.size + a) = shO x (commentP b a) := by
  unfold commentP
  dsimp only
  rw [sSize, sExt]
  generalize b.extract a b.size = r
  by_cases c1 : Sr.hasPre r ⟨#[62]⟩ = true
  · rw [if_pos c1, if_pos c1]; unfold shO; rw [Nat.add_assoc]
  rw [if_neg c1, if_neg c1]
  by_cases c2 : Sr.hasPre r ⟨#[45, 62]⟩ = true
  · rw [if_pos c2, if_pos c2]; unfold shO; rw [Nat.add_assoc]
  rw [if_neg c2, if_neg c2]
  by_cases c3 : upI (fun i => cEnd1 r i || cEnd2 r i) r.size 0 < r.size
  · rw [if_pos c3, if_pos c3]; unfold shO; rw [Nat.add_assoc, Nat.add_assoc, ← Nat.add_assoc a]
  · rw [if_neg c3, if_neg c3]; rfl
theorem sClosed (a : Nat) : closedEnd (x ++ b) (x.size + a) = x.size + closedEnd b a := sUpT x b _ a
theorem sMin (v n : Nat) : min (x.size + v + 1) (x.size + n) = x.size + min (v + 1) n := by omega
theorem sBogus (a : Nat) : bogusP (x ++ b) (x.size + a) = shO x (bogusP b a) := by
  unfold bogusP
  rw [sClosed, sExt, sSize, sMin]; rfl
theorem sDoctype (a : Nat) : doctypeP (x ++ b) (x.size + a) = shO x (doctypeP b a) := by
  unfold doctypeP
  dsimp only
  rw [sPast, sUpT, sExt, sClosed, sSize, sMin]; rfl
theorem sNext (a : Nat) (raw : ByteArray) : nextP (x ++ b) (x.size + a) raw = shO x (nextP b a raw) := by
  unfold nextP
  dsimp only
  rw [sSize, sRawEnd, sBat, sUpT, Nat.add_assoc, Nat.add_assoc, Nat.add_assoc, Nat.add_assoc, Nat.add_assoc, sLetter, sLetter, sStarts, sStarts, sStarts, sStarts, sStarts, sStarts, sExt, sExt, sTag, sTag, sComment, sDoctype, sBogus, sBogus]
  by_cases c1 : b.size ≤ a
  · rw [if_pos (by omega), if_pos c1]; rfl
  rw [if_neg (by omega), if_neg c1]
  by_cases c2 : raw ≠ ⟨#[]⟩ ∧ a < rawEndP b a raw
  · rw [if_pos ⟨c2.1, by omega⟩, if_pos c2]; rfl
  rw [if_neg (fun h => c2 ⟨h.1, by omega⟩), if_neg c2]
  by_cases c3 : bAt b a ≠ 60
  · rw [if_pos c3, if_pos c3]; rfl
  rw [if_neg c3, if_neg c3]
  by_cases c4 : letterAt b (a + 1) = true
  · rw [if_pos c4, if_pos c4]
  rw [if_neg c4, if_neg c4]
  by_cases c5 : (startsP b a ⟨#[60, 47]⟩ && letterAt b (a + 2)) = true
  · rw [if_pos c5, if_pos c5]
  rw [if_neg c5, if_neg c5]
  by_cases c6 : startsP b a ⟨#[60, 33, 45, 45]⟩ = true
  · rw [if_pos c6, if_pos c6]
  rw [if_neg c6, if_neg c6]
  by_cases c7 : startsP b a ⟨#[60, 33, 100, 111, 99, 116, 121, 112, 101]⟩ = true
  · rw [if_pos c7, if_pos c7]
  rw [if_neg c7, if_neg c7]
  by_cases c8 : startsP b a ⟨#[60, 47, 62]⟩ = true
  · rw [if_pos c8, if_pos c8]; rfl
  rw [if_neg c8, if_neg c8]
  by_cases c9 : startsP b a ⟨#[60, 63]⟩ = true
  · rw [if_pos c9, if_pos c9]
  rw [if_neg c9, if_neg c9, show decide (x.size + (a + 2) < x.size + b.size) = decide (a + 2 < b.size) from decide_eq_decide.2 (by omega)]
  by_cases c10 : (startsP b a ⟨#[60, 33]⟩ || (startsP b a ⟨#[60, 47]⟩ && decide (a + 2 < b.size))) = true
  · rw [if_pos c10, if_pos c10]
  · rw [if_neg c10, if_neg c10]; rfl
theorem sPcsF : ∀ (n a : Nat) (raw : ByteArray), pcsF (x ++ b) n (x.size + a) raw = pcsF b n a raw
  | 0, a, raw => rfl
  | n + 1, a, raw => by
    unfold pcsF
    rw [sNext, sSize]
    by_cases c1 : b.size ≤ a
    · rw [if_pos (by omega), if_pos c1]
    rw [if_neg (by omega), if_neg c1]
    show (if (nextP b a raw).2.2 = true then (nextP b a raw).1 :: pcsF (x ++ b) n (x.size + (nextP b a raw).2.1) _ else pcsF (x ++ b) n (x.size + (nextP b a raw).2.1) raw) = _
    rw [sPcsF n, sPcsF n]; rfl
/-- The pieces of a text are the same behind another one. -/
theorem pcsP_behind (raw : ByteArray) : pcsP (x ++ b) x.size raw = pcsP b 0 raw := by
  unfold pcsP
  have := sPcsF x b (b.size - 0) 0 raw
  rw [Nat.add_zero] at this
  rw [sSize, show x.size + b.size - x.size = b.size - 0 by omega, this]
end
end Go.Proofs.YtbdgoffbkenofaaGreat.Sc
namespace Go.Proofs.YtbdgoffbkenofaaGreat.Sc
open Go Go.RowKit Go.Lib Go.Proofs.YtbdgoffbkenofaaGreat.Tk
set_option linter.unusedVariables false

theorem bad_more (l t : List UInt8) (c : UInt8) (hc : c.toNat < 128) (hne : l ≠ []) (hb : Rc.Bad l) : Rc.Bad (l ++ c :: t) := by
  apply Classical.byContradiction
  intro hn
  unfold Rc.Bad at hn hb
  rw [decodeL_N] at hn hb
  have g : ∀ i, i < l.length → (l ++ c :: t).getD i 0 = l.getD i 0 := fun i hi => by simp [List.getD, List.getElem?_append_left hi]
  have gl : (l ++ c :: t).getD l.length 0 = c := by simp [List.getD]
  have hl : 0 < l.length := List.length_pos_iff.2 hne
  have hlen : (l ++ c :: t).length = l.length + (t.length + 1) := by simp
  have ne : ∀ i, ((l ++ c :: t).getD i 0).toNat / 64 = 2 → i ≠ l.length := fun i h e => by rw [e, gl] at h; omega
  rcases decodeN_shape (l ++ c :: t).length ((l ++ c :: t).getD 0 0).toNat ((l ++ c :: t).getD 1 0).toNat ((l ++ c :: t).getD 2 0).toNat ((l ++ c :: t).getD 3 0).toNat with ⟨q, e⟩ | ⟨c1, c2, c3, cv, e⟩ | ⟨c1, c2, c3, c4, cv, cs, e⟩ | ⟨c1, c2, c3, c4, c5, cv, cw, e⟩ | e
  · rw [g 0 hl] at q
    unfold decodeN at hb
    rw [if_pos q] at hb
    have := hb.1
    dsimp only at this
    omega
  · have n1 := ne 1 c3
    rw [g 0 hl] at c1 cv
    rw [g 1 (by omega)] at c3 cv
    unfold decodeN at hb
    rw [if_neg (by omega), if_pos ⟨c1, by omega, c3⟩, if_pos (by omega)] at hb
    exact absurd hb.2 (show ¬ (2 : Nat) = 1 by decide)
  · have n1 := ne 1 c3
    have n2 := ne 2 c4
    rw [g 0 hl] at c1 cv cs
    rw [g 1 (by omega)] at c3 cv cs
    rw [g 2 (by omega)] at c4 cv cs
    unfold decodeN at hb
    rw [if_neg (by omega), if_neg (by omega), if_pos ⟨c1, ⟨by omega, c3⟩, by omega, c4⟩, if_pos (by omega)] at hb
    exact absurd hb.2 (show ¬ (3 : Nat) = 1 by decide)
  · have n1 := ne 1 c3
    have n2 := ne 2 c4
    have n3 := ne 3 c5
    rw [g 0 hl] at c1 cv cw
    rw [g 1 (by omega)] at c3 cv cw
    rw [g 2 (by omega)] at c4 cv cw
    rw [g 3 (by omega)] at c5 cv cw
    unfold decodeN at hb
    rw [if_neg (by omega), if_neg (by omega), if_neg (by omega), if_pos ⟨c1, ⟨by omega, c3⟩, ⟨by omega, c4⟩, by omega, c5⟩, if_pos (by omega)] at hb
    exact absurd hb.2 (show ¬ (4 : Nat) = 1 by decide)
  · rw [e] at hn; exact hn ⟨rfl, rfl⟩
theorem clean_cut (c : UInt8) (t : List UInt8) (hc : c.toNat < 128) (h10 : c ≠ 10) : ∀ l, Rc.clean (l ++ c :: t) = Rc.clean l ++ Rc.clean (c :: t) := by
  refine Rc.clean_induct (by simp [Rc.clean_nil]) ?_ ?_ ?_
  · intro a hne h ih
    have hg : (a ++ c :: t).getD 0 0 = a.getD 0 0 := by cases a with | nil => exact absurd rfl hne | cons x xs => rfl
    have h2 : Rc.Bad (a ++ c :: t) ∨ (a ++ c :: t).getD 0 0 = 0 := h.imp (bad_more a t c hc hne) (fun x => hg.trans x)
    rw [Rc.clean_bad a hne h, Rc.clean_bad (a ++ c :: t) (by simp [hne]) h2, List.append_assoc, ← ih]
    congr 2
    cases a with | nil => exact absurd rfl hne | cons x xs => rfl
  · intro a h ih
    match a with
    | [] => simp at h
    | [x] =>
      simp at h; subst h
      rw [Rc.clean_13 [13] rfl, show ([13] : List UInt8) ++ c :: t = 13 :: c :: t from rfl, Rc.clean_13 (13 :: c :: t) rfl]
      show 10 :: Rc.clean (List.drop (if c = 10 then 2 else 1) (13 :: c :: t)) = 10 :: (Rc.clean [] ++ Rc.clean (c :: t))
      rw [if_neg h10]; rfl
    | x :: y :: xs =>
      simp at h; subst h
      rw [Rc.clean_13 (13 :: y :: xs ++ c :: t) rfl, Rc.clean_13 (13 :: y :: xs) rfl]
      change Rc.clean (List.drop (if y = 10 then 2 else 1) (13 :: y :: xs) ++ c :: t) = Rc.clean (List.drop (if y = 10 then 2 else 1) (13 :: y :: xs)) ++ Rc.clean (c :: t) at ih
      show 10 :: Rc.clean (List.drop (if y = 10 then 2 else 1) (13 :: y :: (xs ++ c :: t))) = 10 :: (Rc.clean (List.drop (if y = 10 then 2 else 1) (13 :: y :: xs)) ++ Rc.clean (c :: t))
      by_cases hy : y = 10
      · subst hy
        rw [← ih]
        rfl
      · rw [← ih, if_neg hy]
        rfl
  · intro a hne hb h0 h13 ih
    have hm := Rc.decode_more a (c :: t) hne hb
    have hle := decodeL_le a hne
    have hg : (a ++ c :: t).getD 0 0 = a.getD 0 0 := by cases a with | nil => exact absurd rfl hne | cons x xs => rfl
    have hbm : ¬ Rc.Bad (a ++ c :: t) := by unfold Rc.Bad; rw [hm]; exact hb
    rw [Rc.clean_rune a hne hb h0 h13, Rc.clean_rune (a ++ c :: t) (by simp [hne]) hbm (by rw [hg]; exact h0) (by rw [hg]; exact h13), hm, List.take_append_of_le_length hle, List.drop_append_of_le_length hle, List.append_assoc, ih]
/-- Cleaned ahead of a text that begins with a byte of ASCII, but a line's end. -/
theorem cleanB_cut (a u : ByteArray) (h0 : 0 < u.size) (h1 : bAt u 0 < 128) (h2 : bAt u 0 ≠ 10) : cleanB (a ++ u) = cleanB a ++ cleanB u := by
  apply Sr.bytes_eq.1
  rw [ByteArray.toList_data_append]
  show Rc.clean (a ++ u).data.toList = Rc.clean a.data.toList ++ Rc.clean u.data.toList
  rw [ByteArray.toList_data_append]
  rw [bAt_in h0] at h1 h2
  have hu : u.data.toList = u[0] :: u.data.toList.drop 1 := by
    have := List.drop_eq_getElem_cons (show 0 < u.data.toList.length from h0)
    rwa [List.drop_zero] at this
  rw [hu]
  exact clean_cut _ _ h1 (fun e => h2 (by rw [e]; rfl)) _
/-- Cleaned behind a text that is right, and that does not end with a byte 13. -/
theorem cleanB_behind (a b : ByteArray) (hv : validD a.data.toList = true) (h13 : a.data.toList.getLast? ≠ some 13) : cleanB (a ++ b) = cleanB a ++ cleanB b := by
  apply Sr.bytes_eq.1
  rw [ByteArray.toList_data_append]
  show Rc.clean (a ++ b).data.toList = Rc.clean a.data.toList ++ Rc.clean b.data.toList
  rw [ByteArray.toList_data_append]
  exact Rc.clean_append _ _ hv h13
def bTag : ByteArray := ⟨#[60, 47, 98, 62]⟩
theorem bTag_clean : cleanB bTag = bTag := cleanB_plain (by decide)
theorem clean_tag (a : ByteArray) : cleanB (a ++ bTag) = cleanB a ++ bTag := by
  rw [cleanB_cut a bTag (by decide) (by decide) (by decide), bTag_clean]
theorem clean_both (a b : ByteArray) : cleanB (a ++ bTag ++ b) = cleanB a ++ bTag ++ cleanB b := by
  rw [ByteArray.append_assoc, cleanB_cut a (bTag ++ b) (by rw [ByteArray.size_append]; exact Nat.lt_of_lt_of_le (by decide : 0 < bTag.size) (Nat.le_add_right _ _)) (by rw [bAt_l (by decide)]; decide) (by rw [bAt_l (by decide)]; decide), cleanB_behind bTag b (by decide +kernel) (by decide), bTag_clean, ByteArray.append_assoc]
end Go.Proofs.YtbdgoffbkenofaaGreat.Sc
namespace Go.Proofs.YtbdgoffbkenofaaGreat.Sc
open Go Go.RowKit Go.Proofs.YtbdgoffbkenofaaGreat.Tk
set_option linter.unusedVariables false

def RawOK (raw : ByteArray) : Prop := raw = ⟨#[]⟩ ∨ (2 ≤ raw.size ∧ ∀ i, i < raw.size → bAt raw i ≠ 60)
theorem raw_named {n : ByteArray} (h : rawP n ≠ 0) : 2 ≤ n.size ∧ ∀ i, i < n.size → bAt n i ≠ 60 := by
  have key : ∀ x ∈ titN ++ rawN, 2 ≤ x.size ∧ ∀ i, i < x.size → bAt x i ≠ 60 := by decide +kernel
  refine key n ?_
  unfold rawP at h
  rw [List.mem_append]
  by_cases c1 : (titN.any fun x => decide (n = x)) = true
  · left
    obtain ⟨x, hx, e⟩ := List.any_eq_true.1 c1
    rw [of_decide_eq_true e]; exact hx
  · rw [if_neg c1] at h
    by_cases c2 : (rawN.any fun x => decide (n = x)) = true
    · right
      obtain ⟨x, hx, e⟩ := List.any_eq_true.1 c2
      rw [of_decide_eq_true e]; exact hx
    · rw [if_neg c2] at h; exact absurd rfl h
theorem rawNx_ok {raw : ByteArray} (t : Tok) (h : RawOK raw) : RawOK (rawNx raw t) := by
  unfold rawNx
  split
  · rename_i c; exact .inr (raw_named c.2)
  · split
    · exact .inl rfl
    · exact h
theorem RawOK.no60 {raw : ByteArray} (h : RawOK raw) : ∀ i, i < raw.size → bAt raw i ≠ 60 := by
  rcases h with rfl | h
  · intro i hi; exact absurd hi (Nat.not_lt_zero _)
  · exact h.2
theorem Alike.rawOk {s t : ByteArray} {m : Nat} (h : Alike s t m) {raw : ByteArray} {i : Nat} (hi : i + 2 + raw.size < m) : Tk.rawOk s raw i = Tk.rawOk t raw i := by
  have h1 := h.ls
  have h2 := h.lt
  unfold Tk.rawOk
  rw [h.starts (show i + ((⟨#[60, 47]⟩ : ByteArray) ++ raw).size ≤ m by rw [ByteArray.size_append]; show i + (2 + raw.size) ≤ m; omega), h.at_ _ hi, decide_eq_true (show i + 2 + raw.size < s.size by omega), decide_eq_true (show i + 2 + raw.size < t.size by omega)]
theorem rawOk_lt {s raw : ByteArray} {i : Nat} (h : Tk.rawOk s raw i = true) : i + 2 + raw.size < s.size ∧ closesN (bAt s (i + 2 + raw.size)) = true ∧ bAt s i = 60 ∧ bAt s (i + 1) = 47 ∧ ∀ j, j < raw.size → lowN (bAt s (i + 2 + j)) = lowN (bAt raw j) := by
  unfold Tk.rawOk at h
  rw [Bool.and_eq_true, Bool.and_eq_true, decide_eq_true_eq] at h
  have := st_raw.1 h.1.1
  exact ⟨h.1.2, h.2, this.2.1, this.2.2.1, this.2.2.2⟩
theorem alike_app (x b : ByteArray) : Alike x (x ++ b) x.size := ⟨Nat.le_refl _, by rw [ByteArray.size_append]; omega, fun i hi => (bAt_l hi).symm⟩
theorem cut_up {x b : ByteArray} {a : Nat} {raw : ByteArray} (h62 : bAt x (x.size - 1) = 62) (ha : a < x.size) : Cut x (x ++ b) x.size a raw := by
  have hA := alike_app x b
  have hU : bAt (x ++ b) (x.size - 1) = 62 := by rw [bAt_l (by omega)]; exact h62
  refine ⟨fun u hu hs => ?_, fun h0 h1 => ?_, fun h0 h1 => ?_, fun h0 h1 => ?_, fun h0 h1 h2 => ?_⟩
  · by_cases c : a + u.size ≤ x.size
    · rw [hA.starts c]; exact hs
    · exfalso
      have h1 := (starts_iff.1 hs).2 (x.size - 1 - a) (by omega)
      rw [show a + (x.size - 1 - a) = x.size - 1 by omega, hU] at h1
      have key : ∀ j, j < 9 → j + 1 < u.size → lowN 62 ≠ lowN (bAt u j) := by
        rcases hu with rfl | rfl | rfl | rfl | rfl | rfl <;> decide
      have hz : u.size ≤ 9 := by rcases hu with rfl | rfl | rfl | rfl | rfl | rfl <;> decide
      exact key _ (by omega) (by omega) h1
  · by_cases c : a + 1 < x.size
    · rw [hA.letter c]; exact h1
    · rw [show a = x.size - 1 by omega, hU] at h0; cases h0
  · obtain ⟨g1, g2, g3⟩ := st_close.1 h0
    by_cases c : a + 2 < x.size
    · rw [hA.letter c]; exact h1
    · by_cases c2 : a + 1 < x.size
      · rw [show a + 1 = x.size - 1 by omega, hU] at g3; cases g3
      · rw [show a = x.size - 1 by omega, hU] at g2; cases g2
  · obtain ⟨g1, g2, g3⟩ := st_close.1 h0
    by_cases c : a + 2 < x.size
    · exact c
    · by_cases c2 : a + 1 < x.size
      · rw [show a + 1 = x.size - 1 by omega, hU] at g3; cases g3
      · rw [show a = x.size - 1 by omega, hU] at g2; cases g2
  · have hge : a ≤ rawEndP x a raw := upI_ge _ _ _
    have hz : x.size ≤ (x ++ b).size := by rw [ByteArray.size_append]; omega
    refine upI_eq hge (by omega) (fun j hj1 hj2 => ?_) (fun hv => ?_)
    · cases hq : Tk.rawOk (x ++ b) raw j with
      | false => rfl
      | true =>
        exfalso
        have hb := upI_before (Tk.rawOk x raw) (x.size - a) a j hj1 hj2
        have g := (rawOk_lt hq).1
        have hm : j + 2 + raw.size < x.size := by
          rcases Nat.lt_or_ge (rawEndP x a raw) x.size with hlt | hge2
          · have h3 := upI_at (Tk.rawOk x raw) (x.size - a) a (show upI (Tk.rawOk x raw) (x.size - a) a < _ by show rawEndP x a raw < _; omega)
            have := (rawOk_lt h3).1
            have e : upI (Tk.rawOk x raw) (x.size - a) a = rawEndP x a raw := rfl
            omega
          · have := h2 (by omega); omega
        rw [hA.rawOk hm, hq] at hb
        cases hb
    · have hlt : rawEndP x a raw < x.size := by
        rcases Nat.lt_or_ge (rawEndP x a raw) x.size with h | h
        · exact h
        · have := h2 (by omega); omega
      have h3 : Tk.rawOk x raw (rawEndP x a raw) = true := upI_at (Tk.rawOk x raw) (x.size - a) a (show upI (Tk.rawOk x raw) (x.size - a) a < _ by show rawEndP x a raw < _; omega)
      rw [← hA.rawOk (rawOk_lt h3).1]; exact h3
theorem cut_down {s t : ByteArray} {a : Nat} {raw : ByteArray} (h60 : bAt (s ++ t) s.size = 60) (ha : a < s.size) (hraw : ∀ i, i < raw.size → bAt raw i ≠ 60) : Cut (s ++ t) s s.size a raw := by
  have hA := (alike_app s t).symm
  refine ⟨fun u hu hs => ?_, fun h0 h1 => ?_, fun h0 h1 => ?_, fun h0 h1 => ?_, fun h0 h1 h2 => ?_⟩
  · rw [hA.starts (starts_le hs)]; exact hs
  · rw [hA.letter (letter_lt h1)]; exact h1
  · rw [hA.letter (letter_lt h1)]; exact h1
  · rw [ByteArray.size_append]; omega
  · have hge : a ≤ rawEndP (s ++ t) a raw := upI_ge _ _ _
    have hz : s.size ≤ (s ++ t).size := by rw [ByteArray.size_append]; omega
    refine upI_eq hge (by omega) (fun j hj1 hj2 => ?_) (fun hv => ?_)
    · cases hq : Tk.rawOk s raw j with
      | false => rfl
      | true =>
        exfalso
        have hb := upI_before (Tk.rawOk (s ++ t) raw) ((s ++ t).size - a) a j hj1 hj2
        rw [hA.rawOk (rawOk_lt hq).1, hq] at hb
        cases hb
    · have h3 : Tk.rawOk (s ++ t) raw (rawEndP (s ++ t) a raw) = true := upI_at (Tk.rawOk (s ++ t) raw) ((s ++ t).size - a) a (show upI (Tk.rawOk (s ++ t) raw) ((s ++ t).size - a) a < _ by show rawEndP (s ++ t) a raw < _; omega)
      have hv' : rawEndP (s ++ t) a raw < s.size := by omega
      generalize rawEndP (s ++ t) a raw = v at *
      obtain ⟨g1, g2, g3, g4, g5⟩ := rawOk_lt h3
      have hm : v + 2 + raw.size < s.size := by
        rcases Nat.lt_or_ge (v + 2 + raw.size) s.size with h | h
        · exact h
        · exfalso
          rcases Nat.eq_or_lt_of_le h with e | h
          · rw [← e, h60] at g2; revert g2; decide
          · rcases Nat.lt_or_ge (v + 1) s.size with h4 | h4
            · have := g5 (s.size - (v + 2)) (by omega)
              rw [show v + 2 + (s.size - (v + 2)) = s.size by omega, h60] at this
              exact hraw (s.size - (v + 2)) (by omega) ((lowN_lit (by decide)).1 this.symm)
            · rw [show v + 1 = s.size by omega, h60] at g4; cases g4
      rw [← hA.rawOk hm]; exact h3
theorem attrsP_gt {s : ByteArray} {start : Bool} : ∀ {n e : Nat} {acc l : List (ByteArray × ByteArray)} {k : Nat}, attrsP s start n e acc = some (l, k) → bAt s k = 62
  | 0, e, acc, l, k, h => by unfold attrsP at h; cases h
  | n + 1, e, acc, l, k, h => by
    unfold attrsP at h
    dsimp only at h
    split at h
    · cases h
    · split at h
      · rename_i c; injection h with h; injection h with _ h; rw [← h]; exact c
      · split at h
        · cases h
        · exact attrsP_gt h
theorem tag_gt {s : ByteArray} {b : Nat} {st : Bool} {o : Tok} {k : Nat} {ok : Bool} (h : tagP s b st = (o, k, ok)) : k = s.size ∨ (0 < k ∧ bAt s (k - 1) = 62) := by
  unfold tagP at h
  dsimp only at h
  split at h
  · injection h with _ h; injection h with h _; exact .inl h.symm
  · rename_i l e2 c
    injection h with _ h; injection h with h _
    right
    rw [← h]
    exact ⟨by omega, attrsP_gt c⟩
theorem closed_gt {s : ByteArray} {a k : Nat} (ha : a ≤ s.size) (h : min (closedEnd s a + 1) s.size = k) : k = s.size ∨ (0 < k ∧ bAt s (k - 1) = 62) := by
  rcases Nat.lt_or_ge (closedEnd s a) s.size with hc | hc
  · right
    have h1 := upT_at (p := fun c => decide (c = 62)) hc ha
    rw [Nat.min_eq_left (by omega)] at h
    rw [← h]
    exact ⟨by omega, of_decide_eq_true h1⟩
  · left; omega
theorem comment_gt {s : ByteArray} {a : Nat} {o : Tok} {k : Nat} {ok : Bool} (ha : a ≤ s.size) (h : commentP s a = (o, k, ok)) : k = s.size ∨ (0 < k ∧ bAt s (k - 1) = 62) := by
  have z1 : (⟨#[62]⟩ : ByteArray).size = 1 := rfl
  have z2 : (⟨#[45, 62]⟩ : ByteArray).size = 2 := rfl
  have z3 : (⟨#[45, 45, 62]⟩ : ByteArray).size = 3 := rfl
  have z4 : (⟨#[45, 45, 33, 62]⟩ : ByteArray).size = 4 := rfl
  unfold commentP at h
  dsimp only at h
  by_cases c1 : Sr.hasPre (s.extract a s.size) ⟨#[62]⟩ = true
  · rw [if_pos c1] at h
    injection h with _ h; injection h with h _
    right
    have := ((pre_at (by decide)).1 c1).2 0 (by decide)
    exact ⟨by omega, by rw [← h, show a + 1 - 1 = a + 0 by omega, this]; decide⟩
  rw [if_neg c1] at h
  by_cases c2 : Sr.hasPre (s.extract a s.size) ⟨#[45, 62]⟩ = true
  · rw [if_pos c2] at h
    injection h with _ h; injection h with h _
    right
    have := ((pre_at (by decide)).1 c2).2 1 (by decide)
    exact ⟨by omega, by rw [← h, show a + 2 - 1 = a + 1 by omega, this]; decide⟩
  rw [if_neg c2] at h
  have i1 := upI_at (fun i => cEnd1 (s.extract a s.size) i || cEnd2 (s.extract a s.size) i) (s.extract a s.size).size 0
  generalize upI (fun i => cEnd1 (s.extract a s.size) i || cEnd2 (s.extract a s.size) i) (s.extract a s.size).size 0 = i at *
  by_cases c3 : i < (s.extract a s.size).size
  · rw [if_pos c3] at h
    injection h with _ h; injection h with h _
    have i3 := i1 (by omega)
    right
    cases hc : cEnd1 (s.extract a s.size) i with
    | true =>
      rw [hc, if_pos rfl] at h
      have := ((end_iff (by decide)).1 hc).2 2 (by decide)
      exact ⟨by omega, by rw [← h, show a + i + 3 - 1 = a + i + 2 by omega, this]; decide⟩
    | false =>
      rw [hc, if_neg Bool.false_ne_true] at h
      rw [hc] at i3
      have := ((end_iff (by decide)).1 (show cEnd2 _ _ = true from i3)).2 3 (by decide)
      exact ⟨by omega, by rw [← h, show a + i + 4 - 1 = a + i + 3 by omega, this]; decide⟩
  · rw [if_neg c3] at h
    injection h with _ h; injection h with h _
    exact .inl h.symm
section
variable (A : ByteArray)
theorem xSize : (A ++ bTag).size = A.size + 4 := ByteArray.size_append
theorem xAt (d : Nat) : bAt (A ++ bTag) (A.size + d) = bAt bTag d := sBat A bTag d
theorem x60 : bAt (A ++ bTag) A.size = 60 := xAt A 0
theorem x62 : bAt (A ++ bTag) ((A ++ bTag).size - 1) = 62 := by
  rw [xSize, show A.size + 4 - 1 = A.size + 3 by omega, xAt]; decide
theorem xGt {j : Nat} (h : A.size ≤ j) (hj : bAt (A ++ bTag) j = 62) : j = A.size + 3 := by
  obtain ⟨d, rfl⟩ : ∃ d, j = A.size + d := ⟨j - A.size, by omega⟩
  rw [xAt] at hj
  rcases Nat.lt_or_ge d 4 with hd | hd
  · have : d = 3 := by
      have key : ∀ d, d < 4 → bAt bTag d = 62 → d = 3 := by decide
      exact key d hd hj
    omega
  · rw [bAt_out (show bTag.size ≤ d from hd)] at hj; cases hj
theorem xLt {j : Nat} (h : A.size < j) : bAt (A ++ bTag) j ≠ 60 := by
  obtain ⟨d, rfl⟩ : ∃ d, j = A.size + d := ⟨j - A.size, by omega⟩
  rw [xAt]
  rcases Nat.lt_or_ge d 4 with hd | hd
  · have key : ∀ d, d < 4 → 0 < d → bAt bTag d ≠ 60 := by decide
    exact key d hd (by omega)
  · rw [bAt_out (show bTag.size ≤ d from hd)]; decide
/-- A piece that goes beyond the source goes up to the tag's end. -/
theorem next_far {a : Nat} {raw : ByteArray} {o : Tok} {k : Nat} {ok : Bool} (ha : a < A.size) (hr : nextP (A ++ bTag) a raw = (o, k, ok)) (hk : A.size < k) : k = (A ++ bTag).size := by
  have hz := xSize A
  have fin : k = (A ++ bTag).size ∨ (0 < k ∧ bAt (A ++ bTag) (k - 1) = 62) → k = (A ++ bTag).size := fun h => by
    rcases h with h | ⟨h1, h2⟩
    · exact h
    · have := xGt A (by omega) h2; omega
  unfold nextP at hr
  rw [if_neg (by omega)] at hr
  by_cases c2 : raw ≠ ⟨#[]⟩ ∧ a < rawEndP (A ++ bTag) a raw
  · rw [if_pos c2] at hr
    injection hr with q1 hr; injection hr with q2 q3
    have hle := upI_le (Tk.rawOk (A ++ bTag) raw) ((A ++ bTag).size - a) a
    have e : upI (Tk.rawOk (A ++ bTag) raw) ((A ++ bTag).size - a) a = rawEndP (A ++ bTag) a raw := rfl
    rcases Nat.lt_or_ge k (A ++ bTag).size with h | h
    · have h3 := upI_at (Tk.rawOk (A ++ bTag) raw) ((A ++ bTag).size - a) a (by omega)
      rw [e, q2] at h3
      exact absurd (rawOk_lt h3).2.2.1 (xLt A hk)
    · omega
  rw [if_neg c2] at hr
  by_cases c3 : bAt (A ++ bTag) a ≠ 60
  · rw [if_pos c3] at hr
    dsimp only at hr
    injection hr with q1 hr; injection hr with q2 q3
    have q2' : upI (fun i => (decide (bAt (A ++ bTag) i = 60) || (blankN (bAt (A ++ bTag) i) != blankN (bAt (A ++ bTag) a)))) ((A ++ bTag).size - a) a = k := q2
    have := upI_before (fun i => (decide (bAt (A ++ bTag) i = 60) || (blankN (bAt (A ++ bTag) i) != blankN (bAt (A ++ bTag) a)))) ((A ++ bTag).size - a) a A.size (by omega) (by rw [q2']; omega)
    rw [x60] at this
    simp at this
  rw [if_neg c3] at hr
  by_cases c4 : letterAt (A ++ bTag) (a + 1) = true
  · rw [if_pos c4] at hr; exact fin (tag_gt hr)
  rw [if_neg c4] at hr
  by_cases c5 : (startsP (A ++ bTag) a ⟨#[60, 47]⟩ && letterAt (A ++ bTag) (a + 2)) = true
  · rw [if_pos c5] at hr; exact fin (tag_gt hr)
  rw [if_neg c5] at hr
  by_cases c6 : startsP (A ++ bTag) a ⟨#[60, 33, 45, 45]⟩ = true
  · rw [if_pos c6] at hr
    have b0 : a + 4 ≤ (A ++ bTag).size := starts_le c6
    exact fin (comment_gt b0 hr)
  rw [if_neg c6] at hr
  by_cases c7 : startsP (A ++ bTag) a ⟨#[60, 33, 100, 111, 99, 116, 121, 112, 101]⟩ = true
  · rw [if_pos c7] at hr
    have b0 : a + 9 ≤ (A ++ bTag).size := starts_le c7
    unfold doctypeP at hr
    dsimp only at hr
    injection hr with _ hr; injection hr with q2 _
    exact fin (closed_gt (upT_le _ (upT_le _ b0)) q2)
  rw [if_neg c7] at hr
  by_cases c8 : startsP (A ++ bTag) a ⟨#[60, 47, 62]⟩ = true
  · rw [if_pos c8] at hr
    injection hr with _ hr; injection hr with q2 _
    have := (starts_iff.1 c8).2 2 (by decide)
    rw [show lowN (bAt ⟨#[60, 47, 62]⟩ 2) = 62 by decide, lowN_lit (by decide)] at this
    have := xGt A (by omega) this
    omega
  rw [if_neg c8] at hr
  by_cases c9 : startsP (A ++ bTag) a ⟨#[60, 63]⟩ = true
  · rw [if_pos c9] at hr
    unfold bogusP at hr
    injection hr with _ hr; injection hr with q2 _
    exact fin (closed_gt (by omega) q2)
  rw [if_neg c9] at hr
  by_cases c10 : (startsP (A ++ bTag) a ⟨#[60, 33]⟩ || (startsP (A ++ bTag) a ⟨#[60, 47]⟩ && decide (a + 2 < (A ++ bTag).size))) = true
  · rw [if_pos c10] at hr
    unfold bogusP at hr
    injection hr with _ hr; injection hr with q2 _
    exact fin (closed_gt (by omega) q2)
  rw [if_neg c10] at hr
  injection hr with _ hr; injection hr with q2 _
  omega
def tokB : Tok := ⟨2, ⟨#[98]⟩, ⟨#[]⟩, [], false⟩
theorem next_b : nextP bTag 0 ⟨#[]⟩ = (tokB, 4, true) := by
  have := tag_plain (S := bTag) (n := ⟨#[98]⟩) (a := 0) false ⟨by decide, by decide, by decide⟩ ⟨by decide, by decide⟩ ⟨by decide, by decide⟩ ⟨by decide, by decide⟩
  exact this
theorem next_braw {raw : ByteArray} (h : 2 ≤ raw.size) : ∃ t, nextP bTag 0 raw = (textTok t true, 4, true) := by
  have hne : raw ≠ ⟨#[]⟩ := fun e => by rw [e] at h; exact absurd h (by decide)
  have e : rawEndP bTag 0 raw = 4 := upI_eq (Nat.zero_le _) (by decide) (fun j h1 h2 => by
    cases hq : Tk.rawOk bTag raw j with
    | false => rfl
    | true => have := (rawOk_lt hq).1; have z : bTag.size = 4 := rfl; omega) (fun h => absurd h (by decide))
  unfold nextP
  rw [if_neg (by decide), e, if_pos ⟨hne, by decide⟩]
  exact ⟨_, rfl⟩
end
/-- The last piece but the end is an end tag. -/
def Last2 (l : List Tok) : Prop := ∃ ys q, l = ys ++ [q, tokE] ∧ q.kind = 2
theorem last2_cons {o : Tok} {l : List Tok} (h : Last2 (o :: l)) : (l = [tokE] ∧ o.kind = 2) ∨ Last2 l := by
  obtain ⟨ys, q, e, hq⟩ := h
  cases ys with
  | nil =>
    injection e with e1 e2
    exact .inl ⟨e2, by rw [e1]; exact hq⟩
  | cons y ys =>
    injection e with e1 e2
    exact .inr ⟨ys, q, e2, hq⟩
theorem last2_one {o : Tok} (h : Last2 [o]) : False := by
  obtain ⟨ys, q, e, hq⟩ := h
  have := congrArg List.length e
  simp at this
def rawAft (raw : ByteArray) (l : List Tok) : ByteArray := l.foldl rawNx raw
theorem cuts_at (A B raw : ByteArray) (hraw : RawOK raw) (hlast : Last2 (pcsP (A ++ bTag) A.size raw)) :
    pcsP (A ++ bTag ++ B) A.size raw = (pcsP (A ++ bTag) A.size raw).dropLast ++ pcsP (A ++ bTag ++ B) (A ++ bTag).size (rawAft raw (pcsP (A ++ bTag) A.size raw).dropLast) := by
  have hX := sNext A bTag 0 raw
  have hz := xSize A
  have hzu : (A ++ bTag ++ B).size = (A ++ bTag).size + B.size := ByteArray.size_append
  rw [Nat.add_zero] at hX
  rcases hraw with rfl | ⟨h2, _⟩
  · rw [next_b] at hX
    have hX' : nextP (A ++ bTag) A.size ⟨#[]⟩ = (tokB, A.size + 4, true) := hX
    have hU : nextP (A ++ bTag ++ B) A.size ⟨#[]⟩ = (tokB, A.size + 4, true) := next_cut (alike_app _ B) (cut_up (x62 A) (by omega)) (by omega) hX' (.inr ⟨rfl, rfl⟩) (by omega) (fun _ => .inr rfl)
    rw [pcsP_yes (by omega) hX', pcsP_yes (by omega) hU, pcsP_end (s := A ++ bTag) _ (by omega), hz]
    rfl
  · obtain ⟨t, ht⟩ := next_braw h2
    rw [ht] at hX
    have hX' : nextP (A ++ bTag) A.size raw = (textTok t true, A.size + 4, true) := hX
    rw [pcsP_yes (by omega) hX', pcsP_end (s := A ++ bTag) _ (by omega)] at hlast
    rcases last2_cons hlast with ⟨_, e⟩ | h
    · exact absurd e (show ¬ (3 : Int) = 2 by decide)
    · exact absurd h last2_one
theorem cuts (A B : ByteArray) : ∀ n a raw, A.size - a ≤ n → a ≤ A.size → RawOK raw → (pcsP (A ++ bTag) a raw).length = (pcsP A a raw).length + 1 → Last2 (pcsP (A ++ bTag) a raw) →
    pcsP (A ++ bTag ++ B) a raw = (pcsP (A ++ bTag) a raw).dropLast ++ pcsP (A ++ bTag ++ B) (A ++ bTag).size (rawAft raw (pcsP (A ++ bTag) a raw).dropLast) := by
  intro n
  induction n with
  | zero =>
    intro a raw hn ha hraw hlen hlast
    have ea : a = A.size := by omega
    subst ea
    exact cuts_at A B raw hraw hlast
  | succ n ih =>
    intro a raw hn ha hraw hlen hlast
    rcases Nat.eq_or_lt_of_le ha with ea | hlt
    · subst ea
      exact cuts_at A B raw hraw hlast
    · have hz := xSize A
      have hzu : (A ++ bTag ++ B).size = (A ++ bTag).size + B.size := ByteArray.size_append
      obtain ⟨⟨o, k, ok⟩, hX⟩ : ∃ x, nextP (A ++ bTag) a raw = x := ⟨_, rfl⟩
      have gX := next_goes (A ++ bTag) raw a (by omega)
      rw [hX] at gX
      have gk : a < k := gX.gt
      have gl : k ≤ (A ++ bTag).size := gX.le
      by_cases hk : k ≤ A.size
      · have hU : nextP (A ++ bTag ++ B) a raw = (o, k, ok) := next_cut (alike_app _ B) (cut_up (x62 A) (by omega)) (by omega) hX (.inl (by omega)) (by omega) (fun e => absurd e (by omega))
        have hA : nextP A a raw = (o, k, ok) := next_cut (alike_app A bTag).symm (cut_down (x60 A) hlt hraw.no60) hlt hX (.inl (by omega)) hk (fun _ => .inl rfl)
        cases ok with
        | false =>
          rw [pcsP_no (by omega) hX] at hlen hlast ⊢
          rw [pcsP_no hlt hA] at hlen
          rw [pcsP_no (by omega) hU]
          exact ih k raw (by omega) hk hraw hlen hlast
        | true =>
          rw [pcsP_yes (by omega) hX] at hlen hlast ⊢
          rw [pcsP_yes hlt hA] at hlen
          rw [pcsP_yes (by omega) hU]
          simp only [List.length_cons] at hlen
          rcases last2_cons hlast with ⟨e1, e2⟩ | hl2
          · rw [e1] at hlen
            have := List.length_pos_iff.2 (pcsP_ne A k (rawNx raw o))
            have h1 : [tokE].length = 1 := rfl
            omega
          · rw [List.dropLast_cons_of_ne_nil (pcsP_ne _ _ _), List.cons_append, ih k (rawNx raw o) (by omega) hk (rawNx_ok o hraw) (by omega) hl2]
            rfl
      · have ek := next_far A hlt hX (by omega)
        cases ok with
        | false =>
          rw [pcsP_no (by omega) hX, pcsP_end (s := A ++ bTag) _ (by omega)] at hlast
          exact absurd hlast last2_one
        | true =>
          rw [pcsP_yes (by omega) hX, pcsP_end (s := A ++ bTag) _ (by omega)] at hlast ⊢
          rcases last2_cons hlast with ⟨_, e2⟩ | hl2
          · have hU : nextP (A ++ bTag ++ B) a raw = (o, k, true) := next_cut (alike_app _ B) (cut_up (x62 A) (by omega)) (by omega) hX (.inr ⟨rfl, e2⟩) gl (fun _ => .inr e2)
            rw [pcsP_yes (by omega) hU, ek]
            rfl
          · exact absurd hl2 last2_one
/-- The pieces of a source, and of another one behind a whole tag: of both. -/
theorem cuts_all (A B : ByteArray) (hlen : (pcsP (A ++ bTag) 0 ⟨#[]⟩).length = (pcsP A 0 ⟨#[]⟩).length + 1) (hlast : Last2 (pcsP (A ++ bTag) 0 ⟨#[]⟩)) (hraw : rawAft ⟨#[]⟩ (pcsP (A ++ bTag) 0 ⟨#[]⟩).dropLast = ⟨#[]⟩) :
    pcsP (A ++ bTag ++ B) 0 ⟨#[]⟩ = (pcsP (A ++ bTag) 0 ⟨#[]⟩).dropLast ++ pcsP B 0 ⟨#[]⟩ := by
  rw [cuts A B A.size 0 ⟨#[]⟩ (by omega) (Nat.zero_le _) (.inl rfl) hlen hlast, hraw, pcsP_behind]
end Go.Proofs.YtbdgoffbkenofaaGreat.Sc
namespace Go.Proofs.YtbdgoffbkenofaaGreat.Rc
open Go Go.RowKit Go.Lib
set_option linter.unusedVariables false

/-- What Next hands back. -/
def nextV (s : ByteArray) (i : Nat) : Int × Int := if (Utf8.decode s i).1 = 65533 ∧ (Utf8.decode s i).2 = 1 then (0, 0) else (((Utf8.decode s i).1 : Int), ((Utf8.decode s i).2 : Int))
def nb (s : ByteArray) (i : Nat) : Nat := (s.data.toList.getD i 0).toNat
theorem nb_lt (s : ByteArray) (i : Nat) : nb s i < 256 := (s.data.toList.getD i 0).toNat_lt
theorem nb_get (s : ByteArray) (i : Nat) (h : i < s.size) : s[i].toNat = nb s i := by
  unfold nb; rw [Lib.getD_get!', show s.get! i = s[i] from get_at s i h]
theorem nextV_N (s : ByteArray) (i : Nat) (r : Nat × Nat) (h : decodeN (s.size - i) (nb s i) (nb s (i + 1)) (nb s (i + 2)) (nb s (i + 3)) = r) : nextV s i = if r.1 = 65533 ∧ r.2 = 1 then (0, 0) else ((r.1 : Int), (r.2 : Int)) := by
  subst h
  unfold nextV nb
  rw [decode_N, Lib.size_eq]
theorem next_1 (s : ByteArray) (i : Nat) (h : nb s i < 128) : nextV s i = ((nb s i : Int), 1) := by
  rw [nextV_N s i (nb s i, 1) (by unfold decodeN; rw [if_pos h]), if_neg (by dsimp only; omega)]; rfl
/-- A first byte that begins none. -/
theorem next_odd (s : ByteArray) (i : Nat) (h : (128 ≤ nb s i ∧ nb s i < 192) ∨ 248 ≤ nb s i) : nextV s i = (0, 0) := by
  have := nb_lt s i
  rw [nextV_N s i (65533, 1) (by unfold decodeN; rw [if_neg (by omega), if_neg (by omega), if_neg (by omega), if_neg (by omega)])]; rfl
/-- A byte that goes on. -/
def okc (s : ByteArray) (j : Nat) : Prop := j < s.size ∧ 128 ≤ nb s j ∧ nb s j ≤ 191
def accV (s : ByteArray) (i : Nat) (v : Int) : Nat → Int
  | 0 => v
  | k + 1 => 64 * accV s i v k + (nb s (i + (k + 1)) : Int) - 128
theorem accV_succ (s : ByteArray) (i : Nat) (v : Int) (k : Nat) (hk : 1 ≤ k) : accV s i v k = 64 * accV s i v (k - 1) + (nb s (i + k) : Int) - 128 := by
  obtain ⟨j, rfl⟩ : ∃ j, k = j + 1 := ⟨k - 1, by omega⟩
  rfl
attribute [irreducible] nextV
def finV (least v n : Int) : Int × Int := if v < least ∨ 1114111 < v ∨ (55296 ≤ v ∧ v ≤ 57343) then (0, 0) else (v, n)
theorem fin_no (least v n : Int) (h : v < least ∨ 1114111 < v ∨ (55296 ≤ v ∧ v ≤ 57343)) : finV least v n = (0, 0) := if_pos h
theorem fin_yes (least v n : Int) (h : ¬ (v < least ∨ 1114111 < v ∨ (55296 ≤ v ∧ v ≤ 57343))) : finV least v n = (v, n) := if_neg h
theorem next_bad2 (s : ByteArray) (i j : Nat) (h0 : 192 ≤ nb s i) (h1 : nb s i < 224) (hj : 1 ≤ j) (hn : j < 2) (h : ¬ okc s (i + j)) : nextV s i = (0, 0) := by
  unfold okc at h
  have := nb_lt s (i + j)
  rw [nextV_N s i (65533, 1) ?_]
  · rfl
  unfold decodeN
  rcases (show j = 1 by omega) with rfl
  · rw [if_neg (by omega), if_neg (by omega), if_neg (by omega), if_neg (by omega)]
theorem next_fin2 (s : ByteArray) (i : Nat) (h0 : 192 ≤ nb s i) (h1 : nb s i < 224) (k1 : okc s (i + 1)) : nextV s i = finV 128 (accV s i ((nb s i : Int) - 192) 1) 2 := by
  unfold okc at k1
  have b1 := nb_lt s (i + 1)
  have e : accV s i ((nb s i : Int) - 192) 1 = ((nb s i % 32 * 64 + nb s (i + 1) % 64 : Nat) : Int) := by
    simp only [accV, Nat.zero_add]
    omega
  rw [e]
  unfold finV
  by_cases hf : ((nb s i % 32 * 64 + nb s (i + 1) % 64 : Nat) : Int) < 128 ∨ 1114111 < ((nb s i % 32 * 64 + nb s (i + 1) % 64 : Nat) : Int) ∨ (55296 ≤ ((nb s i % 32 * 64 + nb s (i + 1) % 64 : Nat) : Int) ∧ ((nb s i % 32 * 64 + nb s (i + 1) % 64 : Nat) : Int) ≤ 57343)
  · rw [if_pos hf, nextV_N s i (65533, 1) ?_]
    · rfl
    unfold decodeN
    rw [if_neg (by omega), if_pos (by omega), if_neg (by omega)]
  · rw [if_neg hf, nextV_N s i (nb s i % 32 * 64 + nb s (i + 1) % 64, 2) ?_, if_neg (by dsimp only; omega)]
    · rfl
    unfold decodeN
    rw [if_neg (by omega), if_pos (by omega), if_pos (by omega)]
theorem next_bad3 (s : ByteArray) (i j : Nat) (h0 : 224 ≤ nb s i) (h1 : nb s i < 240) (hj : 1 ≤ j) (hn : j < 3) (h : ¬ okc s (i + j)) : nextV s i = (0, 0) := by
  unfold okc at h
  have := nb_lt s (i + j)
  rw [nextV_N s i (65533, 1) ?_]
  · rfl
  unfold decodeN
  rcases (show j = 1 ∨ j = 2 by omega) with rfl | rfl
  · rw [if_neg (by omega), if_neg (by omega), if_neg (by omega), if_neg (by omega)]
  · rw [if_neg (by omega), if_neg (by omega), if_neg (by omega), if_neg (by omega)]
theorem next_fin3 (s : ByteArray) (i : Nat) (h0 : 224 ≤ nb s i) (h1 : nb s i < 240) (k1 : okc s (i + 1)) (k2 : okc s (i + 2)) : nextV s i = finV 2048 (accV s i ((nb s i : Int) - 224) 2) 3 := by
  unfold okc at k1
  have b1 := nb_lt s (i + 1)
  unfold okc at k2
  have b2 := nb_lt s (i + 2)
  have e : accV s i ((nb s i : Int) - 224) 2 = ((nb s i % 16 * 4096 + nb s (i + 1) % 64 * 64 + nb s (i + 2) % 64 : Nat) : Int) := by
    simp only [accV, Nat.zero_add, Nat.reduceAdd]
    omega
  rw [e]
  unfold finV
  by_cases hf : ((nb s i % 16 * 4096 + nb s (i + 1) % 64 * 64 + nb s (i + 2) % 64 : Nat) : Int) < 2048 ∨ 1114111 < ((nb s i % 16 * 4096 + nb s (i + 1) % 64 * 64 + nb s (i + 2) % 64 : Nat) : Int) ∨ (55296 ≤ ((nb s i % 16 * 4096 + nb s (i + 1) % 64 * 64 + nb s (i + 2) % 64 : Nat) : Int) ∧ ((nb s i % 16 * 4096 + nb s (i + 1) % 64 * 64 + nb s (i + 2) % 64 : Nat) : Int) ≤ 57343)
  · rw [if_pos hf, nextV_N s i (65533, 1) ?_]
    · rfl
    unfold decodeN
    rw [if_neg (by omega), if_neg (by omega), if_pos (by omega), if_neg (by omega)]
  · rw [if_neg hf, nextV_N s i (nb s i % 16 * 4096 + nb s (i + 1) % 64 * 64 + nb s (i + 2) % 64, 3) ?_, if_neg (by dsimp only; omega)]
    · rfl
    unfold decodeN
    rw [if_neg (by omega), if_neg (by omega), if_pos (by omega), if_pos (by omega)]
theorem next_bad4 (s : ByteArray) (i j : Nat) (h0 : 240 ≤ nb s i) (h1 : nb s i < 248) (hj : 1 ≤ j) (hn : j < 4) (h : ¬ okc s (i + j)) : nextV s i = (0, 0) := by
  unfold okc at h
  have := nb_lt s (i + j)
  rw [nextV_N s i (65533, 1) ?_]
  · rfl
  unfold decodeN
  rcases (show j = 1 ∨ j = 2 ∨ j = 3 by omega) with rfl | rfl | rfl
  · rw [if_neg (by omega), if_neg (by omega), if_neg (by omega), if_neg (by omega)]
  · rw [if_neg (by omega), if_neg (by omega), if_neg (by omega), if_neg (by omega)]
  · rw [if_neg (by omega), if_neg (by omega), if_neg (by omega), if_neg (by omega)]
theorem next_fin4 (s : ByteArray) (i : Nat) (h0 : 240 ≤ nb s i) (h1 : nb s i < 248) (k1 : okc s (i + 1)) (k2 : okc s (i + 2)) (k3 : okc s (i + 3)) : nextV s i = finV 65536 (accV s i ((nb s i : Int) - 240) 3) 4 := by
  unfold okc at k1
  have b1 := nb_lt s (i + 1)
  unfold okc at k2
  have b2 := nb_lt s (i + 2)
  unfold okc at k3
  have b3 := nb_lt s (i + 3)
  have e : accV s i ((nb s i : Int) - 240) 3 = ((nb s i % 8 * 262144 + nb s (i + 1) % 64 * 4096 + nb s (i + 2) % 64 * 64 + nb s (i + 3) % 64 : Nat) : Int) := by
    simp only [accV, Nat.zero_add, Nat.reduceAdd]
    omega
  rw [e]
  unfold finV
  by_cases hf : ((nb s i % 8 * 262144 + nb s (i + 1) % 64 * 4096 + nb s (i + 2) % 64 * 64 + nb s (i + 3) % 64 : Nat) : Int) < 65536 ∨ 1114111 < ((nb s i % 8 * 262144 + nb s (i + 1) % 64 * 4096 + nb s (i + 2) % 64 * 64 + nb s (i + 3) % 64 : Nat) : Int) ∨ (55296 ≤ ((nb s i % 8 * 262144 + nb s (i + 1) % 64 * 4096 + nb s (i + 2) % 64 * 64 + nb s (i + 3) % 64 : Nat) : Int) ∧ ((nb s i % 8 * 262144 + nb s (i + 1) % 64 * 4096 + nb s (i + 2) % 64 * 64 + nb s (i + 3) % 64 : Nat) : Int) ≤ 57343)
  · rw [if_pos hf, nextV_N s i (65533, 1) ?_]
    · rfl
    unfold decodeN
    rw [if_neg (by omega), if_neg (by omega), if_neg (by omega), if_pos (by omega), if_neg (by omega)]
  · rw [if_neg hf, nextV_N s i (nb s i % 8 * 262144 + nb s (i + 1) % 64 * 4096 + nb s (i + 2) % 64 * 64 + nb s (i + 3) % 64, 4) ?_, if_neg (by dsimp only; omega)]
    · rfl
    unfold decodeN
    rw [if_neg (by omega), if_neg (by omega), if_neg (by omega), if_pos (by omega), if_pos (by omega)]

def NextEnd (s : ByteArray) (i : Nat) (w : World) (e : Ending) (w' : World) : Prop := e = .returned (.tuple #[.int .i32 (nextV s i).1, .int .i64 (nextV s i).2]) ∧ w = w'
theorem nextEnd {s : ByteArray} {i : Nat} {w : World} {a b : Int} (h : nextV s i = (a, b)) : NextEnd s i w (.returned (.tuple #[.int .i32 a, .int .i64 b])) w := by unfold NextEnd; rw [h]; exact ⟨rfl, rfl⟩
set_option maxHeartbeats 4000000 in
set_option maxRecDepth 100000 in
theorem next_c1 (s : ByteArray) (i : Nat) (w : World) (hs : s.size ≤ 140737488355328) (hi : i < s.size) (hb : nb s i < 128) :
    Calls Tryz.prog 27 #[.string s, .int .i64 i] w (NextEnd s i w) := by

  have H := Lib.hid (next_1 s i hb)
  have HB := Lib.hid (nb_get s i hi)
  have hb1 : (s[i].toNat : Int) < 128 := by rw [HB.out]; omega
  have l0 : (s[i].toNat : Int) < 256 := by omega
  go_enter Tryz.func27, Tryz.ntmps27
  go_wp2
  go_ret2
  exact nextEnd (by rw [H.out, HB.out])
set_option maxHeartbeats 4000000 in
set_option maxRecDepth 100000 in
theorem next_c0 (s : ByteArray) (i : Nat) (w : World) (hs : s.size ≤ 140737488355328) (hi : i < s.size) (hb : (128 ≤ nb s i ∧ nb s i < 192) ∨ 248 ≤ nb s i) :
    Calls Tryz.prog 27 #[.string s, .int .i64 i] w (NextEnd s i w) := by

  have H := Lib.hid (next_odd s i hb)
  have HB := Lib.hid (nb_get s i hi)
  have hl := nb_lt s i
  have l0 : (s[i].toNat : Int) < 256 := by rw [HB.out]; omega
  rcases hb with hb | hb
  · have d0 : decide ((s[i].toNat : Int) < 128) = false := by rw [HB.out]; simp; omega
    have d1 : decide ((192 : Int) ≤ (s[i].toNat : Int)) = false := by rw [HB.out]; simp; omega
    have d2 : decide ((224 : Int) ≤ (s[i].toNat : Int)) = false := by rw [HB.out]; simp; omega
    have d3 : decide ((240 : Int) ≤ (s[i].toNat : Int)) = false := by rw [HB.out]; simp; omega
    go_enter Tryz.func27, Tryz.ntmps27
    go_wp2
    go_rounds 1
    go_ret2
    exact nextEnd H.out
  · have d0 : decide ((s[i].toNat : Int) < 128) = false := by rw [HB.out]; simp; omega
    have d1 : decide ((192 : Int) ≤ (s[i].toNat : Int)) = true := by rw [HB.out]; simp; omega
    have d2 : decide ((224 : Int) ≤ (s[i].toNat : Int)) = true := by rw [HB.out]; simp; omega
    have d3 : decide ((240 : Int) ≤ (s[i].toNat : Int)) = true := by rw [HB.out]; simp; omega
    have f1 : decide ((s[i].toNat : Int) < 224) = false := by rw [HB.out]; simp; omega
    have f2 : decide ((s[i].toNat : Int) < 240) = false := by rw [HB.out]; simp; omega
    have f3 : decide ((s[i].toNat : Int) < 248) = false := by rw [HB.out]; simp; omega
    go_enter Tryz.func27, Tryz.ntmps27
    go_wp2
    go_rounds 1
    go_ret2
    exact nextEnd H.out

theorem acc_bd2 (s : ByteArray) (i : Nat) (v : Int) (h0 : 0 ≤ v) (h1 : v ≤ 31) : ∀ k, k ≤ 1 → (∀ j, 1 ≤ j → j ≤ k → okc s (i + j)) → 0 ≤ accV s i v k ∧ accV s i v k ≤ 2097151 := by
  intro k hk hok
  unfold okc at hok
  rcases (show k = 0 ∨ k = 1 by omega) with rfl | rfl
  · show 0 ≤ v ∧ v ≤ 2097151
    omega
  · have k1 := hok 1 (by omega) (by omega)
    show 0 ≤ 64 * (v) + (nb s (i + 1) : Int) - 128 ∧ 64 * (v) + (nb s (i + 1) : Int) - 128 ≤ 2097151
    omega
set_option maxHeartbeats 4000000 in
set_option maxRecDepth 100000 in
theorem next_c2 (s : ByteArray) (i : Nat) (w : World) (hs : s.size ≤ 140737488355328) (hi : i < s.size) (b0 : 192 ≤ nb s i) (b1 : nb s i < 224) :
    Calls Tryz.prog 27 #[.string s, .int .i64 i] w (NextEnd s i w) := by

  have HB := Lib.hid (nb_get s i hi)
  have l0 : (s[i].toNat : Int) < 256 := by rw [HB.out]; have := nb_lt s i; omega
  have d0 : decide ((s[i].toNat : Int) < 128) = false := by rw [HB.out]; simp; omega
  have g192 : decide ((192 : Int) ≤ (s[i].toNat : Int)) = true := by rw [HB.out]; simp; omega
  have f224 : decide ((s[i].toNat : Int) < 224) = true := by rw [HB.out]; simp; omega
  have g224 : decide ((224 : Int) ≤ (s[i].toNat : Int)) = false := by rw [HB.out]; simp; omega
  have g240 : decide ((240 : Int) ≤ (s[i].toNat : Int)) = false := by rw [HB.out]; simp; omega
  have e0 : (s[i].toNat : Int) - 192 = accV s i ((nb s i : Int) - 192) 0 := by rw [HB.out]; rfl
  have E0 := Lib.hid e0
  clear e0
  go_enter Tryz.func27, Tryz.ntmps27
  go_wp2
  go_loop [8, 10] (fun v j => ∃ k : Nat, 1 ≤ k ∧ k ≤ 2 ∧ j = .int .i64 k ∧ v = .int .i64 (accV s i ((nb s i : Int) - 192) (k - 1)) ∧ Hid (∀ j, 1 ≤ j → j < k → okc s (i + j))) (fun _ j => 2 - (intOf j).toNat)
  case atStart => exact ⟨1, by omega, by omega, rfl, by rw [E0.out], Lib.hid (fun j a b => absurd b (by omega))⟩
  case round =>
    obtain ⟨k, hk1, hk2, rfl, rfl, HOK⟩ := hrel
    have hbd := acc_bd2 s i ((nb s i : Int) - 192) (by omega) (by omega) (k - 1) (by omega) (fun j a b => HOK.out j a (by omega))
    by_cases hlt : k < 2
    · by_cases h1 : i + k < s.size
      · have h1' : (i : Int) + (k : Int) < (s.size : Int) := by omega
        have HK := Lib.hid (nb_get s (i + k) h1)
        have hbk := nb_lt s (i + k)
        have l1 : (s[i + k].toNat : Int) < 256 := by rw [HK.out]; omega
        by_cases h2 : 128 ≤ nb s (i + k)
        · have t1 : decide ((s[i + k].toNat : Int) < 128) = false := by rw [HK.out]; simp; omega
          by_cases h3 : nb s (i + k) ≤ 191
          · have t2 : decide ((191 : Int) < (s[i + k].toNat : Int)) = false := by rw [HK.out]; simp; omega
            have HE := Lib.hid (accV_succ s i ((nb s i : Int) - 192) k hk1)
            generalize hacc : accV s i ((nb s i : Int) - 192) (k - 1) = A at hbd HE ⊢
            have HA := Lib.hid hacc
            clear hacc
            go_wp2_with fail
            go_round
            case rel =>
              refine ⟨k + 1, by omega, by omega, by go_num, ?_, Lib.hid fun j a b => ?_⟩
              · rw [Nat.add_sub_cancel, HE.out, HK.out]
              · rcases Nat.lt_or_ge j k with hl | hl
                · exact HOK.out j a hl
                · obtain rfl : j = k := by omega
                  exact ⟨h1, h2, h3⟩
            case measure => simp [intOf]; omega
          · have t2 : decide ((191 : Int) < (s[i + k].toNat : Int)) = true := by rw [HK.out]; simp; omega
            have H := Lib.hid (next_bad2 s i k b0 b1 hk1 hlt (fun h => h3 h.2.2))
            go_wp2_with fail
            go_ret2
            exact nextEnd H.out
        · have t1 : decide ((s[i + k].toNat : Int) < 128) = true := by rw [HK.out]; simp; omega
          have H := Lib.hid (next_bad2 s i k b0 b1 hk1 hlt (fun h => h2 h.2.1))
          go_wp2_with fail
          go_ret2
          exact nextEnd H.out
      · have h1' : (s.size : Int) ≤ (i : Int) + (k : Int) := by omega
        have H := Lib.hid (next_bad2 s i k b0 b1 hk1 hlt (fun h => h1 h.1))
        go_wp2_with fail
        go_ret2
        exact nextEnd H.out
    · obtain rfl : k = 2 := by omega
      have hok := HOK.out
      have H := Lib.hid (next_fin2 s i b0 b1 (hok 1 (by omega) (by omega)))
      clear hok
      generalize hacc : accV s i ((nb s i : Int) - 192) (2 - 1) = A at hbd ⊢
      have HA := Lib.hid (show accV s i ((nb s i : Int) - 192) 1 = A from hacc)
      clear hacc
      have F0 := Lib.hid (fin_no 128 A 2)
      have F1 := Lib.hid (fin_yes 128 A 2)
      by_cases c0 : A < 128
      · go_wp2_with fail
        go_ret2
        exact nextEnd (by rw [H.out, HA.out]; exact F0.out (by omega))
      have q0 : decide (A < 128) = false := by simpa using c0
      by_cases c1 : 1114111 < A
      · go_wp2_with fail
        go_ret2
        exact nextEnd (by rw [H.out, HA.out]; exact F0.out (by omega))
      have q1 : decide (1114111 < A) = false := by simpa using c1
      by_cases c2 : 55296 ≤ A
      · by_cases c3 : A ≤ 57343
        · go_wp2_with fail
          go_ret2
          exact nextEnd (by rw [H.out, HA.out]; exact F0.out (by omega))
        have q3 : decide (A ≤ 57343) = false := by simpa using c3
        go_wp2_with fail
        go_ret2
        exact nextEnd (by rw [H.out, HA.out]; exact F1.out (by omega))
      have q2 : decide (55296 ≤ A) = false := by simpa using c2
      go_wp2_with fail
      go_ret2
      exact nextEnd (by rw [H.out, HA.out]; exact F1.out (by omega))

theorem acc_bd3 (s : ByteArray) (i : Nat) (v : Int) (h0 : 0 ≤ v) (h1 : v ≤ 15) : ∀ k, k ≤ 2 → (∀ j, 1 ≤ j → j ≤ k → okc s (i + j)) → 0 ≤ accV s i v k ∧ accV s i v k ≤ 2097151 := by
  intro k hk hok
  unfold okc at hok
  rcases (show k = 0 ∨ k = 1 ∨ k = 2 by omega) with rfl | rfl | rfl
  · show 0 ≤ v ∧ v ≤ 2097151
    omega
  · have k1 := hok 1 (by omega) (by omega)
    show 0 ≤ 64 * (v) + (nb s (i + 1) : Int) - 128 ∧ 64 * (v) + (nb s (i + 1) : Int) - 128 ≤ 2097151
    omega
  · have k1 := hok 1 (by omega) (by omega)
    have k2 := hok 2 (by omega) (by omega)
    show 0 ≤ 64 * (64 * (v) + (nb s (i + 1) : Int) - 128) + (nb s (i + 2) : Int) - 128 ∧ 64 * (64 * (v) + (nb s (i + 1) : Int) - 128) + (nb s (i + 2) : Int) - 128 ≤ 2097151
    omega
set_option maxHeartbeats 4000000 in
set_option maxRecDepth 100000 in
theorem next_c3 (s : ByteArray) (i : Nat) (w : World) (hs : s.size ≤ 140737488355328) (hi : i < s.size) (b0 : 224 ≤ nb s i) (b1 : nb s i < 240) :
    Calls Tryz.prog 27 #[.string s, .int .i64 i] w (NextEnd s i w) := by

  have HB := Lib.hid (nb_get s i hi)
  have l0 : (s[i].toNat : Int) < 256 := by rw [HB.out]; have := nb_lt s i; omega
  have d0 : decide ((s[i].toNat : Int) < 128) = false := by rw [HB.out]; simp; omega
  have g192 : decide ((192 : Int) ≤ (s[i].toNat : Int)) = true := by rw [HB.out]; simp; omega
  have f224 : decide ((s[i].toNat : Int) < 224) = false := by rw [HB.out]; simp; omega
  have g224 : decide ((224 : Int) ≤ (s[i].toNat : Int)) = true := by rw [HB.out]; simp; omega
  have f240 : decide ((s[i].toNat : Int) < 240) = true := by rw [HB.out]; simp; omega
  have g240 : decide ((240 : Int) ≤ (s[i].toNat : Int)) = false := by rw [HB.out]; simp; omega
  have e0 : (s[i].toNat : Int) - 224 = accV s i ((nb s i : Int) - 224) 0 := by rw [HB.out]; rfl
  have E0 := Lib.hid e0
  clear e0
  go_enter Tryz.func27, Tryz.ntmps27
  go_wp2
  go_loop [8, 10] (fun v j => ∃ k : Nat, 1 ≤ k ∧ k ≤ 3 ∧ j = .int .i64 k ∧ v = .int .i64 (accV s i ((nb s i : Int) - 224) (k - 1)) ∧ Hid (∀ j, 1 ≤ j → j < k → okc s (i + j))) (fun _ j => 3 - (intOf j).toNat)
  case atStart => exact ⟨1, by omega, by omega, rfl, by rw [E0.out], Lib.hid (fun j a b => absurd b (by omega))⟩
  case round =>
    obtain ⟨k, hk1, hk2, rfl, rfl, HOK⟩ := hrel
    have hbd := acc_bd3 s i ((nb s i : Int) - 224) (by omega) (by omega) (k - 1) (by omega) (fun j a b => HOK.out j a (by omega))
    by_cases hlt : k < 3
    · by_cases h1 : i + k < s.size
      · have h1' : (i : Int) + (k : Int) < (s.size : Int) := by omega
        have HK := Lib.hid (nb_get s (i + k) h1)
        have hbk := nb_lt s (i + k)
        have l1 : (s[i + k].toNat : Int) < 256 := by rw [HK.out]; omega
        by_cases h2 : 128 ≤ nb s (i + k)
        · have t1 : decide ((s[i + k].toNat : Int) < 128) = false := by rw [HK.out]; simp; omega
          by_cases h3 : nb s (i + k) ≤ 191
          · have t2 : decide ((191 : Int) < (s[i + k].toNat : Int)) = false := by rw [HK.out]; simp; omega
            have HE := Lib.hid (accV_succ s i ((nb s i : Int) - 224) k hk1)
            generalize hacc : accV s i ((nb s i : Int) - 224) (k - 1) = A at hbd HE ⊢
            have HA := Lib.hid hacc
            clear hacc
            go_wp2_with fail
            go_round
            case rel =>
              refine ⟨k + 1, by omega, by omega, by go_num, ?_, Lib.hid fun j a b => ?_⟩
              · rw [Nat.add_sub_cancel, HE.out, HK.out]
              · rcases Nat.lt_or_ge j k with hl | hl
                · exact HOK.out j a hl
                · obtain rfl : j = k := by omega
                  exact ⟨h1, h2, h3⟩
            case measure => simp [intOf]; omega
          · have t2 : decide ((191 : Int) < (s[i + k].toNat : Int)) = true := by rw [HK.out]; simp; omega
            have H := Lib.hid (next_bad3 s i k b0 b1 hk1 hlt (fun h => h3 h.2.2))
            go_wp2_with fail
            go_ret2
            exact nextEnd H.out
        · have t1 : decide ((s[i + k].toNat : Int) < 128) = true := by rw [HK.out]; simp; omega
          have H := Lib.hid (next_bad3 s i k b0 b1 hk1 hlt (fun h => h2 h.2.1))
          go_wp2_with fail
          go_ret2
          exact nextEnd H.out
      · have h1' : (s.size : Int) ≤ (i : Int) + (k : Int) := by omega
        have H := Lib.hid (next_bad3 s i k b0 b1 hk1 hlt (fun h => h1 h.1))
        go_wp2_with fail
        go_ret2
        exact nextEnd H.out
    · obtain rfl : k = 3 := by omega
      have hok := HOK.out
      have H := Lib.hid (next_fin3 s i b0 b1 (hok 1 (by omega) (by omega)) (hok 2 (by omega) (by omega)))
      clear hok
      generalize hacc : accV s i ((nb s i : Int) - 224) (3 - 1) = A at hbd ⊢
      have HA := Lib.hid (show accV s i ((nb s i : Int) - 224) 2 = A from hacc)
      clear hacc
      have F0 := Lib.hid (fin_no 2048 A 3)
      have F1 := Lib.hid (fin_yes 2048 A 3)
      by_cases c0 : A < 2048
      · go_wp2_with fail
        go_ret2
        exact nextEnd (by rw [H.out, HA.out]; exact F0.out (by omega))
      have q0 : decide (A < 2048) = false := by simpa using c0
      by_cases c1 : 1114111 < A
      · go_wp2_with fail
        go_ret2
        exact nextEnd (by rw [H.out, HA.out]; exact F0.out (by omega))
      have q1 : decide (1114111 < A) = false := by simpa using c1
      by_cases c2 : 55296 ≤ A
      · by_cases c3 : A ≤ 57343
        · go_wp2_with fail
          go_ret2
          exact nextEnd (by rw [H.out, HA.out]; exact F0.out (by omega))
        have q3 : decide (A ≤ 57343) = false := by simpa using c3
        go_wp2_with fail
        go_ret2
        exact nextEnd (by rw [H.out, HA.out]; exact F1.out (by omega))
      have q2 : decide (55296 ≤ A) = false := by simpa using c2
      go_wp2_with fail
      go_ret2
      exact nextEnd (by rw [H.out, HA.out]; exact F1.out (by omega))

theorem acc_bd4 (s : ByteArray) (i : Nat) (v : Int) (h0 : 0 ≤ v) (h1 : v ≤ 7) : ∀ k, k ≤ 3 → (∀ j, 1 ≤ j → j ≤ k → okc s (i + j)) → 0 ≤ accV s i v k ∧ accV s i v k ≤ 2097151 := by
  intro k hk hok
  unfold okc at hok
  rcases (show k = 0 ∨ k = 1 ∨ k = 2 ∨ k = 3 by omega) with rfl | rfl | rfl | rfl
  · show 0 ≤ v ∧ v ≤ 2097151
    omega
  · have k1 := hok 1 (by omega) (by omega)
    show 0 ≤ 64 * (v) + (nb s (i + 1) : Int) - 128 ∧ 64 * (v) + (nb s (i + 1) : Int) - 128 ≤ 2097151
    omega
  · have k1 := hok 1 (by omega) (by omega)
    have k2 := hok 2 (by omega) (by omega)
    show 0 ≤ 64 * (64 * (v) + (nb s (i + 1) : Int) - 128) + (nb s (i + 2) : Int) - 128 ∧ 64 * (64 * (v) + (nb s (i + 1) : Int) - 128) + (nb s (i + 2) : Int) - 128 ≤ 2097151
    omega
  · have k1 := hok 1 (by omega) (by omega)
    have k2 := hok 2 (by omega) (by omega)
    have k3 := hok 3 (by omega) (by omega)
    show 0 ≤ 64 * (64 * (64 * (v) + (nb s (i + 1) : Int) - 128) + (nb s (i + 2) : Int) - 128) + (nb s (i + 3) : Int) - 128 ∧ 64 * (64 * (64 * (v) + (nb s (i + 1) : Int) - 128) + (nb s (i + 2) : Int) - 128) + (nb s (i + 3) : Int) - 128 ≤ 2097151
    omega
set_option maxHeartbeats 4000000 in
set_option maxRecDepth 100000 in
theorem next_c4 (s : ByteArray) (i : Nat) (w : World) (hs : s.size ≤ 140737488355328) (hi : i < s.size) (b0 : 240 ≤ nb s i) (b1 : nb s i < 248) :
    Calls Tryz.prog 27 #[.string s, .int .i64 i] w (NextEnd s i w) := by

  have HB := Lib.hid (nb_get s i hi)
  have l0 : (s[i].toNat : Int) < 256 := by rw [HB.out]; have := nb_lt s i; omega
  have d0 : decide ((s[i].toNat : Int) < 128) = false := by rw [HB.out]; simp; omega
  have g192 : decide ((192 : Int) ≤ (s[i].toNat : Int)) = true := by rw [HB.out]; simp; omega
  have f224 : decide ((s[i].toNat : Int) < 224) = false := by rw [HB.out]; simp; omega
  have g224 : decide ((224 : Int) ≤ (s[i].toNat : Int)) = true := by rw [HB.out]; simp; omega
  have f240 : decide ((s[i].toNat : Int) < 240) = false := by rw [HB.out]; simp; omega
  have g240 : decide ((240 : Int) ≤ (s[i].toNat : Int)) = true := by rw [HB.out]; simp; omega
  have f248 : decide ((s[i].toNat : Int) < 248) = true := by rw [HB.out]; simp; omega
  have e0 : (s[i].toNat : Int) - 240 = accV s i ((nb s i : Int) - 240) 0 := by rw [HB.out]; rfl
  have E0 := Lib.hid e0
  clear e0
  go_enter Tryz.func27, Tryz.ntmps27
  go_wp2
  go_loop [8, 10] (fun v j => ∃ k : Nat, 1 ≤ k ∧ k ≤ 4 ∧ j = .int .i64 k ∧ v = .int .i64 (accV s i ((nb s i : Int) - 240) (k - 1)) ∧ Hid (∀ j, 1 ≤ j → j < k → okc s (i + j))) (fun _ j => 4 - (intOf j).toNat)
  case atStart => exact ⟨1, by omega, by omega, rfl, by rw [E0.out], Lib.hid (fun j a b => absurd b (by omega))⟩
  case round =>
    obtain ⟨k, hk1, hk2, rfl, rfl, HOK⟩ := hrel
    have hbd := acc_bd4 s i ((nb s i : Int) - 240) (by omega) (by omega) (k - 1) (by omega) (fun j a b => HOK.out j a (by omega))
    by_cases hlt : k < 4
    · by_cases h1 : i + k < s.size
      · have h1' : (i : Int) + (k : Int) < (s.size : Int) := by omega
        have HK := Lib.hid (nb_get s (i + k) h1)
        have hbk := nb_lt s (i + k)
        have l1 : (s[i + k].toNat : Int) < 256 := by rw [HK.out]; omega
        by_cases h2 : 128 ≤ nb s (i + k)
        · have t1 : decide ((s[i + k].toNat : Int) < 128) = false := by rw [HK.out]; simp; omega
          by_cases h3 : nb s (i + k) ≤ 191
          · have t2 : decide ((191 : Int) < (s[i + k].toNat : Int)) = false := by rw [HK.out]; simp; omega
            have HE := Lib.hid (accV_succ s i ((nb s i : Int) - 240) k hk1)
            generalize hacc : accV s i ((nb s i : Int) - 240) (k - 1) = A at hbd HE ⊢
            have HA := Lib.hid hacc
            clear hacc
            go_wp2_with fail
            go_round
            case rel =>
              refine ⟨k + 1, by omega, by omega, by go_num, ?_, Lib.hid fun j a b => ?_⟩
              · rw [Nat.add_sub_cancel, HE.out, HK.out]
              · rcases Nat.lt_or_ge j k with hl | hl
                · exact HOK.out j a hl
                · obtain rfl : j = k := by omega
                  exact ⟨h1, h2, h3⟩
            case measure => simp [intOf]; omega
          · have t2 : decide ((191 : Int) < (s[i + k].toNat : Int)) = true := by rw [HK.out]; simp; omega
            have H := Lib.hid (next_bad4 s i k b0 b1 hk1 hlt (fun h => h3 h.2.2))
            go_wp2_with fail
            go_ret2
            exact nextEnd H.out
        · have t1 : decide ((s[i + k].toNat : Int) < 128) = true := by rw [HK.out]; simp; omega
          have H := Lib.hid (next_bad4 s i k b0 b1 hk1 hlt (fun h => h2 h.2.1))
          go_wp2_with fail
          go_ret2
          exact nextEnd H.out
      · have h1' : (s.size : Int) ≤ (i : Int) + (k : Int) := by omega
        have H := Lib.hid (next_bad4 s i k b0 b1 hk1 hlt (fun h => h1 h.1))
        go_wp2_with fail
        go_ret2
        exact nextEnd H.out
    · obtain rfl : k = 4 := by omega
      have hok := HOK.out
      have H := Lib.hid (next_fin4 s i b0 b1 (hok 1 (by omega) (by omega)) (hok 2 (by omega) (by omega)) (hok 3 (by omega) (by omega)))
      clear hok
      generalize hacc : accV s i ((nb s i : Int) - 240) (4 - 1) = A at hbd ⊢
      have HA := Lib.hid (show accV s i ((nb s i : Int) - 240) 3 = A from hacc)
      clear hacc
      have F0 := Lib.hid (fin_no 65536 A 4)
      have F1 := Lib.hid (fin_yes 65536 A 4)
      by_cases c0 : A < 65536
      · go_wp2_with fail
        go_ret2
        exact nextEnd (by rw [H.out, HA.out]; exact F0.out (by omega))
      have q0 : decide (A < 65536) = false := by simpa using c0
      by_cases c1 : 1114111 < A
      · go_wp2_with fail
        go_ret2
        exact nextEnd (by rw [H.out, HA.out]; exact F0.out (by omega))
      have q1 : decide (1114111 < A) = false := by simpa using c1
      by_cases c2 : 55296 ≤ A
      · by_cases c3 : A ≤ 57343
        · go_wp2_with fail
          go_ret2
          exact nextEnd (by rw [H.out, HA.out]; exact F0.out (by omega))
        have q3 : decide (A ≤ 57343) = false := by simpa using c3
        go_wp2_with fail
        go_ret2
        exact nextEnd (by rw [H.out, HA.out]; exact F1.out (by omega))
      have q2 : decide (55296 ≤ A) = false := by simpa using c2
      go_wp2_with fail
      go_ret2
      exact nextEnd (by rw [H.out, HA.out]; exact F1.out (by omega))

theorem next_calls (s : ByteArray) (i : Nat) (w : World) (hs : s.size ≤ 140737488355328) (hi : i < s.size) :
    Calls Tryz.prog 27 #[.string s, .int .i64 i] w (NextEnd s i w) := by
  by_cases h1 : nb s i < 128
  · exact next_c1 s i w hs hi h1
  by_cases h2 : nb s i < 192
  · exact next_c0 s i w hs hi (by omega)
  by_cases h3 : nb s i < 224
  · exact next_c2 s i w hs hi (by omega) h3
  by_cases h4 : nb s i < 240
  · exact next_c3 s i w hs hi (by omega) h4
  by_cases h5 : nb s i < 248
  · exact next_c4 s i w hs hi (by omega) h5
  · exact next_c0 s i w hs hi (by omega)
end Go.Proofs.YtbdgoffbkenofaaGreat.Rc
namespace Go.Proofs.YtbdgoffbkenofaaGreat.Rc
open Go Go.RowKit Go.Lib
set_option linter.unusedVariables false

theorem drop_ne (s : ByteArray) (i : Nat) (h : i < s.size) : s.data.toList.drop i ≠ [] := fun e => by
  have := congrArg List.length e
  rw [List.length_drop, ← Lib.size_eq] at this
  simp at this; omega
theorem next_bad (s : ByteArray) (i : Nat) (h : (Utf8.decode s i).1 = 65533 ∧ (Utf8.decode s i).2 = 1) : nextV s i = (0, 0) := by unfold nextV; exact if_pos h
theorem next_ok (s : ByteArray) (i : Nat) (h : ¬ ((Utf8.decode s i).1 = 65533 ∧ (Utf8.decode s i).2 = 1)) : nextV s i = (((Utf8.decode s i).1 : Int), ((Utf8.decode s i).2 : Int)) := by unfold nextV; exact if_neg h
def DBad (s : ByteArray) (i : Nat) : Prop := (Utf8.decode s i).1 = 65533 ∧ (Utf8.decode s i).2 = 1
theorem bad_at (s : ByteArray) (i : Nat) : Bad (s.data.toList.drop i) ↔ DBad s i := by unfold Bad DBad; rw [decodeL_drop]
theorem valid_no (s : ByteArray) (i : Nat) (hi : i < s.size) (h : DBad s i) : validD (s.data.toList.drop i) = false := by
  rw [validD_step _ (drop_ne s i hi), decodeL_drop]; exact if_pos h
theorem valid_go (s : ByteArray) (i : Nat) (hi : i < s.size) (h : ¬ DBad s i) : validD (s.data.toList.drop i) = validD (s.data.toList.drop (i + (Utf8.decode s i).2)) := by
  rw [validD_step _ (drop_ne s i hi), decodeL_drop, List.drop_drop]; exact if_neg h
theorem width_ok (s : ByteArray) (i : Nat) (hi : i < s.size) : 1 ≤ (Utf8.decode s i).2 ∧ i + (Utf8.decode s i).2 ≤ s.size ∧ (Utf8.decode s i).2 ≤ 4 := by
  have h1 := decodeL_width (s.data.toList.drop i)
  have h2 := decodeL_le (s.data.toList.drop i) (drop_ne s i hi)
  rw [decodeL_drop] at h1 h2
  rw [List.length_drop, ← Lib.size_eq] at h2
  refine ⟨h1, by omega, ?_⟩
  rw [← decodeL_drop, decodeL_N]
  rcases decodeN_shape (s.data.toList.drop i).length ((s.data.toList.drop i).getD 0 0).toNat ((s.data.toList.drop i).getD 1 0).toNat ((s.data.toList.drop i).getD 2 0).toNat ((s.data.toList.drop i).getD 3 0).toNat with ⟨c, e⟩ | ⟨c1, c2, c3, cv, e⟩ | ⟨c1, c2, c3, c4, cv, cs, e⟩ | ⟨c1, c2, c3, c4, c5, cv, cw, e⟩ | e
  all_goals (rw [e]; dsimp only; omega)

theorem next_calls_bad (s : ByteArray) (i : Nat) (w : World) (hs : s.size ≤ 140737488355328) (hi : i < s.size) (h : Hid (nextV s i = (0, 0))) :
    Calls Tryz.prog 27 #[.string s, .int .i64 i] w fun e w' => e = .returned (.tuple #[.int .i32 0, .int .i64 0]) ∧ w = w' :=
  (next_calls s i w hs hi).mono fun e w' ⟨h1, h2⟩ => ⟨by rw [h1, h.out], h2⟩
theorem next_calls_ok (s : ByteArray) (i : Nat) (v d : Int) (w : World) (hs : s.size ≤ 140737488355328) (hi : i < s.size) (h : Hid (nextV s i = (v, d))) :
    Calls Tryz.prog 27 #[.string s, .int .i64 i] w fun e w' => e = .returned (.tuple #[.int .i32 v, .int .i64 d]) ∧ w = w' :=
  (next_calls s i w hs hi).mono fun e w' ⟨h1, h2⟩ => ⟨by rw [h1, h.out], h2⟩

/-! ### Clean -/
theorem head_at (s : ByteArray) (i : Nat) (h : i < s.size) : (s.data.toList.drop i).getD 0 0 = s[i] := by
  rw [getD_dropU, Nat.add_zero, Lib.getD_get!', show s.get! i = s[i] from get_at s i h]
theorem ba_ext {a b : ByteArray} (h : a.data.toList = b.data.toList) : a = b := by
  cases a; cases b; simp at h; simp [h]
theorem byte_eq (x : UInt8) (n : Nat) (hn : n < 256) : x = UInt8.ofNat n ↔ (x.toNat : Int) = n := by
  rw [← UInt8.toNat_inj]; simp; omega
/-- From here on Clean gives this. -/
def cl (s : ByteArray) (i : Nat) : List UInt8 := clean (s.data.toList.drop i)
theorem cl_end (s : ByteArray) (i : Nat) (h : ¬ i < s.size) : cl s i = [] := by
  unfold cl; rw [List.drop_eq_nil_of_le (by rw [← Lib.size_eq]; omega)]; rfl
theorem cl_bad (s : ByteArray) (i : Nat) (hi : i < s.size) (h : DBad s i ∨ (s[i].toNat : Int) = 0) : cl s i = fffd ++ cl s (i + 1) := by
  unfold cl
  rw [clean_bad _ (drop_ne s i hi) ?_, List.drop_drop]
  rcases h with h | h
  · exact .inl ((bad_at s i).2 h)
  · exact .inr (by rw [head_at s i hi]; exact (byte_eq _ 0 (by omega)).2 h)
theorem cl_13 (s : ByteArray) (i : Nat) (hi : i < s.size) (h : (s[i].toNat : Int) = 13) (hn : ¬ (∃ h1 : i + 1 < s.size, (s[i + 1].toNat : Int) = 10)) : cl s i = [10] ++ cl s (i + 1) := by
  unfold cl
  rw [clean_13 _ (by rw [head_at s i hi]; exact (byte_eq _ 13 (by omega)).2 h), List.drop_drop, if_neg ?_]; rfl
  intro e
  rw [getD_dropU] at e
  by_cases h1 : i + 1 < s.size
  · rw [Lib.getD_get!', show s.get! (i + 1) = s[i + 1] from get_at s (i + 1) h1] at e
    exact hn ⟨h1, (byte_eq _ 10 (by omega)).1 e⟩
  · rw [List.getD, List.getElem?_eq_none (by rw [← Lib.size_eq]; omega)] at e
    simp at e
theorem cl_1310 (s : ByteArray) (i : Nat) (hi : i < s.size) (h : (s[i].toNat : Int) = 13) (h1 : i + 1 < s.size) (hn : (s[i + 1].toNat : Int) = 10) : cl s i = [10] ++ cl s (i + 2) := by
  unfold cl
  rw [clean_13 _ (by rw [head_at s i hi]; exact (byte_eq _ 13 (by omega)).2 h), List.drop_drop, if_pos ?_]; rfl
  rw [getD_dropU, Lib.getD_get!', show s.get! (i + 1) = s[i + 1] from get_at s (i + 1) h1]
  exact (byte_eq _ 10 (by omega)).2 hn
theorem cl_rune (s : ByteArray) (i : Nat) (hi : i < s.size) (h : ¬ DBad s i) (h0 : ¬ (s[i].toNat : Int) = 0) (h13 : ¬ (s[i].toNat : Int) = 13) : cl s i = (s.extract i (i + (Utf8.decode s i).2)).data.toList ++ cl s (i + (Utf8.decode s i).2) := by
  unfold cl
  rw [clean_rune _ (drop_ne s i hi) (fun e => h ((bad_at s i).1 e)) (by rw [head_at s i hi]; exact fun e => h0 ((byte_eq _ 0 (by omega)).1 e)) (by rw [head_at s i hi]; exact fun e => h13 ((byte_eq _ 13 (by omega)).1 e)), decodeL_drop, List.drop_drop]
  congr 1
  rw [ByteArray.data_extract, Array.toList_extract, List.extract_eq_take_drop]
  congr 1; omega
theorem width_13 (s : ByteArray) (i : Nat) (hi : i < s.size) (h : (s[i].toNat : Int) = 13) : (Utf8.decode s i).2 = 1 := by
  rw [← decodeL_drop]
  refine width_lt _ ?_
  rw [(head_lt (s.data.toList.drop i) 13 (by omega)).2 (by rw [head_at s i hi]; exact (byte_eq _ 13 (by omega)).2 h)]
  omega
attribute [irreducible] cl
theorem acc_add (a b : ByteArray) (r q : List UInt8) (h : Hid (q = a.data.toList ++ (b.data.toList ++ r))) : Hid (q = (a ++ b).data.toList ++ r) := by
  rw [h.out]; exact Lib.hid (by simp)
theorem add_fffd (s : ByteArray) (k : Nat) (t : ByteArray) (h : Hid (cl s 0 = t.data.toList ++ cl s k)) (e : cl s k = fffd ++ cl s (k + 1)) : Hid (cl s 0 = (t ++ ⟨#[239, 191, 189]⟩).data.toList ++ cl s (k + 1)) :=
  acc_add _ _ _ _ (Lib.hid (by rw [h.out, e]; rfl))
theorem add_10 (s : ByteArray) (k m : Nat) (t : ByteArray) (h : Hid (cl s 0 = t.data.toList ++ cl s k)) (e : cl s k = [10] ++ cl s m) : Hid (cl s 0 = (t ++ ⟨#[10]⟩).data.toList ++ cl s m) :=
  acc_add _ _ _ _ (Lib.hid (by rw [h.out, e]))
theorem add_rune (s : ByteArray) (k m : Nat) (t b : ByteArray) (h : Hid (cl s 0 = t.data.toList ++ cl s k)) (e : cl s k = b.data.toList ++ cl s m) : Hid (cl s 0 = (t ++ b).data.toList ++ cl s m) :=
  acc_add _ _ _ _ (Lib.hid (by rw [h.out, e]))

set_option maxHeartbeats 4000000 in
set_option maxRecDepth 100000 in
theorem rclean_calls (s : ByteArray) (w : World) (hs : s.size ≤ 35184372088832) :
    Calls Tryz.prog 16 #[.string s] w fun e w' => e = .returned (.string ⟨(clean s.data.toList).toArray⟩) ∧ w = w' := by
  have H0 := Lib.hid (show cl s 0 = clean s.data.toList by unfold cl; rw [List.drop_zero])
  go_enter Tryz.func16, Tryz.ntmps16
  go_wp2
  go_loop [3, 4] (fun tv i => ∃ (k : Nat) (t : ByteArray), k ≤ s.size ∧ i = .int .i64 k ∧ tv = .string t ∧ t.size ≤ 3 * k ∧ Hid (cl s 0 = t.data.toList ++ cl s k)) (fun _ i => s.size - (intOf i).toNat)
  case atStart => exact ⟨0, ByteArray.empty, by omega, rfl, rfl, by simp, Lib.hid (by simp)⟩
  case round =>
    obtain ⟨k, t, hk, rfl, rfl, htz, HC⟩ := hrel
    by_cases hlt : k < s.size
    · obtain ⟨hw1, hw2, hw4⟩ := width_ok s k hlt
      have B0 := Lib.hid (cl_bad s k hlt)
      have B1 := Lib.hid (cl_13 s k hlt)
      have B2 := Lib.hid (cl_1310 s k hlt)
      have B3 := Lib.hid (cl_rune s k hlt)
      by_cases hb : DBad s k
      · have HX := Lib.hid (next_bad s k hb)
        have HB := Lib.hid hb
        clear hb
        go_wp2_with fail
        refine (next_calls_bad s k _ (by omega) hlt HX).mono ?_
        rintro e w' ⟨rfl, rfl⟩
        go_wp2_with fail
        go_round
        case rel => exact ⟨k + 1, t ++ ⟨#[239, 191, 189]⟩, by omega, by go_num, rfl, by rw [ByteArray.size_append, show (⟨#[239, 191, 189]⟩ : ByteArray).size = 3 from rfl]; omega, add_fffd s k t HC (B0.out (.inl HB.out))⟩
        case measure => simp [intOf]; omega
      · have HX := Lib.hid (next_ok s k hb)
        have HB := Lib.hid hb
        clear hb
        have W13 := Lib.hid (width_13 s k hlt)
        generalize (Utf8.decode s k).2 = d at hw1 hw2 hw4 B3 HX W13
        generalize (Utf8.decode s k).1 = v at HX
        have hn0 : ((d : Int) == 0) = false := by rw [beq_eq_false_iff_ne]; omega
        by_cases c0 : (s[k].toNat : Int) = 0
        · have t0 : ((s[k].toNat : Int) == 0) = true := by rw [c0]; rfl
          have HE := Lib.hid c0
          clear c0
          go_wp2_with fail
          refine (next_calls_ok s k _ _ _ (by omega) hlt HX).mono ?_
          rintro e w' ⟨rfl, rfl⟩
          go_wp2_with fail
          go_round
          case rel => exact ⟨k + 1, t ++ ⟨#[239, 191, 189]⟩, by omega, by go_num, rfl, by rw [ByteArray.size_append, show (⟨#[239, 191, 189]⟩ : ByteArray).size = 3 from rfl]; omega, add_fffd s k t HC (B0.out (.inr HE.out))⟩
          case measure => simp [intOf]; omega
        have t0 : ((s[k].toNat : Int) == 0) = false := by rw [beq_eq_false_iff_ne]; exact c0
        have N0 := Lib.hid c0
        clear c0
        by_cases c13 : (s[k].toNat : Int) = 13
        · have t1 : ((s[k].toNat : Int) == 13) = true := by rw [c13]; rfl
          have HE := Lib.hid c13
          have HD := Lib.hid (W13.out c13)
          clear c13
          by_cases h1 : k + 1 < s.size
          · have h1' : (k : Int) + 1 < (s.size : Int) := by omega
            by_cases c10 : (s[k + 1].toNat : Int) = 10
            · have t2 : ((s[k + 1].toNat : Int) == 10) = true := by rw [c10]; rfl
              have HF := Lib.hid c10
              clear c10
              go_wp2_with fail
              refine (next_calls_ok s k _ _ _ (by omega) hlt HX).mono ?_
              rintro e w' ⟨rfl, rfl⟩
              go_wp2_with fail
              go_round
              case rel => exact ⟨k + 2, t ++ ⟨#[10]⟩, by omega, by go_num, rfl, by rw [ByteArray.size_append, show (⟨#[10]⟩ : ByteArray).size = 1 from rfl]; omega, add_10 s k _ t HC (B2.out HE.out h1 HF.out)⟩
              case measure => simp [intOf]; omega
            · have t2 : ((s[k + 1].toNat : Int) == 10) = false := by rw [beq_eq_false_iff_ne]; exact c10
              have HF := Lib.hid (show ¬ ∃ h1 : k + 1 < s.size, (s[k + 1].toNat : Int) = 10 from fun ⟨_, h⟩ => c10 h)
              clear c10
              go_wp2_with fail
              refine (next_calls_ok s k _ _ _ (by omega) hlt HX).mono ?_
              rintro e w' ⟨rfl, rfl⟩
              go_wp2_with fail
              go_round
              case rel => exact ⟨k + d, t ++ ⟨#[10]⟩, by omega, by go_num, rfl, by rw [ByteArray.size_append, show (⟨#[10]⟩ : ByteArray).size = 1 from rfl]; omega, by rw [HD.out]; exact add_10 s k _ t HC (B1.out HE.out HF.out)⟩
              case measure => simp [intOf]; omega
          · have hd : decide ((k : Int) + 1 < (s.size : Int)) = false := by simp; omega
            have HF := Lib.hid (show ¬ ∃ h1 : k + 1 < s.size, (s[k + 1].toNat : Int) = 10 from fun ⟨h, _⟩ => h1 h)
            go_wp2_with fail
            refine (next_calls_ok s k _ _ _ (by omega) hlt HX).mono ?_
            rintro e w' ⟨rfl, rfl⟩
            go_wp2_with fail
            go_round
            case rel => exact ⟨k + d, t ++ ⟨#[10]⟩, by omega, by go_num, rfl, by rw [ByteArray.size_append, show (⟨#[10]⟩ : ByteArray).size = 1 from rfl]; omega, by rw [HD.out]; exact add_10 s k _ t HC (B1.out HE.out HF.out)⟩
            case measure => simp [intOf]; omega
        have t1 : ((s[k].toNat : Int) == 13) = false := by rw [beq_eq_false_iff_ne]; exact c13
        have N13 := Lib.hid c13
        clear c13
        have hw2' : (k : Int) + (d : Int) ≤ (s.size : Int) := by omega
        go_wp2_with fail
        refine (next_calls_ok s k _ _ _ (by omega) hlt HX).mono ?_
        rintro e w' ⟨rfl, rfl⟩
        go_wp2_with fail
        go_round
        case rel => exact ⟨k + d, t ++ s.extract k (k + d), hw2, by go_num, rfl, by rw [ByteArray.size_append, ByteArray.size_extract]; omega, add_rune s k _ t _ HC (B3.out HB.out N0.out N13.out)⟩
        case measure => simp [intOf]; omega
    · obtain rfl : k = s.size := by omega
      have HE := Lib.hid (cl_end s s.size (by omega))
      go_wp2_with fail
      go_ret
      refine ⟨?_, rfl⟩
      have e := HC.out
      rw [HE.out, List.append_nil, H0.out] at e
      show Ending.returned (.string t) = _
      rw [show t = ⟨(clean s.data.toList).toArray⟩ from ba_ext (by rw [← e])]
end Go.Proofs.YtbdgoffbkenofaaGreat.Rc
namespace Go.Proofs.YtbdgoffbkenofaaGreat.Ch
open Go Go.RowKit Go.Proofs.YtbdgoffbkenofaaGreat.Sr Go.Proofs.YtbdgoffbkenofaaGreat.Ct
set_option linter.unusedVariables false
set_option maxRecDepth 100000

theorem app_list (a b : ByteArray) : (a ++ b).data.toList = a.data.toList ++ b.data.toList := by rw [ByteArray.data_append, Array.toList_append]
theorem of_list {a : ByteArray} {l : List UInt8} (h : a.data.toList = l) : a = ⟨l.toArray⟩ := by subst h; rfl
theorem str_int {a b : ByteArray} (h : a = b) : Value.string a = .string b := by rw [h]
theorem rdecode_calls (s : ByteArray) (hs : s.size ≤ 1000000) (attr : Bool) (w : World) :
    Calls Tryz.prog 15 #[.string s, .bool attr] w fun e w' => e = .returned (.string (decB s attr)) ∧ Below w.heap.size w w' := by
  go_enter Tryz.func15, Tryz.ntmps15
  go_wp2_with fail
  go_loopw [5, 6, 7, 8, 17] (fun t5 t6 _ _ _ wr => ∃ (k : Nat) (out : ByteArray), t5 = .string out ∧ t6 = .int .i64 k ∧ k ≤ s.size ∧ out.size ≤ 4 * k ∧ Hid (out.data.toList ++ decK s attr k = decK s attr 0 ∧ Below w.heap.size w wr)) (fun _ t6 _ _ _ _ => s.size - (intOf t6).toNat)
  case atStart => exact ⟨0, _, rfl, rfl, Nat.zero_le _, Nat.le_refl _, Lib.hid ⟨rfl, Below.refl _ _⟩⟩
  case round =>
    obtain ⟨k, out, rfl, rfl, hk, hol, HI⟩ := hrel
    by_cases hlt : k < s.size
    · obtain ⟨⟨t, n⟩, hR⟩ : ∃ r, refI s k attr = r := ⟨_, rfl⟩
      obtain ⟨b1, b2, b3, b4⟩ := refI_bd s k attr hlt
      rw [hR] at b1 b2 b3 b4
      replace b1 : k + n ≤ s.size := b1
      replace b2 : t.size ≤ 4 := b2
      have RX := Lib.hid (ref_as _ rref_all s (by omega) k hk attr t n hR)
      obtain ⟨c, hc⟩ : ∃ c, s[k].toNat = c := ⟨_, rfl⟩
      have hi0 : ∀ w : World, (Instr.index 9 (.string s) (.int .i64 (k : Int))).run Tryz.prog w = .ok (.int .u8 c) w := fun w => run_at s k hlt rfl hc w
      by_cases h38 : c = 38
      · subst h38
        have hn := b3 hc
        replace hn : 1 ≤ n := hn
        have HD := Lib.hid (decK_ref (attr := attr) hlt hc)
        have HR := Lib.hid hR
        have hz : out.size + t.size ≤ maxLen := by unfold maxLen; omega
        clear b3 b4 hR hc
        go_wp2_with fail
        refine (RX.out _).mono ?_
        rintro e w1 ⟨rfl, hb⟩
        have HB := Lib.hid hb
        clear hb RX
        go_wp2_with fail
        go_roundw
        case rel => exact ⟨k + n, out ++ t, rfl, by go_num, b1, by rw [ByteArray.size_append]; omega, Lib.hid ⟨by
          have h1 := HI.out.1
          rw [HD.out, HR.out] at h1
          rw [app_list, List.append_assoc]
          exact h1, HI.out.2.trans (HB.out.mono HI.out.2.size)⟩⟩
        case measure => simp [intOf]; omega
      · have HD := Lib.hid (decK_one (attr := attr) hlt (fun e => h38 (hc.symm.trans e)))
        have q38 : ((c : Int) == 38) = false := by rw [beq_eq_false_iff_ne]; omega
        have hz : out.size + (s.extract k (k + 1)).size ≤ maxLen := by unfold maxLen; rw [ByteArray.size_extract]; omega
        clear b3 b4 hR hc h38
        go_wp2_with fail
        go_roundw
        case rel => exact ⟨k + 1, out ++ s.extract k (k + 1), rfl, by go_num, hlt, by rw [ByteArray.size_append, ByteArray.size_extract]; omega, Lib.hid ⟨by
          have h1 := HI.out.1
          rw [HD.out] at h1
          rw [app_list, cut_one s k hlt, List.append_assoc]
          exact h1, HI.out.2⟩⟩
        case measure => simp [intOf]; omega
    · obtain rfl : k = s.size := by omega
      have HE : Hid (out = decB s attr) := Lib.hid (by
        have h1 := HI.out.1
        rw [decK_end (Nat.le_refl _), List.append_nil] at h1
        unfold decB
        exact of_list h1)
      go_wp2_with fail
      go_ret
      exact ⟨Sr.ret_str HE.out, HI.out.2⟩
end Go.Proofs.YtbdgoffbkenofaaGreat.Ch
namespace Go.Proofs.YtbdgoffbkenofaaGreat.Ch
open Go Go.RowKit Go.Proofs.YtbdgoffbkenofaaGreat.Sr Go.Proofs.YtbdgoffbkenofaaGreat.Ct
set_option linter.unusedVariables false

theorem cut_list (s : ByteArray) (i j : Nat) : (s.extract i j).data.toList = (s.data.toList.drop i).take (j - i) := by
  rw [ByteArray.data_extract, Array.toList_extract, List.extract_eq_take_drop]
section
variable (a b : ByteArray)
theorem sh_at (i : Nat) : (a ++ b).data.toList[a.size + i]? = b.data.toList[i]? := by
  rw [app_list, List.getElem?_append_right (show a.data.toList.length ≤ a.size + i from Nat.le_add_right _ _)]
  congr 1
  show a.size + i - a.size = i
  omega
theorem sh_drop (i : Nat) : (a ++ b).data.toList.drop (a.size + i) = b.data.toList.drop i := by
  rw [app_list, List.drop_append, List.drop_eq_nil_of_le (show a.data.toList.length ≤ a.size + i from Nat.le_add_right _ _), List.nil_append]
  congr 1
  show a.size + i - a.size = i
  omega
theorem sh_size : (a ++ b).size = a.size + b.size := ByteArray.size_append
theorem sh_get (i : Nat) (hi : i < b.size) (h : a.size + i < (a ++ b).size) : (a ++ b)[a.size + i] = b[i] := by
  have h1 := byte_at h
  rw [sh_at, byte_at hi] at h1
  injection h1 with h1
  exact h1.symm
theorem sh_extract (i j : Nat) : (a ++ b).extract (a.size + i) (a.size + j) = b.extract i j := by
  apply bytes_eq.1
  rw [cut_list, cut_list, sh_drop]
  congr 1
  omega
theorem sh_hex (f : Nat) : hexAt (a ++ b) (a.size + f) = hexAt b f := by unfold hexAt; rw [sh_at]
theorem sh_semi (f : Nat) : semiAt (a ++ b) (a.size + f) = semiAt b f := by unfold semiAt; rw [sh_at]
theorem sh_numAt (f : Nat) (hex : Bool) (k : Nat) : numAt (a ++ b) (a.size + f) hex (a.size + k) = numAt b f hex k := by
  unfold numAt
  rw [sh_drop]
  generalize numL hex (b.data.toList.drop f) 0 = r
  rw [show a.size + f + r.2 = a.size + (f + r.2) by omega, sh_semi]
  split
  · rfl
  · congr 1
    omega
theorem sh_numV (k : Nat) : numV (a ++ b) (a.size + k) = numV b k := by
  unfold numV
  rw [Nat.add_assoc, sh_hex, Nat.add_assoc]
  split
  · exact sh_numAt a b _ _ _
  · exact sh_numAt a b _ _ _
theorem sh_lon (k : Nat) : ∀ n, lon (a ++ b) (a.size + k) n = lon b k n
  | 0 => by rw [lon_zero, lon_zero]
  | n + 1 => by
    have e : (a ++ b).extract (a.size + k) (a.size + k + (n + 1)) = b.extract k (k + (n + 1)) := by
      rw [Nat.add_assoc]; exact sh_extract a b _ _
    cases h : rfind (b.extract k (k + (n + 1))) with
    | some v => rw [lon_hit h, lon_hit (by rw [e]; exact h)]
    | none => rw [lon_miss h, lon_miss (by rw [e]; exact h)]; exact sh_lon k n
theorem sh_longest (k : Nat) (hk : k ≤ b.size) : longest (a ++ b) ((a.size + k : Nat) : Int) = longest b k := by
  rw [longest_in _ _ (by rw [sh_size]; omega), longest_in _ _ hk, sh_lon, sh_size]
  congr 1
  omega
theorem sh_refV (k : Nat) (attr : Bool) (hk : k < b.size) : refV (a ++ b) (a.size + k) attr = refV b k attr := by
  have hl := sh_longest a b (k + 1) (by omega)
  have e1 : (((a.size + k : Nat) : Int) + 1) = ((a.size + (k + 1) : Nat) : Int) := by omega
  have e2 : (((k + 1 : Nat)) : Int) = (k : Int) + 1 := by omega
  unfold refV
  rw [e1, hl, e2]
  generalize longest b ((k : Int) + 1) = r
  rw [show a.size + k + 1 = a.size + (k + 1) by omega, sh_at, sh_numV, show a.size + k + r.1 = a.size + (k + r.1) by omega, sh_at, show a.size + (k + 1) + r.1 = a.size + (k + 1 + r.1) by omega, sh_at]
theorem sh_refI (k : Nat) (attr : Bool) (hk : k < b.size) : refI (a ++ b) ((a.size + k : Nat) : Int) attr = refI b k attr := by
  have h1 : a.size + k < (a ++ b).size := by rw [sh_size]; omega
  have hg := sh_get a b k hk h1
  by_cases h : b[k].toNat = 38
  · rw [refI_yes hk h, refI_yes h1 (by rw [hg]; exact h), sh_refV a b k attr hk]
  · rw [refI_no hk h, refI_no h1 (by rw [hg]; exact h)]
theorem sh_decK (attr : Bool) : ∀ (n k : Nat), b.size - k ≤ n → decK (a ++ b) attr (a.size + k) = decK b attr k
  | 0, k, h => by rw [decK_end (by rw [sh_size]; omega), decK_end (by omega)]
  | n + 1, k, h => by
    by_cases hk : k < b.size
    · have h1 : a.size + k < (a ++ b).size := by rw [sh_size]; omega
      have hg := sh_get a b k hk h1
      by_cases h38 : b[k].toNat = 38
      · have hn := (refI_bd b k attr hk).2.2.1 h38
        rw [decK_ref hk h38, decK_ref h1 (by rw [hg]; exact h38), sh_refI a b k attr hk, Nat.add_assoc, sh_decK attr n _ (by omega)]
      · rw [decK_one hk h38, decK_one h1 (by rw [hg]; exact h38), hg, Nat.add_assoc, sh_decK attr n _ (by omega)]
    · rw [decK_end (by rw [sh_size]; omega), decK_end (by omega)]
/-- Ahead of any text, one without an ampersand. -/
theorem plain_decK (attr : Bool) (ha : ∀ i (hi : i < a.size), ¬ a[i].toNat = 38) : ∀ (n k : Nat), k + n = a.size → decK (a ++ b) attr k = a.data.toList.drop k ++ decK b attr 0
  | 0, k, h => by
    have := sh_decK a b attr b.size 0 (by omega)
    rw [Nat.add_zero, show a.size = k by omega] at this
    rw [this, List.drop_eq_nil_of_le (show a.data.toList.length ≤ k by show a.size ≤ k; omega)]; rfl
  | n + 1, k, h => by
    have hk : k < a.size := by omega
    have h1 : k < (a ++ b).size := by rw [sh_size]; omega
    have hg : (a ++ b)[k] = a[k] := by
      have h2 := byte_at h1
      rw [app_list, List.getElem?_append_left (show k < a.data.toList.length from hk), byte_at hk] at h2
      injection h2 with h2; exact h2.symm
    have e : a.data.toList.drop k = a[k] :: a.data.toList.drop (k + 1) := List.drop_eq_getElem_cons (show k < a.data.toList.length from hk)
    rw [decK_one h1 (by rw [hg]; exact ha k hk), hg, plain_decK attr ha n (k + 1) (by omega), e]
    rfl
theorem plain_dec (attr : Bool) (ha : ∀ i (hi : i < a.size), ¬ a[i].toNat = 38) : decB (a ++ b) attr = a ++ decB b attr := by
  apply bytes_eq.1
  have h := plain_decK a b attr ha a.size 0 (by omega)
  unfold decB
  rw [app_list, h]
  rfl
theorem decB_nil (attr : Bool) : decB ⟨#[]⟩ attr = ⟨#[]⟩ := by
  unfold decB
  rw [decK_end (s := ⟨#[]⟩) (k := 0) (by decide)]
end
theorem plain_own (a : ByteArray) (attr : Bool) (ha : ∀ i (hi : i < a.size), ¬ a[i].toNat = 38) : decB a attr = a := by
  have h := plain_dec a ⟨#[]⟩ attr ha
  rw [decB_nil] at h
  have e : a ++ (⟨#[]⟩ : ByteArray) = a := by apply bytes_eq.1; rw [app_list]; simp
  rwa [e] at h
/-! ### A name with its semicolon is the longest one, whatever stands about it -/
theorem semi_last' : ∀ p ∈ rpairs, (59 : UInt8) ∉ p.1.data.toList.dropLast := by decide +kernel
theorem rfind_semi' {x : ByteArray} {N R : List UInt8} {r : UInt8} (h : x.data.toList = N ++ 59 :: r :: R) : rfind x = none := by
  cases e : rfind x with
  | none => rfl
  | some v =>
    rw [rfind_is] at e
    refine absurd ?_ (semi_last' _ (assoc_mem e))
    show (59 : UInt8) ∈ x.data.toList.dropLast
    rw [h, List.dropLast_append_of_ne_nil (by simp)]
    simp
theorem cut_is' (a n b : ByteArray) (m : Nat) : ((a ++ n ++ b).extract a.size (a.size + m)).data.toList = (n.data.toList ++ b.data.toList).take m := by
  rw [ByteArray.data_extract, Array.toList_extract, ByteArray.data_append, ByteArray.data_append, Array.toList_append, Array.toList_append, List.extract_eq_take_drop, List.append_assoc, Nat.add_sub_cancel_left]
  rw [List.drop_left' (show a.data.toList.length = a.size from rfl)]
theorem cut_own' (a n b : ByteArray) : (a ++ n ++ b).extract a.size (a.size + n.size) = n := by
  apply ByteArray.ext
  apply Array.ext'
  rw [cut_is']
  have e : n.size = n.data.toList.length := rfl
  rw [e, List.take_left']
  rfl
theorem lon_down' (a n b v : ByteArray) (N : List UInt8) (hn : n.data.toList = N ++ [59]) (hv : rfind n = some v) (d : Nat) (h : d ≤ b.size) :
    lon (a ++ n ++ b) a.size (n.size + d) = (n.size, v) := by
  induction d with
  | zero =>
    have e : n.size = n.data.toList.length := rfl
    obtain ⟨j, hj⟩ : ∃ j, n.size = j + 1 := ⟨n.size - 1, by rw [e, hn]; simp⟩
    have := cut_own' a n b
    rw [hj] at this
    rw [Nat.add_zero, hj]
    exact lon_hit (by rw [this, hv])
  | succ d ih =>
    have hx := cut_is' a n b (n.size + (d + 1))
    have e : n.size = n.data.toList.length := rfl
    have eb : b.size = b.data.toList.length := rfl
    cases hb : b.data.toList with
    | nil => rw [hb] at eb; replace eb : b.size = 0 := eb; omega
    | cons r R =>
      have hm : rfind ((a ++ n ++ b).extract a.size (a.size + (n.size + d + 1))) = none := by
        refine rfind_semi' (N := N) (r := r) (R := R.take d) ?_
        rw [show n.size + d + 1 = n.size + (d + 1) by omega, hx, e, hn, hb]
        rw [List.length_append, show N.length + [(59 : UInt8)].length + (d + 1) = (N ++ [59]).length + (d + 1) by rw [List.length_append], List.take_length_add_append, List.take_succ_cons, List.append_assoc]
        rfl
      rw [← Nat.add_assoc, lon_miss hm]
      exact ih (by omega)
theorem longest_semi (a n b v : ByteArray) (N : List UInt8) (hn : n.data.toList = N ++ [59]) (hs : n.size ≤ 8) (hv : rfind n = some v) : longest (a ++ n ++ b) (a.size : Nat) = (n.size, v) := by
  have ht : (a ++ n ++ b).size = a.size + n.size + b.size := by rw [ByteArray.size_append, ByteArray.size_append]
  rw [longest_in _ _ (by omega), show min 8 ((a ++ n ++ b).size - a.size) = n.size + (min 8 ((a ++ n ++ b).size - a.size) - n.size) by omega]
  exact lon_down' a n b _ _ hn hv _ (by omega)
/-! ### The references of the escape -/
/-- A reference by a name with its semicolon, and whatever stands behind it. -/
theorem ref_named (n b v : ByteArray) (N : List UInt8) (attr : Bool) (hn : n.data.toList = N ++ [59]) (hN : N ≠ []) (h35 : n.data.toList[0]? ≠ some 35) (hs : n.size ≤ 8) (hv : rfind n = some v) :
    refI ((⟨#[38]⟩ : ByteArray) ++ n ++ b) ((0 : Nat) : Int) attr = (v, n.size + 1) := by
  have hsz : ((⟨#[38]⟩ : ByteArray) ++ n ++ b).size = 1 + n.size + b.size := by rw [ByteArray.size_append, ByteArray.size_append]; rfl
  have h0 : 0 < ((⟨#[38]⟩ : ByteArray) ++ n ++ b).size := by omega
  have hl : ((⟨#[38]⟩ : ByteArray) ++ n ++ b).data.toList = 38 :: (n.data.toList ++ b.data.toList) := by rw [app_list, app_list]; rfl
  have hc : ((⟨#[38]⟩ : ByteArray) ++ n ++ b)[0].toNat = 38 := (byte_lit h0 (n := 38) (by decide)).1 (by rw [hl]; rfl)
  have hn1 : 0 < n.size := by
    have e : n.size = n.data.toList.length := rfl
    rw [e, hn]; simp
  have hL := longest_semi ⟨#[38]⟩ n b v N hn hs hv
  rw [refI_yes h0 hc]
  refine refV_hit ?_ hn1 hL ?_
  · unfold noNum
    rw [hl]
    show (n.data.toList ++ b.data.toList)[0]? ≠ some 35
    rw [List.getElem?_append_left (show 0 < n.data.toList.length from hn1)]
    exact h35
  · rintro ⟨_, h2, _⟩
    refine h2 ?_
    rw [hl, Nat.zero_add]
    obtain ⟨j, hj⟩ : ∃ j, n.size = j + 1 := ⟨n.size - 1, by omega⟩
    rw [hj, List.getElem?_cons_succ, List.getElem?_append_left (show j < n.data.toList.length by show j < n.size; omega), hn]
    have e : n.size = n.data.toList.length := rfl
    have hj2 : N.length = j := by rw [e, hn, List.length_append] at hj; simpa using hj
    rw [List.getElem?_append_right (by omega), hj2]
    simp
theorem numL_cons (hex : Bool) (c : UInt8) (l : List UInt8) (v : Int) {d : Nat} (hd : digI c.toNat hex = (d : Int)) :
    numL hex (c :: l) v = ((numL hex l (min (v * baseI hex + d) 1114112)).1, (numL hex l (min (v * baseI hex + d) 1114112)).2 + 1) := by
  conv => lhs; unfold numL
  rw [if_neg (by omega), hd]
theorem numL_semi (hex : Bool) (l : List UInt8) (v : Int) : numL hex (59 :: l) v = (v, 0) := by
  unfold numL
  rw [if_pos (by cases hex <;> decide +kernel)]
/-- A number that stands at the head of a text, digits ds of value v behind j zeros, with its semicolon. -/
theorem num_at0 {s : ByteArray} {pre ds r : List UInt8} {hex : Bool} {f : Nat} {v : Int} {n : Nat} (hs : s.data.toList = 38 :: 35 :: (pre ++ (ds ++ r))) (hf : f = 2 + pre.length)
    (hx : numV s 0 = numAt s f hex 0) (hv : numL hex (ds ++ r) 0 = (v, n)) (hn : 0 < n) (hnl : n = ds.length) (t : Nat) (ht : (if r[0]? = some 59 then 1 else 0) = t) (attr : Bool) :
    refI s ((0 : Nat) : Int) attr = (Utf8.encode (code v), f + n + t) := by
  have hsz : 1 < s.size := by
    show 1 < s.data.toList.length
    rw [hs]; simp
  have h0 : s[0].toNat = 38 := (byte_lit (by omega) (n := 38) (by decide)).1 (by rw [hs]; rfl)
  have h1 : s[0 + 1].toNat = 35 := (byte_lit hsz (n := 35) (by decide)).1 (by rw [hs]; rfl)
  have hd : s.data.toList.drop f = ds ++ r := by
    rw [hs, hf, show 2 + pre.length = pre.length + 1 + 1 by omega, List.drop_succ_cons, List.drop_succ_cons, List.drop_left]
  have hsm : semiAt s (f + n) = t := by
    have e : s.data.toList[f + n]? = r[0]? := by
      have : (s.data.toList.drop f)[n]? = s.data.toList[f + n]? := by rw [List.getElem?_drop]
      rw [← this, hd, List.getElem?_append_right (by omega), hnl, Nat.sub_self]
    unfold semiAt
    rw [e, ht]
  rw [refI_yes (k := 0) (by omega) h0, refV_num (k := 0) hsz h1, hx, numAt_yes hn (by rw [hd]; exact hv) hsm, Nat.sub_zero]
/-- Behind a reference at the head the rest is decoded. -/
theorem dec_then {x b t : ByteArray} {attr : Bool} (h0 : x.data.toList[0]? = some 38) (hr : refI (x ++ b) ((0 : Nat) : Int) attr = (t, x.size)) : decB (x ++ b) attr = t ++ decB b attr := by
  have hx : 0 < x.size := by
    rcases Nat.eq_zero_or_pos x.size with h | h
    · rw [List.getElem?_eq_none (show x.data.toList.length ≤ 0 from Nat.le_of_eq h)] at h0; cases h0
    · exact h
  have hl : 0 < (x ++ b).size := by rw [ByteArray.size_append]; omega
  have hc : (x ++ b)[0].toNat = 38 := (byte_lit hl (n := 38) (by decide)).1 (by rw [app_list, List.getElem?_append_left (show 0 < x.data.toList.length from hx)]; exact h0)
  have hs := sh_decK x b attr _ 0 (Nat.le_refl _)
  rw [Nat.add_zero] at hs
  have e := decK_ref (attr := attr) hl hc
  rw [hr] at e
  rw [show (0 + (t, x.size).2) = x.size by show 0 + x.size = x.size; omega, hs] at e
  apply bytes_eq.1
  rw [app_list]
  unfold decB
  exact e
theorem hexAt_not {s : ByteArray} {f : Nat} {c : UInt8} (h : s.data.toList[f]? = some c) (h1 : c ≠ 120) (h2 : c ≠ 88) : hexAt s f = false := by
  unfold hexAt
  rw [h, Bool.or_eq_false_iff, decide_eq_false_iff_not, decide_eq_false_iff_not]
  exact ⟨fun e => h1 (Option.some.inj e), fun e => h2 (Option.some.inj e)⟩
end Go.Proofs.YtbdgoffbkenofaaGreat.Ch
namespace Go.Proofs.YtbdgoffbkenofaaGreat.Sc
open Go Go.RowKit Go.Lib Go.Proofs.YtbdgoffbkenofaaGreat.Tk Go.Proofs.YtbdgoffbkenofaaGreat.Ct
set_option linter.unusedVariables false

/-! ### What cleaning leaves -/
theorem clean_from : ∀ l : List UInt8, ∀ x ∈ Rc.clean l, x ∈ l ∨ x ∈ Rc.fffd ∨ x = 10 := by
  refine Rc.clean_induct (fun x hx => absurd hx List.not_mem_nil) ?_ ?_ ?_
  · intro l hne h ih x hx
    rw [Rc.clean_bad l hne h] at hx
    rcases List.mem_append.1 hx with hx | hx
    · exact .inr (.inl hx)
    · exact (ih x hx).imp_left List.mem_of_mem_drop
  · intro l h ih x hx
    rw [Rc.clean_13 l h] at hx
    rcases List.mem_cons.1 hx with hx | hx
    · exact .inr (.inr hx)
    · exact (ih x hx).imp_left List.mem_of_mem_drop
  · intro l hne hb h0 h13 ih x hx
    rw [Rc.clean_rune l hne hb h0 h13] at hx
    rcases List.mem_append.1 hx with hx | hx
    · exact .inl (List.mem_of_mem_take hx)
    · exact (ih x hx).imp_left List.mem_of_mem_drop
/-- No byte c. -/
def NoB (s : ByteArray) (c : Nat) : Prop := ∀ i, i < s.size → bAt s i ≠ c
theorem noB_mem {s : ByteArray} {c : Nat} : NoB s c ↔ ∀ x ∈ s.data.toList, x.toNat ≠ c := by
  constructor
  · intro h x hx
    obtain ⟨i, hi, rfl⟩ := List.getElem_of_mem hx
    have := h i hi
    rw [bAt_in (show i < s.size from hi)] at this
    exact this
  · intro h i hi
    rw [bAt_in hi]
    exact h _ (List.getElem_mem (show i < s.data.toList.length from hi))
theorem NoB.clean {s : ByteArray} {c : Nat} (h : NoB s c) (h1 : c < 128) (h2 : c ≠ 10) : NoB (cleanB s) c := by
  rw [noB_mem] at h ⊢
  intro x hx
  rcases clean_from s.data.toList x hx with hx | hx | hx
  · exact h x hx
  · have key : ∀ y ∈ Rc.fffd, 128 ≤ y.toNat := by decide
    have := key x hx
    omega
  · rw [hx]; exact fun e => h2 e.symm
theorem NoB.app {a b : ByteArray} {c : Nat} (ha : NoB a c) (hb : NoB b c) : NoB (a ++ b) c := fun i hi => by
  rw [ByteArray.size_append] at hi
  by_cases h : i < a.size
  · rw [bAt_l h]; exact ha i h
  · rw [bAt_r (by omega)]; exact hb _ (by omega)
theorem NoB.all {s : ByteArray} {c : Nat} (h : NoB s c) (hc : c ≠ 0) (i : Nat) : bAt s i ≠ c := by
  rcases Nat.lt_or_ge i s.size with hi | hi
  · exact h i hi
  · rw [bAt_out hi]; exact fun e => hc e.symm
/-! ### The references -/
/-- A reference that ScanTexts draws, and its sign. -/
structure RefOk (r t : ByteArray) : Prop where
  pos : 0 < r.size
  le : r.size ≤ 6
  first : r.data.toList[0]? = some 38
  only : ∀ i, i < r.size → 0 < i → bAt r i ≠ 38
  plain : ∀ i, i < r.size → bAt r i < 128 ∧ bAt r i ≠ 0 ∧ bAt r i ≠ 13 ∧ bAt r i ≠ 60 ∧ blankN (bAt r i) = false
  ref : ∀ b, Ch.refI (r ++ b) ((0 : Nat) : Int) false = (t, r.size)
  tle : t.size ≤ 4
theorem ref_amp : RefOk ⟨#[38, 97, 109, 112, 59]⟩ ⟨#[38]⟩ := by
  refine ⟨by decide, by decide, by decide, by decide, by decide, fun b => ?_, by decide⟩
  exact Ch.ref_named ⟨#[97, 109, 112, 59]⟩ b ⟨#[38]⟩ [97, 109, 112] false rfl (by decide) (by decide) (by decide) (by decide +kernel)
theorem ref_lt : RefOk ⟨#[38, 108, 116, 59]⟩ ⟨#[60]⟩ := by
  refine ⟨by decide, by decide, by decide, by decide, by decide, fun b => ?_, by decide⟩
  exact Ch.ref_named ⟨#[108, 116, 59]⟩ b ⟨#[60]⟩ [108, 116] false rfl (by decide) (by decide) (by decide) (by decide +kernel)
theorem ref_nbsp : RefOk ⟨#[38, 110, 98, 115, 112, 59]⟩ ⟨#[194, 160]⟩ := by
  refine ⟨by decide, by decide, by decide, by decide, by decide, fun b => ?_, by decide⟩
  exact Ch.ref_named ⟨#[110, 98, 115, 112, 59]⟩ b ⟨#[194, 160]⟩ [110, 98, 115, 112] false rfl (by decide) (by decide) (by decide) (by decide +kernel)
theorem ref_num : RefOk ⟨#[38, 35, 54, 53, 59]⟩ ⟨#[65]⟩ := by
  refine ⟨by decide, by decide, by decide, by decide, by decide, fun b => ?_, by decide⟩
  have hs : ((⟨#[38, 35, 54, 53, 59]⟩ : ByteArray) ++ b).data.toList = 38 :: 35 :: ([] ++ ([54, 53] ++ (59 :: b.data.toList))) := by rw [ByteArray.toList_data_append]; rfl
  have hv : Ch.numL false ([54, 53] ++ (59 :: b.data.toList)) 0 = (65, 2) := by
    show Ch.numL false (54 :: 53 :: 59 :: b.data.toList) 0 = _
    rw [Ch.numL_cons false 54 _ _ (d := 6) (by decide +kernel), Ch.numL_cons false 53 _ _ (d := 5) (by decide +kernel), Ch.numL_semi]
    rfl
  have hx : Ch.numV ((⟨#[38, 35, 54, 53, 59]⟩ : ByteArray) ++ b) 0 = Ch.numAt ((⟨#[38, 35, 54, 53, 59]⟩ : ByteArray) ++ b) 2 false 0 := by
    refine Ch.numV_dec (Ch.hexAt_not (c := 54) ?_ (by decide) (by decide))
    rw [hs]; rfl
  have := Ch.num_at0 (pre := []) (ds := [54, 53]) (f := 2) hs rfl hx hv (by decide) rfl 1 rfl false
  rw [this, code_own (by decide) (by decide) (.inl (by decide)) (.inl (by decide))]
  rfl
theorem RefOk.own {r t : ByteArray} (h : RefOk r t) : Ch.decB r false = t := by
  have e : r ++ (⟨#[]⟩ : ByteArray) = r := by apply Sr.bytes_eq.1; rw [ByteArray.toList_data_append]; exact List.append_nil _
  have := Ch.dec_then (x := r) (b := ⟨#[]⟩) h.first (h.ref _)
  rw [e, Ch.decB_nil] at this
  rw [this]; apply Sr.bytes_eq.1; rw [ByteArray.toList_data_append]; exact List.append_nil _
/-! ### The texts of a source -/
/-- A source without tags, with a reference at p between blanks. -/
structure TxC (C : ByteArray) (p : Nat) (r t : ByteArray) : Prop where
  lt : p + r.size < C.size
  pos : 0 < p
  no38 : ∀ j, bAt C j = 38 → j = p
  no60 : ∀ j, bAt C j ≠ 60
  before : blankN (bAt C (p - 1)) = true
  inn : ∀ j, j < r.size → blankN (bAt C (p + j)) = false
  after : blankN (bAt C (p + r.size)) = true
  ext : C.extract p (p + r.size) = r
  at38 : bAt C p = 38
  ref : Ch.refI C (p : Nat) false = (t, r.size)
  ok : RefOk r t
def allT (l : List Tok) : List UInt8 := l.flatMap fun t => if t.kind = 3 then t.text.data.toList else []
theorem decK_run (s : ByteArray) (attr : Bool) : ∀ n k e, e - k ≤ n → k ≤ e → e ≤ s.size → (∀ j, k ≤ j → j < e → bAt s j ≠ 38) → Ch.decK s attr k = (s.extract k e).data.toList ++ Ch.decK s attr e
  | 0, k, e, hn, h1, h2, h => by
    have : k = e := by omega
    subst this
    rw [Ch.cut_list, Nat.sub_self, List.take_zero]; rfl
  | n + 1, k, e, hn, h1, h2, h => by
    rcases Nat.eq_or_lt_of_le h1 with rfl | h3
    · rw [Ch.cut_list, Nat.sub_self, List.take_zero]; rfl
    · have hk : k < s.size := by omega
      rw [Ch.decK_one hk (by rw [← bAt_in hk]; exact h k (Nat.le_refl _) h3), decK_run s attr n (k + 1) e (by omega) h3 h2 (fun j hj1 hj2 => h j (by omega) hj2)]
      have e1 : (s.extract k e).data.toList = s[k] :: (s.extract (k + 1) e).data.toList := by
        rw [Ch.cut_list, Ch.cut_list, show e - k = (e - (k + 1)) + 1 by omega]
        have := List.drop_eq_getElem_cons (show k < s.data.toList.length from hk)
        rw [this, List.take_succ_cons]; rfl
      rw [e1]; rfl
theorem texts {C : ByteArray} {p : Nat} {r t : ByteArray} (h : TxC C p r t) : ∀ n k, C.size - k ≤ n → k ≤ C.size → (k ≤ p ∨ p + r.size ≤ k) →
    (∀ x ∈ pcsP C k ⟨#[]⟩, x.kind = 3 ∨ x.kind = 6) ∧ allT (pcsP C k ⟨#[]⟩) = Ch.decK C false k := by
  have fin : ∀ k, C.size ≤ k → (∀ x ∈ pcsP C k ⟨#[]⟩, x.kind = 3 ∨ x.kind = 6) ∧ allT (pcsP C k ⟨#[]⟩) = Ch.decK C false k := fun k hk => by
    rw [pcsP_end _ hk, Ch.decK_end hk]
    exact ⟨fun x hx => by rw [List.mem_singleton] at hx; subst hx; exact .inr rfl, rfl⟩
  intro n
  induction n with
  | zero => intro k hn hk _; exact fin k (by omega)
  | succ n ih =>
    intro k hn hk hpk
    rcases Nat.eq_or_lt_of_le hk with e | hlt
    · exact fin k (by omega)
    have hnx := next_text hlt (h.no60 k)
    have h1 := upT_le (fun c => decide (c = 60) || (blankN c != blankN (bAt C k))) (s := C) (a := k) hk
    have h2 : k + 1 ≤ upT (fun c => decide (c = 60) || (blankN c != blankN (bAt C k))) C k := by
      rw [upT_next hlt (by simp [h.no60 k])]
      exact upT_ge _ _ _
    have hin : ∀ j, k ≤ j → j < upT (fun c => decide (c = 60) || (blankN c != blankN (bAt C k))) C k → blankN (bAt C j) = blankN (bAt C k) := fun j hj1 hj2 => by
      have := upI_before (fun i => decide (bAt C i = 60) || (blankN (bAt C i) != blankN (bAt C k))) (C.size - k) k j hj1 hj2
      simp at this
      exact this.2
    have hout : upT (fun c => decide (c = 60) || (blankN c != blankN (bAt C k))) C k < C.size → blankN (bAt C (upT (fun c => decide (c = 60) || (blankN c != blankN (bAt C k))) C k)) ≠ blankN (bAt C k) := fun hv => by
      have := upT_at (p := fun c => decide (c = 60) || (blankN c != blankN (bAt C k))) hv hk
      simp at this
      exact this.resolve_left (h.no60 _)
    generalize upT (fun c => decide (c = 60) || (blankN c != blankN (bAt C k))) C k = e at *
    have hlt2 := h.lt
    have hpos := h.ok.pos
    have hraw : rawNx ⟨#[]⟩ (textTok (Ch.decB (C.extract k e) false) false) = ⟨#[]⟩ := by
      unfold rawNx
      rw [if_neg (fun x => absurd x.1 (show ¬ (3 : Int) = 1 by decide)), if_neg (by rintro (x | x); exact absurd x (show ¬ (3 : Int) = 1 by decide); exact absurd x.1 (show ¬ (3 : Int) = 2 by decide))]
    rw [pcsP_yes hlt hnx, hraw]
    have step : (e ≤ p ∨ p + r.size ≤ e) → Ch.decK C false k = (Ch.decB (C.extract k e) false).data.toList ++ Ch.decK C false e → (∀ x ∈ textTok (Ch.decB (C.extract k e) false) false :: pcsP C e ⟨#[]⟩, x.kind = 3 ∨ x.kind = 6) ∧ allT (textTok (Ch.decB (C.extract k e) false) false :: pcsP C e ⟨#[]⟩) = Ch.decK C false k := fun hc hd => by
      obtain ⟨i1, i2⟩ := ih e (by omega) h1 hc
      refine ⟨fun x hx => ?_, ?_⟩
      · rcases List.mem_cons.1 hx with rfl | hx
        · exact .inl rfl
        · exact i1 x hx
      · rw [hd, ← i2]; rfl
    by_cases hkp : k = p
    · subst hkp
      have b0 : blankN (bAt C k) = false := h.inn 0 hpos
      have ee : e = k + r.size := by
        rcases Nat.lt_trichotomy e (k + r.size) with x | x | x
        · exfalso
          have := h.inn (e - k) (by omega)
          rw [show k + (e - k) = e by omega] at this
          exact hout (by omega) (this.trans b0.symm)
        · exact x
        · exfalso
          have := hin (k + r.size) (by omega) x
          rw [h.after, b0] at this
          cases this
      refine step (.inr (by omega)) ?_
      rw [ee, h.ext, h.ok.own]
      have := Ch.decK_ref (s := C) (attr := false) hlt (by rw [← bAt_in hlt]; exact h.at38)
      rw [h.ref] at this
      exact this
    · have hno : ∀ j, k ≤ j → j < e → bAt C j ≠ 38 := fun j hj1 hj2 hj => by
        have ej := h.no38 j hj
        subst ej
        have b1 := hin j hj1 hj2
        have b2 := hin (j - 1) (by omega) (by omega)
        rw [h.before] at b2
        have b3 : blankN (bAt C j) = false := h.inn 0 hpos
        rw [b3, ← b2] at b1
        cases b1
      refine step ?_ ?_
      · rcases hpk with hp | hp
        · left
          rcases Nat.lt_or_ge p e with x | x
          · exact absurd h.at38 (hno p hp x)
          · exact x
        · exact .inr (by omega)
      · have own : Ch.decB (C.extract k e) false = C.extract k e := decB_own fun i hi => by
          rw [ByteArray.size_extract] at hi
          rw [bAt_ext h1 (by omega)]
          exact hno _ (by omega) (by omega)
        rw [own]
        exact decK_run C false _ k e (Nat.le_refl _) (by omega) h1 hno
def spB : ByteArray := ⟨#[32]⟩
/-- ScanTexts' source. -/
def txS (a r b : ByteArray) : ByteArray := a ++ spB ++ r ++ spB ++ b
theorem tx_clean {a r t b : ByteArray} (h : RefOk r t) : cleanB (txS a r b) = txS (cleanB a) r (cleanB b) := by
  have z : (spB ++ r ++ spB).size = r.size + 2 := by simp only [ByteArray.size_append]; show 1 + r.size + 1 = _; omega
  have e : ∀ x y, txS x r y = x ++ ((spB ++ r ++ spB) ++ y) := fun x y => by unfold txS; simp only [ByteArray.append_assoc]
  have h0 : ∀ y, bAt ((spB ++ r ++ spB) ++ y) 0 = 32 := fun y => by
    rw [bAt_l (by omega), ByteArray.append_assoc, bAt_l (by decide)]; decide
  have hp : ∀ i, i < (spB ++ r ++ spB).size → bAt (spB ++ r ++ spB) i < 128 ∧ bAt (spB ++ r ++ spB) i ≠ 0 ∧ bAt (spB ++ r ++ spB) i ≠ 13 := by
    have hs : ∀ i, i < spB.size → bAt spB i < 128 ∧ bAt spB i ≠ 0 ∧ bAt spB i ≠ 13 := by decide
    intro i hi
    by_cases c1 : i < (spB ++ r).size
    · rw [bAt_l c1]
      by_cases c2 : i < spB.size
      · rw [bAt_l c2]; exact hs i c2
      · rw [bAt_r (by omega)]
        have := h.plain (i - spB.size) (by rw [ByteArray.size_append] at c1; omega)
        exact ⟨this.1, this.2.1, this.2.2.1⟩
    · rw [bAt_r (by omega)]
      exact hs _ (by rw [ByteArray.size_append] at hi; omega)
  have hv : validD (spB ++ r ++ spB).data.toList = true := by
    have := Rc.clean_valid (spB ++ r ++ spB).data.toList
    have e2 : cleanB (spB ++ r ++ spB) = spB ++ r ++ spB := cleanB_plain hp
    have e3 : Rc.clean (spB ++ r ++ spB).data.toList = (spB ++ r ++ spB).data.toList := congrArg (fun x => x.data.toList) e2
    rw [e3] at this; exact this
  have hl : (spB ++ r ++ spB).data.toList.getLast? ≠ some 13 := by
    rw [ByteArray.toList_data_append, List.getLast?_append]
    show ((some 32 : Option UInt8).or _) ≠ some 13
    simp
  rw [e, cleanB_cut a _ (by rw [ByteArray.size_append]; omega) (by rw [h0]; decide) (by rw [h0]; decide), cleanB_behind _ b hv hl, cleanB_plain hp, ← e]
theorem tx_ok {a b r t : ByteArray} (h : RefOk r t) (ha : NoB a 60) (hb : NoB b 60) (ha8 : NoB a 38) (hb8 : NoB b 38) : TxC (txS a r b) (a.size + 1) r t := by
  have e : txS a r b = (a ++ spB) ++ (r ++ (spB ++ b)) := by unfold txS; simp only [ByteArray.append_assoc]
  have z1 : (a ++ spB).size = a.size + 1 := ByteArray.size_append
  have z2 : (r ++ (spB ++ b)).size = r.size + (1 + b.size) := by rw [ByteArray.size_append, ByteArray.size_append]; rfl
  have z : (txS a r b).size = a.size + 1 + (r.size + (1 + b.size)) := by rw [e, ByteArray.size_append, z1, z2]
  have at1 : ∀ d, bAt (txS a r b) (a.size + 1 + d) = bAt (r ++ (spB ++ b)) d := fun d => by rw [e, ← z1]; exact sBat _ _ d
  have atr : ∀ d, d < r.size → bAt (txS a r b) (a.size + 1 + d) = bAt r d := fun d hd => by rw [at1, bAt_l hd]
  have at2 : ∀ d, bAt (txS a r b) (a.size + 1 + (r.size + d)) = bAt (spB ++ b) d := fun d => by rw [at1]; exact sBat _ _ d
  have atl : ∀ i, i < a.size + 1 → bAt (txS a r b) i = bAt (a ++ spB) i := fun i hi => by rw [e, bAt_l (by omega)]
  have n60 : NoB (txS a r b) 60 := by
    have hr : NoB r 60 := fun i hi => (h.plain i hi).2.2.2.1
    have hs : NoB spB 60 := by unfold NoB; decide
    unfold txS
    exact (((ha.app hs).app hr).app hs).app hb
  have hs8 : NoB spB 38 := by unfold NoB; decide
  have r0 : bAt r 0 = 38 := by
    have := h.first
    rw [bAt_in h.pos]
    have e2 : r.data.toList[0]? = some (r[0]'h.pos) := List.getElem?_eq_getElem (show 0 < r.data.toList.length from h.pos)
    rw [e2] at this
    injection this with this
    rw [this]; rfl
  refine ⟨by omega, by omega, fun j hj => ?_, fun j => n60.all (by decide) j, ?_, fun j hj => ?_, ?_, ?_, ?_, ?_, h⟩
  · rcases Nat.lt_or_ge j (a.size + 1) with c | c
    · rw [atl j c] at hj
      exact absurd hj ((ha8.app hs8).all (by decide) j)
    · obtain ⟨d, rfl⟩ : ∃ d, j = a.size + 1 + d := ⟨j - (a.size + 1), by omega⟩
      rcases Nat.lt_or_ge d r.size with c2 | c2
      · rw [atr d c2] at hj
        rcases Nat.eq_zero_or_pos d with rfl | c3
        · rfl
        · exact absurd hj (h.only d c2 c3)
      · obtain ⟨q, rfl⟩ : ∃ q, d = r.size + q := ⟨d - r.size, by omega⟩
        rw [at2] at hj
        exact absurd hj ((hs8.app hb8).all (by decide) q)
  · rw [show a.size + 1 - 1 = a.size by omega, atl a.size (by omega)]
    have := sBat a spB 0
    rw [Nat.add_zero] at this
    rw [this]; decide
  · rw [atr j hj]; exact (h.plain j hj).2.2.2.2
  · have := show bAt (txS a r b) (a.size + 1 + r.size) = bAt (spB ++ b) 0 from at2 0
    rw [this, bAt_l (by decide)]; decide
  · have := sExt (a ++ spB) (r ++ (spB ++ b)) 0 r.size
    rw [e, ← z1, show (a ++ spB).size = (a ++ spB).size + 0 by omega]
    show (a ++ spB ++ (r ++ (spB ++ b))).extract ((a ++ spB).size + 0) ((a ++ spB).size + 0 + r.size) = r
    rw [Nat.add_zero] at *
    rw [this]
    exact ext_bAt (by rw [ByteArray.size_extract]; omega) fun i hi => by
      rw [ByteArray.size_extract] at hi
      rw [bAt_ext (by omega) (by omega), Nat.zero_add, bAt_l (by omega)]
  · have := atr 0 h.pos
    rw [Nat.add_zero] at this
    rw [this]; exact r0
  · have := Ch.sh_refI (a ++ spB) (r ++ (spB ++ b)) 0 false (by omega)
    rw [Nat.add_zero, ← e, z1] at this
    rw [this]; exact h.ref _
/-- The texts of ScanTexts' source, one behind the other. -/
theorem tx_all {a b r t : ByteArray} (h : RefOk r t) (ha : NoB a 60) (hb : NoB b 60) (ha8 : NoB a 38) (hb8 : NoB b 38) :
    (∀ x ∈ pcsP (cleanB (txS a r b)) 0 ⟨#[]⟩, x.kind = 3 ∨ x.kind = 6) ∧ (⟨(allT (pcsP (cleanB (txS a r b)) 0 ⟨#[]⟩)).toArray⟩ : ByteArray) = Ch.decB (cleanB (txS a r b)) false := by
  rw [tx_clean h]
  have c : ∀ {s : ByteArray} {v : Nat}, NoB s v → v < 128 → v ≠ 10 → NoB (cleanB s) v := fun h1 h2 h3 => h1.clean h2 h3
  obtain ⟨i1, i2⟩ := texts (tx_ok h (c ha (by decide) (by decide)) (c hb (by decide) (by decide)) (c ha8 (by decide) (by decide)) (c hb8 (by decide) (by decide))) _ 0 (Nat.le_refl _) (Nat.zero_le _) (.inl (Nat.zero_le _))
  refine ⟨i1, ?_⟩
  rw [i2]
  unfold Ch.decB
  rfl
end Go.Proofs.YtbdgoffbkenofaaGreat.Sc
namespace Go.Proofs.YtbdgoffbkenofaaGreat.Wk
open Go Go.RowKit Go.Proofs.YtbdgoffbkenofaaGreat.Tk Go.Proofs.YtbdgoffbkenofaaGreat.Tr Go.Proofs.YtbdgoffbkenofaaGreat.Sc
set_option linter.unusedVariables false
set_option linter.unusedSimpArgs false
set_option maxRecDepth 100000

theorem dec_len (s : ByteArray) (attr : Bool) : ∀ n k, s.size - k ≤ n → (Ch.decK s attr k).length ≤ 4 * (s.size - k)
  | 0, k, h => by rw [Ch.decK_end (by omega)]; exact Nat.zero_le _
  | n + 1, k, h => by
    by_cases hk : k < s.size
    · by_cases h38 : s[k].toNat = 38
      · obtain ⟨b1, b2, b3, _⟩ := Ch.refI_bd s k attr hk
        have b4 := b3 h38
        have ih := dec_len s attr n (k + (Ch.refI s k attr).2) (by omega)
        rw [Ch.decK_ref hk h38, List.length_append]
        have : (Ch.refI s k attr).1.data.toList.length = (Ch.refI s k attr).1.size := rfl
        omega
      · have ih := dec_len s attr n (k + 1) (by omega)
        rw [Ch.decK_one hk h38, List.length_cons]
        omega
    · rw [Ch.decK_end (by omega)]; exact Nat.zero_le _
theorem decB_len (s : ByteArray) (attr : Bool) : (Ch.decB s attr).size ≤ 4 * s.size := by
  have := dec_len s attr _ 0 (Nat.le_refl _)
  unfold Ch.decB
  show (Ch.decK s attr 0).toArray.size ≤ _
  rw [List.size_toArray]; omega
theorem pcsF_len2 (s : ByteArray) : ∀ n a raw, (pcsF s n a raw).length ≤ n + 1
  | 0, a, raw => Nat.le_refl _
  | n + 1, a, raw => by
    unfold pcsF
    split
    · simp
    · split
      · have := pcsF_len2 s n (nextP s a raw).2.1 (rawNx raw (nextP s a raw).1); simp; omega
      · have := pcsF_len2 s n (nextP s a raw).2.1 raw; omega
theorem pcsP_len2 (s : ByteArray) : (pcsP s 0 ⟨#[]⟩).length ≤ s.size + 1 := pcsF_len2 s _ 0 _
theorem tr_ix (k : Nat) (hk : k < 4) : ∃ r t : ByteArray, (∀ w : World, (Instr.index 35 (.agg #[.string ⟨#[38, 97, 109, 112, 59]⟩, .string ⟨#[38, 35, 54, 53, 59]⟩, .string ⟨#[38, 108, 116, 59]⟩, .string ⟨#[38, 110, 98, 115, 112, 59]⟩]) (.int .i64 k)).run Tryz.prog w = .ok (.string r) w) ∧ RefOk r t := by
  have h : k = 0 ∨ k = 1 ∨ k = 2 ∨ k = 3 := by omega
  rcases h with rfl | rfl | rfl | rfl
  · exact ⟨_, _, fun w => by kernel_rfl, ref_amp⟩
  · exact ⟨_, _, fun w => by kernel_rfl, ref_num⟩
  · exact ⟨_, _, fun w => by kernel_rfl, ref_lt⟩
  · exact ⟨_, _, fun w => by kernel_rfl, ref_nbsp⟩
theorem noB_parts {a b : ByteArray} {c : Nat} (h : ∀ j, j < a.size + b.size → bAt (a ++ b) j ≠ c) : NoB a c ∧ NoB b c := by
  refine ⟨fun i hi => ?_, fun i hi => ?_⟩
  · have := h i (by omega)
    rwa [bAt_l hi] at this
  · have := h (a.size + i) (by omega)
    rwa [sBat] at this
/-- What ScanTexts asks of the pieces. -/
structure TxtOk (L : List Tok) (D : ByteArray) : Prop where
  kinds : ∀ x ∈ L, x.kind = 3 ∨ x.kind = 6
  all : allT L = D.data.toList
theorem txt_ok {a b r t : ByteArray} (h : RefOk r t) (hb : ∀ j, j < a.size + b.size → bAt (a ++ b) j ≠ 60 ∧ bAt (a ++ b) j ≠ 38) : TxtOk (pcsP (cleanB (txS a r b)) 0 ⟨#[]⟩) (Ch.decB (cleanB (txS a r b)) false) := by
  obtain ⟨a60, b60⟩ := noB_parts (c := 60) fun j hj => (hb j hj).1
  obtain ⟨a38, b38⟩ := noB_parts (c := 38) fun j hj => (hb j hj).2
  obtain ⟨h1, h2⟩ := tx_all h a60 b60 a38 b38
  exact ⟨h1, congrArg (fun x => x.data.toList) h2⟩
/-- The texts so far, and those to come. -/
def SoFar (L : List Tok) (i : Nat) (out : ByteArray) : Prop := out.data.toList ++ allT (L.drop i) = allT L
theorem soFar_text {L : List Tok} {i : Nat} {out : ByteArray} {x : Tok} (h : SoFar L i out) (hx : L[i]? = some x) (hk : x.kind = 3) : SoFar L (i + 1) (out ++ x.text) ∧ out.size + x.text.size ≤ (allT L).length := by
  have hi : i < L.length := by
    rcases Nat.lt_or_ge i L.length with h | h
    · exact h
    · rw [List.getElem?_eq_none h] at hx; cases hx
  have e : L.drop i = x :: L.drop (i + 1) := by
    rw [List.drop_eq_getElem_cons hi]
    rw [List.getElem?_eq_getElem hi] at hx
    injection hx with hx; rw [hx]
  unfold SoFar at h ⊢
  rw [e] at h
  have e2 : allT (x :: L.drop (i + 1)) = x.text.data.toList ++ allT (L.drop (i + 1)) := by
    show (if x.kind = 3 then x.text.data.toList else []) ++ _ = _
    rw [if_pos hk]; rfl
  rw [e2] at h
  refine ⟨by rw [ByteArray.toList_data_append, List.append_assoc]; exact h, ?_⟩
  have := congrArg List.length h
  rw [List.length_append, List.length_append] at this
  have h1 : out.data.toList.length = out.size := rfl
  have h2 : x.text.data.toList.length = x.text.size := rfl
  omega
theorem soFar_skip {L : List Tok} {i : Nat} {out : ByteArray} {x : Tok} (h : SoFar L i out) (hx : L[i]? = some x) (hk : ¬ x.kind = 3) : SoFar L (i + 1) out := by
  have hi : i < L.length := by
    rcases Nat.lt_or_ge i L.length with h | h
    · exact h
    · rw [List.getElem?_eq_none h] at hx; cases hx
  have e : L.drop i = x :: L.drop (i + 1) := by
    rw [List.drop_eq_getElem_cons hi]
    rw [List.getElem?_eq_getElem hi] at hx
    injection hx with hx; rw [hx]
  unfold SoFar at h ⊢
  rw [e] at h
  have e2 : allT (x :: L.drop (i + 1)) = allT (L.drop (i + 1)) := by
    show (if x.kind = 3 then x.text.data.toList else []) ++ _ = _
    rw [if_neg hk]; rfl
  rw [e2] at h; exact h
theorem soFar_end {L : List Tok} {i : Nat} {out D : ByteArray} (h : SoFar L i out) (hi : L.length ≤ i) (hD : allT L = D.data.toList) : out = D := by
  unfold SoFar at h
  rw [List.drop_eq_nil_of_le hi, hD] at h
  apply Sr.bytes_eq.1
  rw [← h]; exact (List.append_nil _).symm
set_option maxHeartbeats 16000000 in
theorem scanTexts (a b : ByteArray) (m : Int) (w0 : a.size ≤ maxLen) (w1 : b.size ≤ maxLen) (u2 : (Lit.int .i64 m).wf = true) (w : World) :
    Calls Tryz.prog 5 #[.string a, .string b, .int .i64 m] w fun e w' => e = .returned (.bool true) ∧ Below w.heap.size w w' := by
  by_cases hl : 500 < a.size
  · go_enter Tryz.func5, Tryz.ntmps5
    go_wp2_with fail
    refine (Sc.awake_calls _).mono ?_
    rintro e w1 ⟨rfl, hb⟩
    go_wp2_with fail
    go_ret
    exact ⟨rfl, hb⟩
  by_cases hl2 : 500 < b.size
  · go_enter Tryz.func5, Tryz.ntmps5
    go_wp2_with fail
    refine (Sc.awake_calls _).mono ?_
    rintro e w1 ⟨rfl, hb⟩
    go_wp2_with fail
    go_ret
    exact ⟨rfl, hb⟩
  have hza : a.size ≤ 500 := by omega
  have hzb : b.size ≤ 500 := by omega
  have P1 := Lib.hid (placeN_calls m 4 (by decide) (by decide) 4 rfl)
  have hk4 := placeN_lt m (n := 4) (by decide)
  obtain ⟨r, t, X1, hr⟩ := tr_ix (placeN m 4) hk4
  generalize placeN m 4 = pn at *
  have hrz := hr.le
  have hsz : (txS a r b).size ≤ 1008 := by
    unfold txS spB
    simp only [ByteArray.size_append]
    have : (⟨#[32]⟩ : ByteArray).size = 1 := rfl
    omega
  have HN := Lib.hid (all_as (txS a r b) (by omega))
  have HCL := Lib.hid (fun W => Rc.rclean_calls (txS a r b) W (by omega))
  have HTO := Lib.hid (fun hb => txt_ok (a := a) (b := b) hr hb)
  have hcz := cleanB_size (txS a r b)
  have hcl : ∀ s : ByteArray, (⟨(Rc.clean s.data.toList).toArray⟩ : ByteArray) = cleanB s := fun s => rfl
  rw [hcl] at HCL
  generalize cleanB (txS a r b) = C at *
  have HDE := Lib.hid (Ch.rdecode_calls C (by omega) false)
  have hdz := decB_len C false
  generalize Ch.decB C false = D at *
  unfold txS spB at HN HCL
  have HDZ : Hid (D.size ≤ 20000) := Lib.hid (by omega)
  have HCZ : Hid (C.size ≤ 3024) := Lib.hid (by omega)
  clear hcz hcl hdz hsz hr w0 w1 u2 hl hl2
  go_enter Tryz.func5, Tryz.ntmps5
  go_wp2_with fail
  go_loop [7] (fun t7 => ∃ i : Nat, t7 = .int .i64 (i : Int) ∧ Hid (i ≤ a.size + b.size) ∧ Hid (∀ j, j < i → bAt (a ++ b) j ≠ 60 ∧ bAt (a ++ b) j ≠ 38)) (fun t7 => a.size + b.size - (intOf t7).toNat)
  case atStart => exact ⟨0, rfl, Lib.hid (Nat.zero_le _), Lib.hid (fun j hj => absurd hj (Nat.not_lt_zero _))⟩
  case round =>
    obtain ⟨i, rfl, HI, HJ⟩ := hrel
    by_cases hlt : i < a.size + b.size
    · have k1 : (i : Int) < (a.size : Int) + (b.size : Int) := by omega
      have HLT := Lib.hid hlt
      have HNX : Hid (bAt (a ++ b) i ≠ 60 → bAt (a ++ b) i ≠ 38 → ∀ j, j < i + 1 → bAt (a ++ b) j ≠ 60 ∧ bAt (a ++ b) j ≠ 38) := Lib.hid fun h1 h2 j hj => by
        rcases Nat.lt_or_ge j i with h | h
        · exact HJ.out j h
        · obtain rfl : j = i := by omega
          exact ⟨h1, h2⟩
      by_cases ha : i < a.size
      · have k2 : (i : Int) < (a.size : Int) := by omega
        have hi0 : ∀ w : World, (Instr.index 9 (.string a) (.int .i64 (i : Int))).run Tryz.prog w = .ok (.int .u8 (bAt a i : Nat)) w := fun w => Ch.run_at a i ha rfl (bAt_in ha).symm w
        rw [bAt_l ha] at HNX
        generalize bAt a i = c at *
        clear hlt ha
        by_cases c60 : c = 60
        · subst c60
          go_wp2_with fail
          refine (Sc.awake_calls _).mono ?_
          rintro e w1 ⟨rfl, hb⟩
          go_wp2_with fail
          go_ret
          exact ⟨rfl, hb⟩
        have q60 : ((c : Int) == 60) = false := by rw [beq_eq_false_iff_ne]; omega
        by_cases c38 : c = 38
        · subst c38
          go_wp2_with fail
          refine (Sc.awake_calls _).mono ?_
          rintro e w1 ⟨rfl, hb⟩
          go_wp2_with fail
          go_ret
          exact ⟨rfl, hb⟩
        have q38 : ((c : Int) == 38) = false := by rw [beq_eq_false_iff_ne]; omega
        have HNY := Lib.hid (HNX.out c60 c38)
        clear c60 c38
        go_wp2_with fail
        go_round
        case rel => exact ⟨i + 1, by go_num, Lib.hid HLT.out, HNY⟩
        case measure => simp [intOf]; have := HLT.out; omega
      · have k2 : ¬ (i : Int) < (a.size : Int) := by omega
        have hd : i - a.size < b.size := by omega
        have k5 : (i : Int) - (a.size : Int) = ((i - a.size : Nat) : Int) := by omega
        rw [bAt_r (by omega)] at HNX
        generalize i - a.size = d at *
        have hi0 : ∀ w : World, (Instr.index 9 (.string b) (.int .i64 (d : Int))).run Tryz.prog w = .ok (.int .u8 (bAt b d : Nat)) w := fun w => Ch.run_at b d hd rfl (bAt_in hd).symm w
        have k6 : (d : Int) < (b.size : Int) := by omega
        generalize bAt b d = c at *
        clear hlt ha hd
        by_cases c60 : c = 60
        · subst c60
          go_wp2_with fail
          refine (Sc.awake_calls _).mono ?_
          rintro e w1 ⟨rfl, hb⟩
          go_wp2_with fail
          go_ret
          exact ⟨rfl, hb⟩
        have q60 : ((c : Int) == 60) = false := by rw [beq_eq_false_iff_ne]; omega
        by_cases c38 : c = 38
        · subst c38
          go_wp2_with fail
          refine (Sc.awake_calls _).mono ?_
          rintro e w1 ⟨rfl, hb⟩
          go_wp2_with fail
          go_ret
          exact ⟨rfl, hb⟩
        have q38 : ((c : Int) == 38) = false := by rw [beq_eq_false_iff_ne]; omega
        have HNY := Lib.hid (HNX.out c60 c38)
        clear c60 c38
        go_wp2_with fail
        go_round
        case rel => exact ⟨i + 1, by go_num, Lib.hid HLT.out, HNY⟩
        case measure => simp [intOf]; have := HLT.out; omega
    · have k1 : ¬ (i : Int) < (a.size : Int) + (b.size : Int) := by omega
      have HTK := Lib.hid (HTO.out fun j hj => HJ.out j (by have := HI.out; omega))
      clear HTO
      go_wp2_with fail
      refine (P1.out _).mono ?_
      rintro e w1 ⟨rfl, rfl⟩
      go_wp2_with fail
      refine (HN.out _).mono ?_
      rintro e w2 ⟨g, ac, xs, rfl, hx, ht, hb⟩
      have HB := Lib.hid hb
      have HT := Lib.hid ht
      have HXX := Lib.hid hx
      have lx : xs.length ≤ 20000 := by
        have := pcsP_len2 C
        have := HCZ.out
        rw [← List.length_map (f := Prod.fst), hx]; omega
      obtain ⟨n, hn⟩ : ∃ n, xs.length = n := ⟨_, rfl⟩
      rw [hn] at lx ⊢
      have HNN := Lib.hid hn
      clear hb ht hx hn P1 X1 HN
      have HTX : Hid (TxtOk (xs.map Prod.fst) D) := Lib.hid (by rw [HXX.out]; exact HTK.out)
      have HS0 : Hid (SoFar (xs.map Prod.fst) 0 ⟨#[]⟩) := Lib.hid rfl
      clear HTK HXX HI HJ hza hzb hrz
      go_wp2_with fail
      go_loop [11, 13] (fun t11 t13 => ∃ (j : Nat) (out : ByteArray), t11 = .string out ∧ t13 = .int .i64 (j : Int) ∧ Hid (j ≤ n) ∧ Hid (SoFar (xs.map Prod.fst) j out)) (fun _ t13 => n - (intOf t13).toNat)
      case atStart => exact ⟨0, _, rfl, rfl, Lib.hid (Nat.zero_le _), HS0⟩
      case round =>
        obtain ⟨j, out, rfl, rfl, HJ2, HSF⟩ := hrel
        by_cases hj : j < n
        · have hxj : xs[j]? = some (xs[j]'(by have := HNN.out; omega)) := List.getElem?_eq_getElem _
          generalize xs[j]'(by have := HNN.out; omega) = x at hxj
          obtain ⟨c0, _, c2, _, _⟩ := HT.out.at_ j x hxj
          have hmj : (xs.map Prod.fst)[j]? = some x.1 := by rw [List.getElem?_map, hxj]; rfl
          have hkk := HTX.out.kinds x.1 (List.mem_of_getElem? hmj)
          have j1 : (j : Int) < (n : Int) := by omega
          have HLJ := Lib.hid hj
          by_cases h3 : x.1.kind = 3
          · have q3 : (x.1.kind == 3) = true := by rw [h3]; rfl
            obtain ⟨s1, s2⟩ := soFar_text HSF.out hmj h3
            have hz2 : out.size + x.1.text.size ≤ 20000 := by
              rw [HTX.out.all] at s2
              have h1 : D.data.toList.length = D.size := rfl
              have := HDZ.out
              omega
            have HS1 := Lib.hid s1
            clear s1 s2 h3 hkk hmj hxj hj
            go_wp2_with fail
            go_round
            case rel => exact ⟨j + 1, _, rfl, by go_num, Lib.hid HLJ.out, HS1⟩
            case measure => simp [intOf]; have := HLJ.out; omega
          · have q3 : (x.1.kind == 3) = false := by rw [beq_eq_false_iff_ne]; exact h3
            have q6 : (x.1.kind != 6) = false := by rw [bne_eq_false_iff_eq]; omega
            have HS1 := Lib.hid (soFar_skip HSF.out hmj h3)
            clear h3 hkk hmj hxj hj
            go_wp2_with fail
            go_round
            case rel => exact ⟨j + 1, _, rfl, by go_num, Lib.hid HLJ.out, HS1⟩
            case measure => simp [intOf]; have := HLJ.out; omega
        · have j1 : ¬ (j : Int) < (n : Int) := by omega
          have hod := soFar_end HSF.out (by rw [List.length_map]; have := HNN.out; omega) HTX.out.all
          subst hod
          clear HTX HSF hj
          go_wp2_with fail
          refine (HCL.out _).mono ?_
          rintro e w3 ⟨rfl, hw3⟩
          obtain rfl : w2 = w3 := hw3
          go_wp2_with fail
          refine (HDE.out _).mono ?_
          rintro e w4 ⟨rfl, hb4⟩
          have HB4 := Lib.hid (HB.out.trans (hb4.mono HB.out.size))
          clear hb4
          go_wp2_with fail
          refine (Sc.awake_calls _).mono ?_
          rintro e w5 ⟨rfl, hb5⟩
          have HB5 := Lib.hid (HB4.out.trans (hb5.mono HB4.out.size))
          clear hb5
          go_wp2_with fail
          go_ret
          exact ⟨rfl, HB5.out⟩
end Go.Proofs.YtbdgoffbkenofaaGreat.Wk
