/- token: plain: tags with attributes. -/
import Derived.Test.YtbdgoffbkenofaaGreatTkPr
namespace Go.Proofs.YtbdgoffbkenofaaGreat.Tk
open Go Go.RowKit
set_option linter.unusedVariables false

/-- An attribute as it stands: what parts it, its name, its quote, its value. -/
structure Chk where
  sep : ByteArray
  nm : ByteArray
  q : ByteArray
  v : ByteArray
def blkN (c : Nat) : Bool := blankN c || decide (c = 47)
/-- Such as TokenTags makes. -/
structure ChkOk (c : Chk) : Prop where
  s0 : 0 < c.sep.size
  s1 : blankN (bAt c.sep 0) = true
  s2 : ∀ i, i < c.sep.size → blkN (bAt c.sep i) = true
  n0 : c.nm.size = 2
  n1 : bAt c.nm 0 = 107
  n2 : 48 ≤ bAt c.nm 1 ∧ bAt c.nm 1 ≤ 57
  q0 : c.q = ⟨#[]⟩ ∨ c.q = ⟨#[34]⟩ ∨ c.q = ⟨#[39]⟩
  v0 : 0 < c.v.size
  v1 : ∀ i, i < c.v.size → 97 ≤ bAt c.v i ∧ bAt c.v i ≤ 122
def eqB : ByteArray := ⟨#[61]⟩
def stepC (s : ByteArray) (c : Chk) : ByteArray := (((((s ++ c.sep) ++ c.nm) ++ eqB) ++ c.q) ++ c.v) ++ c.q
def srcC (s : ByteArray) (cs : List Chk) : ByteArray := cs.foldl stepC s
theorem srcC_snoc (s : ByteArray) (cs : List Chk) (c : Chk) : srcC s (cs ++ [c]) = stepC (srcC s cs) c := by unfold srcC; rw [List.foldl_append]; rfl
theorem Has.step {s x : ByteArray} {k : Nat} (h : Has s k x) (c : Chk) : Has (stepC s c) k x := (((((h.l _).l _).l _).l _).l _).l _
theorem Has.src {s x : ByteArray} {k : Nat} (h : Has s k x) : ∀ cs : List Chk, Has (srcC s cs) k x
  | [] => h
  | c :: cs => Has.src (h.step c) cs
theorem stepC_size (s : ByteArray) (c : Chk) : (stepC s c).size = s.size + c.sep.size + c.nm.size + 1 + c.q.size + c.v.size + c.q.size := by
  unfold stepC
  simp only [ByteArray.size_append, show eqB.size = 1 from rfl]
/-- Where an attribute's parts stand. -/
structure Stands (S : ByteArray) (k : Nat) (c : Chk) : Prop where
  a : Has S k c.sep
  b : Has S (k + c.sep.size) c.nm
  e : Has S (k + c.sep.size + c.nm.size) eqB
  q : Has S (k + c.sep.size + c.nm.size + 1) c.q
  v : Has S (k + c.sep.size + c.nm.size + 1 + c.q.size) c.v
  r : Has S (k + c.sep.size + c.nm.size + 1 + c.q.size + c.v.size) c.q
theorem stands_src (s : ByteArray) (c : Chk) (cs : List Chk) (t : ByteArray) : Stands (srcC (stepC s c) cs ++ t) s.size c := by
  have z : eqB.size = 1 := rfl
  have A := ((((((has_r s c.sep).l c.nm).l eqB).l c.q).l c.v).l c.q)
  have B := (((((has_r (s ++ c.sep) c.nm).l eqB).l c.q).l c.v).l c.q)
  have E := ((((has_r ((s ++ c.sep) ++ c.nm) eqB).l c.q).l c.v).l c.q)
  have Q := (((has_r (((s ++ c.sep) ++ c.nm) ++ eqB) c.q).l c.v).l c.q)
  have V := ((has_r ((((s ++ c.sep) ++ c.nm) ++ eqB) ++ c.q) c.v).l c.q)
  have R := (has_r (((((s ++ c.sep) ++ c.nm) ++ eqB) ++ c.q) ++ c.v) c.q)
  simp only [ByteArray.size_append, z] at B E Q V R
  exact ⟨(A.src cs).l t, (B.src cs).l t, (E.src cs).l t, (Q.src cs).l t, (V.src cs).l t, (R.src cs).l t⟩
theorem low_plain {c : Nat} (h : 97 ≤ c ∧ c ≤ 122) : blankN c = false ∧ c ≠ 62 ∧ c ≠ 34 ∧ c ≠ 39 ∧ c ≠ 38 := by
  refine ⟨decide_eq_false (by omega), by omega, by omega, by omega, by omega⟩
/-- One attribute read. -/
theorem attr_chk {S : ByteArray} {k : Nat} {c : Chk} (hc : ChkOk c) (h : Stands S k c) {m : Nat} (hm : k + c.sep.size + c.nm.size + 1 + c.q.size + c.v.size + c.q.size = m) (hend : m < S.size → blankN (bAt S m) = true) :
    attrP S (k + c.sep.size) = some (c.nm, c.v, m) := by
  have hz := h.r.le
  have n0 := hc.n0
  have v0 := hc.v0
  have e0 : eqB.size = 1 := rfl
  have b1 : upT (fun c => closesN c || decide (c = 61)) S (k + c.sep.size + 1) = k + c.sep.size + c.nm.size := by
    refine upT_eq (by omega) (by omega) (fun j h1 h2 => ?_) (fun _ => ?_)
    · obtain rfl : j = k + c.sep.size + 1 := by omega
      rw [h.b.one (i := 1) (by omega) rfl]
      have := hc.n2
      unfold closesN blankN
      rw [Bool.or_eq_false_iff, Bool.or_eq_false_iff, Bool.or_eq_false_iff]
      refine ⟨⟨⟨decide_eq_false ?_, decide_eq_false ?_⟩, decide_eq_false ?_⟩, decide_eq_false ?_⟩ <;> omega
    · rw [h.e.one (i := 0) (by decide) (by omega)]; decide
  have b2 : pastP S (k + c.sep.size + c.nm.size) = k + c.sep.size + c.nm.size := upT_eq (Nat.le_refl _) (by omega) (fun j h1 h2 => by omega) (fun _ => by
    rw [h.e.one (i := 0) (by decide) (by omega)]; decide)
  have hn : namedP (S.extract (k + c.sep.size) (k + c.sep.size + c.nm.size)) = c.nm := by
    rw [h.b.ext]
    refine named_plain rfl (fun i hi => ?_) (fun i hi => ?_)
    · have : i = 0 ∨ i = 1 := by omega
      rcases this with rfl | rfl
      · rw [hc.n1]; decide
      · have := hc.n2; unfold lowN; rw [if_neg (by omega)]
    · have : i = 0 ∨ i = 1 := by omega
      rcases this with rfl | rfl
      · rw [hc.n1]; decide
      · have := hc.n2; omega
  have hq61 : bAt S (k + c.sep.size + c.nm.size) = 61 := (h.e.one (i := 0) (by decide) (by omega)).trans (by decide)
  have hown : ∀ attr, Ch.decB c.v attr = c.v := fun attr => decB_own fun i hi => (low_plain (hc.v1 i hi)).2.2.2.2
  have hv0 := low_plain (hc.v1 0 v0)
  unfold attrP
  dsimp only
  rw [b1, hn, b2, if_neg (by rintro (x | x); omega; exact x hq61)]
  rcases hc.q0 with hq | hq | hq
  · have q0 : c.q.size = 0 := by rw [hq]; rfl
    have hv := h.v
    rw [q0] at hm hz hv
    have b3 : pastP S (k + c.sep.size + c.nm.size + 1) = k + c.sep.size + c.nm.size + 1 := upT_eq (Nat.le_refl _) (by omega) (fun j h1 h2 => by omega) (fun _ => by
      rw [hv.one (i := 0) v0 (by omega), hv0.1]; rfl)
    have hb : bAt S (k + c.sep.size + c.nm.size + 1) = bAt c.v 0 := hv.one (i := 0) v0 (by omega)
    have b4 : upT (fun c => blankN c || decide (c = 62)) S (k + c.sep.size + c.nm.size + 1) = m := by
      refine upT_eq (by omega) (by omega) (fun j h1 h2 => ?_) (fun hlt => by rw [hend hlt]; rfl)
      rw [hv.one (i := j - (k + c.sep.size + c.nm.size + 1)) (by omega) (by omega)]
      have := low_plain (hc.v1 (j - (k + c.sep.size + c.nm.size + 1)) (by omega))
      rw [this.1, decide_eq_false this.2.1]; rfl
    rw [b3, if_neg (by omega), if_neg (by rw [hb]; exact fun x => x.elim hv0.2.2.1 hv0.2.2.2.1), b4]
    have hx := hv.ext
    rw [show k + c.sep.size + c.nm.size + 1 + 0 + c.v.size = m by omega, Nat.add_zero] at hx
    rw [hx, hown]
  all_goals
    have q0 : c.q.size = 1 := by rw [hq]; rfl
    have hv := h.v
    have hr := h.r
    have hqq := h.q
    have hqb : bAt c.q 0 = 34 ∨ bAt c.q 0 = 39 := by rw [hq]; decide
    rw [q0] at hm hz hv hr
    have b3 : pastP S (k + c.sep.size + c.nm.size + 1) = k + c.sep.size + c.nm.size + 1 := upT_eq (Nat.le_refl _) (by omega) (fun j h1 h2 => by omega) (fun _ => by
      rw [hqq.one (i := 0) (by omega) (by omega)]
      rcases hqb with x | x <;> rw [x] <;> decide)
    have hb : bAt S (k + c.sep.size + c.nm.size + 1) = bAt c.q 0 := hqq.one (i := 0) (by omega) (by omega)
    have b4 : upT (fun c' => decide (c' = bAt S (k + c.sep.size + c.nm.size + 1))) S (k + c.sep.size + c.nm.size + 1 + 1) = k + c.sep.size + c.nm.size + 1 + 1 + c.v.size := by
      rw [hb]
      refine upT_eq (by omega) (by omega) (fun j h1 h2 => ?_) (fun hlt => ?_)
      · rw [hv.one (i := j - (k + c.sep.size + c.nm.size + 1 + 1)) (by omega) (by omega)]
        have := low_plain (hc.v1 (j - (k + c.sep.size + c.nm.size + 1 + 1)) (by omega))
        exact decide_eq_false (fun x => by omega)
      · rw [hr.one (i := 0) (by omega) (by omega)]
        exact decide_eq_true rfl
    rw [b3, if_neg (by omega), if_pos (by rw [hb]; exact hqb), b4, if_neg (by omega)]
    have hx := hv.ext
    rw [hx, hown]
    rw [show k + c.sep.size + c.nm.size + 1 + 1 + c.v.size + 1 = m by omega]
end Go.Proofs.YtbdgoffbkenofaaGreat.Tk
