/- scan: plain: a tag without attributes, anywhere in a source. -/
import Derived.Test.YtbdgoffbkenofaaGreatTkPu
import Derived.Test.YtbdgoffbkenofaaGreatScA
import Derived.Test.YtbdgoffbkenofaaGreatTkPb
import Derived.Test.YtbdgoffbkenofaaGreatTkPo
import Derived.Test.YtbdgoffbkenofaaGreatTkPh
namespace Go.Proofs.YtbdgoffbkenofaaGreat.Sc
open Go Go.RowKit Go.Proofs.YtbdgoffbkenofaaGreat.Tk
set_option linter.unusedVariables false

def gtB : ByteArray := ⟨#[62]⟩
/-- <n> or </n>, at a place. -/
theorem tag_plain {S n : ByteArray} {a : Nat} (start : Bool) (hn : NameOk n) (H0 : Has S a (preB start)) (H1 : Has S (a + (preB start).size) n) (H2 : Has S (a + (preB start).size + n.size) gtB) :
    nextP S a ⟨#[]⟩ = (⟨if start then 1 else 2, n, ⟨#[]⟩, [], false⟩, a + (preB start).size + n.size + 1, true) := by
  have hp := hn.pos
  have hz := H2.le
  have zg : gtB.size = 1 := rfl
  have he : upT closesN S (a + (preB start).size) = a + (preB start).size + n.size := upT_eq (by omega) (by omega) (fun j h1 h2 => by
    rw [H1.one (i := j - (a + (preB start).size)) (by omega) (by omega)]
    exact (hn.ok _ (by omega)).1) (fun _ => by rw [H2.one (i := 0) (by decide) (by omega)]; decide)
  have h62 : bAt S (a + (preB start).size + n.size) = 62 := (H2.one (i := 0) (by decide) (by omega)).trans (by decide)
  have hg : upT (fun c => !blankN c && !decide (c = 47)) S (a + (preB start).size + n.size) = a + (preB start).size + n.size := upT_eq (Nat.le_refl _) (by omega) (fun j h1 h2 => by omega) (fun _ => by rw [h62]; decide)
  have hnm : namedP (S.extract (a + (preB start).size) (a + (preB start).size + n.size)) = n := by
    rw [H1.ext]
    exact named_plain rfl (fun i hi => (hn.ok i hi).2.1) (fun i hi => (hn.ok i hi).2.2)
  have hat : attrsP S start (S.size + 1 - (a + (preB start).size + n.size)) (a + (preB start).size + n.size) [] = some ([], a + (preB start).size + n.size) := by
    rw [show S.size + 1 - (a + (preB start).size + n.size) = (S.size - (a + (preB start).size + n.size)) + 1 by omega]
    unfold attrsP
    dsimp only
    rw [hg, if_neg (by omega), if_pos h62]
  have ht : tagP S (a + (preB start).size) start = (⟨if start then 1 else 2, n, ⟨#[]⟩, [], false⟩, a + (preB start).size + n.size + 1, true) := by
    unfold tagP
    dsimp only
    rw [he, hat, hnm]
    show ((⟨if start then 1 else 2, n, ⟨#[]⟩, sortP [], false⟩, a + (preB start).size + n.size + 1, true) : Out) = _
    rw [show sortP [] = [] from List.mergeSort_nil]
  rw [← ht]
  cases start with
  | true =>
    have z : (preB true).size = 1 := rfl
    rw [z] at H1 ⊢
    exact next_start ((H0.one (i := 0) (by decide) (by omega)).trans (by decide)) (letter_at.2 ⟨by omega, by rw [H1.one (i := 0) hp (by omega)]; exact hn.let_⟩)
  | false =>
    have z : (preB false).size = 2 := rfl
    rw [z] at H1 ⊢
    exact next_close ((H0.one (i := 0) (by decide) (by omega)).trans (by decide)) ((H0.one (i := 1) (by decide) (by omega)).trans (by decide)) (letter_at.2 ⟨by omega, by rw [H1.one (i := 0) hp (by omega)]; exact hn.let_⟩)
end Go.Proofs.YtbdgoffbkenofaaGreat.Sc
namespace Go.Proofs.YtbdgoffbkenofaaGreat.Sc
open Go Go.RowKit Go.Lib Go.Proofs.YtbdgoffbkenofaaGreat.Tk
set_option linter.unusedVariables false

theorem clean_one : ∀ n, n < 128 → n ≠ 0 → n ≠ 13 → validD [UInt8.ofNat n] = true ∧ Rc.clean [UInt8.ofNat n] = [UInt8.ofNat n] := by decide +kernel
theorem clean_plain : ∀ l : List UInt8, (∀ x ∈ l, x.toNat < 128 ∧ x.toNat ≠ 0 ∧ x.toNat ≠ 13) → Rc.clean l = l
  | [], _ => rfl
  | c :: b, h => by
    obtain ⟨h1, h2, h3⟩ := h c (List.mem_cons_self ..)
    obtain ⟨k1, k2⟩ := clean_one c.toNat h1 h2 h3
    have e : UInt8.ofNat c.toNat = c := UInt8.ofNat_toNat
    rw [e] at k1 k2
    have hl : [c].getLast? ≠ some 13 := by
      intro x; simp at x; rw [x] at h3; exact h3 rfl
    have := Rc.clean_append b [c] k1 hl
    rw [k2, clean_plain b (fun x hx => h x (List.mem_cons_of_mem _ hx))] at this
    exact this
theorem cleanB_plain {s : ByteArray} (h : ∀ i, i < s.size → bAt s i < 128 ∧ bAt s i ≠ 0 ∧ bAt s i ≠ 13) : cleanB s = s := by
  apply Sr.bytes_eq.1
  show Rc.clean s.data.toList = s.data.toList
  refine clean_plain _ fun x hx => ?_
  obtain ⟨i, hi, rfl⟩ := List.getElem_of_mem hx
  have hi' : i < s.size := hi
  have := h i hi'
  rw [bAt_in hi'] at this
  exact this
end Go.Proofs.YtbdgoffbkenofaaGreat.Sc
namespace Go.Proofs.YtbdgoffbkenofaaGreat.Sc
open Go Go.RowKit Go.Proofs.YtbdgoffbkenofaaGreat.Tk
set_option linter.unusedVariables false

def bxB : ByteArray := ⟨#[60, 98, 62, 120, 60, 47, 105, 62]⟩
def repB (s : ByteArray) : Nat → ByteArray
  | 0 => s
  | k + 1 => repB s k ++ bxB
theorem repB_size (s : ByteArray) : ∀ k, (repB s k).size = s.size + 8 * k
  | 0 => rfl
  | k + 1 => by
    show (repB s k ++ bxB).size = _
    rw [ByteArray.size_append, repB_size s k, show bxB.size = 8 from rfl]; omega
theorem repB_l (s : ByteArray) : ∀ k, Has (repB s k) 0 s
  | 0 => ⟨by show 0 + s.size ≤ s.size; omega, fun i hi => by show bAt s (0 + i) = _; rw [Nat.zero_add]⟩
  | k + 1 => (repB_l s k).l bxB
theorem repB_at (s : ByteArray) : ∀ k i, i < k → Has (repB s k) (s.size + 8 * i) bxB
  | k + 1, i, h => by
    by_cases e : i = k
    · subst e
      exact (has_r (repB s i) bxB).to (repB_size s i)
    · exact (repB_at s k i (by omega)).l bxB
def stB (n : ByteArray) : ByteArray := ((⟨#[60]⟩ : ByteArray) ++ n) ++ ⟨#[62]⟩
def rwS (n : ByteArray) (k : Nat) : ByteArray := ((repB (stB n) k ++ ⟨#[60, 47]⟩) ++ n) ++ ⟨#[62, 60, 98, 62]⟩
/-- A raw element's name. -/
structure RwN (n : ByteArray) : Prop where
  two : 2 ≤ n.size
  low : ∀ i, i < n.size → 97 ≤ bAt n i ∧ bAt n i ≤ 122
  ok : NameOk n
  raw : rawP n ≠ 0
theorem bNm : NameOk ⟨#[98]⟩ := ⟨by decide, by decide +kernel, by decide +kernel⟩
theorem rw_pieces {n : ByteArray} (h : RwN n) (k : Nat) : pcsP (rwS n k) 0 ⟨#[]⟩ =
    ⟨1, n, ⟨#[]⟩, [], false⟩ :: ((if k = 0 then [] else [textTok (if rawP (lowS n) = 1 then Ch.decB ((rwS n k).extract (n.size + 2) (n.size + 2 + 8 * k)) false else (rwS n k).extract (n.size + 2) (n.size + 2 + 8 * k)) true]) ++
      [⟨2, n, ⟨#[]⟩, [], false⟩, ⟨1, ⟨#[98]⟩, ⟨#[]⟩, [], false⟩, tokE]) := by
  have z0 : (⟨#[60]⟩ : ByteArray).size = 1 := rfl
  have z1 : (⟨#[62]⟩ : ByteArray).size = 1 := rfl
  have z2 : (⟨#[60, 47]⟩ : ByteArray).size = 2 := rfl
  have z3 : (⟨#[62, 60, 98, 62]⟩ : ByteArray).size = 4 := rfl
  have h2 := h.two
  have zst : (stB n).size = n.size + 2 := by unfold stB; simp only [ByteArray.size_append, z0, z1]; omega
  have zr := repB_size (stB n) k
  have zS : (rwS n k).size = n.size + 2 + 8 * k + (n.size + 6) := by unfold rwS; simp only [ByteArray.size_append, zr, zst, z2, z3]; omega
  have W := (((has_l (repB (stB n) k) ⟨#[60, 47]⟩).l n).l ⟨#[62, 60, 98, 62]⟩)
  have A := W.sub (repB_l (stB n) k)
  have A0 := A.sub ((has_l (⟨#[60]⟩ : ByteArray) n).l ⟨#[62]⟩)
  have A1 := A.sub ((has_r (⟨#[60]⟩ : ByteArray) n).l ⟨#[62]⟩)
  have A2 := A.sub (has_r ((⟨#[60]⟩ : ByteArray) ++ n) ⟨#[62]⟩)
  have Bi := fun i (hi : i < k) => W.sub (repB_at (stB n) k i hi)
  have E0 := ((has_r (repB (stB n) k) ⟨#[60, 47]⟩).l n).l ⟨#[62, 60, 98, 62]⟩
  have E1 := (has_r (repB (stB n) k ++ ⟨#[60, 47]⟩) n).l ⟨#[62, 60, 98, 62]⟩
  have E2 := has_r ((repB (stB n) k ++ ⟨#[60, 47]⟩) ++ n) ⟨#[62, 60, 98, 62]⟩
  simp only [ByteArray.size_append, z0, z2, zr, zst] at A0 A1 A2 Bi E0 E1 E2
  change Has (rwS n k) _ _ at A0 A1 A2 E0 E1 E2
  change ∀ i, i < k → Has (rwS n k) _ _ at Bi
  generalize rwS n k = S at *
  have hne : n ≠ ⟨#[]⟩ := fun e => by rw [e] at h2; exact absurd h2 (by decide)
  have lp : preB true = ⟨#[60]⟩ := rfl
  have lq : preB false = ⟨#[60, 47]⟩ := rfl
  -- the start tag
  have t1 := tag_plain (S := S) (n := n) (a := 0) true h.ok (by rw [lp]; exact A0.to (by omega)) (by rw [lp]; exact A1.to (by have := z0; omega)) (by rw [lp]; exact A2.to (by have := z0; omega))
  rw [lp, z0, show 0 + 1 + n.size + 1 = n.size + 2 by omega] at t1
  have r1 : rawNx ⟨#[]⟩ ⟨if true = true then 1 else 2, n, ⟨#[]⟩, [], false⟩ = n := by unfold rawNx; exact if_pos ⟨rfl, h.raw⟩
  rw [pcsP_yes (by omega) t1, r1]
  -- the end of the raw element
  have hend : rawOk S n (n.size + 2 + 8 * k) = true := by
    unfold rawOk
    rw [Bool.and_eq_true, Bool.and_eq_true, st_raw]
    refine ⟨⟨⟨by omega, ?_, ?_, fun j hj => ?_⟩, decide_eq_true (by omega)⟩, ?_⟩
    · rw [E0.one (i := 0) (by decide) (by omega)]; decide
    · rw [E0.one (i := 1) (by decide) (by omega)]; decide
    · rw [E1.one (i := j) hj (by omega)]
    · rw [E2.one (i := 0) (by decide) (by omega)]; decide
  have hno : ∀ j, n.size + 2 ≤ j → j < n.size + 2 + 8 * k → rawOk S n j = false := by
    intro j hj1 hj2
    have hi : (j - (n.size + 2)) / 8 < k := by omega
    have B := Bi _ hi
    unfold rawOk
    cases hq : startsP S j ((⟨#[60, 47]⟩ : ByteArray) ++ n) with
    | false => rfl
    | true =>
      exfalso
      obtain ⟨q0, q1, q2, q3⟩ := st_raw.1 hq
      have hm : (j - (n.size + 2)) % 8 < 8 := Nat.mod_lt _ (by decide)
      have hd := Nat.div_add_mod (j - (n.size + 2)) 8
      generalize (j - (n.size + 2)) / 8 = d at *
      generalize (j - (n.size + 2)) % 8 = m at *
      rw [B.one (i := m) (by show m < 8; omega) (by omega)] at q1
      have key : ∀ m, m < 8 → bAt bxB m = 60 → m = 0 ∨ m = 4 := by decide +kernel
      rcases key m hm q1 with rfl | rfl
      · rw [B.one (i := 1) (by decide) (by omega)] at q2; revert q2; decide
      · have := q3 1 (by omega)
        rw [B.one (i := 7) (by decide) (by omega)] at this
        have hl := h.low 1 (by omega)
        rw [lowN_low hl] at this
        have e : lowN (bAt bxB 7) = 62 := by decide
        omega
  have hrw : rawEndP S (n.size + 2) n = n.size + 2 + 8 * k := upI_eq (by omega) (by omega) hno (fun _ => hend)
  have hrw2 : rawEndP S (n.size + 2 + 8 * k) n = n.size + 2 + 8 * k := upI_eq (Nat.le_refl _) (by omega) (fun j a b => by omega) (fun _ => hend)
  -- the end tag, and what is behind
  have t3 := tag_plain (S := S) (n := n) (a := n.size + 2 + 8 * k) false h.ok (by rw [lq]; exact E0.to (by omega)) (by rw [lq]; exact E1.to (by rw [z2])) (by
    rw [lq, z2]
    exact ((E2.sub (show Has (⟨#[62, 60, 98, 62]⟩ : ByteArray) 0 gtB from ⟨by decide, by decide⟩)).to (by omega)))
  rw [lq, z2] at t3
  have t3' : nextP S (n.size + 2 + 8 * k) n = nextP S (n.size + 2 + 8 * k) ⟨#[]⟩ := by
    unfold nextP
    exact ((if_neg (by omega)).trans (if_neg (fun x => by rw [hrw2] at x; exact absurd x.2 (Nat.lt_irrefl _)))).trans ((if_neg (by omega)).trans (if_neg (fun x => x.1 rfl))).symm
  rw [← t3'] at t3
  have r3 : rawNx n ⟨if false = true then 1 else 2, n, ⟨#[]⟩, [], false⟩ = ⟨#[]⟩ := by unfold rawNx; rw [if_neg (fun x => absurd x.1 (show ¬ (2 : Int) = 1 by decide)), if_pos (.inr ⟨rfl, rfl⟩)]
  have t4 := tag_plain (S := S) (n := ⟨#[98]⟩) (a := n.size + 2 + 8 * k + 2 + n.size + 1) true bNm (by
    rw [lp]
    exact (E2.sub (show Has (⟨#[62, 60, 98, 62]⟩ : ByteArray) 1 ⟨#[60]⟩ from ⟨by decide, by decide⟩)).to (by omega)) (by
    rw [lp, z0]
    exact (E2.sub (show Has (⟨#[62, 60, 98, 62]⟩ : ByteArray) 2 ⟨#[98]⟩ from ⟨by decide, by decide⟩)).to (by omega)) (by
    rw [lp, z0, show (⟨#[98]⟩ : ByteArray).size = 1 from rfl]
    exact (E2.sub (show Has (⟨#[62, 60, 98, 62]⟩ : ByteArray) 3 gtB from ⟨by decide, by decide⟩)).to (by omega))
  have r4 : rawNx ⟨#[]⟩ ⟨if true = true then 1 else 2, ⟨#[98]⟩, ⟨#[]⟩, [], false⟩ = ⟨#[]⟩ := by decide +kernel
  have tail : pcsP S (n.size + 2 + 8 * k) n = [⟨2, n, ⟨#[]⟩, [], false⟩, ⟨1, ⟨#[98]⟩, ⟨#[]⟩, [], false⟩, tokE] := by
    rw [pcsP_yes (by omega) t3, r3, pcsP_yes (by omega) t4, r4, pcsP_end ⟨#[]⟩ (by rw [lp, z0, show (⟨#[98]⟩ : ByteArray).size = 1 from rfl]; omega)]; rfl
  by_cases hk : k = 0
  · subst hk
    rw [Nat.mul_zero, Nat.add_zero] at tail
    rw [tail]; rfl
  · have t2 : nextP S (n.size + 2) n = (textTok (if rawP (lowS n) = 1 then Ch.decB (S.extract (n.size + 2) (n.size + 2 + 8 * k)) false else S.extract (n.size + 2) (n.size + 2 + 8 * k)) true, n.size + 2 + 8 * k, true) := by
      unfold nextP
      rw [if_neg (by omega), if_pos ⟨hne, by rw [hrw]; omega⟩, hrw]
    have r2 : ∀ x, rawNx n (textTok x true) = n := fun x => by unfold rawNx textTok; rw [if_neg (fun y => absurd y.1 (show ¬ (3 : Int) = 1 by decide)), if_neg (fun y => y.elim (fun y => absurd y (show ¬ (3 : Int) = 1 by decide)) (fun y => absurd y.1 (show ¬ (3 : Int) = 2 by decide)))]
    rw [pcsP_yes (by omega) t2, r2, tail, if_neg hk]; rfl
end Go.Proofs.YtbdgoffbkenofaaGreat.Sc
namespace Go.Proofs.YtbdgoffbkenofaaGreat.Sc
open Go Go.RowKit Go.Proofs.YtbdgoffbkenofaaGreat.Tk
set_option linter.unusedVariables false

/-- No byte that is cleaned or decoded. -/
def Plain (s : ByteArray) : Prop := ∀ i, i < s.size → bAt s i < 128 ∧ bAt s i ≠ 0 ∧ bAt s i ≠ 13 ∧ bAt s i ≠ 38
theorem Plain.app {a b : ByteArray} (ha : Plain a) (hb : Plain b) : Plain (a ++ b) := fun i hi => by
  rw [ByteArray.size_append] at hi
  by_cases h : i < a.size
  · rw [bAt_l h]; exact ha i h
  · rw [bAt_r (by omega)]; exact hb _ (by omega)
theorem Plain.ext {a : ByteArray} (h : Plain a) {x y : Nat} (hy : y ≤ a.size) : Plain (a.extract x y) := fun i hi => by
  rw [ByteArray.size_extract] at hi
  rw [bAt_ext hy (by omega)]; exact h _ (by omega)
theorem Plain.clean {a : ByteArray} (h : Plain a) : cleanB a = a := cleanB_plain fun i hi => ⟨(h i hi).1, (h i hi).2.1, (h i hi).2.2.1⟩
theorem Plain.dec {a : ByteArray} (h : Plain a) (attr : Bool) : Ch.decB a attr = a := decB_own fun i hi => (h i hi).2.2.2
theorem RwN.plain {n : ByteArray} (h : RwN n) : Plain n := fun i hi => by have := h.low i hi; omega
theorem plain_lit {l : ByteArray} (h : ∀ i, i < l.size → bAt l i < 128 ∧ bAt l i ≠ 0 ∧ bAt l i ≠ 13 ∧ bAt l i ≠ 38) : Plain l := h
theorem stB_plain {n : ByteArray} (h : RwN n) : Plain (stB n) := (Plain.app (Plain.app (plain_lit (by decide +kernel)) h.plain) (plain_lit (by decide +kernel)))
theorem repB_plain {s : ByteArray} (h : Plain s) : ∀ k, Plain (repB s k)
  | 0 => h
  | k + 1 => (repB_plain h k).app (plain_lit (by decide +kernel))
theorem rwS_plain {n : ByteArray} (h : RwN n) (k : Nat) : Plain (rwS n k) :=
  ((((repB_plain (stB_plain h) k).app (plain_lit (by decide +kernel))).app h.plain).app (plain_lit (by decide +kernel)))
theorem rwS_size (n : ByteArray) (k : Nat) : (rwS n k).size = 2 * n.size + 8 + 8 * k := by
  unfold rwS
  simp only [ByteArray.size_append, repB_size, show (⟨#[60, 47]⟩ : ByteArray).size = 2 from rfl, show (⟨#[62, 60, 98, 62]⟩ : ByteArray).size = 4 from rfl]
  unfold stB
  simp only [ByteArray.size_append, show (⟨#[60]⟩ : ByteArray).size = 1 from rfl, show (⟨#[62]⟩ : ByteArray).size = 1 from rfl]
  omega
/-- All pieces of ScanRaws' source. -/
theorem rw_all {n : ByteArray} (h : RwN n) (k : Nat) : ∃ x : ByteArray, x.size = 8 * k ∧ pcsP (cleanB (rwS n k)) 0 ⟨#[]⟩ =
    ⟨1, n, ⟨#[]⟩, [], false⟩ :: ((if k = 0 then [] else [textTok x true]) ++ [⟨2, n, ⟨#[]⟩, [], false⟩, ⟨1, ⟨#[98]⟩, ⟨#[]⟩, [], false⟩, tokE]) := by
  have hz := rwS_size n k
  refine ⟨(rwS n k).extract (n.size + 2) (n.size + 2 + 8 * k), by rw [ByteArray.size_extract]; omega, ?_⟩
  rw [(rwS_plain h k).clean, rw_pieces h k, ((rwS_plain h k).ext (by omega)).dec, ite_self]
theorem rn_ok : RwN ⟨#[116, 105, 116, 108, 101]⟩ ∧ RwN ⟨#[116, 101, 120, 116, 97, 114, 101, 97]⟩ ∧ RwN ⟨#[115, 116, 121, 108, 101]⟩ ∧ RwN ⟨#[115, 99, 114, 105, 112, 116]⟩ ∧ RwN ⟨#[120, 109, 112]⟩ ∧ RwN ⟨#[105, 102, 114, 97, 109, 101]⟩ ∧ RwN ⟨#[110, 111, 101, 109, 98, 101, 100]⟩ ∧ RwN ⟨#[110, 111, 102, 114, 97, 109, 101, 115]⟩ := by
  refine ⟨?_, ?_, ?_, ?_, ?_, ?_, ?_, ?_⟩ <;> exact ⟨by decide, by decide +kernel, ⟨by decide, by decide +kernel, by decide +kernel⟩, by decide +kernel⟩
end Go.Proofs.YtbdgoffbkenofaaGreat.Sc
namespace Go.Proofs.YtbdgoffbkenofaaGreat.Wk
open Go Go.RowKit Go.Proofs.YtbdgoffbkenofaaGreat.Tk Go.Proofs.YtbdgoffbkenofaaGreat.Tr Go.Proofs.YtbdgoffbkenofaaGreat.Sc
set_option linter.unusedVariables false
set_option linter.unusedSimpArgs false
set_option maxRecDepth 100000

theorem rn_ix (k : Nat) (hk : k < 8) : ∃ n : ByteArray, (∀ w : World, (Instr.index 39 (.agg #[.string ⟨#[116, 105, 116, 108, 101]⟩, .string ⟨#[116, 101, 120, 116, 97, 114, 101, 97]⟩, .string ⟨#[115, 116, 121, 108, 101]⟩, .string ⟨#[115, 99, 114, 105, 112, 116]⟩, .string ⟨#[120, 109, 112]⟩, .string ⟨#[105, 102, 114, 97, 109, 101]⟩, .string ⟨#[110, 111, 101, 109, 98, 101, 100]⟩, .string ⟨#[110, 111, 102, 114, 97, 109, 101, 115]⟩]) (.int .i64 k)).run Tryz.prog w = .ok (.string n) w) ∧ RwN n ∧ n.size ≤ 8 := by
  have h : k = 0 ∨ k = 1 ∨ k = 2 ∨ k = 3 ∨ k = 4 ∨ k = 5 ∨ k = 6 ∨ k = 7 := by omega
  obtain ⟨r0, r1, r2, r3, r4, r5, r6, r7⟩ := rn_ok
  rcases h with rfl | rfl | rfl | rfl | rfl | rfl | rfl | rfl
  · exact ⟨⟨#[116, 105, 116, 108, 101]⟩, fun w => by kernel_rfl, r0, by decide⟩
  · exact ⟨⟨#[116, 101, 120, 116, 97, 114, 101, 97]⟩, fun w => by kernel_rfl, r1, by decide⟩
  · exact ⟨⟨#[115, 116, 121, 108, 101]⟩, fun w => by kernel_rfl, r2, by decide⟩
  · exact ⟨⟨#[115, 99, 114, 105, 112, 116]⟩, fun w => by kernel_rfl, r3, by decide⟩
  · exact ⟨⟨#[120, 109, 112]⟩, fun w => by kernel_rfl, r4, by decide⟩
  · exact ⟨⟨#[105, 102, 114, 97, 109, 101]⟩, fun w => by kernel_rfl, r5, by decide⟩
  · exact ⟨⟨#[110, 111, 101, 109, 98, 101, 100]⟩, fun w => by kernel_rfl, r6, by decide⟩
  · exact ⟨⟨#[110, 111, 102, 114, 97, 109, 101, 115]⟩, fun w => by kernel_rfl, r7, by decide⟩
set_option maxHeartbeats 8000000 in
theorem scanRaws (which m : Int) (u0 : (Lit.int .i64 which).wf = true) (u1 : (Lit.int .i64 m).wf = true) (w : World) :
    Calls Tryz.prog 6 #[.int .i64 which, .int .i64 m] w fun e w' => e = .returned (.bool true) ∧ Below w.heap.size w w' := by
  have P1 := Lib.hid (placeN_calls which 8 (by decide) (by decide) 8 rfl)
  have P2 := Lib.hid (placeN_calls m 10 (by decide) (by decide) 10 rfl)
  have hk := placeN_lt m (n := 10) (by decide)
  obtain ⟨n, X1, hn, hnz⟩ := rn_ix (placeN which 8) (placeN_lt which (by decide))
  generalize placeN which 8 = pn at *
  generalize placeN m 10 = k at *
  obtain ⟨tx, htx, hall⟩ := rw_all hn k
  have HN := Lib.hid (all_as (rwS n k) (by rw [rwS_size]; omega))
  rw [hall] at HN
  have HST : Hid ((stB n).size = n.size + 2) := Lib.hid (by unfold stB; simp only [ByteArray.size_append, show (⟨#[60]⟩ : ByteArray).size = 1 from rfl, show (⟨#[62]⟩ : ByteArray).size = 1 from rfl]; omega)
  clear u0 u1 hn hall
  go_enter Tryz.func6, Tryz.ntmps6
  go_wp2_with fail
  refine (P1.out _).mono ?_
  rintro e w1 ⟨rfl, rfl⟩
  go_wp2_with fail
  refine (P2.out _).mono ?_
  rintro e w1 ⟨rfl, rfl⟩
  go_wp2_with fail
  clear P1 P2 X1
  go_loop [6, 8] (fun t6 t8 => ∃ i : Nat, i ≤ k ∧ t6 = .string (repB (stB n) i) ∧ t8 = .int .i64 i) (fun _ t8 => k - (intOf t8).toNat)
  case atStart => exact ⟨0, Nat.zero_le _, rfl, rfl⟩
  case round =>
    obtain ⟨i, hi, rfl, rfl⟩ := hrel
    have hrs : (repB (stB n) i).size ≤ 200 := by rw [repB_size, HST.out]; omega
    by_cases hlt : i < k
    · have hz : (i : Int) < (k : Int) := by omega
      go_wp2_with fail
      go_round
      case rel => exact ⟨i + 1, hlt, rfl, by go_num⟩
      case measure => simp [intOf]; omega
    · have hz : ¬ (i : Int) < (k : Int) := by omega
      have ei : i = k := by omega
      have HR : Hid (((repB (stB n) i ++ ⟨#[60, 47]⟩) ++ n) ++ ⟨#[62, 60, 98, 62]⟩ = rwS n k) := Lib.hid (by rw [ei]; rfl)
      by_cases h0 : k = 0
      · have HK0 := Lib.hid h0
        have k1 : ¬ (k : Int) > 0 := by omega
        have k2 : ((k : Int) == 0) = true := by rw [h0]; rfl
        generalize repB (stB n) i = S at *
        have HXP : Hid ((if k = 0 then ([] : List Tok) else [textTok tx true]) = []) := Lib.hid (if_pos h0)
        clear htx h0 ei hi hlt
        go_wp2_with fail
        rw [HR.out]
        refine (HN.out _).mono ?_
        rintro e w2 ⟨g, ac, xs, rfl, hx, ht, hb⟩
        have HB := Lib.hid hb
        clear hb
        rw [HXP.out] at hx
        simp only [List.nil_append] at hx
        obtain ⟨x0, x1, x2, x3, rfl⟩ : ∃ x0 x1 x2 x3, xs = [x0, x1, x2, x3] := by
          have hl : xs.length = 4 := by rw [← List.length_map (f := Prod.fst), hx]; rfl
          match xs, hl with
          | [x0, x1, x2, x3], _ => exact ⟨x0, x1, x2, x3, rfl⟩
        simp only [List.map_cons, List.map_nil, List.cons.injEq, and_true] at hx
        obtain ⟨e0, e1, e2, e3⟩ := hx
        obtain ⟨c00, c01, c02, _, c04⟩ := ht.at_ 0 x0 rfl
        rw [e0] at c00 c01 c02 c04
        simp only [Nat.zero_mul, Nat.one_mul, Nat.reduceMul, Nat.reduceAdd, Nat.zero_add, textTok] at c00 c01 c02 c04
        obtain ⟨c10, c11, c12, _, c14⟩ := ht.at_ 1 x1 rfl
        rw [e1] at c10 c11 c12 c14
        simp only [Nat.zero_mul, Nat.one_mul, Nat.reduceMul, Nat.reduceAdd, Nat.zero_add, textTok] at c10 c11 c12 c14
        obtain ⟨c20, c21, c22, _, c24⟩ := ht.at_ 2 x2 rfl
        rw [e2] at c20 c21 c22 c24
        simp only [Nat.zero_mul, Nat.one_mul, Nat.reduceMul, Nat.reduceAdd, Nat.zero_add, textTok] at c20 c21 c22 c24
        clear ht HN
        go_wp2_with fail
        refine (Sc.awake_calls _).mono ?_
        rintro e w3 ⟨rfl, hb3⟩
        have HB3 := Lib.hid (HB.out.trans (hb3.mono HB.out.size))
        clear hb3
        go_wp2_with fail
        go_ret
        exact ⟨rfl, HB3.out⟩
      · have k1 : (k : Int) > 0 := by omega
        have k2 : ((k : Int) == 0) = false := by rw [beq_eq_false_iff_ne]; omega
        have k3 : IntKind.i64.wrap (8 * (k : Int)) = 8 * (k : Int) := IntWalk.i64_in _ (by omega)
        have k4 : (tx.size : Int) = 8 * (k : Int) := by omega
        generalize repB (stB n) i = S at *
        have HXP : Hid ((if k = 0 then ([] : List Tok) else [textTok tx true]) = [textTok tx true]) := Lib.hid (if_neg h0)
        clear htx h0 ei hi hlt
        go_wp2_with fail
        rw [HR.out]
        refine (HN.out _).mono ?_
        rintro e w2 ⟨g, ac, xs, rfl, hx, ht, hb⟩
        have HB := Lib.hid hb
        clear hb
        rw [HXP.out] at hx
        simp only [List.cons_append, List.nil_append] at hx
        obtain ⟨x0, x1, x2, x3, x4, rfl⟩ : ∃ x0 x1 x2 x3 x4, xs = [x0, x1, x2, x3, x4] := by
          have hl : xs.length = 5 := by rw [← List.length_map (f := Prod.fst), hx]; rfl
          match xs, hl with
          | [x0, x1, x2, x3, x4], _ => exact ⟨x0, x1, x2, x3, x4, rfl⟩
        simp only [List.map_cons, List.map_nil, List.cons.injEq, and_true] at hx
        obtain ⟨e0, e1, e2, e3, e4⟩ := hx
        obtain ⟨c00, c01, c02, _, c04⟩ := ht.at_ 0 x0 rfl
        rw [e0] at c00 c01 c02 c04
        simp only [Nat.zero_mul, Nat.one_mul, Nat.reduceMul, Nat.reduceAdd, Nat.zero_add, textTok] at c00 c01 c02 c04
        obtain ⟨c10, c11, c12, _, c14⟩ := ht.at_ 1 x1 rfl
        rw [e1] at c10 c11 c12 c14
        simp only [Nat.zero_mul, Nat.one_mul, Nat.reduceMul, Nat.reduceAdd, Nat.zero_add, textTok] at c10 c11 c12 c14
        obtain ⟨c20, c21, c22, _, c24⟩ := ht.at_ 2 x2 rfl
        rw [e2] at c20 c21 c22 c24
        simp only [Nat.zero_mul, Nat.one_mul, Nat.reduceMul, Nat.reduceAdd, Nat.zero_add, textTok] at c20 c21 c22 c24
        obtain ⟨c30, c31, c32, _, c34⟩ := ht.at_ 3 x3 rfl
        rw [e3] at c30 c31 c32 c34
        simp only [Nat.zero_mul, Nat.one_mul, Nat.reduceMul, Nat.reduceAdd, Nat.zero_add, textTok] at c30 c31 c32 c34
        clear ht HN
        go_wp2_with fail
        refine (Sc.awake_calls _).mono ?_
        rintro e w3 ⟨rfl, hb3⟩
        have HB3 := Lib.hid (HB.out.trans (hb3.mono HB.out.size))
        clear hb3
        go_wp2_with fail
        go_ret
        exact ⟨rfl, HB3.out⟩
end Go.Proofs.YtbdgoffbkenofaaGreat.Wk
