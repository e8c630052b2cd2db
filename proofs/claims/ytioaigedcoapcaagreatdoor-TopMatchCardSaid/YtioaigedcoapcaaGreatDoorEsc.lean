/- charref.Escape. -/
import Derived.Test.YtioaigedcoapcaaGreatDoorNrp
namespace Go.Proofs.YtioaigedcoapcaaGreatDoor.Gr
open Go Go.RowKit Go.Proofs.YtioaigedcoapcaaGreatDoor.Tr Go.Proofs.YtioaigedcoapcaaGreatDoor.Sr Go.Proofs.YtioaigedcoapcaaGreatDoor.On
set_option linter.unusedVariables false
set_option maxRecDepth 100000

/-! ### The replacer's text, as a function -/
def repF (K : Prs) : Nat → List UInt8 → List UInt8
  | 0, _ => []
  | _ + 1, [] => []
  | n + 1, c :: l => match hitOf K (c :: l) with
    | some p => p.2.data.toList ++ repF K n ((c :: l).drop p.1.size)
    | none => c :: repF K n l
theorem hit_mem {K : Prs} {l : List UInt8} {p : ByteArray × ByteArray} (h : hitOf K l = some p) : p ∈ K := List.mem_of_find?_eq_some h
theorem repF_rep {K : Prs} (hK : ∀ p ∈ K, 0 < p.1.size) : ∀ (n : Nat) (l : List UInt8), l.length ≤ n → Rep K l (repF K n l)
  | 0, l, h => by
    obtain rfl : l = [] := List.eq_nil_of_length_eq_zero (by omega)
    exact Rep.nil
  | n + 1, [], _ => Rep.nil
  | n + 1, c :: l, h => by
    unfold repF
    cases hh : hitOf K (c :: l) with
    | some p =>
      have := hK p (hit_mem hh)
      refine Rep.hit _ _ p (by simp) hh (repF_rep hK n _ ?_)
      rw [List.length_drop]; omega
    | none => exact Rep.skip _ _ _ hh (repF_rep hK n l (by simpa using h))
/-! ### The pairs -/
def k4 : Prs := [(⟨#[38]⟩, ⟨#[38, 97, 109, 112, 59]⟩), (⟨#[194, 160]⟩, ⟨#[38, 110, 98, 115, 112, 59]⟩), (⟨#[60]⟩, ⟨#[38, 108, 116, 59]⟩), (⟨#[62]⟩, ⟨#[38, 103, 116, 59]⟩)]
def k5 : Prs := k4 ++ [(⟨#[34]⟩, ⟨#[38, 113, 117, 111, 116, 59]⟩)]
def kOf (attr : Bool) : Prs := cond attr k5 k4
def nOf (attr : Bool) : Nat := cond attr 6 5
def mOf (attr : Bool) : List Int := mixL (mk1 zeros256 (keysOf (kOf attr))) (nOf attr) 256
def goodB (K : Prs) (n : Nat) (M : List Int) : Bool :=
  (List.range K.length).all (fun k => match K[k]? with
    | some p => decide (0 < p.1.size) && (match M[first p]? with | some m => decide (0 ≤ m) && decide (m < n) | none => false) && (K.take k).all (fun q => decide (M[first q]? ≠ M[first p]?))
    | none => true) &&
  (List.range 256).all (fun c => match M[c]? with | some m => decide (0 ≤ m) && decide (m ≤ n) | none => false) &&
  K.all (fun p => decide (p.1.size ≤ 1000) && decide (p.2.size ≤ 1000) && (List.range 256).all fun c => decide (c = first p) || decide (M[c]? ≠ M[first p]?))
theorem good_of {K : Prs} {n N : Nat} {M : List Int} (h : goodB K n M = true) (cnt : N = 2 * K.length) (small : N ≤ 1000) (big : 4 ≤ N) (n0 : 0 < n) (n1 : n ≤ 100) (sum : sumT (mk1 zeros256 (keysOf K)) 256 = n) (map : mixL (mk1 zeros256 (keysOf K)) n 256 = M)
    (p0 : ∃ p, K[0]? = some p ∧ p.1.size = 1 ∧ p.2.size ≠ 1) (p1 : ∃ p, K[1]? = some p ∧ p.1.size = 2) : GoodK K n M N := by
  unfold goodB at h
  simp only [Bool.and_eq_true] at h
  obtain ⟨⟨h1, h2⟩, h3⟩ := h
  have h3' := fun p hp => List.all_eq_true.1 h3 p hp
  simp only [Bool.and_eq_true, decide_eq_true_eq] at h3'
  refine ⟨cnt, small, big, fun p hp => (h3' p hp).1.1, n0, n1, sum, map, fun k p hk => ?_, fun c hc => ?_, fun p hp c hc hne => ?_, fun p hp => (h3' p hp).1.2, p0, p1⟩
  · have hkl := (List.getElem?_eq_some_iff.1 hk).1
    have := List.all_eq_true.1 h1 k (List.mem_range.2 hkl)
    rw [hk] at this
    simp only [Bool.and_eq_true, decide_eq_true_eq] at this
    obtain ⟨⟨q1, q2⟩, q3⟩ := this
    refine ⟨q1, ?_, fun q hq => ?_⟩
    · cases hm : M[first p]? with
      | none => rw [hm] at q2; cases q2
      | some m =>
        rw [hm] at q2
        simp only [Bool.and_eq_true, decide_eq_true_eq] at q2
        exact ⟨m.toNat, by congr 1; omega, by omega⟩
    · exact of_decide_eq_true (List.all_eq_true.1 q3 q hq)
  · have := List.all_eq_true.1 h2 c (List.mem_range.2 hc)
    cases hm : M[c]? with
    | none => rw [hm] at this; cases this
    | some m =>
      rw [hm] at this
      simp only [Bool.and_eq_true, decide_eq_true_eq] at this
      exact ⟨m.toNat, by congr 1; omega, by omega⟩
  · have := List.all_eq_true.1 (h3' p hp).2 c (List.mem_range.2 hc)
    rw [Bool.or_eq_true, decide_eq_true_eq, decide_eq_true_eq] at this
    rcases this with h | h
    · exact absurd h hne
    · exact h
theorem good4 : GoodK (kOf false) 5 (mOf false) 8 :=
  good_of (by decide +kernel) rfl (by decide) (by decide) (by decide) (by decide) (by decide +kernel) rfl ⟨_, rfl, rfl, by decide⟩ ⟨_, rfl, rfl⟩
theorem good5 : GoodK (kOf true) 6 (mOf true) 10 :=
  good_of (by decide +kernel) rfl (by decide) (by decide) (by decide) (by decide) (by decide +kernel) rfl ⟨_, rfl, rfl, by decide⟩ ⟨_, rfl, rfl⟩
theorem kOf_pos (attr : Bool) : ∀ p ∈ kOf attr, 0 < p.1.size := by cases attr <;> decide
def escL (attr : Bool) (l : List UInt8) : List UInt8 := repF (kOf attr) l.length l
def escB (attr : Bool) (s : ByteArray) : ByteArray := ⟨(escL attr s.data.toList).toArray⟩
theorem esc_rep (attr : Bool) (l : List UInt8) : Rep (kOf attr) l (escL attr l) := repF_rep (kOf_pos attr) _ _ (Nat.le_refl _)
theorem esc_of {attr : Bool} {l o : List UInt8} (h : Rep (kOf attr) l o) : o = escL attr l := h.unique (esc_rep attr l)
attribute [irreducible] escL escB
theorem escB_of {attr : Bool} {s : ByteArray} {o : List UInt8} (h : Rep (kOf attr) s.data.toList o) : (⟨o.toArray⟩ : ByteArray) = escB attr s := by
  unfold escB
  rw [esc_of h]
theorem strs_cells (L : List Value) (w : World) (j : Nat) (u : Value) (h : L[j]? = some u) : (w.alloc (.cells L.toArray 9)).cell? ((⟨w.heap.size, 0, none⟩ : Addr).add j) = some u := by
  have ha : (⟨w.heap.size, 0, none⟩ : Addr).add j = ⟨w.heap.size, j, none⟩ := by unfold Addr.add; split <;> simp_all
  rw [ha, block_cell (alloc_new w _)]
  simpa using h
def EscEnd (attr : Bool) (s : ByteArray) (w : World) (e : Ending) (w' : World) : Prop := e = .returned (.string (escB attr s)) ∧ Below w.heap.size w w'
theorem escape_no (s : ByteArray) (hs : s.size ≤ 1000000) (w : World) : Calls Tryz.prog 219 #[.string s, .bool false] w (EscEnd false s w) := by
  have hc := strs_cells (strs (kOf false)) w
  have e4 : (strs (kOf false)).toArray = #[.string ⟨#[38]⟩, .string ⟨#[38, 97, 109, 112, 59]⟩, .string ⟨#[194, 160]⟩, .string ⟨#[38, 110, 98, 115, 112, 59]⟩, .string ⟨#[60]⟩, .string ⟨#[38, 108, 116, 59]⟩, .string ⟨#[62]⟩, .string ⟨#[38, 103, 116, 59]⟩] := rfl
  rw [e4] at hc
  have HC := Lib.hid hc
  clear hc e4
  go_enter Tryz.func219, Tryz.ntmps219
  go_wp2_with fail
  refine (new_calls (kOf false) 8 rfl (by decide) (by decide) ⟨w.heap.size, 0, none⟩ 8 _ HC.out).mono ?_
  rintro e w1 ⟨r, sb, cap, sm, rfl, h1, h2, h3, h4, h5⟩
  have H1 := Lib.hid h1
  have H2 := Lib.hid h2
  have hb : Below w.heap.size w w1 := ((Below.refl _ w).alloc (Nat.le_refl _) _).trans (h5.mono (by simp))
  have HB := Lib.hid hb
  clear h1 h2 h5 hb HC
  go_wp2_with fail
  refine (replace_calls good4 r sb cap sm s w1 H2.out h3 H1.out hs).mono ?_
  rintro e w2 ⟨out, rfl, hrep, hF⟩
  have HF := Lib.hid hF
  have hr : w.heap.size ≤ r := by have := h4; simp at this; omega
  have HE := Lib.hid (escB_of hrep)
  clear hF hrep
  go_wp2_with fail
  go_ret
  exact ⟨ret_str HE.out, HB.out.trans (HF.out.below (fun k hk e => absurd (show k = r from e) (by omega)) HB.out.size)⟩
theorem escape_at (s : ByteArray) (hs : s.size ≤ 1000000) (w : World) : Calls Tryz.prog 219 #[.string s, .bool true] w (EscEnd true s w) := by
  obtain ⟨i0, hi, hz0, hz1, hz2⟩ := info_parts str_info
  have hc := strs_cells (strs (kOf false)) w
  have ho : (w.alloc (.cells (strs (kOf false)).toArray 9)).ownsRow w.heap.size 9 1 (.slice (some ⟨w.heap.size, 0, none⟩) 8 8) 8 (strs (kOf false)) :=
    ⟨rfl, .inr ⟨w.heap.size, 8, _, rfl, Nat.le_refl _, alloc_new w _, Nat.le_refl _, by decide, rfl, rfl⟩⟩
  have e4 : (strs (kOf false)).toArray = #[.string ⟨#[38]⟩, .string ⟨#[38, 97, 109, 112, 59]⟩, .string ⟨#[194, 160]⟩, .string ⟨#[38, 110, 98, 115, 112, 59]⟩, .string ⟨#[60]⟩, .string ⟨#[38, 108, 116, 59]⟩, .string ⟨#[62]⟩, .string ⟨#[38, 103, 116, 59]⟩] := rfl
  rw [e4] at hc ho
  have HC := Lib.hid hc
  have HO := Lib.hid ho
  clear hc ho e4
  go_enter Tryz.func219, Tryz.ntmps219
  go_wp2_with (at_builtin; refine wpList_append_own _ rfl _ _ 122 rfl w.heap.size 9 i0 (.string ⟨#[]⟩) 1 16 Tryz.underlying122 hi hz0 hz1 hz2 rfl (by decide) _ _ _ rfl (HO.out.alloc _) ⟨w.heap.size + 1, 0, none⟩ 2 2 [.string ⟨#[34]⟩, .string ⟨#[38, 113, 117, 111, 116, 59]⟩] rfl rfl ?c2 (by decide) (by decide) (by decide) ?c5 ?_)
  case c2 =>
    intro j u hj
    have ha : (⟨w.heap.size + 1, 0, none⟩ : Addr).add j = ⟨w.heap.size + 1, j, none⟩ := by unfold Addr.add; split <;> simp_all
    rw [ha, block_cell (alloc_at (by simp) _)]
    simpa using hj
  case c5 => simp; omega
  intro v' w2 hown' hgrow hiff
  obtain ⟨sb, cap, rfl⟩ : ∃ g cap, v' = .slice (some ⟨g, 0, none⟩) 10 cap := by
    rcases hown'.2 with ⟨_, h⟩ | ⟨g, cap, cur, hv, _⟩
    · cases h
    · exact ⟨g, cap, hv⟩
  have hC2 : ∀ j u, (strs (kOf true))[j]? = some u → w2.cell? ((⟨sb, 0, none⟩ : Addr).add j) = some u := hown'.cells (g := sb) rfl
  have hbw : Below w.heap.size w w2 := (((Below.refl _ w).alloc (Nat.le_refl _) _).alloc (by simp) _).grown hgrow (by simp; omega) (fun k hk => by simp [Value.ownBlock] at hk; omega)
  have HC2 := Lib.hid hC2
  have HBW := Lib.hid hbw
  clear hown' hgrow hiff hC2 hbw HC HO
  go_wp2_with fail
  refine (new_calls (kOf true) 10 rfl (by decide) (by decide) ⟨sb, 0, none⟩ cap _ HC2.out).mono ?_
  rintro e w1 ⟨r, sb', cap', sm, rfl, h1, h2, h3, h4, h5⟩
  have H1 := Lib.hid h1
  have H2 := Lib.hid h2
  have HB := Lib.hid (HBW.out.trans (h5.mono HBW.out.size))
  have hr : w.heap.size ≤ r := Nat.le_trans HBW.out.size h4
  clear h1 h2 h5 HBW h4
  go_wp2_with fail
  refine (replace_calls good5 r sb' cap' sm s w1 H2.out h3 H1.out hs).mono ?_
  rintro e w3 ⟨out, rfl, hrep, hF⟩
  have HF := Lib.hid hF
  have HE := Lib.hid (escB_of hrep)
  clear hF hrep
  go_wp2_with fail
  go_ret
  exact ⟨ret_str HE.out, HB.out.trans (HF.out.below (fun k hk e => absurd (show k = r from e) (by omega)) HB.out.size)⟩
theorem escape_calls (s : ByteArray) (attr : Bool) (hs : s.size ≤ 1000000) (w : World) : Calls Tryz.prog 219 #[.string s, .bool attr] w fun e w' => e = .returned (.string (escB attr s)) ∧ Below w.heap.size w w' := by
  cases attr
  · exact escape_no s hs w
  · exact escape_at s hs w
end Go.Proofs.YtioaigedcoapcaaGreatDoor.Gr
