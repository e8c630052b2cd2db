/- Compare, Same: whole trees. -/
import Derived.Test.YtbjcahhijfommaaGreatDoorPk
import Derived.Test.YtbjcahhijfommaaGreatDoorCmp
import Derived.Deep.CutRange
import Derived.Deep.RegionLaw
namespace Go.Proofs.YtbjcahhijfommaaGreatDoor.Tr
open Go Go.RowKit
set_option linter.unusedVariables false

theorem eq_of_node {a b : Nd} (h : EqNode a b) (hk : a.kids = b.kids) : a = b := by
  cases a; cases b
  obtain ⟨h1, h2, h3, h4⟩ := h
  simp only [Nd.kind, Nd.name, Nd.text, Nd.attrs, Nd.kids] at *
  subst h1 h2 h3 h4 hk; rfl
/-- The first j kids are the same, if c is 0; else the trees are not. -/
def KidsRel (a b : Nd) (j : Nat) (c : Int) : Prop := (c = 0 → EqNode a b ∧ ∀ i, i < j → a.kids[i]? = b.kids[i]?) ∧ (c ≠ 0 → a ≠ b)
theorem kidsRel_zero {a b : Nd} {c : Int} (h : c = 0 ↔ EqNode a b) : KidsRel a b 0 c := ⟨fun h0 => ⟨h.1 h0, fun i h => absurd h (by omega)⟩, fun h0 e => by subst e; exact h0 (h.2 ⟨rfl, rfl, rfl, rfl⟩)⟩
theorem kidsRel_succ {a b x y : Nd} {j : Nat} {c : Int} (h : KidsRel a b j 0) (hx : a.kids[j]? = some x) (hy : b.kids[j]? = some y) (hc : c = 0 ↔ x = y) : KidsRel a b (j + 1) c := by
  refine ⟨fun h0 => ⟨(h.1 rfl).1, fun i hi => ?_⟩, fun h0 he => ?_⟩
  · rcases Nat.lt_or_ge i j with hl | hl
    · exact (h.1 rfl).2 i hl
    · obtain rfl : i = j := by omega
      rw [hx, hy, hc.1 h0]
  · subst he
    rw [hx] at hy; injection hy with hy
    exact h0 (hc.2 hy)
theorem kids_end {a b : Nd} {j : Nat} (h : KidsRel a b j 0) (hn : ¬ (j < a.kids.length ∧ j < b.kids.length)) (h1 : j ≤ a.kids.length) (h2 : j ≤ b.kids.length) :
    (decide (a.kids.length < b.kids.length) = false ∧ decide (b.kids.length < a.kids.length) = false) ↔ a = b := by
  simp only [decide_eq_false_iff_not]
  constructor
  · rintro ⟨x, y⟩
    refine eq_of_node (h.1 rfl).1 (List.ext_getElem? fun i => ?_)
    by_cases hi : i < j
    · exact (h.1 rfl).2 i hi
    · rw [List.getElem?_eq_none (by omega), List.getElem?_eq_none (by omega)]
  · rintro rfl
    omega

def CmpEnd (a b : Nd) (w : World) (e : Ending) (w' : World) : Prop := ∃ c : Int, e = .returned (.int .i64 c) ∧ Below w.heap.size w w' ∧ (c = 0 ↔ a = b)
/-- A kid's five cells, in any later world. -/
theorem kid_cells {w : World} {K : Option Addr} {ks : List Nd} {j : Nat} {u : Nd} (h : ks ≠ [] → ∃ b off, K = some ⟨b, off, none⟩ ∧ b < w.heap.size ∧ IsKids w w.heap.size ks b off) (hu : ks[j]? = some u) (wr : World) (hb : Below w.heap.size w wr) :
    ∃ kb ko u0 u1 u2 u3 u4, K = some ⟨kb, ko, none⟩ ∧ kb < w.heap.size ∧ wr.cell? ⟨kb, ko + j * 5, none⟩ = some u0 ∧ wr.cell? ⟨kb, ko + j * 5 + 1, none⟩ = some u1 ∧ wr.cell? ⟨kb, ko + j * 5 + 2, none⟩ = some u2 ∧ wr.cell? ⟨kb, ko + j * 5 + 3, none⟩ = some u3 ∧ wr.cell? ⟨kb, ko + j * 5 + 4, none⟩ = some u4 ∧
      ∀ W, Below w.heap.size w W → IsTree W W.heap.size u u0 u1 u2 u3 u4 := by
  obtain ⟨kb, ko, e, hkb, hks⟩ := h (by rintro rfl; simp at hu)
  obtain ⟨u0, u1, u2, u3, u4, d0, d1, d2, d3, d4, hut⟩ := hks.at_ hu
  have kc : ∀ o, wr.cell? ⟨kb, o, none⟩ = w.cell? ⟨kb, o, none⟩ := fun o => hb.cell hkb
  exact ⟨kb, ko, u0, u1, u2, u3, u4, e, hkb, (kc _).trans d0, (kc _).trans d1, (kc _).trans d2, (kc _).trans d3, (kc _).trans d4, fun W hW => hut.keep (fun p hp => hW.cell hp) hW.size⟩
set_option maxRecDepth 100000 in
set_option maxHeartbeats 8000000 in
theorem compare_calls (m : Nat) : ∀ (a b : Nd) (v0 v1 v2 v3 v4 u0 u1 u2 u3 u4 : Value) (w : World), cntT a ≤ m → IsTree w w.heap.size a v0 v1 v2 v3 v4 → IsTree w w.heap.size b u0 u1 u2 u3 u4 →
    Calls Tryz.prog 17 #[.agg #[v0, v1, v2, v3, v4], .agg #[u0, u1, u2, u3, u4]] w (CmpEnd a b w) := by
  induction m with
  | zero => intro a b _ _ _ _ _ _ _ _ _ _ _ h; have := cntT_pos a; omega
  | succ m IH =>
  intro a b v0 v1 v2 v3 v4 u0 u1 u2 u3 u4 w hm ha hb
  match a, b with
  | .mk k1 n1 s1 l1 ks1, .mk k2 n2 s2 l2 ks2 =>
  have HA := Lib.hid ha
  have HB := Lib.hid hb
  unfold IsTree at ha hb
  obtain ⟨rfl, rfl, rfl, wk1, bn1, bt1, A1, ac1, K1, kc1, rfl, rfl, hat1, p1, p2, hk1⟩ := ha
  obtain ⟨rfl, rfl, rfl, wk2, bn2, bt2, A2, ac2, K2, kc2, rfl, rfl, hat2, r1, r2, hk2⟩ := hb
  have HK1 := Lib.hid hk1
  have HK2 := Lib.hid hk2
  have HIH := Lib.hid IH
  clear hat1 hat2 hk1 hk2 IH
  unfold maxLen at *
  have HW := two_boxes w (.int .i64 k1) (.string n1) (.string s1) (.slice A1 l1.length ac1) (.slice K1 ks1.length kc1) (.int .i64 k2) (.string n2) (.string s2) (.slice A2 l2.length ac2) (.slice K2 ks2.length kc2)
  go_enter Tryz.func17, Tryz.ntmps17
  go_wp2_with fail
  generalize (w.alloc (.cells #[.int .i64 k1, .string n1, .string s1, .slice A1 l1.length ac1, .slice K1 ks1.length kc1] 25)).alloc (.cells #[.int .i64 k2, .string n2, .string s2, .slice A2 l2.length ac2, .slice K2 ks2.length kc2] 25) = w2 at HW ⊢
  have HWW := Lib.hid HW
  clear HW
  refine (node_calls (.mk k1 n1 s1 l1 ks1) (.mk k2 n2 s2 l2 ks2) _ _ _ _ _ _ _ _ _ _ w2 (HA.out.keep (fun p hp => HWW.out.bel.cell hp) HWW.out.bel.size) (HB.out.keep (fun p hp => HWW.out.bel.cell hp) HWW.out.bel.size)).mono ?_
  rintro e w3 ⟨c, rfl, hb3, hc⟩
  have HC := Lib.hid (kidsRel_zero hc)
  have HB3 := Lib.hid hb3
  clear hc hb3
  go_wp2_with fail
  go_loopw [5, 6] (fun cv i wr => ∃ (j : Nat) (c : Int), j ≤ ks1.length ∧ j ≤ ks2.length ∧ cv = .int .i64 c ∧ i = .int .i64 j ∧ KidsRel (.mk k1 n1 s1 l1 ks1) (.mk k2 n2 s2 l2 ks2) j c ∧ Below w2.heap.size w2 wr) (fun _ i _ => ks1.length - (intOf i).toNat)
  case atStart => exact ⟨0, c, Nat.zero_le _, Nat.zero_le _, rfl, rfl, HC.out, HB3.out⟩
  case round =>
    clear HC HB3
    obtain ⟨j, c, hj1, hj2, rfl, rfl, hrel, hbel⟩ := hrel
    have hs2 := HWW.out.size
    have c4 := (hbel.cell (p := ⟨w.heap.size, 4, none⟩) (by show w.heap.size < _; omega)).trans HWW.out.a4
    have d4 := (hbel.cell (p := ⟨w.heap.size + 1, 4, none⟩) (by show w.heap.size + 1 < _; omega)).trans HWW.out.b4
    have HB3 := Lib.hid (HWW.out.bel.trans (hbel.mono (by omega)))
    have HBE := Lib.hid hbel
    have HREL := Lib.hid hrel
    clear hrel
    by_cases hc : c = 0
    case neg =>
      have hne : (c == 0) = false := by simp only [beq_eq_false_iff_ne, ne_eq]; exact hc
      go_wp2_with fail
      go_ret
      exact ⟨c, rfl, HB3.out, fun h => absurd h hc, fun h => absurd h (HREL.out.2 hc)⟩
    subst hc
    by_cases hlt : j < ks1.length ∧ j < ks2.length
    case neg =>
      have hd : decide (j < ks1.length) = false ∨ (decide (j < ks1.length) = true ∧ decide (j < ks2.length) = false) := by
        by_cases h1 : j < ks1.length
        · right; simp; omega
        · left; simpa using h1
      rcases hd with hd | ⟨hd1, hd2⟩
      all_goals
        go_wp2_with fail
        refine (sign_calls _ _ _).mono ?_
        rintro e w' ⟨c, rfl, rfl, hc⟩
        have HC := Lib.hid hc
        clear hc
        go_wp2_with fail
        go_ret
        refine ⟨c, rfl, HB3.out, ?_⟩
        rw [HC.out]
        exact kids_end HREL.out hlt hj1 hj2
    obtain ⟨lt1, lt2⟩ := hlt
    obtain ⟨x, hx⟩ : ∃ x, ks1[j]? = some x := ⟨_, List.getElem?_eq_getElem lt1⟩
    obtain ⟨y, hy⟩ : ∃ y, ks2[j]? = some y := ⟨_, List.getElem?_eq_getElem lt2⟩
    obtain ⟨kb1, ko1, x0, x1, x2, x3, x4, rfl, hkb1, e0, e1, e2, e3, e4, hxt⟩ := kid_cells HK1.out hx wr HB3.out
    obtain ⟨kb2, ko2, y0, y1, y2, y3, y4, rfl, hkb2, f0, f1, f2, f3, f4, hyt⟩ := kid_cells HK2.out hy wr HB3.out
    have HXT := Lib.hid hxt
    have HYT := Lib.hid hyt
    have HX := Lib.hid hx
    have HY := Lib.hid hy
    have i1 : (j : Int) < (ks1.length : Int) := by omega
    have i2 : (j : Int) < (ks2.length : Int) := by omega
    have hcm : Hid (cntT x ≤ m) := Lib.hid (by have := cntL_mem hx; rw [show cntT (.mk k1 n1 s1 l1 ks1) = cntL ks1 + 1 by unfold cntT; rfl] at hm; omega)
    clear hxt hyt hx hy hbel
    go_wp2_with fail
    go_region_with (go_at_call 17
                    refine (HIH.out x y x0 x1 x2 x3 x4 y0 y1 y2 y3 y4 _ hcm.out (HXT.out _ ?_) (HYT.out _ ?_)).mono ?_
                    · exact HB3.out.drew
                    · exact HB3.out.drew
                    rintro e w5 ⟨c, rfl, hb5, hc5⟩)
    all_goals
      have HCC := Lib.hid (kidsRel_succ (a := .mk k1 n1 s1 l1 ks1) (b := .mk k2 n2 s2 l2 ks2) HREL.out HX.out HY.out hc5)
      have HBC : Hid (Below w2.heap.size w2 w5) := Lib.hid (HBE.out.drew.trans (hb5.mono HBE.out.size))
      clear hc5 hb5 e0 e1 e2 e3 e4 f0 f1 f2 f3 f4 c4 d4
      go_wp2_with fail
      go_roundw
      case rel => exact ⟨j + 1, c, by omega, by omega, rfl, by go_num, HCC.out, HBC.out⟩
      case measure => simp [intOf]; omega
/-- Are two trees the same? -/
theorem same_calls (a b : Nd) (v0 v1 v2 v3 v4 u0 u1 u2 u3 u4 : Value) (w : World) (ha : IsTree w w.heap.size a v0 v1 v2 v3 v4) (hb : IsTree w w.heap.size b u0 u1 u2 u3 u4) :
    Calls Tryz.prog 10 #[.agg #[v0, v1, v2, v3, v4], .agg #[u0, u1, u2, u3, u4]] w fun e w' => ∃ s : Bool, e = .returned (.bool s) ∧ Below w.heap.size w w' ∧ (s = true ↔ a = b) := by
  have HA := Lib.hid ha
  have HB := Lib.hid hb
  have HW := two_boxes w v0 v1 v2 v3 v4 u0 u1 u2 u3 u4
  clear ha hb
  go_enter Tryz.func10, Tryz.ntmps10
  go_wp2_with fail
  generalize (w.alloc (.cells #[v0, v1, v2, v3, v4] 25)).alloc (.cells #[u0, u1, u2, u3, u4] 25) = w2 at HW ⊢
  have HWW := Lib.hid HW.bel
  clear HW
  refine (compare_calls _ a b _ _ _ _ _ _ _ _ _ _ w2 (Nat.le_refl _) (HA.out.keep (fun p hp => HWW.out.cell hp) HWW.out.size) (HB.out.keep (fun p hp => HWW.out.cell hp) HWW.out.size)).mono ?_
  rintro e w3 ⟨c, rfl, hb3, hc⟩
  have HC := Lib.hid hc
  have HB3 := Lib.hid (HWW.out.trans (hb3.mono HWW.out.size))
  clear hc hb3
  go_wp2_with fail
  go_ret
  exact ⟨c == 0, rfl, HB3.out, by rw [← HC.out]; simp⟩
end Go.Proofs.YtbjcahhijfommaaGreatDoor.Tr
