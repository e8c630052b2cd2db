/- The law of trees that are the same. -/
import Derived.Test.YtbjcahhijfommaaDoorSwk
import Derived.Test.YtbjcahhijfommaaDoorCopyS
import Derived.WalkLawsBesides
namespace Go.Proofs.YtbjcahhijfommaaDoor.Wk
open Go Go.RowKit Go.Proofs.YtbjcahhijfommaaDoor.Tr
set_option linter.unusedVariables false
set_option maxHeartbeats 8000000 in
set_option maxRecDepth 100000 in
theorem serialSame (a : Nd) (v0 v1 v2 v3 v4 : Value) (b : Nd) (u0 u1 u2 u3 u4 : Value) (w : World) (ha : IsTree w w.heap.size a v0 v1 v2 v3 v4) (hb : IsTree w w.heap.size b u0 u1 u2 u3 u4) (hT : SpTab w) :
    Calls Tryd.prog 3 #[.agg #[v0, v1, v2, v3, v4], .agg #[u0, u1, u2, u3, u4]] w fun e w' => e = .returned (.bool true) ∧ Below w.heap.size w w' := by
  have FA : Hid (∀ W', Below w.heap.size w W' → IsTree W' W'.heap.size a v0 v1 v2 v3 v4) := Lib.hid fun W' hh => ha.keep (fun p hp => hh.cell hp) hh.size
  have FB : Hid (∀ W', Below w.heap.size w W' → IsTree W' W'.heap.size b u0 u1 u2 u3 u4) := Lib.hid fun W' hh => hb.keep (fun p hp => hh.cell hp) hh.size
  have HTB : Hid (∀ W', Below w.heap.size w W' → SpTab W') := Lib.hid fun W' hh => hT.below hh hT.lt
  have HX := two_boxes w v0 v1 v2 v3 v4 u0 u1 u2 u3 u4
  clear ha hb hT
  go_enter Tryd.func3, Tryd.ntmps3
  go_wp2_with fail
  generalize (w.alloc (.cells #[v0, v1, v2, v3, v4] 25)).alloc (.cells #[u0, u1, u2, u3, u4] 25) = w2 at HX ⊢
  have HXX := Lib.hid HX
  clear HX
  refine (small0_calls a _ _ _ _ _ w2 (FA.out _ HXX.out.bel)).mono ?_
  rintro e w3 ⟨ok, rfl, hok, hb3⟩
  have HB3 : Hid (Below w2.heap.size w2 w3) := Lib.hid hb3
  have HBW : Hid (Below w.heap.size w w3) := Lib.hid (HXX.out.bel.trans (hb3.mono HXX.out.bel.size))
  clear hb3
  have hs2 := HXX.out.size
  cases ok with
  | false =>
    go_wp2_with fail
    refine (awake16 _ (HTB.out _ HBW.out)).mono ?_
    rintro e w4 ⟨rfl, hb4⟩
    have HB4 : Hid (Below w.heap.size w w4) := Lib.hid (HBW.out.trans (hb4.mono HBW.out.size))
    clear hb4
    go_wp2_with fail
    go_ret
    exact ⟨rfl, HB4.out⟩
  | true =>
  obtain ⟨hoa1, hoa2⟩ := hok rfl
  have HOA := Lib.hid hoa1
  clear hok hoa1
  have b0 := (HB3.out.cell (p := ⟨w.heap.size + 1, 0, none⟩) (by show w.heap.size + 1 < _; omega)).trans HXX.out.b0
  have b1 := (HB3.out.cell (p := ⟨w.heap.size + 1, 1, none⟩) (by show w.heap.size + 1 < _; omega)).trans HXX.out.b1
  have b2 := (HB3.out.cell (p := ⟨w.heap.size + 1, 2, none⟩) (by show w.heap.size + 1 < _; omega)).trans HXX.out.b2
  have b3 := (HB3.out.cell (p := ⟨w.heap.size + 1, 3, none⟩) (by show w.heap.size + 1 < _; omega)).trans HXX.out.b3
  have b4 := (HB3.out.cell (p := ⟨w.heap.size + 1, 4, none⟩) (by show w.heap.size + 1 < _; omega)).trans HXX.out.b4
  go_wp2_with fail
  refine (small0_calls b _ _ _ _ _ w3 (FB.out _ HBW.out)).mono ?_
  rintro e w4 ⟨ok, rfl, hok, hb4⟩
  have HB4 : Hid (Below w2.heap.size w2 w4) := Lib.hid (HB3.out.trans (hb4.mono HB3.out.size))
  have HBV : Hid (Below w.heap.size w w4) := Lib.hid (HBW.out.trans (hb4.mono HBW.out.size))
  clear hb4 b0 b1 b2 b3 b4
  cases ok with
  | false =>
    go_wp2_with fail
    refine (awake16 _ (HTB.out _ HBV.out)).mono ?_
    rintro e w5 ⟨rfl, hb5⟩
    have HB5 : Hid (Below w.heap.size w w5) := Lib.hid (HBV.out.trans (hb5.mono HBV.out.size))
    clear hb5
    go_wp2_with fail
    go_ret
    exact ⟨rfl, HB5.out⟩
  | true =>
  obtain ⟨hob1, hob2⟩ := hok rfl
  have HOB := Lib.hid hob1
  clear hok hob1
  have a0 := cell_regrown ((HB4.out.cell (p := ⟨w.heap.size, 0, none⟩) (by show w.heap.size < _; omega)).trans HXX.out.a0)
  have a1 := cell_regrown ((HB4.out.cell (p := ⟨w.heap.size, 1, none⟩) (by show w.heap.size < _; omega)).trans HXX.out.a1)
  have a2 := cell_regrown ((HB4.out.cell (p := ⟨w.heap.size, 2, none⟩) (by show w.heap.size < _; omega)).trans HXX.out.a2)
  have a3 := cell_regrown ((HB4.out.cell (p := ⟨w.heap.size, 3, none⟩) (by show w.heap.size < _; omega)).trans HXX.out.a3)
  have a4 := cell_regrown ((HB4.out.cell (p := ⟨w.heap.size, 4, none⟩) (by show w.heap.size < _; omega)).trans HXX.out.a4)
  have b0 := cell_regrown ((HB4.out.cell (p := ⟨w.heap.size + 1, 0, none⟩) (by show w.heap.size + 1 < _; omega)).trans HXX.out.b0)
  have b1 := cell_regrown ((HB4.out.cell (p := ⟨w.heap.size + 1, 1, none⟩) (by show w.heap.size + 1 < _; omega)).trans HXX.out.b1)
  have b2 := cell_regrown ((HB4.out.cell (p := ⟨w.heap.size + 1, 2, none⟩) (by show w.heap.size + 1 < _; omega)).trans HXX.out.b2)
  have b3 := cell_regrown ((HB4.out.cell (p := ⟨w.heap.size + 1, 3, none⟩) (by show w.heap.size + 1 < _; omega)).trans HXX.out.b3)
  have b4 := cell_regrown ((HB4.out.cell (p := ⟨w.heap.size + 1, 4, none⟩) (by show w.heap.size + 1 < _; omega)).trans HXX.out.b4)
  obtain ⟨sa, hsa⟩ : ∃ sa : ByteArray, (⟨(sayT false a).toArray⟩ : ByteArray) = sa := ⟨_, rfl⟩
  obtain ⟨sb, hsb⟩ : ∃ sb : ByteArray, (⟨(sayT false b).toArray⟩ : ByteArray) = sb := ⟨_, rfl⟩
  have HXA : Hid (∀ W x0 x1 x2 x3 x4, Below w4.heap.size w4 W → IsTree W W.heap.size a x0 x1 x2 x3 x4 → Calls Tryd.prog 10 #[.agg #[x0, x1, x2, x3, x4]] W fun e w' => e = .returned (.string sa) ∧ Below W.heap.size W w') := Lib.hid fun W x0 x1 x2 x3 x4 hb h => by
    have := textB a (fit_of_ok 0 _ HOA.out) (by omega) _ _ _ _ _ w4 W (HTB.out _ HBV.out) hb h
    rwa [hsa] at this
  have HTA : Hid (∀ W, Below w4.heap.size w4 W → Calls Tryd.prog 10 #[.agg #[v0, v1, v2, v3, v4]] W fun e w' => e = .returned (.string sa) ∧ Below W.heap.size W w') := Lib.hid fun W hb => HXA.out W _ _ _ _ _ hb (FA.out _ (HBV.out.trans (hb.mono HBV.out.size)))
  have HTBB : Hid (∀ W, Below w4.heap.size w4 W → Calls Tryd.prog 10 #[.agg #[u0, u1, u2, u3, u4]] W fun e w' => e = .returned (.string sb) ∧ Below W.heap.size W w') := Lib.hid fun W hb => by
    have := textB b (fit_of_ok 0 _ HOB.out) (by omega) _ _ _ _ _ w4 W (HTB.out _ HBV.out) hb (FB.out _ (HBV.out.trans (hb.mono HBV.out.size)))
    rwa [hsb] at this
  have HTR : Hid (∀ W, Below w4.heap.size w4 W → Calls Tryd.prog 11 #[.agg #[v0, v1, v2, v3, v4]] W (TreeEnd a W)) := Lib.hid fun W hW => tree_calls _ (by omega) a _ _ _ _ _ W hoa2 (okT_att 0 _ HOA.out) (FA.out _ (HBV.out.trans (hW.mono HBV.out.size)))
  have HAW : Hid (∀ W, Below w4.heap.size w4 W → Calls Tryd.prog 8 #[] W fun e w' => e = .returned (.bool true) ∧ Below W.heap.size W w') := Lib.hid fun W hW => awake16 W (HTB.out _ (HBV.out.trans (hW.mono HBV.out.size)))
  have HSA : Hid (∀ W, Below w4.heap.size w4 W → Calls Tryd.prog 9 #[.agg #[v0, v1, v2, v3, v4], .agg #[u0, u1, u2, u3, u4]] W fun e w' => ∃ s : Bool, e = .returned (.bool s) ∧ Below W.heap.size W w' ∧ (s = true ↔ a = b)) := Lib.hid fun W hW => same_calls a b _ _ _ _ _ _ _ _ _ _ W (FA.out _ (HBV.out.trans (hW.mono HBV.out.size))) (FB.out _ (HBV.out.trans (hW.mono HBV.out.size)))
  have hqq : (sa.toList == sa.toList) = true := beq_self_eq_true _
  have HSAB : Hid (a = b → sa = sb) := Lib.hid (by rintro rfl; rw [← hsa, ← hsb])
  clear hsa hsb
  by_cases hab : a = b
  · have hab2 := HSAB.out hab
    subst hab2
    have HS1 : Hid (∀ W, Below w4.heap.size w4 W → Calls Tryd.prog 9 #[.agg #[v0, v1, v2, v3, v4], .agg #[u0, u1, u2, u3, u4]] W fun e w' => e = .returned (.bool true) ∧ Below W.heap.size W w') := Lib.hid fun W hW => (HSA.out W hW).mono fun e w' ⟨s, h1, h2, h3⟩ => ⟨by rw [h1, h3.2 hab], h2⟩
    clear HSA HSAB hab
    go_wp2_with fail
    refine Kr.wp_region_R [(2, fun v _ => v = .bool true), (6, fun v _ => v = .string sa), (8, fun v _ => v = .string sa), (13, SpTree w4.heap.size a), (14, fun v _ => v = .string sa), (16, fun v _ => v = .string sa), (20, fun v _ => v = .bool true)] mixed2 (by kernel_rfl) ?_
    repeat (refine Kr.wpR_one rfl rfl ?_; go_big_quiet_step (fail); refine wpQuiet_nil ?_)
    refine Kr.wpR_call _ rfl rfl rfl ?_ ?_
    · intro W hW hk
      go_simp
      refine Kr.upMany_enter ((HS1.out W (Kr.later_iff.1 hW)).mono ?_)
      rintro e w' ⟨rfl, hbb⟩
      exact ⟨_, rfl, rfl, hbb⟩
    rintro v ⟨_, _, _, _, hS, _⟩
    obtain rfl := hS
    go_frame
    repeat (refine Kr.wpR_one rfl rfl ?_; go_big_quiet_step (fail); refine wpQuiet_nil ?_)
    refine Kr.wpR_call _ rfl rfl rfl ?_ ?_
    · intro W hW hk
      go_simp
      refine Kr.upMany_enter ((HTA.out W (Kr.later_iff.1 hW)).mono ?_)
      rintro e w' ⟨rfl, hbb⟩
      exact ⟨_, rfl, rfl, hbb⟩
    rintro v ⟨_, _, _, _, hS, _⟩
    obtain rfl := hS
    go_frame
    repeat (refine Kr.wpR_one rfl rfl ?_; go_big_quiet_step (fail); refine wpQuiet_nil ?_)
    refine Kr.wpR_call _ rfl rfl rfl ?_ ?_
    · intro W hW hk
      go_simp
      refine Kr.upMany_enter ((HTBB.out W (Kr.later_iff.1 hW)).mono ?_)
      rintro e w' ⟨rfl, hbb⟩
      exact ⟨_, rfl, rfl, hbb⟩
    rintro v ⟨_, _, _, _, hS, _⟩
    obtain rfl := hS
    go_frame
    repeat (refine Kr.wpR_one rfl rfl ?_; go_big_quiet_step (fail); refine wpQuiet_nil ?_)
    refine Kr.wpR_call _ rfl rfl rfl ?_ ?_
    · intro W hW hk
      have HWW := Lib.hid (Kr.later_iff.1 hW).size
      go_simp
      refine Kr.upMany_enter ((HTR.out W (Kr.later_iff.1 hW)).mono ?_)
      rintro e w' ⟨x0, x1, x2, x3, x4, rfl, hin, hbb⟩
      exact ⟨_, rfl, ⟨x0, x1, x2, x3, x4, rfl, hin.keep fun c ⟨h1, h2⟩ => ⟨⟨Nat.le_trans HWW.out h1, h2⟩, fun _ => rfl⟩⟩, hbb⟩
    rintro v ⟨_, _, _, _, hS, _⟩
    obtain ⟨x0, x1, x2, x3, x4, rfl, _⟩ := hS
    go_frame
    repeat (refine Kr.wpR_one rfl rfl ?_; go_big_quiet_step (fail); refine wpQuiet_nil ?_)
    refine Kr.wpR_call _ rfl rfl rfl ?_ ?_
    · intro W hW hk
      have HTX : Hid (IsTree W W.heap.size a x0 x1 x2 x3 x4) := Lib.hid (by
        obtain ⟨W0, ⟨y0, y1, y2, y3, y4, e, h1⟩, hb⟩ := hk 27 _ (.inl ⟨rfl, rfl⟩) (by decide)
        injection e with e
        injection e with e
        simp only [List.cons.injEq, and_true] at e
        obtain ⟨rfl, rfl, rfl, rfl, rfl⟩ := e
        exact (h1.is (fun c h => h.2)).keep (fun p hp => hb.cell hp) hb.size)
      clear hk
      have HLL := Lib.hid (Kr.later_iff.1 hW)
      go_simp
      refine Kr.upMany_enter ((HXA.out W x0 x1 x2 x3 x4 HLL.out HTX.out).mono ?_)
      rintro e w' ⟨rfl, hbb⟩
      exact ⟨_, rfl, rfl, hbb⟩
    rintro v ⟨_, _, _, _, hS, _⟩
    obtain rfl := hS
    go_frame
    repeat (refine Kr.wpR_one rfl rfl ?_; go_big_quiet_step (fail); refine wpQuiet_nil ?_)
    refine Kr.wpR_call _ rfl rfl rfl ?_ ?_
    · intro W hW hk
      go_simp
      refine Kr.upMany_enter ((HTA.out W (Kr.later_iff.1 hW)).mono ?_)
      rintro e w' ⟨rfl, hbb⟩
      exact ⟨_, rfl, rfl, hbb⟩
    rintro v ⟨_, _, _, _, hS, _⟩
    obtain rfl := hS
    go_frame
    repeat (refine Kr.wpR_one rfl rfl ?_; go_big_quiet_step (fail); refine wpQuiet_nil ?_)
    refine Kr.wpR_call _ rfl rfl rfl ?_ ?_
    · intro W hW hk
      go_simp
      refine Kr.upMany_enter ((HAW.out W (Kr.later_iff.1 hW)).mono ?_)
      rintro e w' ⟨rfl, hbb⟩
      exact ⟨_, rfl, rfl, hbb⟩
    rintro v ⟨_, _, _, _, hS, _⟩
    obtain rfl := hS
    go_frame
    repeat (refine Kr.wpR_one rfl rfl ?_; go_big_quiet_step (fail); refine wpQuiet_nil ?_)
    refine Kr.wpR_nil ?_
    intro w' hb _
    have HBZ : Hid (Below w.heap.size w w') := Lib.hid (HBV.out.trans (hb.mono HBV.out.size))
    clear hb
    go_wp2_with fail
    go_ret
    exact ⟨rfl, HBZ.out⟩
  · have HS1 : Hid (∀ W, Below w4.heap.size w4 W → Calls Tryd.prog 9 #[.agg #[v0, v1, v2, v3, v4], .agg #[u0, u1, u2, u3, u4]] W fun e w' => e = .returned (.bool false) ∧ Below W.heap.size W w') := Lib.hid fun W hW => (HSA.out W hW).mono fun e w' ⟨s, h1, h2, h3⟩ => ⟨by rw [h1]; cases s; rfl; exact absurd (h3.1 rfl) hab, h2⟩
    clear HSA HSAB hab HTBB
    go_wp2_with fail
    refine Kr.wp_region_R [(2, fun v _ => v = .bool false), (13, SpTree w4.heap.size a), (14, fun v _ => v = .string sa), (16, fun v _ => v = .string sa), (20, fun v _ => v = .bool true)] mixed2 (by kernel_rfl) ?_
    repeat (refine Kr.wpR_one rfl rfl ?_; go_big_quiet_step (fail); refine wpQuiet_nil ?_)
    refine Kr.wpR_call _ rfl rfl rfl ?_ ?_
    · intro W hW hk
      go_simp
      refine Kr.upMany_enter ((HS1.out W (Kr.later_iff.1 hW)).mono ?_)
      rintro e w' ⟨rfl, hbb⟩
      exact ⟨_, rfl, rfl, hbb⟩
    rintro v ⟨_, _, _, _, hS, _⟩
    obtain rfl := hS
    go_frame
    repeat (refine Kr.wpR_one rfl rfl ?_; go_big_quiet_step (fail); refine wpQuiet_nil ?_)
    refine Kr.wpR_pass rfl ?_
    go_big_quiet_step (fail)
    refine wpQuiet_nil ?_
    repeat (refine Kr.wpR_one rfl rfl ?_; go_big_quiet_step (fail); refine wpQuiet_nil ?_)
    refine Kr.wpR_pass rfl ?_
    go_big_quiet_step (fail)
    refine wpQuiet_nil ?_
    repeat (refine Kr.wpR_one rfl rfl ?_; go_big_quiet_step (fail); refine wpQuiet_nil ?_)
    refine Kr.wpR_call _ rfl rfl rfl ?_ ?_
    · intro W hW hk
      have HWW := Lib.hid (Kr.later_iff.1 hW).size
      go_simp
      refine Kr.upMany_enter ((HTR.out W (Kr.later_iff.1 hW)).mono ?_)
      rintro e w' ⟨x0, x1, x2, x3, x4, rfl, hin, hbb⟩
      exact ⟨_, rfl, ⟨x0, x1, x2, x3, x4, rfl, hin.keep fun c ⟨h1, h2⟩ => ⟨⟨Nat.le_trans HWW.out h1, h2⟩, fun _ => rfl⟩⟩, hbb⟩
    rintro v ⟨_, _, _, _, hS, _⟩
    obtain ⟨x0, x1, x2, x3, x4, rfl, _⟩ := hS
    go_frame
    repeat (refine Kr.wpR_one rfl rfl ?_; go_big_quiet_step (fail); refine wpQuiet_nil ?_)
    refine Kr.wpR_call _ rfl rfl rfl ?_ ?_
    · intro W hW hk
      have HTX : Hid (IsTree W W.heap.size a x0 x1 x2 x3 x4) := Lib.hid (by
        obtain ⟨W0, ⟨y0, y1, y2, y3, y4, e, h1⟩, hb⟩ := hk 27 _ (.inl ⟨rfl, rfl⟩) (by decide)
        injection e with e
        injection e with e
        simp only [List.cons.injEq, and_true] at e
        obtain ⟨rfl, rfl, rfl, rfl, rfl⟩ := e
        exact (h1.is (fun c h => h.2)).keep (fun p hp => hb.cell hp) hb.size)
      clear hk
      have HLL := Lib.hid (Kr.later_iff.1 hW)
      go_simp
      refine Kr.upMany_enter ((HXA.out W x0 x1 x2 x3 x4 HLL.out HTX.out).mono ?_)
      rintro e w' ⟨rfl, hbb⟩
      exact ⟨_, rfl, rfl, hbb⟩
    rintro v ⟨_, _, _, _, hS, _⟩
    obtain rfl := hS
    go_frame
    repeat (refine Kr.wpR_one rfl rfl ?_; go_big_quiet_step (fail); refine wpQuiet_nil ?_)
    refine Kr.wpR_call _ rfl rfl rfl ?_ ?_
    · intro W hW hk
      go_simp
      refine Kr.upMany_enter ((HTA.out W (Kr.later_iff.1 hW)).mono ?_)
      rintro e w' ⟨rfl, hbb⟩
      exact ⟨_, rfl, rfl, hbb⟩
    rintro v ⟨_, _, _, _, hS, _⟩
    obtain rfl := hS
    go_frame
    repeat (refine Kr.wpR_one rfl rfl ?_; go_big_quiet_step (fail); refine wpQuiet_nil ?_)
    refine Kr.wpR_call _ rfl rfl rfl ?_ ?_
    · intro W hW hk
      go_simp
      refine Kr.upMany_enter ((HAW.out W (Kr.later_iff.1 hW)).mono ?_)
      rintro e w' ⟨rfl, hbb⟩
      exact ⟨_, rfl, rfl, hbb⟩
    rintro v ⟨_, _, _, _, hS, _⟩
    obtain rfl := hS
    go_frame
    repeat (refine Kr.wpR_one rfl rfl ?_; go_big_quiet_step (fail); refine wpQuiet_nil ?_)
    refine Kr.wpR_nil ?_
    intro w' hb _
    have HBZ : Hid (Below w.heap.size w w') := Lib.hid (HBV.out.trans (hb.mono HBV.out.size))
    clear hb
    go_wp2_with fail
    go_ret
    exact ⟨rfl, HBZ.out⟩
end Go.Proofs.YtbjcahhijfommaaDoor.Wk
