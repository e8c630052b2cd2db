/- The law of all walks: the tree's nodes in both orders, a node by its number, its way, the texts. -/
import Derived.Test.YtcacgbdnegmfnaaAllP
namespace Go.Proofs.Ytcacgbdnegmfnaa.Wk
open Go Go.RowKit Go.Proofs.Ytcacgbdnegmfnaa.Pl Go.Proofs.Ytcacgbdnegmfnaa.Tr Go.Proofs.Ytcacgbdnegmfnaa.Ha
set_option linter.unusedVariables false
/-- Behind the first statements: the two lists, the copy's box and the tree's. -/
structure AwRel (t : Nd) (bx : Nat) (g gr : Nat) (w0 : World) (B : Nat) (capr : Nat) (x0 x1 x2 x3 x4 v0 v1 v2 v3 v4 : Value) (w wa : World) : Prop where
  bel : Below w.heap.size w wa
  box : wa.heap[w.heap.size]? = some (.cells #[v0, v1, v2, v3, v4] 25 (0, 0))
  boy : wa.heap[bx]? = some (.cells #[x0, x1, x2, x3, x4] 25 (0, 0))
  bxg : w.heap.size < bx
  tr : IsTree wa wa.heap.size t v0 v1 v2 v3 v4
  tx : IsTree wa wa.heap.size t x0 x1 x2 x3 x4
  row : IRow g (allP t) (finOf (allP t)) wa
  rrow : RRow w0 wa B (.slice (some ⟨gr, 0, none⟩) (cntT t : Nat) capr) (allP t) (finOf (allP t))
  bel0 : Below w0.heap.size w0 wa
theorem AwRel.next {t : Nd} {bx g gr : Nat} {w0 : World} {B capr : Nat} {x0 x1 x2 x3 x4 v0 v1 v2 v3 v4 : Value} {w wa wb : World} (h : AwRel t bx g gr w0 B capr x0 x1 x2 x3 x4 v0 v1 v2 v3 v4 w wa) (hb : Below wa.heap.size wa wb) : AwRel t bx g gr w0 B capr x0 x1 x2 x3 x4 v0 v1 v2 v3 v4 w wb :=
  ⟨h.bel.trans (hb.mono h.bel.size), (hb.block _ (lt_of_block h.box)).trans h.box, (hb.block _ (lt_of_block h.boy)).trans h.boy, h.bxg, h.tr.keep (fun p hp => hb.cell hp) hb.size, h.tx.keep (fun p hp => hb.cell hp) hb.size, h.row.keep hb (Nat.le_refl _), h.rrow.below hb, h.bel0.trans (hb.mono h.bel0.size)⟩
set_option maxHeartbeats 16000000 in
set_option maxRecDepth 100000 in
theorem walkAll (t : Nd) (v0 v1 v2 v3 v4 : Value) (id of_ : Int) (w : World) (h : IsTree w w.heap.size t v0 v1 v2 v3 v4) :
    Calls Try.prog 13 #[.agg #[v0, v1, v2, v3, v4], .int .i64 id, .int .i64 of_] w fun e w' => e = .returned (.bool true) ∧ Below w.heap.size w w' := by
  have FL : Hid (∀ W', Below w.heap.size w W' → IsTree W' W'.heap.size t v0 v1 v2 v3 v4) := Lib.hid fun W' hb => h.keep (fun p hp => hb.cell hp) hb.size
  have HBX := Lib.hid (alloc_new w (.cells #[v0, v1, v2, v3, v4] 25))
  have HBE : Hid (Below w.heap.size w (w.alloc (.cells #[v0, v1, v2, v3, v4] 25))) := Lib.hid ((Below.refl _ w).alloc (Nat.le_refl _) _)
  clear h
  go_enter Try.func13, Try.ntmps13
  go_wp2_with fail
  generalize w.alloc (.cells #[v0, v1, v2, v3, v4] 25) = wz at HBE HBX ⊢
  refine (small0_calls _ _ _ _ _ _ _ (FL.out _ HBE.out)).mono ?_
  rintro e w1 ⟨ok, rfl, hok, hb1⟩
  have HB1 : Hid (Below w.heap.size w w1) := Lib.hid (HBE.out.trans (hb1.mono HBE.out.size))
  have HX1 := Lib.hid ((hb1.block _ (lt_of_block HBX.out)).trans HBX.out)
  clear hb1
  cases ok with
  | false =>
    go_wp2_with fail
    refine (awake_calls _).mono ?_
    rintro e w2 ⟨rfl, hb2⟩
    have HB2 : Hid (Below w.heap.size w w2) := Lib.hid (HB1.out.trans (hb2.mono HB1.out.size))
    clear hb2
    go_wp2_with fail
    go_ret
    exact ⟨rfl, HB2.out⟩
  | true =>
  obtain ⟨hok1, hok2⟩ := hok rfl
  have HAT := Lib.hid (okT_att 0 _ hok1)
  have HTX : Hid ((textT t).length ≤ 2400000) := Lib.hid (by have := okT_text 0 _ hok1; omega)
  clear hok hok1
  have hpos := cntT_pos t
  obtain ⟨b0, b1, b2, b3, b4⟩ := box5 HX1.out
  go_wp2_with fail
  refine (tree_calls _ (by omega) t _ _ _ _ _ w1 hok2 HAT.out (FL.out _ HB1.out)).mono ?_
  rintro e w3 ⟨x0, x1, x2, x3, x4, rfl, hx, hb3⟩
  have HB3 : Hid (Below w.heap.size w w3) := Lib.hid (HB1.out.trans (hb3.mono HB1.out.size))
  have HX3 := Lib.hid ((hb3.block _ (lt_of_block HX1.out)).trans HX1.out)
  have hxt := hx.is (fun c h => h.2)
  obtain ⟨kx, nx, sx, Ax, lx, acx, Kx, kcx, rfl, rfl, rfl, rfl, rfl, _, _, _⟩ := tree_shape hxt
  have FX : Hid (∀ W', Below w3.heap.size w3 W' → IsTree W' W'.heap.size t (.int .i64 kx) (.string nx) (.string sx) (.slice Ax lx acx) (.slice Kx t.kids.length kcx)) := Lib.hid fun W' hb => hxt.keep (fun p hp => hb.cell hp) hb.size
  clear hx hxt hb3 b0 b1 b2 b3 b4
  have HB4 : Hid (Below w3.heap.size w3 (w3.alloc (.cells #[.int .i64 kx, .string nx, .string sx, .slice Ax lx acx, .slice Kx t.kids.length kcx] 25))) := Lib.hid ((Below.refl _ w3).alloc (Nat.le_refl _) _)
  have HY4 := Lib.hid (alloc_new w3 (.cells #[.int .i64 kx, .string nx, .string sx, .slice Ax lx acx, .slice Kx t.kids.length kcx] 25))
  have HX4 := Lib.hid (alloc_old HX3.out (.cells #[.int .i64 kx, .string nx, .string sx, .slice Ax lx acx, .slice Kx t.kids.length kcx] 25))
  go_wp2_with fail
  generalize w3.alloc (.cells #[.int .i64 kx, .string nx, .string sx, .slice Ax lx acx, .slice Kx t.kids.length kcx] 25) = w4 at HB4 HY4 HX4 ⊢
  refine (flat_calls t _ _ _ _ _ w4 (FX.out _ HB4.out) (by omega) HAT.out).mono ?_
  rintro e w5 ⟨g, cap, rfl, hc1, hc2, hg, hrow, hb5⟩
  have HB5 : Hid (Below w3.heap.size w3 w5) := Lib.hid (HB4.out.trans (hb5.mono HB4.out.size))
  have HY5 := Lib.hid ((hb5.block _ (lt_of_block HY4.out)).trans HY4.out)
  have HX5 := Lib.hid ((hb5.block _ (lt_of_block HX4.out)).trans HX4.out)
  have HR5 := Lib.hid hrow
  clear hrow hb5
  obtain ⟨b0, b1, b2, b3, b4⟩ := box5 HX5.out
  go_wp2_with fail
  refine (rFlat_calls t _ _ _ _ _ w5 (FL.out _ (HB3.out.trans (HB5.out.mono HB3.out.size))) (by omega) HAT.out).mono ?_
  rintro e w6 ⟨gr, capr, B, w0, rfl, hrr, hb6, hb60, hb06, hBB⟩
  have HA : Hid (AwRel t w3.heap.size g gr w0 B capr (.int .i64 kx) (.string nx) (.string sx) (.slice Ax lx acx) (.slice Kx t.kids.length kcx) v0 v1 v2 v3 v4 w w6) := Lib.hid
    ⟨HB3.out.trans ((HB5.out.trans (hb6.mono HB5.out.size)).mono HB3.out.size), (hb6.block _ (lt_of_block HX5.out)).trans HX5.out, (hb6.block _ (lt_of_block HY5.out)).trans HY5.out, lt_of_block HX3.out,
      FL.out _ (HB3.out.trans ((HB5.out.trans (hb6.mono HB5.out.size)).mono HB3.out.size)), FX.out _ (HB5.out.trans (hb6.mono HB5.out.size)), HR5.out.keep hb6 (Nat.le_refl _), hrr, hb06⟩
  clear hrr hb6 hb60 hb06 hBB b0 b1 b2 b3 b4 HB5 HY5 HX5 HR5 HB4 HY4 HX4 HX3 HB3 HB1 HX1 HBX HBE hg
  generalize w3.heap.size = bx at HA
  obtain ⟨l, hway⟩ := way_ex t id (by omega)
  have CP1 : Hid (∀ W, Below w6.heap.size w6 W → Calls Try.prog 17 #[.agg #[.int .i64 kx, .string nx, .string sx, .slice Ax lx acx, .slice Kx t.kids.length kcx]] W fun e w' => ∃ v, e = .returned v ∧ SpNums (postT 0 t) v w' ∧ Below W.heap.size W w') := Lib.hid fun W hW => (post_calls t _ _ _ _ _ W (HA.out.next hW).tx (by omega) HAT.out).mono fun e w' ⟨v, h1, h2, h3⟩ => ⟨v, h1, nums_row h2 (postT_length _ _) hpos, h3⟩
  have CP2 : Hid (∀ W, Below w6.heap.size w6 W → Calls Try.prog 38 #[.agg #[v0, v1, v2, v3, v4]] W fun e w' => ∃ v, e = .returned v ∧ SpNums (postT 0 t) v w' ∧ Below W.heap.size W w') := Lib.hid fun W hW => (rPost_calls t _ _ _ _ _ W (HA.out.next hW).tr (by omega) HAT.out).mono fun e w' ⟨v, h1, h2, h3⟩ => ⟨v, h1, nums_row h2 (postT_length _ _) hpos, h3⟩
  have CW1 : Hid (∀ W, Below w6.heap.size w6 W → Calls Try.prog 23 #[.agg #[.int .i64 kx, .string nx, .string sx, .slice Ax lx acx, .slice Kx t.kids.length kcx], .int .i64 id] W fun e w' => ∃ v, e = .returned v ∧ SpNums l v w' ∧ Below W.heap.size W w') := Lib.hid fun W hW => (path_calls t _ _ _ _ _ id W (HA.out.next hW).tx (by omega) HAT.out).mono fun e w' h => way_walk hway h
  have CW2 : Hid (∀ W, Below w6.heap.size w6 W → Calls Try.prog 39 #[.agg #[v0, v1, v2, v3, v4], .int .i64 id] W fun e w' => ∃ v, e = .returned v ∧ SpNums l v w' ∧ Below W.heap.size W w') := Lib.hid fun W hW => (rPath_calls t _ _ _ _ _ id W (HA.out.next hW).tr (by omega) HAT.out).mono fun e w' h => way_ref hway h
  have CT1 : Hid (∀ W, Below w6.heap.size w6 W → Calls Try.prog 24 #[.agg #[.int .i64 kx, .string nx, .string sx, .slice Ax lx acx, .slice Kx t.kids.length kcx]] W fun e w' => e = .returned (.string ⟨(textT t).toArray⟩) ∧ Below W.heap.size W w') := Lib.hid fun W hW => text_calls t _ _ _ _ _ W (HA.out.next hW).tx (by omega) (by have := HTX.out; omega)
  have CT2 : Hid (∀ W, Below w6.heap.size w6 W → Calls Try.prog 40 #[.agg #[v0, v1, v2, v3, v4]] W fun e w' => e = .returned (.string ⟨(textT t).toArray⟩) ∧ Below W.heap.size W w') := Lib.hid fun W hW => rText_calls _ t _ _ _ _ _ W (Nat.le_refl _) (HA.out.next hW).tr (by omega) HTX.out
  have CSP : Hid (∀ v1 v2 W W1 W2, SpNums (postT 0 t) v1 W1 → Below W1.heap.size W1 W → SpNums (postT 0 t) v2 W2 → Below W2.heap.size W2 W → Calls Try.prog 37 #[v1, v2] W fun e w' => e = .returned (.bool true) ∧ Below W.heap.size W w') := Lib.hid fun v1 v2 W W1 W2 h1 b1 h2 b2 => same_at h1 b1 h2 b2 (by rw [postT_length]; omega)
  have CSW : Hid (∀ v1 v2 W W1 W2, SpNums l v1 W1 → Below W1.heap.size W1 W → SpNums l v2 W2 → Below W2.heap.size W2 W → Calls Try.prog 37 #[v1, v2] W fun e w' => e = .returned (.bool true) ∧ Below W.heap.size W w') := Lib.hid fun v1 v2 W W1 W2 h1 b1 h2 b2 => same_at h1 b1 h2 b2 (by have := hway.1; omega)
  clear hway
  obtain ⟨pl, hpl⟩ : ∃ pl, pl = postT 0 t := ⟨_, rfl⟩
  rw [← hpl] at CP1 CP2 CSP
  clear hpl
  obtain ⟨tt, htt⟩ : ∃ tt : ByteArray, tt = ⟨(textT t).toArray⟩ := ⟨_, rfl⟩
  rw [← htt] at CT1 CT2
  clear htt
  obtain ⟨b0, b1, b2, b3, b4⟩ := box5 HA.out.box
  obtain ⟨y0, y1, y2, y3, y4⟩ := box5 HA.out.boy
  have rb0 := cell_regrown b0
  have rb1 := cell_regrown b1
  have rb2 := cell_regrown b2
  have rb3 := cell_regrown b3
  have rb4 := cell_regrown b4
  have ry0 := cell_regrown y0
  have ry1 := cell_regrown y1
  have ry2 := cell_regrown y2
  have ry3 := cell_regrown y3
  have ry4 := cell_regrown y4
  clear b0 b1 b2 b3 b4 y0 y1 y2 y3 y4
  go_wp2_with fail
  refine Kr.wp_region_R [(7, SpNums pl), (9, SpNums pl), (10, fun v _ => v = .bool true), (16, SpNums l), (19, SpNums l), (20, fun v _ => v = .bool true), (25, fun v _ => v = .string tt), (27, fun v _ => v = .string tt)] mixed2 (by kernel_rfl) ?_
  repeat (refine Kr.wpR_one rfl rfl ?_; go_big_quiet_step (fail); refine wpQuiet_nil ?_)
  refine Kr.wpR_call _ rfl rfl rfl ?_ ?_
  · intro W hW hk
    go_simp
    refine Kr.upMany_enter ((CP1.out W (Kr.later_iff.1 hW)).mono ?_)
    rintro e w' ⟨v, rfl, hsp, hbb⟩
    exact ⟨_, rfl, hsp, hbb⟩
  rintro v ⟨_, _, _, _, hS, _⟩
  obtain ⟨_, _, rfl, _⟩ := hS
  go_frame
  repeat (refine Kr.wpR_one rfl rfl ?_; go_big_quiet_step (fail); refine wpQuiet_nil ?_)
  refine Kr.wpR_call _ rfl rfl rfl ?_ ?_
  · intro W hW hk
    go_simp
    refine Kr.upMany_enter ((CP2.out W (Kr.later_iff.1 hW)).mono ?_)
    rintro e w' ⟨v, rfl, hsp, hbb⟩
    exact ⟨_, rfl, hsp, hbb⟩
  rintro v ⟨_, _, _, _, hS, _⟩
  obtain ⟨_, _, rfl, _⟩ := hS
  go_frame
  repeat (refine Kr.wpR_one rfl rfl ?_; go_big_quiet_step (fail); refine wpQuiet_nil ?_)
  refine Kr.wpR_call _ rfl rfl rfl ?_ ?_
  · intro W hW hk
    obtain ⟨W2, s2, B2⟩ := hk 34 _ (.inl ⟨rfl, rfl⟩) (by decide)
    obtain ⟨W1, s1, B1⟩ := hk 32 _ (.inr (.inl ⟨rfl, rfl⟩)) (by decide)
    clear hk
    go_simp
    refine Kr.upMany_enter ((CSP.out _ _ W W1 W2 s1 B1 s2 B2).mono ?_)
    rintro e w' ⟨rfl, hbb⟩
    exact ⟨_, rfl, rfl, hbb⟩
  rintro v ⟨_, _, _, _, hS, _⟩
  obtain rfl := hS
  go_frame
  repeat (refine Kr.wpR_one rfl rfl ?_; go_big_quiet_step (fail); refine wpQuiet_nil ?_)
  refine Kr.wpR_call _ rfl rfl rfl ?_ ?_
  · intro W hW hk
    go_simp
    refine Kr.upMany_enter ((CW1.out W (Kr.later_iff.1 hW)).mono ?_)
    rintro e w' ⟨v, rfl, hsp, hbb⟩
    exact ⟨_, rfl, hsp, hbb⟩
  rintro v ⟨_, _, _, _, hS, _⟩
  obtain ⟨_, _, rfl, _⟩ := hS
  go_frame
  repeat (refine Kr.wpR_one rfl rfl ?_; go_big_quiet_step (fail); refine wpQuiet_nil ?_)
  refine Kr.wpR_call _ rfl rfl rfl ?_ ?_
  · intro W hW hk
    go_simp
    refine Kr.upMany_enter ((CW2.out W (Kr.later_iff.1 hW)).mono ?_)
    rintro e w' ⟨v, rfl, hsp, hbb⟩
    exact ⟨_, rfl, hsp, hbb⟩
  rintro v ⟨_, _, _, _, hS, _⟩
  obtain ⟨_, _, rfl, _⟩ := hS
  go_frame
  repeat (refine Kr.wpR_one rfl rfl ?_; go_big_quiet_step (fail); refine wpQuiet_nil ?_)
  refine Kr.wpR_call _ rfl rfl rfl ?_ ?_
  · intro W hW hk
    obtain ⟨W2, s2, B2⟩ := hk 44 _ (.inl ⟨rfl, rfl⟩) (by decide)
    obtain ⟨W1, s1, B1⟩ := hk 41 _ (.inr (.inl ⟨rfl, rfl⟩)) (by decide)
    clear hk
    go_simp
    refine Kr.upMany_enter ((CSW.out _ _ W W1 W2 s1 B1 s2 B2).mono ?_)
    rintro e w' ⟨rfl, hbb⟩
    exact ⟨_, rfl, rfl, hbb⟩
  rintro v ⟨_, _, _, _, hS, _⟩
  obtain rfl := hS
  go_frame
  repeat (refine Kr.wpR_one rfl rfl ?_; go_big_quiet_step (fail); refine wpQuiet_nil ?_)
  refine Kr.wpR_call _ rfl rfl rfl ?_ ?_
  · intro W hW hk
    go_simp
    refine Kr.upMany_enter ((CT1.out W (Kr.later_iff.1 hW)).mono ?_)
    rintro e w' ⟨rfl, hbb⟩
    exact ⟨_, rfl, rfl, hbb⟩
  rintro v ⟨_, _, _, _, hS, _⟩
  obtain rfl := hS
  go_frame
  repeat (refine Kr.wpR_one rfl rfl ?_; go_big_quiet_step (fail); refine wpQuiet_nil ?_)
  refine Kr.wpR_call _ rfl rfl rfl ?_ ?_
  · intro W hW hk
    go_simp
    refine Kr.upMany_enter ((CT2.out W (Kr.later_iff.1 hW)).mono ?_)
    rintro e w' ⟨rfl, hbb⟩
    exact ⟨_, rfl, rfl, hbb⟩
  rintro v ⟨_, _, _, _, hS, _⟩
  obtain rfl := hS
  go_frame
  repeat (refine Kr.wpR_one rfl rfl ?_; go_big_quiet_step (fail); refine wpQuiet_nil ?_)
  refine Kr.wpR_nil ?_
  intro w7 hb7 _
  have HA7 := Lib.hid (HA.out.next hb7)
  clear hb7 HA CP1 CP2 CW1 CW2 CT1 CT2 CSP CSW rb0 rb1 rb2 rb3 rb4 ry0 ry1 ry2 ry3 ry4
  go_wp2_with fail
  go_loopw [10] (fun i wr => ∃ j : Nat, j ≤ cntT t ∧ i = .int .i64 (j : Int) ∧ Below w7.heap.size w7 wr) (fun i _ => cntT t - (intOf i).toNat)
  case atStart => exact ⟨0, Nat.zero_le _, rfl, Below.refl _ _⟩
  case round =>
    obtain ⟨j, hj, rfl, hbw⟩ := hrel
    have HR := Lib.hid (HA7.out.next hbw)
    have HBW := Lib.hid hbw
    clear hbw
    rcases Nat.lt_or_ge j (cntT t) with hl | hl
    · obtain ⟨x, hx⟩ : ∃ x, (allP t)[j]? = some x := ⟨_, List.getElem?_eq_getElem (by rw [allP_length]; omega)⟩
      have hjl : (j : Int) < (cntT t : Int) := by omega
      obtain ⟨av, ⟨A1, ac1, rfl, hat1⟩, _, c0, c1, c2, c3, c4, c5, c6, c7, c8, c9⟩ := HR.out.row.at_ j x hx
      obtain ⟨gr2, cap2, A2, ac2, z0, z1, z2, z3, z4, hv2, hgl, _, d0, d1, d2, d3, d4, d5, d6, d7, d8, d9, _, _, _, _, _, hat2, htx⟩ := HR.out.rrow.at_ hx
      injection hv2 with hv2 hle hc2; clear hle hc2
      injection hv2 with hv2
      injection hv2 with hv2 _ _
      subst hv2
      have HSA : Hid (∀ W, Below wr.heap.size wr W → Calls Try.prog 21 #[.agg #[.int .i64 x.t.kind, .string x.t.name, .string x.t.text, .slice A1 x.t.attrs.length ac1, .slice none 0 0], .agg #[.int .i64 x.t.kind, .string x.t.name, .string x.t.text, .slice A2 x.t.attrs.length ac2, .slice none 0 0]] W fun e w' => e = .returned (.bool true) ∧ Below W.heap.size W w') := Lib.hid fun W hW => ((same_calls (bareT x.t) (bareT x.t) _ _ _ _ _ _ _ _ _ _ W ((bare_is htx hat1).keep (fun p hp => hW.cell hp) hW.size) ((bare_is htx (attrs_is hat2 fun b hb => hb.2.1)).keep (fun p hp => hW.cell hp) hW.size)).mono fun e w' ⟨s', h1, h2, h3⟩ => ⟨by rw [h1, h3.2 rfl], h2⟩)
      clear hx hat1 hat2 htx
      generalize x.t.kind = xk at *
      generalize x.t.name = xn at *
      generalize x.t.text = xt at *
      generalize x.t.attrs.length = xl at *
      generalize x.par = xp at *
      generalize x.dep = xd at *
      generalize x.pl = xpl at *
      generalize ((finOf (allP t) j).1 : Nat) = xs at *
      generalize ((finOf (allP t) j).2 : Nat) = xh at *
      have rc0 := cell_regrown c0
      have rc1 := cell_regrown c1
      have rc2 := cell_regrown c2
      have rc3 := cell_regrown c3
      have rc4 := cell_regrown c4
      have rc5 := cell_regrown c5
      have rc6 := cell_regrown c6
      have rc7 := cell_regrown c7
      have rc8 := cell_regrown c8
      have rc9 := cell_regrown c9
      have rd0 := cell_regrown d0
      have rd1 := cell_regrown d1
      have rd2 := cell_regrown d2
      have rd3 := cell_regrown d3
      have rd4 := cell_regrown d4
      have rd5 := cell_regrown d5
      have rd6 := cell_regrown d6
      have rd7 := cell_regrown d7
      have rd8 := cell_regrown d8
      have rd9 := cell_regrown d9
      clear c0 c1 c2 c3 c4 c5 c6 c7 c8 c9 d0 d1 d2 d3 d4 d5 d6 d7 d8 d9
      go_wp2_with fail
      refine Kr.wp_region_R [(74, fun v _ => v = .bool true)] mixed2 (by kernel_rfl) ?_
      repeat (refine Kr.wpR_one rfl rfl ?_; go_big_quiet_step (fail); refine wpQuiet_nil ?_)
      refine Kr.wpR_call _ rfl rfl rfl ?_ ?_
      · intro W hW hk
        go_simp
        refine Kr.upMany_enter ((HSA.out W (Kr.later_iff.1 hW)).mono ?_)
        rintro e w' ⟨rfl, hbb⟩
        exact ⟨_, rfl, rfl, hbb⟩
      rintro v ⟨_, _, _, _, hS, _⟩
      obtain rfl := hS
      go_frame
      repeat (refine Kr.wpR_one rfl rfl ?_; go_big_quiet_step (fail); refine wpQuiet_nil ?_)
      refine Kr.wpR_nil ?_
      intro w8 hb8 _
      have HB8 : Hid (Below w7.heap.size w7 w8) := Lib.hid (HBW.out.trans (hb8.mono HBW.out.size))
      clear hb8 HSA rc0 rd0 rc1 rd1 rc2 rd2 rc3 rd3 rc4 rd4 rc5 rd5 rc6 rd6 rc7 rd7 rc8 rd8 rc9 rd9
      go_wp2_with fail
      go_roundw
      case rel => first | exact ⟨j + 1, by omega, by go_num, HB8.out⟩ | ((repeat apply Exists.intro); exact ⟨⟨j + 1, by omega, by go_num, HB8.out⟩, rfl⟩)
      case measure => simp [intOf]; omega
    · obtain rfl : j = cntT t := by omega
      clear HA7 HBW
      obtain ⟨y0, y1, y2, y3, y4⟩ := box5 HR.out.boy
      go_wp2_with fail
      refine (sub_calls t _ _ _ _ _ id wr HR.out.tx (by omega)).mono ?_
      rintro e w9 ⟨s0, s1, s2, s3, s4, rfl, hb9, hs⟩
      have HA9 := Lib.hid (HR.out.next hb9)
      clear y0 y1 y2 y3 y4 HR
      have HWI := Lib.hid (fun (W : World) (hW : IRow g (allP t) (finOf (allP t)) W) => within_calls t g cap id of_ W hW (by omega))
      by_cases his : 0 ≤ id ∧ id < cntT t
      · rw [if_pos his] at hs
        rw [decide_eq_true his]
        obtain ⟨x, hx, hst⟩ := hs
        obtain ⟨sk, sn, ss, sA, sla, sac, sK, skc, rfl, rfl, rfl, rfl, rfl, _, _, _⟩ := tree_shape hst
        have HST : Hid (IsTree w9 w9.heap.size x.t (.int .i64 sk) (.string sn) (.string ss) (.slice sA sla sac) (.slice sK x.t.kids.length skc)) := Lib.hid (hst.keep (fun p hp => rfl) hb9.size)
        have HB10 : Hid (Below w9.heap.size w9 (w9.alloc (.cells #[.int .i64 sk, .string sn, .string ss, .slice sA sla sac, .slice sK x.t.kids.length skc] 25))) := Lib.hid ((Below.refl _ w9).alloc (Nat.le_refl _) _)
        have HS10 := Lib.hid (alloc_new w9 (.cells #[.int .i64 sk, .string sn, .string ss, .slice sA sla sac, .slice sK x.t.kids.length skc] 25))
        have HA10 := Lib.hid (HA9.out.next HB10.out)
        clear hst hb9
        go_upto_region 14 with fail
        generalize w9.alloc (.cells #[.int .i64 sk, .string sn, .string ss, .slice sA sla sac, .slice sK x.t.kids.length skc] 25) = w10 at HB10 HS10 HA10 ⊢
        obtain ⟨i, rfl⟩ : ∃ i : Nat, id = i := ⟨id.toNat, by omega⟩
        rw [Int.toNat_natCast] at hx
        obtain ⟨hi0, hi1⟩ := his
        obtain ⟨gr2, cap2, A2, ac2, z0, z1, z2, z3, z4, hv2, _, _, _, _, _, _, _, _, _, _, _, _, d0, d1, d2, d3, d4, _, htx⟩ := HA10.out.rrow.at_ hx
        injection hv2 with hv2 hle hc2; clear hle hc2
        injection hv2 with hv2
        injection hv2 with hv2 _ _
        subst hv2
        have CS1 : Hid (∀ W, Below w10.heap.size w10 W → Calls Try.prog 21 #[.agg #[.int .i64 sk, .string sn, .string ss, .slice sA sla sac, .slice sK x.t.kids.length skc], .agg #[z0, z1, z2, z3, z4]] W fun e w' => e = .returned (.bool true) ∧ Below W.heap.size W w') := Lib.hid fun W hW => ((same_calls x.t x.t _ _ _ _ _ _ _ _ _ _ W (HST.out.keep (fun p hp => (HB10.out.trans (hW.mono HB10.out.size)).cell hp) (HB10.out.trans (hW.mono HB10.out.size)).size) (htx.keep (fun p hp => (HA10.out.next hW).bel0.cell hp) (HA10.out.next hW).bel0.size)).mono fun e w' ⟨s', h1, h2, h3⟩ => ⟨by rw [h1, h3.2 rfl], h2⟩)
        have CS2 : Hid (∀ W, Below w10.heap.size w10 W → Calls Try.prog 21 #[.agg #[.int .i64 kx, .string nx, .string sx, .slice Ax lx acx, .slice Kx t.kids.length kcx], .agg #[v0, v1, v2, v3, v4]] W fun e w' => e = .returned (.bool true) ∧ Below W.heap.size W w') := Lib.hid fun W hW => ((same_calls t t _ _ _ _ _ _ _ _ _ _ W (HA10.out.next hW).tx (HA10.out.next hW).tr).mono fun e w' ⟨s', h1, h2, h3⟩ => ⟨by rw [h1, h3.2 rfl], h2⟩)
        have hmin : min (i : Int) ((cntT t : Int) - 1) = (i : Int) := by omega
        have hmax : max (i : Int) 0 = (i : Int) := by omega
        have hwr : IntKind.i64.wrap ((cntT t : Int) - 1) = (cntT t : Int) - 1 := IntWalk.i64_in _ (by omega)
        have HWD : Hid (withinB t (i : Int) of_ = decide (0 ≤ (i : Int) ∧ (i : Int) < cntT t ∧ 0 ≤ of_ ∧ of_ ≤ (i : Int) ∧ (i : Int) - of_ < ((finOf (allP t) of_.toNat).1 : Nat))) := Lib.hid rfl
        have HCA : Hid ((of_ < 0 ∨ cntT t ≤ of_ ∧ 0 ≤ of_) ∨ (i : Int) < of_ ∧ 0 ≤ of_ ∧ of_ < cntT t ∨ (0 ≤ of_ ∧ of_ < cntT t ∧ of_ ≤ i)) := Lib.hid (by omega)
        have HXX := Lib.hid hx
        clear hx htx
        obtain ⟨xk, hxk⟩ : ∃ xk, xk = x.t.kids.length := ⟨_, rfl⟩
        rw [← hxk] at HS10 CS1
        clear hxk
        rcases HCA.out with (h1 | ⟨h1, h2⟩) | ⟨h1, h2, h3⟩ | ⟨h1, h2, h3⟩
        · as_aux_lemma =>
          have t1 : decide (0 ≤ of_) = false := decide_eq_false (by omega)
          have HWB : Hid (withinB t (i : Int) of_ = false) := Lib.hid (by rw [HWD.out]; exact decide_eq_false (by omega))
          go_wp2_with fail
          refine (HWI.out w10 HA10.out.row).mono ?_
          rintro e _ ⟨rfl, rfl⟩
          rw [HWB.out]
          obtain ⟨b0, b1, b2, b3, b4⟩ := box5 HA10.out.box
          obtain ⟨y0, y1, y2, y3, y4⟩ := box5 HA10.out.boy
          obtain ⟨g0, g1, g2, g3, g4⟩ := box5 HS10.out
          have rb0 := cell_regrown b0
          have rb1 := cell_regrown b1
          have rb2 := cell_regrown b2
          have rb3 := cell_regrown b3
          have rb4 := cell_regrown b4
          have ry0 := cell_regrown y0
          have ry1 := cell_regrown y1
          have ry2 := cell_regrown y2
          have ry3 := cell_regrown y3
          have ry4 := cell_regrown y4
          have rg0 := cell_regrown g0
          have rg1 := cell_regrown g1
          have rg2 := cell_regrown g2
          have rg3 := cell_regrown g3
          have rg4 := cell_regrown g4
          have rd0 := cell_regrown d0
          have rd1 := cell_regrown d1
          have rd2 := cell_regrown d2
          have rd3 := cell_regrown d3
          have rd4 := cell_regrown d4
          clear b0 b1 b2 b3 b4 y0 y1 y2 y3 y4 g0 g1 g2 g3 g4 d0 d1 d2 d3 d4
          go_wp2_with fail
          refine Kr.wp_region_R [(14, fun v _ => v = .bool true), (19, fun v _ => v = .bool true), (22, fun v _ => v = .bool true)] mixed2 (by kernel_rfl) ?_
          repeat (refine Kr.wpR_one rfl rfl ?_; go_big_quiet_step (fail); refine wpQuiet_nil ?_)
          refine Kr.wpR_call _ rfl rfl rfl ?_ ?_
          · intro W hW hk
            go_simp
            refine Kr.upMany_enter ((CS1.out W (Kr.later_iff.1 hW)).mono ?_)
            rintro e w' ⟨rfl, hbb⟩
            exact ⟨_, rfl, rfl, hbb⟩
          rintro v ⟨_, _, _, _, hS, _⟩
          obtain rfl := hS
          go_frame
          repeat (refine Kr.wpR_one rfl rfl ?_; go_big_quiet_step (fail); refine wpQuiet_nil ?_)
          refine Kr.wpR_call _ rfl rfl rfl ?_ ?_
          · intro W hW hk
            go_simp
            refine Kr.upMany_enter ((CS2.out W (Kr.later_iff.1 hW)).mono ?_)
            rintro e w' ⟨rfl, hbb⟩
            exact ⟨_, rfl, rfl, hbb⟩
          rintro v ⟨_, _, _, _, hS, _⟩
          obtain rfl := hS
          go_frame
          repeat (refine Kr.wpR_one rfl rfl ?_; go_big_quiet_step (fail); refine wpQuiet_nil ?_)
          refine Kr.wpR_call _ rfl rfl rfl ?_ ?_
          · intro W hW hk
            go_simp
            refine Kr.upMany_enter ((awake_calls W).mono ?_)
            rintro e w' ⟨rfl, hbb⟩
            exact ⟨_, rfl, rfl, hbb⟩
          rintro v ⟨_, _, _, _, hS, _⟩
          obtain rfl := hS
          go_frame
          repeat (refine Kr.wpR_one rfl rfl ?_; go_big_quiet_step (fail); refine wpQuiet_nil ?_)
          refine Kr.wpR_nil ?_
          intro wq hbq _
          have HBQ : Hid (Below w.heap.size w wq) := Lib.hid (HA10.out.bel.trans (hbq.mono HA10.out.bel.size))
          clear hbq
          go_wp2_with fail
          go_ret
          exact ⟨rfl, HBQ.out⟩
        · as_aux_lemma =>
          have t1 : decide (of_ < (cntT t : Int)) = false := decide_eq_false (by omega)
          have HWB : Hid (withinB t (i : Int) of_ = false) := Lib.hid (by rw [HWD.out]; exact decide_eq_false (by omega))
          go_wp2_with fail
          refine (HWI.out w10 HA10.out.row).mono ?_
          rintro e _ ⟨rfl, rfl⟩
          rw [HWB.out]
          obtain ⟨b0, b1, b2, b3, b4⟩ := box5 HA10.out.box
          obtain ⟨y0, y1, y2, y3, y4⟩ := box5 HA10.out.boy
          obtain ⟨g0, g1, g2, g3, g4⟩ := box5 HS10.out
          have rb0 := cell_regrown b0
          have rb1 := cell_regrown b1
          have rb2 := cell_regrown b2
          have rb3 := cell_regrown b3
          have rb4 := cell_regrown b4
          have ry0 := cell_regrown y0
          have ry1 := cell_regrown y1
          have ry2 := cell_regrown y2
          have ry3 := cell_regrown y3
          have ry4 := cell_regrown y4
          have rg0 := cell_regrown g0
          have rg1 := cell_regrown g1
          have rg2 := cell_regrown g2
          have rg3 := cell_regrown g3
          have rg4 := cell_regrown g4
          have rd0 := cell_regrown d0
          have rd1 := cell_regrown d1
          have rd2 := cell_regrown d2
          have rd3 := cell_regrown d3
          have rd4 := cell_regrown d4
          clear b0 b1 b2 b3 b4 y0 y1 y2 y3 y4 g0 g1 g2 g3 g4 d0 d1 d2 d3 d4
          go_wp2_with fail
          refine Kr.wp_region_R [(14, fun v _ => v = .bool true), (19, fun v _ => v = .bool true), (22, fun v _ => v = .bool true)] mixed2 (by kernel_rfl) ?_
          repeat (refine Kr.wpR_one rfl rfl ?_; go_big_quiet_step (fail); refine wpQuiet_nil ?_)
          refine Kr.wpR_call _ rfl rfl rfl ?_ ?_
          · intro W hW hk
            go_simp
            refine Kr.upMany_enter ((CS1.out W (Kr.later_iff.1 hW)).mono ?_)
            rintro e w' ⟨rfl, hbb⟩
            exact ⟨_, rfl, rfl, hbb⟩
          rintro v ⟨_, _, _, _, hS, _⟩
          obtain rfl := hS
          go_frame
          repeat (refine Kr.wpR_one rfl rfl ?_; go_big_quiet_step (fail); refine wpQuiet_nil ?_)
          refine Kr.wpR_call _ rfl rfl rfl ?_ ?_
          · intro W hW hk
            go_simp
            refine Kr.upMany_enter ((CS2.out W (Kr.later_iff.1 hW)).mono ?_)
            rintro e w' ⟨rfl, hbb⟩
            exact ⟨_, rfl, rfl, hbb⟩
          rintro v ⟨_, _, _, _, hS, _⟩
          obtain rfl := hS
          go_frame
          repeat (refine Kr.wpR_one rfl rfl ?_; go_big_quiet_step (fail); refine wpQuiet_nil ?_)
          refine Kr.wpR_call _ rfl rfl rfl ?_ ?_
          · intro W hW hk
            go_simp
            refine Kr.upMany_enter ((awake_calls W).mono ?_)
            rintro e w' ⟨rfl, hbb⟩
            exact ⟨_, rfl, rfl, hbb⟩
          rintro v ⟨_, _, _, _, hS, _⟩
          obtain rfl := hS
          go_frame
          repeat (refine Kr.wpR_one rfl rfl ?_; go_big_quiet_step (fail); refine wpQuiet_nil ?_)
          refine Kr.wpR_nil ?_
          intro wq hbq _
          have HBQ : Hid (Below w.heap.size w wq) := Lib.hid (HA10.out.bel.trans (hbq.mono HA10.out.bel.size))
          clear hbq
          go_wp2_with fail
          go_ret
          exact ⟨rfl, HBQ.out⟩
        · as_aux_lemma =>
          have t1 : decide (of_ ≤ (i : Int)) = false := decide_eq_false (by omega)
          have HWB : Hid (withinB t (i : Int) of_ = false) := Lib.hid (by rw [HWD.out]; exact decide_eq_false (by omega))
          go_wp2_with fail
          refine (HWI.out w10 HA10.out.row).mono ?_
          rintro e _ ⟨rfl, rfl⟩
          rw [HWB.out]
          obtain ⟨b0, b1, b2, b3, b4⟩ := box5 HA10.out.box
          obtain ⟨y0, y1, y2, y3, y4⟩ := box5 HA10.out.boy
          obtain ⟨g0, g1, g2, g3, g4⟩ := box5 HS10.out
          have rb0 := cell_regrown b0
          have rb1 := cell_regrown b1
          have rb2 := cell_regrown b2
          have rb3 := cell_regrown b3
          have rb4 := cell_regrown b4
          have ry0 := cell_regrown y0
          have ry1 := cell_regrown y1
          have ry2 := cell_regrown y2
          have ry3 := cell_regrown y3
          have ry4 := cell_regrown y4
          have rg0 := cell_regrown g0
          have rg1 := cell_regrown g1
          have rg2 := cell_regrown g2
          have rg3 := cell_regrown g3
          have rg4 := cell_regrown g4
          have rd0 := cell_regrown d0
          have rd1 := cell_regrown d1
          have rd2 := cell_regrown d2
          have rd3 := cell_regrown d3
          have rd4 := cell_regrown d4
          clear b0 b1 b2 b3 b4 y0 y1 y2 y3 y4 g0 g1 g2 g3 g4 d0 d1 d2 d3 d4
          go_wp2_with fail
          refine Kr.wp_region_R [(14, fun v _ => v = .bool true), (19, fun v _ => v = .bool true), (22, fun v _ => v = .bool true)] mixed2 (by kernel_rfl) ?_
          repeat (refine Kr.wpR_one rfl rfl ?_; go_big_quiet_step (fail); refine wpQuiet_nil ?_)
          refine Kr.wpR_call _ rfl rfl rfl ?_ ?_
          · intro W hW hk
            go_simp
            refine Kr.upMany_enter ((CS1.out W (Kr.later_iff.1 hW)).mono ?_)
            rintro e w' ⟨rfl, hbb⟩
            exact ⟨_, rfl, rfl, hbb⟩
          rintro v ⟨_, _, _, _, hS, _⟩
          obtain rfl := hS
          go_frame
          repeat (refine Kr.wpR_one rfl rfl ?_; go_big_quiet_step (fail); refine wpQuiet_nil ?_)
          refine Kr.wpR_call _ rfl rfl rfl ?_ ?_
          · intro W hW hk
            go_simp
            refine Kr.upMany_enter ((CS2.out W (Kr.later_iff.1 hW)).mono ?_)
            rintro e w' ⟨rfl, hbb⟩
            exact ⟨_, rfl, rfl, hbb⟩
          rintro v ⟨_, _, _, _, hS, _⟩
          obtain rfl := hS
          go_frame
          repeat (refine Kr.wpR_one rfl rfl ?_; go_big_quiet_step (fail); refine wpQuiet_nil ?_)
          refine Kr.wpR_call _ rfl rfl rfl ?_ ?_
          · intro W hW hk
            go_simp
            refine Kr.upMany_enter ((awake_calls W).mono ?_)
            rintro e w' ⟨rfl, hbb⟩
            exact ⟨_, rfl, rfl, hbb⟩
          rintro v ⟨_, _, _, _, hS, _⟩
          obtain rfl := hS
          go_frame
          repeat (refine Kr.wpR_one rfl rfl ?_; go_big_quiet_step (fail); refine wpQuiet_nil ?_)
          refine Kr.wpR_nil ?_
          intro wq hbq _
          have HBQ : Hid (Below w.heap.size w wq) := Lib.hid (HA10.out.bel.trans (hbq.mono HA10.out.bel.size))
          clear hbq
          go_wp2_with fail
          go_ret
          exact ⟨rfl, HBQ.out⟩
        · obtain ⟨o, rfl⟩ : ∃ o : Nat, of_ = o := ⟨of_.toNat, by omega⟩
          have ho : o < cntT t := by omega
          obtain ⟨y, hy⟩ : ∃ y, (allP t)[o]? = some y := ⟨_, List.getElem?_eq_getElem (by rw [allP_length]; omega)⟩
          obtain ⟨gr3, cap3, A3, ac3, _, _, _, _, _, hv3, _, _, _, q1, _, _, _, _, _, _, _, _, _, _, _, _, _, _, _⟩ := HA10.out.rrow.at_ hy
          injection hv3 with hv3 hle3 hc3; clear hle3 hc3
          injection hv3 with hv3
          injection hv3 with hv3 _ _
          subst hv3
          have hfin : (finOf (allP t) o).1 = cntT y.t := by unfold finOf; rw [hy]
          have hcy : cntT y.t ≤ cntT t := preT_cnt 0 (-1) 0 0 t y (List.mem_of_getElem? hy)
          rw [hfin] at q1
          rw [Int.toNat_natCast, hfin] at HWD
          clear hfin hy
          generalize cntT y.t = sz at *
          have hmin2 : min (o : Int) ((cntT t : Int) - 1) = (o : Int) := by omega
          have hmax2 : max (o : Int) 0 = (o : Int) := by omega
          have hwr2 : IntKind.i64.wrap ((o : Int) + (sz : Int)) = (o : Int) + (sz : Int) := IntWalk.i64_in _ (by omega)
          by_cases h4 : (i : Int) < (o : Int) + (sz : Int)
          · as_aux_lemma =>
            have HWB : Hid (withinB t (i : Int) (o : Int) = true) := Lib.hid (by rw [HWD.out]; exact decide_eq_true (by omega))
            go_wp2_with fail
            refine (HWI.out w10 HA10.out.row).mono ?_
            rintro e _ ⟨rfl, rfl⟩
            rw [HWB.out]
            obtain ⟨b0, b1, b2, b3, b4⟩ := box5 HA10.out.box
            obtain ⟨y0, y1, y2, y3, y4⟩ := box5 HA10.out.boy
            obtain ⟨g0, g1, g2, g3, g4⟩ := box5 HS10.out
            have rb0 := cell_regrown b0
            have rb1 := cell_regrown b1
            have rb2 := cell_regrown b2
            have rb3 := cell_regrown b3
            have rb4 := cell_regrown b4
            have ry0 := cell_regrown y0
            have ry1 := cell_regrown y1
            have ry2 := cell_regrown y2
            have ry3 := cell_regrown y3
            have ry4 := cell_regrown y4
            have rg0 := cell_regrown g0
            have rg1 := cell_regrown g1
            have rg2 := cell_regrown g2
            have rg3 := cell_regrown g3
            have rg4 := cell_regrown g4
            have rd0 := cell_regrown d0
            have rd1 := cell_regrown d1
            have rd2 := cell_regrown d2
            have rd3 := cell_regrown d3
            have rd4 := cell_regrown d4
            clear b0 b1 b2 b3 b4 y0 y1 y2 y3 y4 g0 g1 g2 g3 g4 d0 d1 d2 d3 d4
            go_wp2_with fail
            refine Kr.wp_region_R [(14, fun v _ => v = .bool true), (19, fun v _ => v = .bool true), (22, fun v _ => v = .bool true)] mixed2 (by kernel_rfl) ?_
            repeat (refine Kr.wpR_one rfl rfl ?_; go_big_quiet_step (fail); refine wpQuiet_nil ?_)
            refine Kr.wpR_call _ rfl rfl rfl ?_ ?_
            · intro W hW hk
              go_simp
              refine Kr.upMany_enter ((CS1.out W (Kr.later_iff.1 hW)).mono ?_)
              rintro e w' ⟨rfl, hbb⟩
              exact ⟨_, rfl, rfl, hbb⟩
            rintro v ⟨_, _, _, _, hS, _⟩
            obtain rfl := hS
            go_frame
            repeat (refine Kr.wpR_one rfl rfl ?_; go_big_quiet_step (fail); refine wpQuiet_nil ?_)
            refine Kr.wpR_call _ rfl rfl rfl ?_ ?_
            · intro W hW hk
              go_simp
              refine Kr.upMany_enter ((CS2.out W (Kr.later_iff.1 hW)).mono ?_)
              rintro e w' ⟨rfl, hbb⟩
              exact ⟨_, rfl, rfl, hbb⟩
            rintro v ⟨_, _, _, _, hS, _⟩
            obtain rfl := hS
            go_frame
            repeat (refine Kr.wpR_one rfl rfl ?_; go_big_quiet_step (fail); refine wpQuiet_nil ?_)
            refine Kr.wpR_call _ rfl rfl rfl ?_ ?_
            · intro W hW hk
              go_simp
              refine Kr.upMany_enter ((awake_calls W).mono ?_)
              rintro e w' ⟨rfl, hbb⟩
              exact ⟨_, rfl, rfl, hbb⟩
            rintro v ⟨_, _, _, _, hS, _⟩
            obtain rfl := hS
            go_frame
            repeat (refine Kr.wpR_one rfl rfl ?_; go_big_quiet_step (fail); refine wpQuiet_nil ?_)
            refine Kr.wpR_nil ?_
            intro wq hbq _
            have HBQ : Hid (Below w.heap.size w wq) := Lib.hid (HA10.out.bel.trans (hbq.mono HA10.out.bel.size))
            clear hbq
            go_wp2_with fail
            go_ret
            exact ⟨rfl, HBQ.out⟩
          · as_aux_lemma =>
            have t1 : decide ((i : Int) < (o : Int) + (sz : Int)) = false := decide_eq_false h4
            have HWB : Hid (withinB t (i : Int) (o : Int) = false) := Lib.hid (by rw [HWD.out]; exact decide_eq_false (by omega))
            go_wp2_with fail
            refine (HWI.out w10 HA10.out.row).mono ?_
            rintro e _ ⟨rfl, rfl⟩
            rw [HWB.out]
            obtain ⟨b0, b1, b2, b3, b4⟩ := box5 HA10.out.box
            obtain ⟨y0, y1, y2, y3, y4⟩ := box5 HA10.out.boy
            obtain ⟨g0, g1, g2, g3, g4⟩ := box5 HS10.out
            have rb0 := cell_regrown b0
            have rb1 := cell_regrown b1
            have rb2 := cell_regrown b2
            have rb3 := cell_regrown b3
            have rb4 := cell_regrown b4
            have ry0 := cell_regrown y0
            have ry1 := cell_regrown y1
            have ry2 := cell_regrown y2
            have ry3 := cell_regrown y3
            have ry4 := cell_regrown y4
            have rg0 := cell_regrown g0
            have rg1 := cell_regrown g1
            have rg2 := cell_regrown g2
            have rg3 := cell_regrown g3
            have rg4 := cell_regrown g4
            have rd0 := cell_regrown d0
            have rd1 := cell_regrown d1
            have rd2 := cell_regrown d2
            have rd3 := cell_regrown d3
            have rd4 := cell_regrown d4
            clear b0 b1 b2 b3 b4 y0 y1 y2 y3 y4 g0 g1 g2 g3 g4 d0 d1 d2 d3 d4
            go_wp2_with fail
            refine Kr.wp_region_R [(14, fun v _ => v = .bool true), (19, fun v _ => v = .bool true), (22, fun v _ => v = .bool true)] mixed2 (by kernel_rfl) ?_
            repeat (refine Kr.wpR_one rfl rfl ?_; go_big_quiet_step (fail); refine wpQuiet_nil ?_)
            refine Kr.wpR_call _ rfl rfl rfl ?_ ?_
            · intro W hW hk
              go_simp
              refine Kr.upMany_enter ((CS1.out W (Kr.later_iff.1 hW)).mono ?_)
              rintro e w' ⟨rfl, hbb⟩
              exact ⟨_, rfl, rfl, hbb⟩
            rintro v ⟨_, _, _, _, hS, _⟩
            obtain rfl := hS
            go_frame
            repeat (refine Kr.wpR_one rfl rfl ?_; go_big_quiet_step (fail); refine wpQuiet_nil ?_)
            refine Kr.wpR_call _ rfl rfl rfl ?_ ?_
            · intro W hW hk
              go_simp
              refine Kr.upMany_enter ((CS2.out W (Kr.later_iff.1 hW)).mono ?_)
              rintro e w' ⟨rfl, hbb⟩
              exact ⟨_, rfl, rfl, hbb⟩
            rintro v ⟨_, _, _, _, hS, _⟩
            obtain rfl := hS
            go_frame
            repeat (refine Kr.wpR_one rfl rfl ?_; go_big_quiet_step (fail); refine wpQuiet_nil ?_)
            refine Kr.wpR_call _ rfl rfl rfl ?_ ?_
            · intro W hW hk
              go_simp
              refine Kr.upMany_enter ((awake_calls W).mono ?_)
              rintro e w' ⟨rfl, hbb⟩
              exact ⟨_, rfl, rfl, hbb⟩
            rintro v ⟨_, _, _, _, hS, _⟩
            obtain rfl := hS
            go_frame
            repeat (refine Kr.wpR_one rfl rfl ?_; go_big_quiet_step (fail); refine wpQuiet_nil ?_)
            refine Kr.wpR_nil ?_
            intro wq hbq _
            have HBQ : Hid (Below w.heap.size w wq) := Lib.hid (HA10.out.bel.trans (hbq.mono HA10.out.bel.size))
            clear hbq
            go_wp2_with fail
            go_ret
            exact ⟨rfl, HBQ.out⟩
      · rw [if_neg his] at hs
        rw [decide_eq_false his]
        obtain ⟨rfl, rfl, rfl, rfl, rfl⟩ := hs
        have HB10 : Hid (Below w9.heap.size w9 (w9.alloc (.cells #[.int .i64 0, .string ⟨#[]⟩, .string ⟨#[]⟩, .slice none 0 0, .slice none 0 0] 25))) := Lib.hid ((Below.refl _ w9).alloc (Nat.le_refl _) _)
        have HS10 := Lib.hid (alloc_new w9 (.cells #[.int .i64 0, .string ⟨#[]⟩, .string ⟨#[]⟩, .slice none 0 0, .slice none 0 0] 25))
        have HA10 := Lib.hid (HA9.out.next HB10.out)
        clear hb9
        go_upto_region 14 with fail
        generalize w9.alloc (.cells #[.int .i64 0, .string ⟨#[]⟩, .string ⟨#[]⟩, .slice none 0 0, .slice none 0 0] 25) = w10 at HB10 HS10 HA10 ⊢
        have CS2 : Hid (∀ W, Below w10.heap.size w10 W → Calls Try.prog 21 #[.agg #[.int .i64 kx, .string nx, .string sx, .slice Ax lx acx, .slice Kx t.kids.length kcx], .agg #[v0, v1, v2, v3, v4]] W fun e w' => e = .returned (.bool true) ∧ Below W.heap.size W w') := Lib.hid fun W hW => ((same_calls t t _ _ _ _ _ _ _ _ _ _ W (HA10.out.next hW).tx (HA10.out.next hW).tr).mono fun e w' ⟨s', h1, h2, h3⟩ => ⟨by rw [h1, h3.2 rfl], h2⟩)
        have CS3 : Hid (Calls Try.prog 21 #[.agg #[.int .i64 0, .string ⟨#[]⟩, .string ⟨#[]⟩, .slice none 0 0, .slice none 0 0], .agg #[.int .i64 0, .string ⟨#[]⟩, .string ⟨#[]⟩, .slice none 0 0, .slice none 0 0]] w10 fun e w' => e = .returned (.bool true) ∧ Below w10.heap.size w10 w') := Lib.hid ((same_calls noneT noneT _ _ _ _ _ _ _ _ _ _ w10 none_is none_is).mono fun e w' ⟨s', h1, h2, h3⟩ => ⟨by rw [h1, h3.2 rfl], h2⟩)
        have HWB : Hid (withinB t id of_ = false) := Lib.hid (decide_eq_false (by omega))
        have HCA : Hid (id < 0 ∨ 0 ≤ id ∧ cntT t ≤ id) := Lib.hid (by omega)
        clear his
        rcases HCA.out with h1 | ⟨h1, h2⟩
        · as_aux_lemma =>
          have t1 : decide (0 ≤ id) = false := decide_eq_false (by omega)
          obtain ⟨g0, g1, g2, g3, g4⟩ := box5 HS10.out
          go_wp2_with fail
          refine (HWI.out w10 HA10.out.row).mono ?_
          rintro e _ ⟨rfl, rfl⟩
          rw [HWB.out]
          go_wp2_with fail
          refine CS3.out.mono ?_
          rintro e w11 ⟨rfl, hb11⟩
          have HA11 := Lib.hid (HA10.out.next hb11)
          have CS4 : Hid (∀ W, Below w11.heap.size w11 W → _) := Lib.hid fun W hW => CS2.out W (hb11.trans (hW.mono hb11.size))
          clear hb11 g0 g1 g2 g3 g4
          obtain ⟨b0, b1, b2, b3, b4⟩ := box5 HA11.out.box
          obtain ⟨y0, y1, y2, y3, y4⟩ := box5 HA11.out.boy
          have rb0 := cell_regrown b0
          have rb1 := cell_regrown b1
          have rb2 := cell_regrown b2
          have rb3 := cell_regrown b3
          have rb4 := cell_regrown b4
          have ry0 := cell_regrown y0
          have ry1 := cell_regrown y1
          have ry2 := cell_regrown y2
          have ry3 := cell_regrown y3
          have ry4 := cell_regrown y4
          clear b0 b1 b2 b3 b4 y0 y1 y2 y3 y4
          go_wp2_with fail
          refine Kr.wp_region_R [(19, fun v _ => v = .bool true), (22, fun v _ => v = .bool true)] mixed2 (by kernel_rfl) ?_
          repeat (first | (refine Kr.wpR_one rfl rfl ?_; go_big_quiet_step (fail); refine wpQuiet_nil ?_) | (refine Kr.wpR_pass rfl ?_; go_big_quiet_step (fail); refine wpQuiet_nil ?_))
          repeat (refine Kr.wpR_one rfl rfl ?_; go_big_quiet_step (fail); refine wpQuiet_nil ?_)
          refine Kr.wpR_call _ rfl rfl rfl ?_ ?_
          · intro W hW hk
            go_simp
            refine Kr.upMany_enter ((CS4.out W (Kr.later_iff.1 hW)).mono ?_)
            rintro e w' ⟨rfl, hbb⟩
            exact ⟨_, rfl, rfl, hbb⟩
          rintro v ⟨_, _, _, _, hS, _⟩
          obtain rfl := hS
          go_frame
          repeat (refine Kr.wpR_one rfl rfl ?_; go_big_quiet_step (fail); refine wpQuiet_nil ?_)
          refine Kr.wpR_call _ rfl rfl rfl ?_ ?_
          · intro W hW hk
            go_simp
            refine Kr.upMany_enter ((awake_calls W).mono ?_)
            rintro e w' ⟨rfl, hbb⟩
            exact ⟨_, rfl, rfl, hbb⟩
          rintro v ⟨_, _, _, _, hS, _⟩
          obtain rfl := hS
          go_frame
          repeat (refine Kr.wpR_one rfl rfl ?_; go_big_quiet_step (fail); refine wpQuiet_nil ?_)
          refine Kr.wpR_nil ?_
          intro wq hbq _
          have HBQ : Hid (Below w.heap.size w wq) := Lib.hid (HA11.out.bel.trans (hbq.mono HA11.out.bel.size))
          clear hbq
          go_wp2_with fail
          go_ret
          exact ⟨rfl, HBQ.out⟩
        · as_aux_lemma =>
          have t1 : decide (id < (cntT t : Int)) = false := decide_eq_false (by omega)
          obtain ⟨g0, g1, g2, g3, g4⟩ := box5 HS10.out
          go_wp2_with fail
          refine (HWI.out w10 HA10.out.row).mono ?_
          rintro e _ ⟨rfl, rfl⟩
          rw [HWB.out]
          go_wp2_with fail
          refine CS3.out.mono ?_
          rintro e w11 ⟨rfl, hb11⟩
          have HA11 := Lib.hid (HA10.out.next hb11)
          have CS4 : Hid (∀ W, Below w11.heap.size w11 W → _) := Lib.hid fun W hW => CS2.out W (hb11.trans (hW.mono hb11.size))
          clear hb11 g0 g1 g2 g3 g4
          obtain ⟨b0, b1, b2, b3, b4⟩ := box5 HA11.out.box
          obtain ⟨y0, y1, y2, y3, y4⟩ := box5 HA11.out.boy
          have rb0 := cell_regrown b0
          have rb1 := cell_regrown b1
          have rb2 := cell_regrown b2
          have rb3 := cell_regrown b3
          have rb4 := cell_regrown b4
          have ry0 := cell_regrown y0
          have ry1 := cell_regrown y1
          have ry2 := cell_regrown y2
          have ry3 := cell_regrown y3
          have ry4 := cell_regrown y4
          clear b0 b1 b2 b3 b4 y0 y1 y2 y3 y4
          go_wp2_with fail
          refine Kr.wp_region_R [(19, fun v _ => v = .bool true), (22, fun v _ => v = .bool true)] mixed2 (by kernel_rfl) ?_
          repeat (first | (refine Kr.wpR_one rfl rfl ?_; go_big_quiet_step (fail); refine wpQuiet_nil ?_) | (refine Kr.wpR_pass rfl ?_; go_big_quiet_step (fail); refine wpQuiet_nil ?_))
          repeat (refine Kr.wpR_one rfl rfl ?_; go_big_quiet_step (fail); refine wpQuiet_nil ?_)
          refine Kr.wpR_call _ rfl rfl rfl ?_ ?_
          · intro W hW hk
            go_simp
            refine Kr.upMany_enter ((CS4.out W (Kr.later_iff.1 hW)).mono ?_)
            rintro e w' ⟨rfl, hbb⟩
            exact ⟨_, rfl, rfl, hbb⟩
          rintro v ⟨_, _, _, _, hS, _⟩
          obtain rfl := hS
          go_frame
          repeat (refine Kr.wpR_one rfl rfl ?_; go_big_quiet_step (fail); refine wpQuiet_nil ?_)
          refine Kr.wpR_call _ rfl rfl rfl ?_ ?_
          · intro W hW hk
            go_simp
            refine Kr.upMany_enter ((awake_calls W).mono ?_)
            rintro e w' ⟨rfl, hbb⟩
            exact ⟨_, rfl, rfl, hbb⟩
          rintro v ⟨_, _, _, _, hS, _⟩
          obtain rfl := hS
          go_frame
          repeat (refine Kr.wpR_one rfl rfl ?_; go_big_quiet_step (fail); refine wpQuiet_nil ?_)
          refine Kr.wpR_nil ?_
          intro wq hbq _
          have HBQ : Hid (Below w.heap.size w wq) := Lib.hid (HA11.out.bel.trans (hbq.mono HA11.out.bel.size))
          clear hbq
          go_wp2_with fail
          go_ret
          exact ⟨rfl, HBQ.out⟩
end Go.Proofs.Ytcacgbdnegmfnaa.Wk
