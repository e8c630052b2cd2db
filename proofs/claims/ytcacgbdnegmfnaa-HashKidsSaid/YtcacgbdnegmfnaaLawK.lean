/- The law of kids' hashes. -/
import Derived.Test.YtcacgbdnegmfnaaSize
namespace Go.Proofs.Ytcacgbdnegmfnaa.Wk
open Go Go.RowKit Go.Proofs.Ytcacgbdnegmfnaa.Pl Go.Proofs.Ytcacgbdnegmfnaa.Tr Go.Proofs.Ytcacgbdnegmfnaa.Ha
set_option linter.unusedVariables false
set_option maxHeartbeats 4000000 in
set_option maxRecDepth 100000 in
theorem hashKids (t : Nd) (v0 v1 v2 v3 v4 : Value) (w : World) (h : IsTree w w.heap.size t v0 v1 v2 v3 v4) :
    Calls Try.prog 8 #[.agg #[v0, v1, v2, v3, v4]] w fun e w' => e = .returned (.bool true) ∧ Below w.heap.size w w' := by
  have H := Lib.hid h
  have FL : Hid (∀ W', Below w.heap.size w W' → IsTree W' W'.heap.size t v0 v1 v2 v3 v4) := Lib.hid fun W' hb => h.keep (fun p hp => hb.cell hp) hb.size
  match t with
  | .mk k n s al ks =>
  unfold IsTree at h
  obtain ⟨rfl, rfl, rfl, wk, bn, bs, A, ac, K, kc, rfl, rfl, hat, p1, p2, hkk⟩ := h
  have HK := Lib.hid hkk
  clear hkk hat
  have HBX := Lib.hid (alloc_new w (.cells #[.int .i64 k, .string n, .string s, .slice A al.length ac, .slice K ks.length kc] 25))
  have HBE : Hid (Below w.heap.size w (w.alloc (.cells #[.int .i64 k, .string n, .string s, .slice A al.length ac, .slice K ks.length kc] 25))) := Lib.hid ((Below.refl _ w).alloc (Nat.le_refl _) _)
  have HCN : Hid (cntT (.mk k n s al ks) = 1 + cntL ks) := Lib.hid (by unfold cntT; omega)
  generalize htt : Nd.mk k n s al ks = t at *
  have hks : t.kids = ks := by rw [← htt]; rfl
  have HKS := Lib.hid hks
  clear hks htt
  go_enter Try.func8, Try.ntmps8
  go_wp2_with fail
  generalize w.alloc (.cells #[.int .i64 k, .string n, .string s, .slice A al.length ac, .slice K ks.length kc] 25) = w0 at HBE HBX ⊢
  refine (small0_calls _ _ _ _ _ _ _ (FL.out _ HBE.out)).mono ?_
  rintro e w1 ⟨ok, rfl, hok, hb1⟩
  have HB1 : Hid (Below w.heap.size w w1) := Lib.hid (HBE.out.trans (hb1.mono HBE.out.size))
  have HX1 := Lib.hid ((hb1.block _ (lt_of_block HBX.out)).trans HBX.out)
  clear hb1
  cases ok with
  | false =>
    go_wp2_with fail
    refine (hawake_calls _).mono ?_
    rintro e w2 ⟨rfl, hb2⟩
    have HB2 : Hid (Below w.heap.size w w2) := Lib.hid (HB1.out.trans (hb2.mono HB1.out.size))
    clear hb2
    go_wp2_with fail
    go_ret
    exact ⟨rfl, HB2.out⟩
  | true =>
    obtain ⟨hok1, hok2⟩ := hok rfl
    have HAT := Lib.hid (okT_att 0 _ hok1)
    have HOK := Lib.hid hok1
    clear hok hok1
    have hpos := cntT_pos t
    obtain ⟨b0, b1, b2, b3, b4⟩ := box5 HX1.out
    go_wp2_with fail
    refine (size_calls _ (by omega) t _ _ _ _ _ w1 hok2 (FL.out _ HB1.out)).mono ?_
    rintro e w2 ⟨rfl, hb2⟩
    have HB2 : Hid (Below w.heap.size w w2) := Lib.hid (HB1.out.trans (hb2.mono HB1.out.size))
    have HX2 := Lib.hid ((hb2.block _ (lt_of_block HX1.out)).trans HX1.out)
    clear hb2 b0 b1 b2 b3 b4
    by_cases h80 : 80 < cntT t
    · have h80' : (80 : Int) < (cntT t : Int) := by omega
      go_wp2_with fail
      refine (hawake_calls _).mono ?_
      rintro e w3 ⟨rfl, hb3⟩
      have HB3 : Hid (Below w.heap.size w w3) := Lib.hid (HB2.out.trans (hb3.mono HB2.out.size))
      clear hb3
      go_wp2_with fail
      go_ret
      exact ⟨rfl, HB3.out⟩
    · have h80' : (cntT t : Int) ≤ 80 := by omega
      obtain ⟨b0, b1, b2, b3, b4⟩ := box5 HX2.out
      go_wp2_with fail
      refine (all_calls t _ _ _ _ _ w2 (FL.out _ HB2.out) (by omega) HAT.out (okT_sh 0 0 (-1) 0 0 _ HOK.out)).mono ?_
      rintro e w3 ⟨g, rfl, h1, h2, h3, hb3⟩
      have HB3 : Hid (Below w.heap.size w w3) := Lib.hid (HB2.out.trans (hb3.mono HB2.out.size))
      have HX3 := Lib.hid ((hb3.block _ (lt_of_block HX2.out)).trans HX2.out)
      have HROW := Lib.hid h3
      have hgl : g < w3.heap.size := h2
      have c0 : w3.cell? ⟨g, 0, none⟩ = some (.int .u64 (un (treeH t))) := h3 0 _ (allP_zero t)
      clear hb3 b0 b1 b2 b3 b4 h1 h2 h3
      obtain ⟨b0, b1, b2, b3, b4⟩ := box5 HX3.out
      have a0 := cell_regrown b0
      have a1 := cell_regrown b1
      have a2 := cell_regrown b2
      have a3 := cell_regrown b3
      have a4 := cell_regrown b4
      have c0r := cell_regrown c0
      have HSZ : Hid (∀ d os, Calls Try.prog 25 #[.agg #[.int .i64 k, .string n, .string s, .slice A al.length ac, .slice K ks.length kc]] (Go.Sort.grow (redrawn w3 d) os) fun e w' => e = .returned (.int .i64 (cntT t : Nat)) ∧ Below (Go.Sort.grow (redrawn w3 d) os).heap.size (Go.Sort.grow (redrawn w3 d) os) w') :=
        Lib.hid fun d os => size_calls _ (by omega) t _ _ _ _ _ _ hok2 (FL.out _ (HB3.out.trans ((below_regrown w3 d os).mono HB3.out.size)))
      have HOF : Hid (∀ d os, Calls Try.prog 28 #[.agg #[.int .i64 k, .string n, .string s, .slice A al.length ac, .slice K ks.length kc]] (Go.Sort.grow (redrawn w3 d) os) fun e w' => e = .returned (.int .u64 (un (treeH t))) ∧ Below (Go.Sort.grow (redrawn w3 d) os).heap.size (Go.Sort.grow (redrawn w3 d) os) w') :=
        Lib.hid fun d os => of_calls t _ _ _ _ _ _ (FL.out _ (HB3.out.trans ((below_regrown w3 d os).mono HB3.out.size))) (by omega) HAT.out (okT_sh 0 0 (-1) 0 0 _ HOK.out)
      go_wp2_with fail
      refine wp_region_quiet_below mixed (by kernel_rfl) ?_
      repeat (go_big_quiet_step (first
        | (go_at_call 25; exact Calls.regrown_of (HSZ.out _ _))
        | (go_at_call 28; exact Calls.regrown_of (HOF.out _ _))))
      refine wpQuiet_nil ?_
      rintro w4 ⟨q, hq⟩
      have hb4 : Below w3.heap.size w3 w4 := hq ▸ below_regrown w3 q.d q.os
      have HB4 : Hid (Below w.heap.size w w4) := Lib.hid (HB3.out.trans (hb4.mono HB3.out.size))
      have HX4 := Lib.hid ((hb4.block _ (lt_of_block HX3.out)).trans HX3.out)
      have HROW4 : Hid (∀ (i : Nat) (x : Pn), (allP t)[i]? = some x → w4.cell? ⟨g, i, none⟩ = some (.int .u64 (un (treeH x.t)))) := Lib.hid fun i x hx => (hb4.cell hgl).trans (HROW.out i x hx)
      have hgl4 : g < w4.heap.size := Nat.lt_of_lt_of_le hgl hb4.size
      clear hq hb4 a0 a1 a2 a3 a4 b0 b1 b2 b3 b4 c0 c0r HSZ HOF HROW
      go_wp2_with fail
      go_loopw [4, 5] (fun h i wr => ∃ j : Nat, j ≤ ks.length ∧ h = .int .i64 ((1 + cntL (ks.take j) : Nat) : Int) ∧ i = .int .i64 (j : Int) ∧ Below w4.heap.size w4 wr) (fun _ i _ => ks.length - (intOf i).toNat)
      case atStart => exact ⟨0, Nat.zero_le _, by rw [List.take_zero, show cntL [] = 0 by unfold cntL; rfl]; rfl, rfl, Below.refl _ _⟩
      case round =>
        obtain ⟨j, hj, rfl, rfl, hbw⟩ := hrel
        have hxl := lt_of_block HX4.out
        have HBW := Lib.hid hbw
        have HXR := Lib.hid ((hbw.block _ hxl).trans HX4.out)
        have HBZ : Hid (Below w.heap.size w wr) := Lib.hid (HB4.out.trans (hbw.mono HB4.out.size))
        obtain ⟨b0, b1, b2, b3, b4⟩ := box5 HXR.out
        clear hbw
        have hkl : ks.length ≤ 1000 := by have := cntL_ge ks; have := HCN.out; omega
        rcases Nat.lt_or_ge j ks.length with hl2 | hl2
        · obtain ⟨u, hu⟩ : ∃ u, ks[j]? = some u := ⟨_, List.getElem?_eq_getElem hl2⟩
          obtain ⟨kb, ko, u0, u1, u2, u3, u4, rfl, hkb, e0, e1, e2, e3, e4, hut⟩ := kid_cells HK.out hu wr HBZ.out
          have HUT := Lib.hid hut
          have hjl : (j : Int) < (ks.length : Int) := by omega
          have HNX : Hid (cntL (ks.take (j + 1)) = cntL (ks.take j) + cntT u) := Lib.hid (cntL_take_succ hu)
          have hle := cntL_take_le ks (j + 1)
          rw [HNX.out] at hle
          have hcu : cntT u ≤ 1000 := by have := HCN.out; omega
          obtain ⟨y, hy1, hy2⟩ := allP_kid (allP_zero t) (u := u) (j := j) (by show t.kids[j]? = some u; rw [HKS.out]; exact hu)
          have hy1' : (allP t)[1 + cntL (ks.take j)]? = some y := by rw [← HKS.out]; rw [Nat.zero_add] at hy1; exact hy1
          have hle2 : 1 + cntL (ks.take j) < cntT t := by have := (List.getElem?_eq_some_iff.1 hy1').1; rwa [allP_length] at this
          have l0 : wr.cell? ⟨g, 1 + cntL (ks.take j), none⟩ = some (.int .u64 (un (treeH u))) := by rw [← hy2]; exact (HBW.out.cell hgl4).trans (HROW4.out _ _ hy1')
          have huok : okT 1 u := by
            have h := HOK.out
            have := HKS.out
            cases t
            unfold okT at h
            subst this
            exact okL_at hu h.2.2.2.2.2
          have HUA := Lib.hid (okT_att 1 _ huok)
          have HUO := Lib.hid huok
          clear hut hu hy1 hy1' hy2 huok
          generalize hcj : 1 + cntL (ks.take j) = cj at *
          have hcjl : (cj : Int) < (cntT t : Int) := by omega
          have a4 := cell_regrown b4
          have f0 := cell_regrown e0
          have f1 := cell_regrown e1
          have f2 := cell_regrown e2
          have f3 := cell_regrown e3
          have f4 := cell_regrown e4
          have l0r := cell_regrown l0
          have HOU : Hid (∀ d os, Calls Try.prog 28 #[.agg #[u0, u1, u2, u3, u4]] (Go.Sort.grow (redrawn wr d) os) fun e w' => e = .returned (.int .u64 (un (treeH u))) ∧ Below (Go.Sort.grow (redrawn wr d) os).heap.size (Go.Sort.grow (redrawn wr d) os) w') :=
            Lib.hid fun d os => of_calls u _ _ _ _ _ _ (HUT.out _ (HBZ.out.trans ((below_regrown wr d os).mono HBZ.out.size))) (by omega) HUA.out (okT_sh 0 1 (-1) 0 0 _ HUO.out)
          go_wp2_with fail
          refine wp_region_quiet_below mixed (by kernel_rfl) ?_
          repeat (go_big_quiet_step ((go_at_call 28; exact Calls.regrown_of (HOU.out _ _))))
          refine wpQuiet_nil ?_
          rintro w5 ⟨q, hq⟩
          have hb5 : Below wr.heap.size wr w5 := hq ▸ below_regrown wr q.d q.os
          have HB5 : Hid (Below w4.heap.size w4 w5) := Lib.hid (HBW.out.trans (hb5.mono HBW.out.size))
          have HBZ5 : Hid (Below w.heap.size w w5) := Lib.hid (HB4.out.trans (HB5.out.mono HB4.out.size))
          have HX5 := Lib.hid ((hb5.block _ (lt_of_block HXR.out)).trans HXR.out)
          have k0 := (hb5.cell (cell_lt e0).1).trans e0
          have k1 := (hb5.cell (cell_lt e1).1).trans e1
          have k2 := (hb5.cell (cell_lt e2).1).trans e2
          have k3 := (hb5.cell (cell_lt e3).1).trans e3
          have k4 := (hb5.cell (cell_lt e4).1).trans e4
          clear hq hb5 a4 f0 f1 f2 f3 f4 l0 l0r HOU e0 e1 e2 e3 e4 b0 b1 b2 b3 b4
          obtain ⟨b0, b1, b2, b3, b4⟩ := box5 HX5.out
          go_wp2_with fail
          refine (size_calls _ (by omega) u u0 u1 u2 u3 u4 w5 (Nat.le_refl _) (HUT.out _ HBZ5.out)).mono ?_
          rintro e w8 ⟨rfl, hb8⟩
          have HB8 : Hid (Below w4.heap.size w4 w8) := Lib.hid (HB5.out.trans (hb8.mono HB5.out.size))
          clear hb8 b0 b1 b2 b3 b4 k0 k1 k2 k3 k4
          go_wp2_with fail
          go_roundw
          case rel => exact ⟨j + 1, by omega, by rw [HNX.out, ← Nat.add_assoc, hcj]; go_num, by go_num, HB8.out⟩
          case measure => simp [intOf]; omega
        · obtain rfl : j = ks.length := by omega
          rw [List.take_length]
          have hcn := HCN.out
          rw [← hcn]
          go_wp2_with fail
          refine (hawake_calls _).mono ?_
          rintro e w6 ⟨rfl, hb6⟩
          have HB6 : Hid (Below w.heap.size w w6) := Lib.hid (HBZ.out.trans (hb6.mono HBZ.out.size))
          clear hb6
          go_wp2_with fail
          go_ret
          exact ⟨rfl, HB6.out⟩
end Go.Proofs.Ytcacgbdnegmfnaa.Wk
