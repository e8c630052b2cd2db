/- The law of all hashes. -/
import Derived.Test.YtcacgbdnegmfnaaRKey
import Derived.Test.YtcacgbdnegmfnaaLawS
import Derived.Test.YtcacgbdnegmfnaaLawW
namespace Go.Proofs.Ytcacgbdnegmfnaa.Ha
open Go Go.RowKit Go.Proofs.Ytcacgbdnegmfnaa.Pl Go.Proofs.Ytcacgbdnegmfnaa.Tr Go.Proofs.Ytcacgbdnegmfnaa.Wk
set_option linter.unusedVariables false
theorem neq2 (x y : Int) (w : World) : (binOp .neq 55 (.agg #[.int .u64 x, .int .u64 y]) (.agg #[.int .u64 x, .int .u64 y])).run Try.prog w = .ok (.bool false) w := by
  rw [run_neq_struct, eq2 x y x y]; rfl
end Go.Proofs.Ytcacgbdnegmfnaa.Ha
namespace Go.Proofs.Ytcacgbdnegmfnaa.Wk
open Go Go.RowKit Go.Proofs.Ytcacgbdnegmfnaa.Pl Go.Proofs.Ytcacgbdnegmfnaa.Tr Go.Proofs.Ytcacgbdnegmfnaa.Ha
set_option linter.unusedVariables false
set_option maxHeartbeats 16000000 in
set_option maxRecDepth 100000 in
theorem hashAll (t : Nd) (v0 v1 v2 v3 v4 : Value) (s : ByteArray) (w : World) (h : IsTree w w.heap.size t v0 v1 v2 v3 v4) :
    Calls Try.prog 10 #[.agg #[v0, v1, v2, v3, v4], .string s] w fun e w' => e = .returned (.bool true) ∧ Below w.heap.size w w' := by
  have FL : Hid (∀ W', Below w.heap.size w W' → IsTree W' W'.heap.size t v0 v1 v2 v3 v4) := Lib.hid fun W' hb => h.keep (fun p hp => hb.cell hp) hb.size
  have HBX := Lib.hid (alloc_new w (.cells #[v0, v1, v2, v3, v4] 25))
  have HBE : Hid (Below w.heap.size w (w.alloc (.cells #[v0, v1, v2, v3, v4] 25))) := Lib.hid ((Below.refl _ w).alloc (Nat.le_refl _) _)
  clear h
  go_enter Try.func10, Try.ntmps10
  go_wp2_with fail
  generalize w.alloc (.cells #[v0, v1, v2, v3, v4] 25) = w0 at HBE HBX ⊢
  refine (small0_calls _ _ _ _ _ _ _ (FL.out _ HBE.out)).mono ?_
  rintro e w1 ⟨ok, rfl, hok, hb1⟩
  have HB1 : Hid (Below w.heap.size w w1) := Lib.hid (HBE.out.trans (hb1.mono HBE.out.size))
  have HX1 := Lib.hid ((hb1.block _ (lt_of_block HBX.out)).trans HBX.out)
  clear hb1
  cases ok with
  | false =>
    go_wp2_with fail
    refine (hawake_calls _).mono ?_
    rintro e w2 ⟨rfl, hb2⟩
    have HB2 : Hid (Below w.heap.size w w2) := Lib.hid (HB1.out.trans (hb2.mono HB1.out.size))
    clear hb2
    go_wp2_with fail
    go_ret
    exact ⟨rfl, HB2.out⟩
  | true =>
  obtain ⟨hok1, hok2⟩ := hok rfl
  have HAT := Lib.hid (okT_att 0 _ hok1)
  have HOK := Lib.hid hok1
  clear hok hok1
  have hpos := cntT_pos t
  obtain ⟨b0, b1, b2, b3, b4⟩ := box5 HX1.out
  go_wp2_with fail
  refine (size_calls _ (by omega) t _ _ _ _ _ w1 hok2 (FL.out _ HB1.out)).mono ?_
  rintro e w2 ⟨rfl, hb2⟩
  have HB2 : Hid (Below w.heap.size w w2) := Lib.hid (HB1.out.trans (hb2.mono HB1.out.size))
  have HX2 := Lib.hid ((hb2.block _ (lt_of_block HX1.out)).trans HX1.out)
  clear hb2 b0 b1 b2 b3 b4
  by_cases h80 : 80 < cntT t
  · have h80' : (80 : Int) < (cntT t : Int) := by omega
    go_wp2_with fail
    refine (hawake_calls _).mono ?_
    rintro e w3 ⟨rfl, hb3⟩
    have HB3 : Hid (Below w.heap.size w w3) := Lib.hid (HB2.out.trans (hb3.mono HB2.out.size))
    clear hb3
    go_wp2_with fail
    go_ret
    exact ⟨rfl, HB3.out⟩
  have h80' : (cntT t : Int) ≤ 80 := by omega
  by_cases h3 : 3000 < s.size
  · have h3' : (3000 : Int) < (s.size : Int) := by omega
    go_wp2_with fail
    refine (hawake_calls _).mono ?_
    rintro e w3 ⟨rfl, hb3⟩
    have HB3 : Hid (Below w.heap.size w w3) := Lib.hid (HB2.out.trans (hb3.mono HB2.out.size))
    clear hb3
    go_wp2_with fail
    go_ret
    exact ⟨rfl, HB3.out⟩
  have h3' : (s.size : Int) ≤ 3000 := by omega
  obtain ⟨b0, b1, b2, b3, b4⟩ := box5 HX2.out
  go_wp2_with fail
  refine (tree_calls _ (by omega) t _ _ _ _ _ w2 hok2 HAT.out (FL.out _ HB2.out)).mono ?_
  rintro e w3 ⟨x0, x1, x2, x3, x4, rfl, hx, hb3⟩
  have HB3 : Hid (Below w.heap.size w w3) := Lib.hid (HB2.out.trans (hb3.mono HB2.out.size))
  have HX3 := Lib.hid ((hb3.block _ (lt_of_block HX2.out)).trans HX2.out)
  have hxt := hx.is (fun c h => h.2)
  obtain ⟨kx, nx, sx, Ax, lx, acx, Kx, kcx, rfl, rfl, rfl, rfl, rfl, _, _, _⟩ := tree_shape hxt
  have FX : Hid (∀ W', Below w3.heap.size w3 W' → IsTree W' W'.heap.size t (.int .i64 kx) (.string nx) (.string sx) (.slice Ax lx acx) (.slice Kx t.kids.length kcx)) := Lib.hid fun W' hb => hxt.keep (fun p hp => hb.cell hp) hb.size
  clear hx hxt hb3 b0 b1 b2 b3 b4
  have HB4 : Hid (Below w3.heap.size w3 (w3.alloc (.cells #[.int .i64 kx, .string nx, .string sx, .slice Ax lx acx, .slice Kx t.kids.length kcx] 25))) := Lib.hid ((Below.refl _ w3).alloc (Nat.le_refl _) _)
  have HY4 := Lib.hid (alloc_new w3 (.cells #[.int .i64 kx, .string nx, .string sx, .slice Ax lx acx, .slice Kx t.kids.length kcx] 25))
  have HX4 := Lib.hid (alloc_old HX3.out (.cells #[.int .i64 kx, .string nx, .string sx, .slice Ax lx acx, .slice Kx t.kids.length kcx] 25))
  go_wp2_with fail
  generalize w3.alloc (.cells #[.int .i64 kx, .string nx, .string sx, .slice Ax lx acx, .slice Kx t.kids.length kcx] 25) = w4 at HB4 HY4 HX4 ⊢
  refine (all_calls t _ _ _ _ _ w4 (FX.out _ HB4.out) (by omega) HAT.out (okT_sh 0 0 (-1) 0 0 _ HOK.out)).mono ?_
  rintro e w5 ⟨ga, rfl, ha1, ha2, ha3, hb5⟩
  have HB5 : Hid (Below w3.heap.size w3 w5) := Lib.hid (HB4.out.trans (hb5.mono HB4.out.size))
  have HY5 := Lib.hid ((hb5.block _ (lt_of_block HY4.out)).trans HY4.out)
  have HX5 := Lib.hid ((hb5.block _ (lt_of_block HX4.out)).trans HX4.out)
  have HA5 := Lib.hid ha3
  clear ha3 hb5 ha1
  obtain ⟨b0, b1, b2, b3, b4⟩ := box5 HX5.out
  go_wp2_with fail
  refine (rAll_calls t _ _ _ _ _ w5 (FL.out _ (HB3.out.trans (HB5.out.mono HB3.out.size))) hok2 HOK.out).mono ?_
  rintro e w6 ⟨gr, capr, rfl, hr1, hr2, hr3, hb6⟩
  have HB6 : Hid (Below w3.heap.size w3 w6) := Lib.hid (HB5.out.trans (hb6.mono HB5.out.size))
  have HY6 := Lib.hid ((hb6.block _ (lt_of_block HY5.out)).trans HY5.out)
  have HX6 := Lib.hid ((hb6.block _ (lt_of_block HX5.out)).trans HX5.out)
  have HA6 : Hid (∀ (i : Nat) (x : Pn), (allP t)[i]? = some x → w6.cell? ⟨ga, i, none⟩ = some (.int .u64 (un (treeH x.t)))) := Lib.hid fun i x hx => (hb6.cell ha2).trans (HA5.out i x hx)
  have HR6 := Lib.hid hr3
  have hga6 : ga < w6.heap.size := Nat.lt_of_lt_of_le ha2 hb6.size
  clear hr3 hb6 b0 b1 b2 b3 b4 hr1 ha2
  obtain ⟨b0, b1, b2, b3, b4⟩ := box5 HX6.out
  obtain ⟨y0, y1, y2, y3, y4⟩ := box5 HY6.out
  have rb0 := cell_regrown b0
  have rb1 := cell_regrown b1
  have rb2 := cell_regrown b2
  have rb3 := cell_regrown b3
  have rb4 := cell_regrown b4
  have ry0 := cell_regrown y0
  have ry1 := cell_regrown y1
  have ry2 := cell_regrown y2
  have ry3 := cell_regrown y3
  have ry4 := cell_regrown y4
  clear b0 b1 b2 b3 b4 y0 y1 y2 y3 y4
  have HBF : Hid (∀ d os, Below w.heap.size w (Go.Sort.grow (redrawn w6 d) os)) := Lib.hid fun d os => HB3.out.trans ((HB6.out.trans ((below_regrown w6 d os).mono HB6.out.size)).mono HB3.out.size)
  have HBG : Hid (∀ d os, Below w3.heap.size w3 (Go.Sort.grow (redrawn w6 d) os)) := Lib.hid fun d os => HB6.out.trans ((below_regrown w6 d os).mono HB6.out.size)
  have HKV : Hid (keyV t = .agg #[.int .u64 (un (treeH t)), .int .u64 ((cntT t : Int) * 4294967296 + (hT t : Int))]) := Lib.hid rfl
  have C1 : Hid (∀ W, Calls Try.prog 31 #[.string s] W fun e w' => e = .returned (.int .u64 (un (textH s))) ∧ Below W.heap.size W w') := Lib.hid fun W => text_calls s (by omega) W
  have C2 : Hid (∀ W, Calls Try.prog 32 #[.string s] W fun e w' => e = .returned (.int .u64 (un (textH s))) ∧ Below W.heap.size W w') := Lib.hid fun W => rtext_calls s (by omega) W
  have C3 : Hid (∀ d os, Calls Try.prog 28 #[.agg #[.int .i64 kx, .string nx, .string sx, .slice Ax lx acx, .slice Kx t.kids.length kcx]] (Go.Sort.grow (redrawn w6 d) os) fun e w' => e = .returned (.int .u64 (un (treeH t))) ∧ Below (Go.Sort.grow (redrawn w6 d) os).heap.size (Go.Sort.grow (redrawn w6 d) os) w') := Lib.hid fun d os => of_calls t _ _ _ _ _ _ (FX.out _ (HBG.out d os)) (by omega) HAT.out (okT_sh 0 0 (-1) 0 0 _ HOK.out)
  have C4 : Hid (∀ d os, Calls Try.prog 33 #[.agg #[v0, v1, v2, v3, v4]] (Go.Sort.grow (redrawn w6 d) os) fun e w' => e = .returned (.int .u64 (un (treeH t))) ∧ Below (Go.Sort.grow (redrawn w6 d) os).heap.size (Go.Sort.grow (redrawn w6 d) os) w') := Lib.hid fun d os => rOf_calls _ t _ _ _ _ _ 0 _ (Nat.le_refl _) HOK.out (FL.out _ (HBF.out d os))
  have C5 : Hid (∀ d os, Calls Try.prog 34 #[.agg #[.int .i64 kx, .string nx, .string sx, .slice Ax lx acx, .slice Kx t.kids.length kcx]] (Go.Sort.grow (redrawn w6 d) os) fun e w' => e = .returned (.agg #[.int .u64 (un (treeH t)), .int .u64 ((cntT t : Int) * 4294967296 + (hT t : Int))]) ∧ Below (Go.Sort.grow (redrawn w6 d) os).heap.size (Go.Sort.grow (redrawn w6 d) os) w') := Lib.hid fun d os => key_calls t _ _ _ _ _ _ (FX.out _ (HBG.out d os)) (by omega) HAT.out (okT_sh 0 0 (-1) 0 0 _ HOK.out)
  have C6 : Hid (∀ d os, Calls Try.prog 35 #[.agg #[v0, v1, v2, v3, v4]] (Go.Sort.grow (redrawn w6 d) os) fun e w' => e = .returned (.agg #[.int .u64 (un (treeH t)), .int .u64 ((cntT t : Int) * 4294967296 + (hT t : Int))]) ∧ Below (Go.Sort.grow (redrawn w6 d) os).heap.size (Go.Sort.grow (redrawn w6 d) os) w') := Lib.hid fun d os => rKey_calls t _ _ _ _ _ _ (FL.out _ (HBF.out d os)) hok2 HOK.out
  have hq := neq2
  have HNT := Lib.hid (rfl : un (treeH t) = un (treeH t))
  generalize hnt : un (treeH t) = nt at C3 C4 C5 C6 HNT
  clear HNT hnt
  generalize un (textH s) = ns at C1 C2
  generalize (cntT t : Int) * 4294967296 + (hT t : Int) = nk at C5 C6
  go_wp2_with fail
  refine wp_region_quiet_below mixed (by kernel_rfl) ?_
  repeat (go_big_quiet_step (first
    | (go_at_call 31; exact Calls.regrown_of (C1.out _))
    | (go_at_call 32; exact Calls.regrown_of (C2.out _))
    | (go_at_call 28; exact Calls.regrown_of (C3.out _ _))
    | (go_at_call 33; exact Calls.regrown_of (C4.out _ _))
    | (go_at_call 34; exact Calls.regrown_of (C5.out _ _))
    | (go_at_call 35; exact Calls.regrown_of (C6.out _ _))))
  refine wpQuiet_nil ?_
  rintro w7 ⟨q, hq7⟩
  have hb7 : Below w6.heap.size w6 w7 := hq7 ▸ below_regrown w6 q.d q.os
  have HB7 : Hid (Below w3.heap.size w3 w7) := Lib.hid (HB6.out.trans (hb7.mono HB6.out.size))
  have HY7 := Lib.hid ((hb7.block _ (lt_of_block HY6.out)).trans HY6.out)
  have HX7 := Lib.hid ((hb7.block _ (lt_of_block HX6.out)).trans HX6.out)
  have HA7 : Hid (∀ (i : Nat) (x : Pn), (allP t)[i]? = some x → w7.cell? ⟨ga, i, none⟩ = some (.int .u64 (un (treeH x.t)))) := Lib.hid fun i x hx => (hb7.cell hga6).trans (HA6.out i x hx)
  have HR7 : Hid (∀ (i : Nat) (x : Pn), (allP t)[i]? = some x → w7.cell? ⟨gr, i, none⟩ = some (.int .u64 (un (treeH x.t)))) := Lib.hid fun i x hx => (hb7.cell hr2).trans (HR6.out i x hx)
  have hga7 : ga < w7.heap.size := Nat.lt_of_lt_of_le hga6 hb7.size
  have hgr7 : gr < w7.heap.size := Nat.lt_of_lt_of_le hr2 hb7.size
  clear hq7 hb7 rb0 rb1 rb2 rb3 rb4 ry0 ry1 ry2 ry3 ry4 hq C1 C2 C3 C4 C5 C6 hga6 hr2 HBF HBG
  go_wp2_with fail
  go_loopw [8] (fun i wr => ∃ j : Nat, j ≤ cntT t ∧ i = .int .i64 (j : Int) ∧ Below w7.heap.size w7 wr) (fun i _ => cntT t - (intOf i).toNat)
  case atStart => exact ⟨0, Nat.zero_le _, rfl, Below.refl _ _⟩
  case round =>
    obtain ⟨j, hj, rfl, hbw⟩ := hrel
    have HBW := Lib.hid hbw
    clear hbw
    rcases Nat.lt_or_ge j (cntT t) with hl | hl
    · obtain ⟨x, hx⟩ : ∃ x, (allP t)[j]? = some x := ⟨_, List.getElem?_eq_getElem (by rw [allP_length]; omega)⟩
      have hjl : (j : Int) < (cntT t : Int) := by omega
      have c1 := cell_regrown ((HBW.out.cell hga7).trans (HA7.out j x hx))
      have c2 := cell_regrown ((HBW.out.cell hgr7).trans (HR7.out j x hx))
      clear hx
      go_wp2_with fail
      refine wp_region_quiet_below mixed (by kernel_rfl) ?_
      repeat (go_big_quiet_step (fail))
      refine wpQuiet_nil ?_
      rintro w8 ⟨q, hq8⟩
      have HB8 : Hid (Below w7.heap.size w7 w8) := Lib.hid (HBW.out.trans ((hq8 ▸ below_regrown wr q.d q.os : Below wr.heap.size wr w8).mono HBW.out.size))
      clear hq8 c1 c2
      go_wp2_with fail
      go_roundw
      case rel => exact ⟨j + 1, by omega, by go_num, HB8.out⟩
      case measure => simp [intOf]; omega
    · obtain rfl : j = cntT t := by omega
      have HBZ : Hid (Below w3.heap.size w3 wr) := Lib.hid (HB7.out.trans (HBW.out.mono HB7.out.size))
      have HY8 := Lib.hid ((HBW.out.block _ (lt_of_block HY7.out)).trans HY7.out)
      have HX8 := Lib.hid ((HBW.out.block _ (lt_of_block HX7.out)).trans HX7.out)
      obtain ⟨b0, b1, b2, b3, b4⟩ := box5 HX8.out
      obtain ⟨y0, y1, y2, y3, y4⟩ := box5 HY8.out
      have HSAME : Hid (Calls Try.prog 21 #[.agg #[.int .i64 kx, .string nx, .string sx, .slice Ax lx acx, .slice Kx t.kids.length kcx], .agg #[v0, v1, v2, v3, v4]] wr fun e w' => e = .returned (.bool true) ∧ Below wr.heap.size wr w') := Lib.hid ((same_calls t t _ _ _ _ _ _ _ _ _ _ wr (FX.out _ HBZ.out) (FL.out _ (HB3.out.trans (HBZ.out.mono HB3.out.size)))).mono fun e w' ⟨s', h1, h2, h3⟩ => ⟨by rw [h1, h3.2 rfl], h2⟩)
      go_wp2_with fail
      refine HSAME.out.mono ?_
      rintro e w8 ⟨rfl, hb8⟩
      have HB8 : Hid (Below w.heap.size w w8) := Lib.hid (HB3.out.trans ((HBZ.out.trans (hb8.mono HBZ.out.size)).mono HB3.out.size))
      clear hb8 b0 b1 b2 b3 b4 y0 y1 y2 y3 y4
      go_wp2_with fail
      refine (hawake_calls _).mono ?_
      rintro e w9 ⟨rfl, hb9⟩
      have HB9 : Hid (Below w.heap.size w w9) := Lib.hid (HB8.out.trans (hb9.mono HB8.out.size))
      clear hb9
      go_wp2_with fail
      go_ret
      exact ⟨rfl, HB9.out⟩
end Go.Proofs.Ytcacgbdnegmfnaa.Wk
