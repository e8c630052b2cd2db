/- serial.Join, walked. -/
import Derived.Test.YtbjcahhijfommaaGreatDoorJnP
import Derived.Test.YtbjcahhijfommaaGreatDoorKids
namespace Go.Proofs.YtbjcahhijfommaaGreatDoor.Tr
open Go Go.RowKit
set_option linter.unusedVariables false
set_option maxHeartbeats 8000000 in
set_option maxRecDepth 100000 in
theorem join_calls (mm : Nat) (hmm : mm ≤ 1000000) : ∀ (t : Nd) (v0 v1 v2 v3 v4 : Value) (Bt : Nat) (w : World), cntT t ≤ mm → IsTree w Bt t v0 v1 v2 v3 v4 → Bt ≤ w.heap.size →
    Calls Tryz.prog 8 #[.agg #[v0, v1, v2, v3, v4]] w (JoinEnd Bt t w) := by
  induction mm with
  | zero => intro t _ _ _ _ _ _ _ h; have := cntT_pos t; omega
  | succ mm IH =>
  intro t v0 v1 v2 v3 v4 Bt w hm ht hBt
  match t with
  | .mk k n s al ks =>
  unfold IsTree at ht
  obtain ⟨rfl, rfl, rfl, wk, bn, bs, A, ac, K, kc, rfl, rfl, hat, p1, p2, hkk⟩ := ht
  have HBN := Lib.hid bn
  have HBS := Lib.hid bs
  have HWK := Lib.hid wk
  clear bn bs wk
  unfold maxLen at p2
  have HK := Lib.hid (kidsAt_of hkk)
  have HA := Lib.hid (attrs_low hat)
  have HIH := Lib.hid (IH (by omega))
  have HM : Hid (cntL ks ≤ mm) := Lib.hid (by unfold cntT at hm; omega)
  have HBt := Lib.hid hBt
  clear hkk hat IH hm
  have HW := two_boxes w (.int .i64 k) (.string n) (.string s) (.slice A al.length ac) (.slice K ks.length kc) (.int .i64 0) (.string ⟨#[]⟩) (.string ⟨#[]⟩) (.slice none 0 0) (.slice none 0 0)
  have HRB : Hid (((w.alloc (.cells #[.int .i64 k, .string n, .string s, .slice A al.length ac, .slice K ks.length kc] 25)).alloc (.cells #[.int .i64 0, .string ⟨#[]⟩, .string ⟨#[]⟩, .slice none 0 0, .slice none 0 0] 25)).heap[w.heap.size + 1]? = some (.cells #[.int .i64 0, .string ⟨#[]⟩, .string ⟨#[]⟩, .slice none 0 0, .slice none 0 0] 25 (0, 0))) := Lib.hid (by
    have := alloc_new (w.alloc (.cells #[.int .i64 k, .string n, .string s, .slice A al.length ac, .slice K ks.length kc] 25)) (.cells #[.int .i64 0, .string ⟨#[]⟩, .string ⟨#[]⟩, .slice none 0 0, .slice none 0 0] 25)
    rwa [show (w.alloc (.cells #[.int .i64 k, .string n, .string s, .slice A al.length ac, .slice K ks.length kc] 25)).heap.size = w.heap.size + 1 by simp] at this)
  have HBX : Hid (((w.alloc (.cells #[.int .i64 k, .string n, .string s, .slice A al.length ac, .slice K ks.length kc] 25)).alloc (.cells #[.int .i64 0, .string ⟨#[]⟩, .string ⟨#[]⟩, .slice none 0 0, .slice none 0 0] 25)).heap[w.heap.size]? = some (.cells #[.int .i64 k, .string n, .string s, .slice A al.length ac, .slice K ks.length kc] 25 (0, 0))) := Lib.hid (alloc_old (alloc_new w _) _)
  have HS0 : Hid (((w.alloc (.cells #[.int .i64 k, .string n, .string s, .slice A al.length ac, .slice K ks.length kc] 25)).alloc (.cells #[.int .i64 0, .string ⟨#[]⟩, .string ⟨#[]⟩, .slice none 0 0, .slice none 0 0] 25)).heap.size = w.heap.size + 2) := Lib.hid (by simp)
  go_enter Tryz.func8, Tryz.ntmps8
  go_upto_region 2 with (fail)
  generalize (w.alloc (.cells #[.int .i64 k, .string n, .string s, .slice A al.length ac, .slice K ks.length kc] 25)).alloc (.cells #[.int .i64 0, .string ⟨#[]⟩, .string ⟨#[]⟩, .slice none 0 0, .slice none 0 0] 25) = w1 at HW HRB HBX HS0 ⊢
  have HB1 := Lib.hid HW.bel
  clear HW
  obtain ⟨b0, b1, b2, b3, b4⟩ := box5 HBX.out
  go_wp2_with fail
  have HR0 : Hid (JRel (accJ ks 0) Bt (w.heap.size + 2) (.slice none 0 0) [] w1 w1) := Lib.hid (by
    rw [accJ_zero]
    exact ⟨World.ownsRow_nil _ _ _ _, fun i t hi => by simp at hi, by omega, HS0.out.symm, Below.refl _ _⟩)
  clear b0 b1 b2 b3 b4
  go_loopw [3, 10] (fun l i wr => ∃ (j : Nat) (xs : List Value), j ≤ ks.length ∧ i = .int .i64 (j : Int) ∧ JRel (accJ ks j) Bt (w.heap.size + 2) l xs w1 wr) (fun _ i _ => ks.length - (intOf i).toNat)
  case atStart => exact ⟨0, _, Nat.zero_le _, rfl, HR0.out⟩
  case round =>
    obtain ⟨j, xs, hj, rfl, hR⟩ := hrel
    have HR := Lib.hid hR
    have HBZ : Hid (Below w.heap.size w wr) := Lib.hid (HB1.out.trans (hR.bel.mono HB1.out.size))
    have HXR := Lib.hid ((hR.bel.block _ (lt_of_block HBX.out)).trans HBX.out)
    have HRR := Lib.hid ((hR.bel.block _ (lt_of_block HRB.out)).trans HRB.out)
    clear hR
    rcases Nat.lt_or_ge j ks.length with hl2 | hl2
    · obtain ⟨u, hu⟩ : ∃ u, ks[j]? = some u := ⟨_, List.getElem?_eq_getElem hl2⟩
      obtain ⟨kb, ko, rfl, hkb, y0, y1, y2, y3, y4, e0, e1, e2, e3, e4, htr⟩ := (HK.out.below (HBZ.out.mono HBt.out)) j u hu
      have hjl : (j : Int) < (ks.length : Int) := by omega
      have HTR := Lib.hid htr
      have HACC := Lib.hid (accJ_succ hu)
      have hcm : Hid (cntT u ≤ mm) := Lib.hid (by have := cntL_mem hu; have := HM.out; omega)
      have hjb : (accJ ks j).length ≤ 1000000 := by have := cntL_ge ks; have := HM.out; have := accJ_len ks j; omega
      obtain ⟨i0, ii, hz0, hz1, hz2⟩ := info_parts tree_info
      clear hu
      generalize accJ ks j = acc at *
      cases u with
      | mk k' n' s' al' ks' =>
      unfold IsTree at htr
      obtain ⟨rfl, rfl, rfl, wk', bn', bs', A', ac', K', kc', rfl, rfl, _, _, _, _⟩ := htr
      have HBS' := Lib.hid bs'
      clear wk' bn' bs'
      have HBB : Hid (Below wr.heap.size wr (wr.alloc (.cells #[.int .i64 k', .string n', .string s', .slice A' al'.length ac', .slice K' ks'.length kc'] 25))) := Lib.hid ((Below.refl _ wr).alloc (Nat.le_refl _) _)
      have HBN2 := Lib.hid (alloc_new wr (.cells #[.int .i64 k', .string n', .string s', .slice A' al'.length ac', .slice K' ks'.length kc'] 25))
      by_cases hk3 : k' = 3
      · subst hk3
        by_cases htx : s' = ⟨#[]⟩
        · subst htx
          have HACA : Hid (accJ ks (j + 1) = acc) := Lib.hid (by rw [HACC.out]; exact joinAt_none rfl rfl)
          have HST := Lib.hid (jn_skip HR.out HBB.out)
          rw [← HACA.out] at HST
          go_wp2_with fail
          go_roundw
          case rel => exact ⟨j + 1, _, by omega, by go_num, HST.out⟩
          case measure => simp [intOf]; omega
        · have htl : (s'.toList == []) = false := by
            rw [beq_eq_false_iff_ne]; intro e; exact htx (str_same (by rw [e]; decide +kernel))
          rcases nil_or_snoc acc with rfl | ⟨init, x, rfl⟩
          · have HACA : Hid (accJ ks (j + 1) = [] ++ [joinT (.mk 3 n' s' al' ks')]) := Lib.hid (by rw [HACC.out]; exact joinAt_first rfl htx)
            have HLEN : Hid (([] : List Nd).length = 0) := Lib.hid rfl
            obtain ⟨ao, cp, hkv⟩ : ∃ ao cp, u3 = .slice ao 0 cp := by
              rcases HR.out.row.2 with ⟨h1, h2⟩ | ⟨g, cap, cur, h1, _⟩
              · exact ⟨none, 0, h1⟩
              · exact ⟨_, _, h1⟩
            subst hkv
            clear htx
            go_upto_region 9 with (fail)
            generalize wr.alloc (.cells #[.int .i64 3, .string n', .string s', .slice A' al'.length ac', .slice K' ks'.length kc'] 25) = w2 at HBB HBN2 ⊢
            refine wp_region_quiet_below mixed2 (by kernel_rfl) ?_
            repeat (go_big_quiet_step (fail))
            refine wpQuiet_nil ?_
            rintro w9 ⟨g9, hg9⟩
            have HB9 : Hid (Below w2.heap.size w2 w9) := Lib.hid (hg9 ▸ below_regrown w2 g9.d g9.os : Below w2.heap.size w2 w9)
            replace HBB := Lib.hid (HBB.out.trans (HB9.out.mono HBB.out.size))
            replace HBN2 := Lib.hid ((HB9.out.block _ (lt_of_block HBN2.out)).trans HBN2.out)
            clear hg9 HB9
            go_upto_region 11 with (fail)
            clear w2
            generalize w9 = w2 at *
            obtain ⟨b0, b1, b2, b3, b4⟩ := box5 HBN2.out
            have HJN := Lib.hid (HIH.out _ _ _ _ _ _ Bt w2 hcm.out (HTR.out.keep (fun p hp => HBB.out.cell (by have := HBt.out; have := HBZ.out.size; omega)) (Nat.le_refl _)) (by have := HBt.out; have := HBZ.out.size; have := HBB.out.size; omega))
            go_wp2_with fail
            refine HJN.out.mono ?_
            rintro e w3 ⟨x0, x1, x2, x3, x4, rfl, hti, hb3⟩
            have HTI := Lib.hid (show TreeIn w3 (fun c => (c < Bt ∨ wr.heap.size ≤ c) ∧ c < w3.heap.size) _ _ _ _ _ _ from hti.keep fun c ⟨h1, h2⟩ => ⟨⟨by have := HBB.out.size; omega, h2⟩, fun _ => rfl⟩)
            have HB3 := Lib.hid (HBB.out.trans (hb3.mono HBB.out.size))
            clear b0 b1 b2 b3 b4 hb3 HJN
            unfold joinT TreeIn at hti
            obtain ⟨rfl, rfl, rfl, _, _, _, A2, ac2, K2, kc2, rfl, rfl, _, _, _, _⟩ := hti
            have HB4 : Hid (Below wr.heap.size wr (w3.alloc (.cells #[.int .i64 3, .string n', .string s', .slice A2 al'.length ac2, .slice K2 (joinL ks' []).length kc2] 25))) := Lib.hid (HB3.out.alloc HB3.out.size _)
            have HG1 := Lib.hid (alloc_new w3 (.cells #[.int .i64 3, .string n', .string s', .slice A2 al'.length ac2, .slice K2 (joinL ks' []).length kc2] 25))
            have HROW : Hid ((w3.alloc (.cells #[.int .i64 3, .string n', .string s', .slice A2 al'.length ac2, .slice K2 (joinL ks' []).length kc2] 25)).ownsRow (w.heap.size + 2) 25 5 (.slice ao 0 cp) 0 xs) := Lib.hid (row_of_heap (by have := HR.out.row; rwa [HLEN.out] at this) fun c hc => HB4.out.block c (HR.out.row.lt c hc).2)
            have HNEWS : Hid (∀ (i : Nat) v, [Value.int .i64 3, .string n', .string s', .slice A2 al'.length ac2, .slice K2 (joinL ks' []).length kc2][i]? = some v → (w3.alloc (.cells #[.int .i64 3, .string n', .string s', .slice A2 al'.length ac2, .slice K2 (joinL ks' []).length kc2] 25)).cell? ((⟨w3.heap.size, 0, none⟩ : Addr).add i) = some v) := Lib.hid fun i v hi => by
              rw [add_flat, Nat.zero_add, block_cell HG1.out]; rw [← List.getElem?_toArray] at hi; exact hi
            have HONE : Hid (∀ v ∈ [Value.int .i64 3, .string n', .string s', .slice A2 al'.length ac2, .slice K2 (joinL ks' []).length kc2], v.oneCell' = true) := Lib.hid (by simp [Value.oneCell'])
            have HBSZ : Hid (w.heap.size + 2 ≤ (w3.alloc (.cells #[.int .i64 3, .string n', .string s', .slice A2 al'.length ac2, .slice K2 (joinL ks' []).length kc2] 25)).heap.size) := Lib.hid (by have := HR.out.bel.size; have := HB4.out.size; have := HS0.out; omega)
            go_wp2_with (at_builtin; refine wpList_append_own_at _ rfl (.tmp 63) (.tmp 66) 23 rfl (w.heap.size + 2) 25 i0 _ 5 88 Tryz.underlying23 ii hz0 hz1 hz2 rfl (by decide) _ _ xs rfl HROW.out ⟨w3.heap.size, 0, none⟩ 1 1 _ rfl rfl HNEWS.out HONE.out (by unfold maxLen; omega) (by omega) HBSZ.out ?_)
            intro v' w5 h1 h2 h3 h4
            obtain ⟨gv, cv, rfl⟩ := row_form h1 (by omega)
            have HST := Lib.hid (jn_push HR.out HB4.out (HTI.out.keep fun c ⟨q1, q2⟩ => ⟨⟨q1, by simp; omega⟩, fun o => cell_of_heap (Below.heap_alloc _ _ _ q2) o⟩) (by rw [HLEN.out]; exact h1) h2 (by rw [World.size_alloc]; exact h4))
            rw [← HACA.out] at HST
            clear h1 h2 h3 h4
            go_wp2_with fail
            go_roundw
            case rel => exact ⟨j + 1, _, by omega, by go_num, HST.out⟩
            case measure => simp [intOf]; omega
          · obtain ⟨g, cap, hkv, l0, l2, lf, lsz⟩ := jn_last HR.out
            subst hkv
            have hjb2 : init.length + 1 ≤ 1000000 := by simpa using hjb
            clear hjb
            go_upto_region 9 with (fail)
            generalize wr.alloc (.cells #[.int .i64 3, .string n', .string s', .slice A' al'.length ac', .slice K' ks'.length kc'] 25) = w2 at HBB HBN2 ⊢
            have g0 := cell_regrown ((HBB.out.cell (cell_lt l0).1).trans l0)
            have g2 := cell_regrown ((HBB.out.cell (cell_lt l2).1).trans l2)
            have gb := cell_regrown (box5 HBN2.out).2.2.1
            by_cases hx3 : x.kind = 3
            · rw [hx3] at g0 l0
              by_cases hsz : x.text.size + s'.size ≤ 4096
              · have HACA : Hid (accJ ks (j + 1) = init ++ [addText x s']) := Lib.hid (by rw [HACC.out]; exact joinAt_on rfl htx (by unfold fitsOn; exact decide_eq_true ⟨hx3, hsz⟩))
                have HXT := Lib.hid (show (x.text ++ s').size ≤ maxLen by rw [ByteArray.size_append]; unfold maxLen; omega)
                have hz1' : x.text.size ≤ 4096 := by omega
                have hz2' : s'.size ≤ 4096 := by omega
                have hw1 : IntKind.i64.wrap (4096 - (s'.size : Int)) = 4096 - (s'.size : Int) := IntWalk.i64_in _ (by omega)
                have hw2 : (x.text.size : Int) ≤ 4096 - (s'.size : Int) := by omega
                clear htx lsz hx3
                generalize hxt : x.text = xt at *
                refine wp_region_quiet_below mixed2 (by kernel_rfl) ?_
                repeat (go_big_quiet_step (fail))
                refine wpQuiet_nil ?_
                rintro w9 ⟨g9, hg9⟩
                have HB9 : Hid (Below w2.heap.size w2 w9) := Lib.hid (hg9 ▸ below_regrown w2 g9.d g9.os : Below w2.heap.size w2 w9)
                replace HBB := Lib.hid (HBB.out.trans (HB9.out.mono HBB.out.size))
                replace HBN2 := Lib.hid ((HB9.out.block _ (lt_of_block HBN2.out)).trans HBN2.out)
                clear hg9 HB9
                clear g0 g2 gb
                clear w2
                generalize w9 = w2 at *
                go_upto_region 10 with (fail)
                obtain ⟨wd, hwd⟩ : ∃ wd, wd = w2.drew := ⟨_, rfl⟩
                have HBD : Hid (Below w2.heap.size w2 wd) := Lib.hid (hwd ▸ (Below.refl _ w2).drew)
                have HWD := Lib.hid (HBB.out.trans (HBD.out.mono HBB.out.size))
                have g2 := cell_regrown ((HWD.out.cell (cell_lt l2).1).trans l2)
                have gb := cell_regrown ((HBD.out.cell (cell_lt (box5 HBN2.out).2.2.1).1).trans (box5 HBN2.out).2.2.1)
                refine Kr.wp_region_T 11 [11] []
                  (by simp only [List.take_succ_cons, List.take_zero] <;> rfl) (by simp only [Kr.takeI, List.getElem?_cons_succ, List.getElem?_cons_zero] <;> rfl) mixed2 (by kernel_rfl) ?_
                rw [← hwd]
                clear hwd
                repeat (refine Kr.wpR_one rfl rfl ?_; go_big_quiet_step (fail); refine wpQuiet_nil ?_)
                refine Kr.wpR_nil ?_
                intro w4 hb4 hH
                have HB4 := Lib.hid (HWD.out.trans (hb4.mono HWD.out.size))
                have m2 := (HB4.out.cell (cell_lt l2).1).trans l2
                have mf := (HB4.out.frozen (cell_lt l2).1).trans lf
                have HST := Lib.hid (jn_add (jn_skip HR.out HB4.out) (by rw [hxt]; exact HXT.out))
                rw [hxt, ← HACA.out] at HST
                clear hb4 hH g2 gb
                go_wp2_with fail
                go_roundw
                case rel => exact ⟨j + 1, _, by omega, by go_num, HST.out⟩
                case measure => simp [intOf]; omega
              · have HACA : Hid (accJ ks (j + 1) = init ++ [x] ++ [joinT (.mk 3 n' s' al' ks')]) := Lib.hid (by rw [HACC.out]; exact joinAt_off rfl htx (by unfold fitsOn; exact decide_eq_false (by intro h; simp only [Nd.text] at h hsz; omega)))
                have HLEN : Hid ((init ++ [x]).length = init.length + 1) := Lib.hid (by simp)
                have HROWL := Lib.hid lsz
                have hw1 : IntKind.i64.wrap (4096 - (s'.size : Int)) = 4096 - (s'.size : Int) := IntWalk.i64_in _ (by have := HBS'.out; unfold maxLen at this; omega)
                have hw2 : ¬ ((x.text.size : Int) ≤ 4096 - (s'.size : Int)) := by omega
                clear hx3
                clear htx lsz
                generalize x.text = xt at *
                refine wp_region_quiet_below mixed2 (by kernel_rfl) ?_
                repeat (go_big_quiet_step (fail))
                refine wpQuiet_nil ?_
                rintro w9 ⟨g9, hg9⟩
                have HB9 : Hid (Below w2.heap.size w2 w9) := Lib.hid (hg9 ▸ below_regrown w2 g9.d g9.os : Below w2.heap.size w2 w9)
                replace HBB := Lib.hid (HBB.out.trans (HB9.out.mono HBB.out.size))
                replace HBN2 := Lib.hid ((HB9.out.block _ (lt_of_block HBN2.out)).trans HBN2.out)
                clear hg9 HB9
                clear g0 g2 gb
                go_upto_region 11 with (fail)
                clear w2
                generalize w9 = w2 at *
                obtain ⟨b0, b1, b2, b3, b4⟩ := box5 HBN2.out
                have HJN := Lib.hid (HIH.out _ _ _ _ _ _ Bt w2 hcm.out (HTR.out.keep (fun p hp => HBB.out.cell (by have := HBt.out; have := HBZ.out.size; omega)) (Nat.le_refl _)) (by have := HBt.out; have := HBZ.out.size; have := HBB.out.size; omega))
                go_wp2_with fail
                refine HJN.out.mono ?_
                rintro e w3 ⟨x0, x1, x2, x3, x4, rfl, hti, hb3⟩
                have HTI := Lib.hid (show TreeIn w3 (fun c => (c < Bt ∨ wr.heap.size ≤ c) ∧ c < w3.heap.size) _ _ _ _ _ _ from hti.keep fun c ⟨h1, h2⟩ => ⟨⟨by have := HBB.out.size; omega, h2⟩, fun _ => rfl⟩)
                have HB3 := Lib.hid (HBB.out.trans (hb3.mono HBB.out.size))
                clear b0 b1 b2 b3 b4 hb3 HJN
                unfold joinT TreeIn at hti
                obtain ⟨rfl, rfl, rfl, _, _, _, A2, ac2, K2, kc2, rfl, rfl, _, _, _, _⟩ := hti
                have HB4 : Hid (Below wr.heap.size wr (w3.alloc (.cells #[.int .i64 3, .string n', .string s', .slice A2 al'.length ac2, .slice K2 (joinL ks' []).length kc2] 25))) := Lib.hid (HB3.out.alloc HB3.out.size _)
                have HG1 := Lib.hid (alloc_new w3 (.cells #[.int .i64 3, .string n', .string s', .slice A2 al'.length ac2, .slice K2 (joinL ks' []).length kc2] 25))
                have HROW : Hid ((w3.alloc (.cells #[.int .i64 3, .string n', .string s', .slice A2 al'.length ac2, .slice K2 (joinL ks' []).length kc2] 25)).ownsRow (w.heap.size + 2) 25 5 (.slice (some ⟨g, 0, none⟩) (init.length + 1) cap) (init.length + 1) xs) := Lib.hid (row_of_heap (by have := HR.out.row; rwa [HLEN.out] at this) fun c hc => HB4.out.block c (HR.out.row.lt c hc).2)
                have HNEWS : Hid (∀ (i : Nat) v, [Value.int .i64 3, .string n', .string s', .slice A2 al'.length ac2, .slice K2 (joinL ks' []).length kc2][i]? = some v → (w3.alloc (.cells #[.int .i64 3, .string n', .string s', .slice A2 al'.length ac2, .slice K2 (joinL ks' []).length kc2] 25)).cell? ((⟨w3.heap.size, 0, none⟩ : Addr).add i) = some v) := Lib.hid fun i v hi => by
                  rw [add_flat, Nat.zero_add, block_cell HG1.out]; rw [← List.getElem?_toArray] at hi; exact hi
                have HONE : Hid (∀ v ∈ [Value.int .i64 3, .string n', .string s', .slice A2 al'.length ac2, .slice K2 (joinL ks' []).length kc2], v.oneCell' = true) := Lib.hid (by simp [Value.oneCell'])
                have HBSZ : Hid (w.heap.size + 2 ≤ (w3.alloc (.cells #[.int .i64 3, .string n', .string s', .slice A2 al'.length ac2, .slice K2 (joinL ks' []).length kc2] 25)).heap.size) := Lib.hid (by have := HR.out.bel.size; have := HB4.out.size; have := HS0.out; omega)
                go_wp2_with (at_builtin; refine wpList_append_own_at _ rfl (.tmp 63) (.tmp 66) 23 rfl (w.heap.size + 2) 25 i0 _ 5 88 Tryz.underlying23 ii hz0 hz1 hz2 rfl (by decide) _ _ xs rfl HROW.out ⟨w3.heap.size, 0, none⟩ 1 1 _ rfl rfl HNEWS.out HONE.out (by unfold maxLen; omega) (by omega) HBSZ.out ?_)
                intro v' w5 h1 h2 h3 h4
                obtain ⟨gv, cv, rfl⟩ := row_form h1 (by omega)
                have HST := Lib.hid (jn_push HR.out HB4.out (HTI.out.keep fun c ⟨q1, q2⟩ => ⟨⟨q1, by simp; omega⟩, fun o => cell_of_heap (Below.heap_alloc _ _ _ q2) o⟩) (by rw [HLEN.out]; exact h1) h2 (by rw [World.size_alloc]; exact h4))
                rw [← HACA.out] at HST
                clear h1 h2 h3 h4
                go_wp2_with fail
                go_roundw
                case rel => exact ⟨j + 1, _, by omega, by go_num, HST.out⟩
                case measure => simp [intOf]; omega
            · have HACA : Hid (accJ ks (j + 1) = init ++ [x] ++ [joinT (.mk 3 n' s' al' ks')]) := Lib.hid (by rw [HACC.out]; exact joinAt_off rfl htx (by unfold fitsOn; exact decide_eq_false (by intro h; exact hx3 h.1)))
              have HLEN : Hid ((init ++ [x]).length = init.length + 1) := Lib.hid (by simp)
              have HROWL := Lib.hid lsz
              have hx4 : (x.kind == 3) = false := beq_eq_false_iff_ne.2 hx3
              generalize x.kind = xk at *
              clear hx3
              clear htx lsz
              generalize x.text = xt at *
              refine wp_region_quiet_below mixed2 (by kernel_rfl) ?_
              repeat (go_big_quiet_step (fail))
              refine wpQuiet_nil ?_
              rintro w9 ⟨g9, hg9⟩
              have HB9 : Hid (Below w2.heap.size w2 w9) := Lib.hid (hg9 ▸ below_regrown w2 g9.d g9.os : Below w2.heap.size w2 w9)
              replace HBB := Lib.hid (HBB.out.trans (HB9.out.mono HBB.out.size))
              replace HBN2 := Lib.hid ((HB9.out.block _ (lt_of_block HBN2.out)).trans HBN2.out)
              clear hg9 HB9
              clear g0 g2 gb
              go_upto_region 11 with (fail)
              clear w2
              generalize w9 = w2 at *
              obtain ⟨b0, b1, b2, b3, b4⟩ := box5 HBN2.out
              have HJN := Lib.hid (HIH.out _ _ _ _ _ _ Bt w2 hcm.out (HTR.out.keep (fun p hp => HBB.out.cell (by have := HBt.out; have := HBZ.out.size; omega)) (Nat.le_refl _)) (by have := HBt.out; have := HBZ.out.size; have := HBB.out.size; omega))
              go_wp2_with fail
              refine HJN.out.mono ?_
              rintro e w3 ⟨x0, x1, x2, x3, x4, rfl, hti, hb3⟩
              have HTI := Lib.hid (show TreeIn w3 (fun c => (c < Bt ∨ wr.heap.size ≤ c) ∧ c < w3.heap.size) _ _ _ _ _ _ from hti.keep fun c ⟨h1, h2⟩ => ⟨⟨by have := HBB.out.size; omega, h2⟩, fun _ => rfl⟩)
              have HB3 := Lib.hid (HBB.out.trans (hb3.mono HBB.out.size))
              clear b0 b1 b2 b3 b4 hb3 HJN
              unfold joinT TreeIn at hti
              obtain ⟨rfl, rfl, rfl, _, _, _, A2, ac2, K2, kc2, rfl, rfl, _, _, _, _⟩ := hti
              have HB4 : Hid (Below wr.heap.size wr (w3.alloc (.cells #[.int .i64 3, .string n', .string s', .slice A2 al'.length ac2, .slice K2 (joinL ks' []).length kc2] 25))) := Lib.hid (HB3.out.alloc HB3.out.size _)
              have HG1 := Lib.hid (alloc_new w3 (.cells #[.int .i64 3, .string n', .string s', .slice A2 al'.length ac2, .slice K2 (joinL ks' []).length kc2] 25))
              have HROW : Hid ((w3.alloc (.cells #[.int .i64 3, .string n', .string s', .slice A2 al'.length ac2, .slice K2 (joinL ks' []).length kc2] 25)).ownsRow (w.heap.size + 2) 25 5 (.slice (some ⟨g, 0, none⟩) (init.length + 1) cap) (init.length + 1) xs) := Lib.hid (row_of_heap (by have := HR.out.row; rwa [HLEN.out] at this) fun c hc => HB4.out.block c (HR.out.row.lt c hc).2)
              have HNEWS : Hid (∀ (i : Nat) v, [Value.int .i64 3, .string n', .string s', .slice A2 al'.length ac2, .slice K2 (joinL ks' []).length kc2][i]? = some v → (w3.alloc (.cells #[.int .i64 3, .string n', .string s', .slice A2 al'.length ac2, .slice K2 (joinL ks' []).length kc2] 25)).cell? ((⟨w3.heap.size, 0, none⟩ : Addr).add i) = some v) := Lib.hid fun i v hi => by
                rw [add_flat, Nat.zero_add, block_cell HG1.out]; rw [← List.getElem?_toArray] at hi; exact hi
              have HONE : Hid (∀ v ∈ [Value.int .i64 3, .string n', .string s', .slice A2 al'.length ac2, .slice K2 (joinL ks' []).length kc2], v.oneCell' = true) := Lib.hid (by simp [Value.oneCell'])
              have HBSZ : Hid (w.heap.size + 2 ≤ (w3.alloc (.cells #[.int .i64 3, .string n', .string s', .slice A2 al'.length ac2, .slice K2 (joinL ks' []).length kc2] 25)).heap.size) := Lib.hid (by have := HR.out.bel.size; have := HB4.out.size; have := HS0.out; omega)
              go_wp2_with (at_builtin; refine wpList_append_own_at _ rfl (.tmp 63) (.tmp 66) 23 rfl (w.heap.size + 2) 25 i0 _ 5 88 Tryz.underlying23 ii hz0 hz1 hz2 rfl (by decide) _ _ xs rfl HROW.out ⟨w3.heap.size, 0, none⟩ 1 1 _ rfl rfl HNEWS.out HONE.out (by unfold maxLen; omega) (by omega) HBSZ.out ?_)
              intro v' w5 h1 h2 h3 h4
              obtain ⟨gv, cv, rfl⟩ := row_form h1 (by omega)
              have HST := Lib.hid (jn_push HR.out HB4.out (HTI.out.keep fun c ⟨q1, q2⟩ => ⟨⟨q1, by simp; omega⟩, fun o => cell_of_heap (Below.heap_alloc _ _ _ q2) o⟩) (by rw [HLEN.out]; exact h1) h2 (by rw [World.size_alloc]; exact h4))
              rw [← HACA.out] at HST
              clear h1 h2 h3 h4
              go_wp2_with fail
              go_roundw
              case rel => exact ⟨j + 1, _, by omega, by go_num, HST.out⟩
              case measure => simp [intOf]; omega
      · have hne : (k' != 3) = true := by simp [hk3]
        have HACA : Hid (accJ ks (j + 1) = acc ++ [joinT (.mk k' n' s' al' ks')]) := Lib.hid (by rw [HACC.out]; exact joinAt_other hk3)
        clear hk3
        go_upto_region 6 with (fail)
        generalize wr.alloc (.cells #[.int .i64 k', .string n', .string s', .slice A' al'.length ac', .slice K' ks'.length kc'] 25) = w2 at HBB HBN2 ⊢
        obtain ⟨b0, b1, b2, b3, b4⟩ := box5 HBN2.out
        have HJN := Lib.hid (HIH.out _ _ _ _ _ _ Bt w2 hcm.out (HTR.out.keep (fun p hp => HBB.out.cell (by have := HBt.out; have := HBZ.out.size; omega)) (Nat.le_refl _)) (by have := HBt.out; have := HBZ.out.size; have := HBB.out.size; omega))
        go_wp2_with fail
        refine HJN.out.mono ?_
        rintro e w3 ⟨x0, x1, x2, x3, x4, rfl, hti, hb3⟩
        have HTI := Lib.hid (show TreeIn w3 (fun c => (c < Bt ∨ wr.heap.size ≤ c) ∧ c < w3.heap.size) _ _ _ _ _ _ from hti.keep fun c ⟨h1, h2⟩ => ⟨⟨by have := HBB.out.size; omega, h2⟩, fun _ => rfl⟩)
        have HB3 := Lib.hid (HBB.out.trans (hb3.mono HBB.out.size))
        clear b0 b1 b2 b3 b4 hb3 HJN
        unfold joinT TreeIn at hti
        obtain ⟨rfl, rfl, rfl, _, _, _, A2, ac2, K2, kc2, rfl, rfl, _, _, _, _⟩ := hti
        have HB4 : Hid (Below wr.heap.size wr (w3.alloc (.cells #[.int .i64 k', .string n', .string s', .slice A2 al'.length ac2, .slice K2 (joinL ks' []).length kc2] 25))) := Lib.hid (HB3.out.alloc HB3.out.size _)
        have HG1 := Lib.hid (alloc_new w3 (.cells #[.int .i64 k', .string n', .string s', .slice A2 al'.length ac2, .slice K2 (joinL ks' []).length kc2] 25))
        have HROW : Hid ((w3.alloc (.cells #[.int .i64 k', .string n', .string s', .slice A2 al'.length ac2, .slice K2 (joinL ks' []).length kc2] 25)).ownsRow (w.heap.size + 2) 25 5 u3 acc.length xs) := Lib.hid (row_of_heap HR.out.row fun c hc => HB4.out.block c (HR.out.row.lt c hc).2)
        have HNEWS : Hid (∀ (i : Nat) v, [Value.int .i64 k', .string n', .string s', .slice A2 al'.length ac2, .slice K2 (joinL ks' []).length kc2][i]? = some v → (w3.alloc (.cells #[.int .i64 k', .string n', .string s', .slice A2 al'.length ac2, .slice K2 (joinL ks' []).length kc2] 25)).cell? ((⟨w3.heap.size, 0, none⟩ : Addr).add i) = some v) := Lib.hid fun i v hi => by
          rw [add_flat, Nat.zero_add, block_cell HG1.out]; rw [← List.getElem?_toArray] at hi; exact hi
        have HONE : Hid (∀ v ∈ [Value.int .i64 k', .string n', .string s', .slice A2 al'.length ac2, .slice K2 (joinL ks' []).length kc2], v.oneCell' = true) := Lib.hid (by simp [Value.oneCell'])
        have HBSZ : Hid (w.heap.size + 2 ≤ (w3.alloc (.cells #[.int .i64 k', .string n', .string s', .slice A2 al'.length ac2, .slice K2 (joinL ks' []).length kc2] 25)).heap.size) := Lib.hid (by have := HR.out.bel.size; have := HB4.out.size; have := HS0.out; omega)
        go_wp2_with (at_builtin; refine wpList_append_own_at _ rfl (.tmp 17) (.tmp 20) 23 rfl (w.heap.size + 2) 25 i0 _ 5 88 Tryz.underlying23 ii hz0 hz1 hz2 rfl (by decide) _ _ xs rfl HROW.out ⟨w3.heap.size, 0, none⟩ 1 1 _ rfl rfl HNEWS.out HONE.out (by unfold maxLen; omega) (by omega) HBSZ.out ?_)
        intro v' w5 h1 h2 h3 h4
        obtain ⟨gv, cv, rfl⟩ := row_form h1 (by omega)
        have HST := Lib.hid (jn_push HR.out HB4.out (HTI.out.keep fun c ⟨q1, q2⟩ => ⟨⟨q1, by simp; omega⟩, fun o => cell_of_heap (Below.heap_alloc _ _ _ q2) o⟩) h1 h2 (by rw [World.size_alloc]; exact h4))
        rw [← HACA.out] at HST
        clear h1 h2 h3 h4
        go_wp2_with fail
        go_roundw
        case rel => exact ⟨j + 1, _, by omega, by go_num, HST.out⟩
        case measure => simp [intOf]; omega
    · obtain rfl : j = ks.length := by omega
      have hjl : ¬ ((ks.length : Int) < (ks.length : Int)) := by omega
      have hR2 := HR.out
      rw [accJ_all] at hR2
      obtain ⟨K', kc', rfl, m1, m2, m3⟩ := kids_of_row (S' := fun c => (c < Bt ∨ w.heap.size + 2 ≤ c) ∧ c < wr.heap.size) hR2.row hR2.kids (fun c ⟨h1, h2, h3⟩ => ⟨h1, h2⟩) (fun g hg => by have := hR2.row.lt g hg; exact ⟨by omega, this.2⟩)
      have HT : Hid (TreeIn wr (fun c => (c < Bt ∨ w.heap.size + 2 ≤ c) ∧ c < wr.heap.size) (joinT (.mk k n s al ks)) (.int .i64 k) (.string n) (.string s) (.slice A al.length ac) (.slice K' (joinL ks []).length kc')) := Lib.hid (by
        unfold joinT TreeIn
        exact ⟨rfl, rfl, rfl, HWK.out, HBN.out, HBS.out, A, ac, K', kc', rfl, rfl, HA.out.keep fun c hc => ⟨⟨.inl hc, by have := HBt.out; have := HBZ.out.size; omega⟩, fun o => HBZ.out.cell (p := ⟨c, o, none⟩) (by show c < _; have := HBt.out; omega)⟩, m1, m2, m3⟩)
      have HXR2 := HXR
      have fz := Lib.frozen_of_heap HXR.out 4
      obtain ⟨x0, x1, x2, x3, x4⟩ := box5 HXR.out
      clear hR2 m3
      go_upto_region 14 with (fail)
      obtain ⟨w8, hw8⟩ : ∃ w8, wr.setCell ⟨w.heap.size, 4, none⟩ (.slice K' (joinL ks []).length kc') = w8 := ⟨_, rfl⟩
      have HX8 : Hid (w8.heap[w.heap.size]? = some (.cells #[.int .i64 k, .string n, .string s, .slice A al.length ac, .slice K' (joinL ks []).length kc'] 25 (0, 0))) := Lib.hid (by
        rw [← hw8]
        simp only [World.setCell, Array.getElem?_modify, ↓reduceIte, HXR2.out, Option.map_some]
        rfl)
      have HO8 : Hid (∀ c, c ≠ w.heap.size → w8.heap[c]? = wr.heap[c]?) := Lib.hid fun c hc => by rw [← hw8]; exact Below.heap_setCell _ _ _ c hc
      have HS8 : Hid (w8.heap.size = wr.heap.size) := Lib.hid (by rw [← hw8]; simp)
      have HB8 : Hid (Below w.heap.size w w8) := Lib.hid (by rw [← hw8]; exact HBZ.out.setCell (p := ⟨w.heap.size, 4, none⟩) (Nat.le_refl _) _)
      rw [hw8]
      clear hw8 x0 x1 x2 x3 x4 fz
      have HR8 := Lib.hid ((HO8.out (w.heap.size + 1) (by omega)).trans HRR.out)
      obtain ⟨x0, x1, x2, x3, x4⟩ := box5 HX8.out
      obtain ⟨z0, z1, z2, z3, z4⟩ := box5 HR8.out
      have z5 : w8.frozen? ⟨w.heap.size + 1, 0, none⟩ = false := Lib.frozen_of_heap HR8.out 0
      have z6 : w8.frozen? ⟨w.heap.size + 1, 1, none⟩ = false := Lib.frozen_of_heap HR8.out 1
      have z7 : w8.frozen? ⟨w.heap.size + 1, 2, none⟩ = false := Lib.frozen_of_heap HR8.out 2
      have z8 : w8.frozen? ⟨w.heap.size + 1, 3, none⟩ = false := Lib.frozen_of_heap HR8.out 3
      have z9 : w8.frozen? ⟨w.heap.size + 1, 4, none⟩ = false := Lib.frozen_of_heap HR8.out 4
      have hS := set5 HR8.out (.int .i64 k) (.string n) (.string s) (.slice A al.length ac) (.slice K' (joinL ks []).length kc')
      go_wp2_with fail
      generalize ((((w8.setCell ⟨w.heap.size + 1, 0, none⟩ (.int .i64 k)).setCell ⟨w.heap.size + 1, 1, none⟩ (.string n)).setCell ⟨w.heap.size + 1, 2, none⟩ (.string s)).setCell ⟨w.heap.size + 1, 3, none⟩ (.slice A al.length ac)).setCell ⟨w.heap.size + 1, 4, none⟩ (.slice K' (joinL ks []).length kc') = w9 at hS ⊢
      have hld := run_loadVar_row (P := Tryz.prog) w9 (w.heap.size + 1) 25 25 _ _ _ hS.blk Tryz.underlying25 rfl (by kernel_rfl)
      (try simp only [Exit.inBlock, Exit.then])
      refine bodyPost_ret (v := .agg #[.int .i64 k, .string n, .string s, .slice A al.length ac, .slice K' (joinL ks []).length kc']) ?_ rfl ⟨_, _, _, _, _, rfl, ?_, ?_⟩
      · rw [results_one rfl]
        simp [asAddr, Result.andThen, hld]
      · exact HT.out.keep fun c ⟨h1, h2⟩ => ⟨⟨by omega, by rw [hS.size, HS8.out]; exact h2⟩, fun o => cell_of_heap ((hS.other c (by have := HBt.out; omega)).trans (HO8.out c (by have := HBt.out; omega))) o⟩
      · exact HB8.out.trans (hS.fr.below (fun c hc e => by omega) HB8.out.size)
end Go.Proofs.YtbjcahhijfommaaGreatDoor.Tr
