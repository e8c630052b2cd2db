/- The law of trees that are very deep, or very wide. -/
import Derived.Test.YtcacgbdnegmfnaaLineD
import Derived.Test.YtcacgbdnegmfnaaLawT
import Derived.Test.YtcacgbdnegmfnaaLawW
import Derived.Deep.RegionHeld
namespace Go.Proofs.Ytcacgbdnegmfnaa.Wk
open Go Go.RowKit Go.Proofs.Ytcacgbdnegmfnaa.Tr Go.Proofs.Ytcacgbdnegmfnaa.Dp
set_option linter.unusedVariables false
/-- The two lists of a tree. -/
def SpFlat (t : Nd) (B : Nat) (v : Value) (W : World) : Prop := ∃ g cap, v = .slice (some ⟨g, 0, none⟩) (cntT t : Nat) cap ∧ IRow g (allP t) (finOf (allP t)) W
def SpPost (t : Nd) (v : Value) (W : World) : Prop := ∃ g cap, v = .slice (some ⟨g, 0, none⟩) (cntT t : Nat) cap ∧ g < W.heap.size ∧ ∀ (i x : Nat), (postT 0 t)[i]? = some x → W.cell? ⟨g, i, none⟩ = some (.int .i64 (x : Int))
theorem post_sp {t : Nd} {w : World} {v : Value} {B : Nat} (h : w.ownsRow B 3 1 v (cntT t) (cellsN (postT 0 t))) : SpPost t v w := by
  obtain ⟨g, cap, rfl⟩ := row_form h (cntT_pos t)
  refine ⟨g, cap, rfl, (h.lt g rfl).2, fun i x hx => ?_⟩
  have := h.cells (g := g) rfl i (.int .i64 (x : Int)) (by unfold cellsN; rw [List.getElem?_map, hx]; rfl)
  rwa [add_flat, Nat.zero_add] at this

set_option maxHeartbeats 16000000 in
set_option maxRecDepth 100000 in
theorem walkDeep_wide (n : Int) (w : World) : Calls Try.prog 5 #[.int .i64 n, .bool true] w fun e w' => e = .returned (.bool true) ∧ Below w.heap.size w w' := by
  have HB0 : Hid (Below w.heap.size w (w.alloc (.cells #[.int .i64 2, .string ⟨#[97]⟩, .string ⟨#[]⟩, .slice none 0 0, .slice none 0 0] 25))) := Lib.hid ((Below.refl _ w).alloc (Nat.le_refl _) _)
  have HX0 := Lib.hid (alloc_new w (.cells #[.int .i64 2, .string ⟨#[97]⟩, .string ⟨#[]⟩, .slice none 0 0, .slice none 0 0] 25))
  go_enter Try.func5, Try.ntmps5
  go_wp2_with fail
  refine (Ct.place_calls n 500 (by omega) (by omega) w).mono ?_
  rintro e _ ⟨⟨k, hk, rfl⟩, rfl⟩
  have hk2 : k < 500 := by omega
  go_wp2_with fail
  generalize w.alloc (.cells #[.int .i64 2, .string ⟨#[97]⟩, .string ⟨#[]⟩, .slice none 0 0, .slice none 0 0] 25) = w1 at HB0 HX0 ⊢
  have hs1 := lt_of_block HX0.out
  obtain ⟨wb, hwb⟩ : ∃ wb : World, wb = w := ⟨w, rfl⟩
  have HR0 : Hid (CpRel (List.replicate k leafX) [] (.int .i64 2) (.string ⟨#[97]⟩) (.string ⟨#[]⟩) none 0 w.heap.size w.heap.size 0 (.slice none 0 0) [] wb w1) := Lib.hid ⟨HX0.out, World.ownsRow_nil _ _ _ _, by simp [Value.ownBlock], fun i t hi => by simp at hi,
    ⟨Nat.le_refl _, by unfold maxLen; omega, by simp, fun h => absurd rfl h⟩, Nat.le_refl _, by rw [hwb], hwb ▸ HB0.out⟩
  clear HX0

  go_loopw [7] (fun i wr => ∃ (j : Nat) (kv : Value) (xs : List Value), j ≤ k ∧ i = .int .i64 ((j : Int) + 1) ∧ CpRel (List.replicate k leafX) [] (.int .i64 2) (.string ⟨#[97]⟩) (.string ⟨#[]⟩) none 0 w.heap.size w.heap.size j kv xs wb wr) (fun i _ => k + 1 - (intOf i).toNat)
  case atStart => exact ⟨0, _, _, Nat.zero_le _, rfl, HR0.out⟩
  case round =>
    obtain ⟨j, kv, xs, hj, rfl, hR⟩ := hrel
    have HR := Lib.hid hR
    clear hR
    obtain ⟨q0, q1, q2, q3, q4⟩ := box5 HR.out.blk
    rcases Nat.lt_or_ge j k with hl | hl
    · have hjl : (j : Int) + 1 < 1 + (k : Int) := by omega
      obtain ⟨i0, ii, hz0, hz1, hz2⟩ := info_parts tree_info
      have HROW : Hid ((wr.alloc (.cells #[.int .i64 3, .string ⟨#[]⟩, .string ⟨#[98]⟩, .slice none 0 0, .slice none 0 0] 25)).ownsRow w.heap.size 25 5 kv j xs) := Lib.hid (HR.out.row.alloc _)
      have HNEWS : Hid (∀ (j : Nat) u, [Value.int .i64 3, .string ⟨#[]⟩, .string ⟨#[98]⟩, .slice none 0 0, .slice none 0 0][j]? = some u → (wr.alloc (.cells #[.int .i64 3, .string ⟨#[]⟩, .string ⟨#[98]⟩, .slice none 0 0, .slice none 0 0] 25)).cell? ((⟨wr.heap.size, 0, none⟩ : Addr).add j) = some u) := Lib.hid fun j u hj => by
        rw [add_flat, Nat.zero_add, block_cell (alloc_new wr _)]; rw [← List.getElem?_toArray] at hj; exact hj
      have HONE : Hid (∀ u ∈ [Value.int .i64 3, .string ⟨#[]⟩, .string ⟨#[98]⟩, .slice none 0 0, .slice none 0 0], u.oneCell' = true) := Lib.hid (by simp [Value.oneCell'])
      have HB3 : Hid (Below wr.heap.size wr (wr.alloc (.cells #[.int .i64 3, .string ⟨#[]⟩, .string ⟨#[98]⟩, .slice none 0 0, .slice none 0 0] 25))) := Lib.hid ((Below.refl _ wr).alloc (Nat.le_refl _) _)
      have HBS : Hid (w.heap.size ≤ (wr.alloc (.cells #[.int .i64 3, .string ⟨#[]⟩, .string ⟨#[98]⟩, .slice none 0 0, .slice none 0 0] 25)).heap.size) := Lib.hid (Nat.le_trans (by have := HR.out.bel.size; rw [← HR.out.BW] at this; exact this) HB3.out.size)
      go_wp2_with (at_builtin; refine wpList_append_own_at _ rfl (.tmp 22) (.tmp 24) 23 rfl w.heap.size 25 i0 _ 5 88 Try.underlying23 ii hz0 hz1 hz2 rfl (by decide) kv j xs rfl HROW.out ⟨wr.heap.size, 0, none⟩ 1 1 [.int .i64 3, .string ⟨#[]⟩, .string ⟨#[98]⟩, .slice none 0 0, .slice none 0 0] rfl rfl HNEWS.out HONE.out (by unfold maxLen; omega) (by omega) HBS.out ?_)
      intro v' w5 h1 h2 h3 h4
      obtain ⟨gv, cv, rfl⟩ := row_form h1 (by omega)
      have HST : Hid (CpRel (List.replicate k leafX) [] (.int .i64 2) (.string ⟨#[97]⟩) (.string ⟨#[]⟩) none 0 w.heap.size w.heap.size (j + 1) (.slice (some ⟨gv, 0, none⟩) (j + 1) cv) (xs ++ [.int .i64 3, .string ⟨#[]⟩, .string ⟨#[98]⟩, .slice none 0 0, .slice none 0 0]) wb (w5.setCell ⟨w.heap.size, 4, none⟩ (.slice (some ⟨gv, 0, none⟩) (j + 1) cv))) := Lib.hid (cp_step HR.out HB3.out (rep_get hl) treeIn_leafX h1 h2 (h4.imp id fun e => by rw [e]; simp))
      have HB5 : Hid (w5.heap[w.heap.size]? = some (.cells #[.int .i64 2, .string ⟨#[97]⟩, .string ⟨#[]⟩, .slice none 0 0, kv] 25 (0, 0))) := Lib.hid
        ((h2.block _ (by have := lt_of_block HR.out.blk; have := HB3.out.size; omega) (fun e => HR.out.ne e.symm)).trans ((HB3.out.block _ (lt_of_block HR.out.blk)).trans HR.out.blk))
      clear q0 q1 q2 q3 q4
      obtain ⟨q0, q1, q2, q3, q4⟩ := box5 HB5.out
      have f4 : w5.frozen? ⟨w.heap.size, 4, none⟩ = false := Lib.frozen_of_heap HB5.out 4
      clear h1 h2 h3 h4
      go_wp2_with fail
      generalize w5.setCell ⟨w.heap.size, 4, none⟩ (.slice (some ⟨gv, 0, none⟩) (j + 1) cv) = w6 at HST ⊢
      go_roundw
      case rel => exact ⟨j + 1, _, _, by omega, by go_num, HST.out⟩
      case measure => simp [intOf]; omega
    · obtain rfl : j = k := by omega
      have hR2 := HR.out
      have hBW := hR2.BW
      obtain ⟨K, kc, rfl, hW⟩ := line_of (w1 := wb) (by rw [hBW] at hR2; rw [hwb] at hR2 ⊢; exact hR2)
      subst hwb
      have HW := Lib.hid hW
      have hjl : (1 : Int) + (j : Int) ≤ (j : Int) + 1 := by omega
      clear hR2 hW hBW HR0 hl hj HR HB0 hs1 hk
      generalize hqq : j = q at *
      clear hqq

      have HTI : Hid (∀ W, Below wr.heap.size wr W → IsTree W W.heap.size (wrapX q 0) (.int .i64 2) (.string ⟨#[97]⟩) (.string ⟨#[]⟩) (.slice none 0 0) (.slice K q kc)) := Lib.hid fun W hW => (HW.out.tree.is (fun c h => h.2.1)).keep (fun p hp => hW.cell hp) hW.size
      have HBE := Lib.hid HW.out.bel
      have hcn : cntT (wrapX q 0) = q + 1 := by have := cnt_wrapX q 0; omega
      have HAT := Lib.hid (att_wrapX q 0)
      clear q0 q1 q2 q3 q4
      obtain ⟨q0, q1, q2, q3, q4⟩ := box5 HW.out.blk
      have r0 := cell_regrown q0
      have r1 := cell_regrown q1
      have r2 := cell_regrown q2
      have r3 := cell_regrown q3
      have r4 := cell_regrown q4
      clear q0 q1 q2 q3 q4
      go_wp2_with fail
      refine Kr.wp_region_R [(1, SpFlat (wrapX q 0) 0), (3, SpPost (wrapX q 0))] (by kernel_rfl) (by kernel_rfl) ?_
      repeat (refine Kr.wpR_one rfl rfl ?_; go_big_quiet_step (fail); refine wpQuiet_nil ?_)
      refine Kr.wpR_call _ rfl rfl rfl ?_ ?_
      · intro W hW hk
        have HWW := Lib.hid (Kr.later_iff.1 hW)
        go_simp
        refine Kr.upMany_enter ((flat_calls (wrapX q 0) _ _ _ _ _ W (HTI.out _ HWW.out) (by omega) HAT.out).mono ?_)
        rintro e w' ⟨g, cap, rfl, _, _, _, h1, h2⟩
        exact ⟨_, rfl, ⟨g, cap, rfl, h1⟩, h2⟩
      rintro v ⟨_, _, _, _, hS, _⟩
      obtain ⟨gf, cf, rfl, _⟩ := hS
      go_frame
      repeat (refine Kr.wpR_one rfl rfl ?_; go_big_quiet_step (fail); refine wpQuiet_nil ?_)
      refine Kr.wpR_call _ rfl rfl rfl ?_ ?_
      · intro W hW hk
        have HWW := Lib.hid (Kr.later_iff.1 hW)
        go_simp
        refine Kr.upMany_enter ((post_calls (wrapX q 0) _ _ _ _ _ W (HTI.out _ HWW.out) (by omega) HAT.out).mono ?_)
        rintro e w' ⟨v, rfl, h1, h2⟩
        exact ⟨_, rfl, post_sp h1, h2⟩
      rintro v ⟨_, _, _, _, hS, _⟩
      obtain ⟨gp, cp, rfl, _, _⟩ := hS
      go_frame
      repeat (refine Kr.wpR_one rfl rfl ?_; go_big_quiet_step (fail); refine wpQuiet_nil ?_)
      refine Kr.wpR_nil ?_
      intro w7 hb7 hH
      obtain ⟨W1, ⟨gp', cp', e, hgp, hp1⟩, hp2⟩ := hH _ _ (.inl ⟨rfl, rfl⟩)
      injection e with e
      injection e with e
      injection e with e _ _
      subst e
      obtain ⟨W2, ⟨gf', cf', e, hf1⟩, hf2⟩ := hH _ _ (.inr (.inl ⟨rfl, rfl⟩))
      injection e with e
      injection e with e
      injection e with e _ _
      subst e
      have HI7 : Hid (IRow gf (allP (wrapX q 0)) (finOf (allP (wrapX q 0))) w7) := Lib.hid (hf1.keep hf2 (Nat.le_refl _))
      have HP7 : Hid (∀ (i x : Nat), (postT 0 (wrapX q 0))[i]? = some x → w7.cell? ⟨gp, i, none⟩ = some (.int .i64 (x : Int))) := Lib.hid fun i x hx => (hp2.cell hgp).trans (hp1 i x hx)
      have HB7 := Lib.hid hb7
      have HBZ : Hid (Below wb.heap.size wb w7) := Lib.hid (HBE.out.trans (hb7.mono HBE.out.size))
      have HX7 := Lib.hid ((hb7.block _ (lt_of_block HW.out.blk)).trans HW.out.blk)
      clear hb7 hH hgp hp1 hp2 hf1 hf2 r0 r1 r2 r3 r4
      rw [hcn]
      have l0 : w7.cell? ⟨gp, q, none⟩ = some (.int .i64 0) := HP7.out q 0 (by have := post_last 0 (wrapX q 0); rwa [hcn] at this)
      have HP0 : Hid (0 < q → w7.cell? ⟨gp, 0, none⟩ = some (.int .i64 1)) := Lib.hid fun h => HP7.out 0 1 (post_first_wide q h)
      rcases Nat.eq_zero_or_pos q with hq0 | hq0
      · subst hq0
        obtain ⟨av, ⟨Ax, ax, rfl, _⟩, _, c0, c1, c2, c3, c4, c5, c6, c7, c8, c9⟩ := HI7.out.at_ 0 _ (allP_zero _)
        rw [Nat.zero_mul] at c0 c1 c2 c3 c4 c5 c6 c7 c8 c9
        dsimp only at c0 c1 c2 c3 c4 c5 c6 c7 c8 c9
        have HB8 : Hid (∀ o, Below wb.heap.size wb (w7.alloc o)) := Lib.hid fun o => HBZ.out.alloc HBZ.out.size o
        go_wp2_with fail
        refine (awake_calls _).mono ?_
        rintro e w9 ⟨rfl, hb9⟩
        have HB9 := Lib.hid ((HB8.out _).trans (hb9.mono (HB8.out _).size))
        clear hb9
        go_wp2_with fail
        go_ret
        exact ⟨rfl, HB9.out⟩
      · have hp1 := HP0.out hq0
        obtain ⟨av, ⟨Ax, ax, rfl, _⟩, _, c0, c1, c2, c3, c4, c5, c6, c7, c8, c9⟩ := HI7.out.at_ q ⟨leafX, 0, 1, ((q - 1 : Nat) : Int)⟩ (by have := wide_node (b := q) (i := q - 1) (by omega); rwa [Nat.sub_add_cancel hq0] at this)
        dsimp only at c0 c1 c2 c3 c4 c5 c6 c7 c8 c9
        have HB8 : Hid (∀ o, Below wb.heap.size wb (w7.alloc o)) := Lib.hid fun o => HBZ.out.alloc HBZ.out.size o
        have hk1 : ((1 : Int) + (q : Int) == 1) = false := by rw [beq_eq_false_iff_ne]; omega
        have hpl : (((q - 1 : Nat) : Int) == 1 + (q : Int) - 2) = true := by rw [beq_iff_eq]; omega
        go_upto_region 13 with fail
        have HI8 := Lib.hid (alloc_new w7 (.cells #[.int .i64 0, .int .i64 (finOf (allP (wrapX q 0)) q).1, .int .i64 1, .int .i64 (finOf (allP (wrapX q 0)) q).2, .int .i64 ((q - 1 : Nat) : Int), .int .i64 leafX.kind, .string leafX.name, .string leafX.text, .slice Ax leafX.attrs.length ax, .slice none 0 0] 33))
        have HC8 : Hid (Below w7.heap.size w7 (w7.alloc (.cells #[.int .i64 0, .int .i64 (finOf (allP (wrapX q 0)) q).1, .int .i64 1, .int .i64 (finOf (allP (wrapX q 0)) q).2, .int .i64 ((q - 1 : Nat) : Int), .int .i64 leafX.kind, .string leafX.name, .string leafX.text, .slice Ax leafX.attrs.length ax, .slice none 0 0] 33))) := Lib.hid ((Below.refl _ w7).alloc (Nat.le_refl _) _)
        have HB9 := Lib.hid (HB8.out (.cells #[.int .i64 0, .int .i64 (finOf (allP (wrapX q 0)) q).1, .int .i64 1, .int .i64 (finOf (allP (wrapX q 0)) q).2, .int .i64 ((q - 1 : Nat) : Int), .int .i64 leafX.kind, .string leafX.name, .string leafX.text, .slice Ax leafX.attrs.length ax, .slice none 0 0] 33))
        clear c0 c1 c2 c3 c4 c5 c6 c7 c8 c9 HB8
        generalize w7.alloc (.cells #[.int .i64 0, .int .i64 (finOf (allP (wrapX q 0)) q).1, .int .i64 1, .int .i64 (finOf (allP (wrapX q 0)) q).2, .int .i64 ((q - 1 : Nat) : Int), .int .i64 leafX.kind, .string leafX.name, .string leafX.text, .slice Ax leafX.attrs.length ax, .slice none 0 0] 33) = w8 at HI8 HC8 HB9 ⊢
        have hp8 := (HC8.out.cell (cell_lt hp1).1).trans hp1
        have i0 : w8.cell? ⟨w7.heap.size, 0, none⟩ = some (.int .i64 0) := by rw [block_cell HI8.out]; rfl
        have i2 : w8.cell? ⟨w7.heap.size, 2, none⟩ = some (.int .i64 1) := by rw [block_cell HI8.out]; rfl
        have i4 : w8.cell? ⟨w7.heap.size, 4, none⟩ = some (.int .i64 ((q - 1 : Nat) : Int)) := by rw [block_cell HI8.out]; rfl
        clear hp1
        go_wp2_with fail
        refine (awake_calls _).mono ?_
        rintro e w9 ⟨rfl, hb9⟩
        have HBF := Lib.hid (HB9.out.trans (hb9.mono HB9.out.size))
        clear hb9
        go_wp2_with fail
        go_ret
        exact ⟨rfl, HBF.out⟩

set_option maxHeartbeats 16000000 in
set_option maxRecDepth 100000 in
theorem walkDeep_deep (n : Int) (w : World) : Calls Try.prog 5 #[.int .i64 n, .bool false] w fun e w' => e = .returned (.bool true) ∧ Below w.heap.size w w' := by
  have HB0 : Hid (Below w.heap.size w (w.alloc (.cells #[.int .i64 2, .string ⟨#[97]⟩, .string ⟨#[]⟩, .slice none 0 0, .slice none 0 0] 25))) := Lib.hid ((Below.refl _ w).alloc (Nat.le_refl _) _)
  have HX0 := Lib.hid (alloc_new w (.cells #[.int .i64 2, .string ⟨#[97]⟩, .string ⟨#[]⟩, .slice none 0 0, .slice none 0 0] 25))
  go_enter Try.func5, Try.ntmps5
  go_wp2_with fail
  refine (Ct.place_calls n 500 (by omega) (by omega) w).mono ?_
  rintro e _ ⟨⟨k, hk, rfl⟩, rfl⟩
  have hk2 : k < 500 := by omega
  go_wp2_with fail
  generalize w.alloc (.cells #[.int .i64 2, .string ⟨#[97]⟩, .string ⟨#[]⟩, .slice none 0 0, .slice none 0 0] 25) = w1 at HB0 HX0 ⊢
  have hs1 := lt_of_block HX0.out
  obtain ⟨wb, hwb⟩ : ∃ wb : World, wb = w := ⟨w, rfl⟩
  have HR0 : Hid (CpRel (List.replicate 0 leafX) [] (.int .i64 2) (.string ⟨#[97]⟩) (.string ⟨#[]⟩) none 0 w.heap.size w.heap.size 0 (.slice none 0 0) [] wb w1) := Lib.hid ⟨HX0.out, World.ownsRow_nil _ _ _ _, by simp [Value.ownBlock], fun i t hi => by simp at hi,
    ⟨Nat.le_refl _, by unfold maxLen; omega, by simp, fun h => absurd rfl h⟩, Nat.le_refl _, by rw [hwb], hwb ▸ HB0.out⟩
  clear HX0

  have HW0 : Hid (WrRel 0 0 wb.heap.size w.heap.size none 0 0 wb w1) := by
    have h := HR0.out
    have hBW := h.BW
    rw [hBW] at h
    obtain ⟨K, kc, e, hW⟩ := line_of (n := 0) (w1 := wb) (by rw [hwb] at h ⊢; exact h)
    injection e with e1 e2 e3
    subst e1 e3
    exact Lib.hid hW
  clear HR0
  go_loopw [7] (fun i wr => ∃ (j : Nat) (K : Option Addr) (lk kc : Nat), j ≤ k ∧ i = .int .i64 ((j : Int) + 1) ∧ WrRel 0 j wb.heap.size w.heap.size K lk kc wb wr) (fun i _ => k + 1 - (intOf i).toNat)
  case atStart => exact ⟨0, none, 0, 0, Nat.zero_le _, rfl, HW0.out⟩
  case round =>
    obtain ⟨j, K, lk, kc, hj, rfl, hR⟩ := hrel
    have HR := Lib.hid hR
    clear hR
    obtain ⟨q0, q1, q2, q3, q4⟩ := box5 HR.out.blk
    rcases Nat.lt_or_ge j k with hl | hl
    · have hjl : (j : Int) + 1 < 1 + (k : Int) := by omega
      have hbl := lt_of_block HR.out.blk
      have f0 : wr.frozen? ⟨w.heap.size, 0, none⟩ = false := Lib.frozen_of_heap HR.out.blk 0
      have f1 : wr.frozen? ⟨w.heap.size, 1, none⟩ = false := Lib.frozen_of_heap HR.out.blk 1
      have f2 : wr.frozen? ⟨w.heap.size, 2, none⟩ = false := Lib.frozen_of_heap HR.out.blk 2
      have f3 : wr.frozen? ⟨w.heap.size, 3, none⟩ = false := Lib.frozen_of_heap HR.out.blk 3
      have f4 : wr.frozen? ⟨w.heap.size, 4, none⟩ = false := Lib.frozen_of_heap HR.out.blk 4
      have hS5 := set5 HR.out.blk (.int .i64 2) (.string ⟨#[97]⟩) (.string ⟨#[]⟩) (.slice none 0 0) (.slice (some ⟨wr.heap.size, 0, none⟩) 1 1)
      have HS := Lib.hid (wrap_step HR.out hS5)
      clear hS5
      go_wp2_with fail
      go_roundw
      case rel => exact ⟨j + 1, _, _, _, by omega, by go_num, HS.out⟩
      case measure => simp [intOf]; omega
    · obtain rfl : j = k := by omega
      subst hwb
      have HW := Lib.hid HR.out
      have hjl : (1 : Int) + (j : Int) ≤ (j : Int) + 1 := by omega
      clear HW0 hl hj HR HB0 hs1 hk
      generalize hqq : j = q at *
      clear hqq
      generalize lk = lq at *

      have HTI : Hid (∀ W, Below wr.heap.size wr W → IsTree W W.heap.size (wrapX 0 q) (.int .i64 2) (.string ⟨#[97]⟩) (.string ⟨#[]⟩) (.slice none 0 0) (.slice K lq kc)) := Lib.hid fun W hW => (HW.out.tree.is (fun c h => h.2.1)).keep (fun p hp => hW.cell hp) hW.size
      have HBE := Lib.hid HW.out.bel
      have hcn : cntT (wrapX 0 q) = q + 1 := by have := cnt_wrapX 0 q; omega
      have HAT := Lib.hid (att_wrapX 0 q)
      clear q0 q1 q2 q3 q4
      obtain ⟨q0, q1, q2, q3, q4⟩ := box5 HW.out.blk
      have r0 := cell_regrown q0
      have r1 := cell_regrown q1
      have r2 := cell_regrown q2
      have r3 := cell_regrown q3
      have r4 := cell_regrown q4
      clear q0 q1 q2 q3 q4
      go_wp2_with fail
      refine Kr.wp_region_R [(1, SpFlat (wrapX 0 q) 0), (3, SpPost (wrapX 0 q))] (by kernel_rfl) (by kernel_rfl) ?_
      repeat (refine Kr.wpR_one rfl rfl ?_; go_big_quiet_step (fail); refine wpQuiet_nil ?_)
      refine Kr.wpR_call _ rfl rfl rfl ?_ ?_
      · intro W hW hk
        have HWW := Lib.hid (Kr.later_iff.1 hW)
        go_simp
        refine Kr.upMany_enter ((flat_calls (wrapX 0 q) _ _ _ _ _ W (HTI.out _ HWW.out) (by omega) HAT.out).mono ?_)
        rintro e w' ⟨g, cap, rfl, _, _, _, h1, h2⟩
        exact ⟨_, rfl, ⟨g, cap, rfl, h1⟩, h2⟩
      rintro v ⟨_, _, _, _, hS, _⟩
      obtain ⟨gf, cf, rfl, _⟩ := hS
      go_frame
      repeat (refine Kr.wpR_one rfl rfl ?_; go_big_quiet_step (fail); refine wpQuiet_nil ?_)
      refine Kr.wpR_call _ rfl rfl rfl ?_ ?_
      · intro W hW hk
        have HWW := Lib.hid (Kr.later_iff.1 hW)
        go_simp
        refine Kr.upMany_enter ((post_calls (wrapX 0 q) _ _ _ _ _ W (HTI.out _ HWW.out) (by omega) HAT.out).mono ?_)
        rintro e w' ⟨v, rfl, h1, h2⟩
        exact ⟨_, rfl, post_sp h1, h2⟩
      rintro v ⟨_, _, _, _, hS, _⟩
      obtain ⟨gp, cp, rfl, _, _⟩ := hS
      go_frame
      repeat (refine Kr.wpR_one rfl rfl ?_; go_big_quiet_step (fail); refine wpQuiet_nil ?_)
      refine Kr.wpR_nil ?_
      intro w7 hb7 hH
      obtain ⟨W1, ⟨gp', cp', e, hgp, hp1⟩, hp2⟩ := hH _ _ (.inl ⟨rfl, rfl⟩)
      injection e with e
      injection e with e
      injection e with e _ _
      subst e
      obtain ⟨W2, ⟨gf', cf', e, hf1⟩, hf2⟩ := hH _ _ (.inr (.inl ⟨rfl, rfl⟩))
      injection e with e
      injection e with e
      injection e with e _ _
      subst e
      have HI7 : Hid (IRow gf (allP (wrapX 0 q)) (finOf (allP (wrapX 0 q))) w7) := Lib.hid (hf1.keep hf2 (Nat.le_refl _))
      have HP7 : Hid (∀ (i x : Nat), (postT 0 (wrapX 0 q))[i]? = some x → w7.cell? ⟨gp, i, none⟩ = some (.int .i64 (x : Int))) := Lib.hid fun i x hx => (hp2.cell hgp).trans (hp1 i x hx)
      have HB7 := Lib.hid hb7
      have HBZ : Hid (Below wb.heap.size wb w7) := Lib.hid (HBE.out.trans (hb7.mono HBE.out.size))
      have HX7 := Lib.hid ((hb7.block _ (lt_of_block HW.out.blk)).trans HW.out.blk)
      clear hb7 hH hgp hp1 hp2 hf1 hf2 r0 r1 r2 r3 r4
      rw [hcn]
      have l0 : w7.cell? ⟨gp, q, none⟩ = some (.int .i64 0) := HP7.out q 0 (by have := post_last 0 (wrapX 0 q); rwa [hcn] at this)
      obtain ⟨x, hx, hxd, hxt⟩ := deep_last q 0 (-1) 0 0
      have HP0 : Hid (w7.cell? ⟨gp, 0, none⟩ = some (.int .i64 (q : Int))) := Lib.hid (HP7.out 0 q (by have := post_first_deep q 0; rwa [Nat.zero_add] at this))
      have hp1 := HP0.out
      obtain ⟨xt, xp, xd, xl⟩ := x
      dsimp only at hxd hxt
      subst hxd hxt
      obtain ⟨av, ⟨Ax, ax, rfl, _⟩, _, c0, c1, c2, c3, c4, c5, c6, c7, c8, c9⟩ := HI7.out.at_ q _ hx
      have hfq : finOf (allP (wrapX 0 q)) q = (1, 1) := by unfold finOf; rw [show (allP (wrapX 0 q))[q]? = _ from hx]; show (cntT (wrapX 0 0), hT (wrapX 0 0)) = (1, 1); decide
      have hf0 : finOf (allP (wrapX 0 q)) 0 = (q + 1, q + 1) := by unfold finOf; rw [allP_zero]; show (cntT _, hT _) = _; rw [hcn, h_wrapX]; simp
      obtain ⟨av', _, _, _, _, _, d3, _⟩ := HI7.out.at_ 0 _ (allP_zero _)
      rw [hfq] at c1 c3
      rw [hf0, Nat.zero_mul] at d3
      dsimp only at c0 c1 c2 c3 c4 c5 c6 c7 c8 c9 d3
      rw [Int.zero_add] at c2
      have HB8 : Hid (∀ o, Below wb.heap.size wb (w7.alloc o)) := Lib.hid fun o => HBZ.out.alloc HBZ.out.size o
      have hk1 : ((q : Int) == 1 + (q : Int) - 1) = true := by rw [beq_iff_eq]; omega
      have hk2 : ((q : Int) + 1 == 1 + (q : Int)) = true := by rw [beq_iff_eq]; omega
      go_upto_region 13 with fail
      have HI8 := Lib.hid (alloc_new w7 (.cells #[.int .i64 xp, .int .i64 1, .int .i64 (q : Int), .int .i64 1, .int .i64 xl, .int .i64 (wrapX 0 0).kind, .string (wrapX 0 0).name, .string (wrapX 0 0).text, .slice Ax (wrapX 0 0).attrs.length ax, .slice none 0 0] 33))
      have HC8 : Hid (Below w7.heap.size w7 (w7.alloc (.cells #[.int .i64 xp, .int .i64 1, .int .i64 (q : Int), .int .i64 1, .int .i64 xl, .int .i64 (wrapX 0 0).kind, .string (wrapX 0 0).name, .string (wrapX 0 0).text, .slice Ax (wrapX 0 0).attrs.length ax, .slice none 0 0] 33))) := Lib.hid ((Below.refl _ w7).alloc (Nat.le_refl _) _)
      have HB9 := Lib.hid (HB8.out (.cells #[.int .i64 xp, .int .i64 1, .int .i64 (q : Int), .int .i64 1, .int .i64 xl, .int .i64 (wrapX 0 0).kind, .string (wrapX 0 0).name, .string (wrapX 0 0).text, .slice Ax (wrapX 0 0).attrs.length ax, .slice none 0 0] 33))
      clear c0 c1 c2 c3 c4 c5 c6 c7 c8 c9 HB8
      generalize w7.alloc (.cells #[.int .i64 xp, .int .i64 1, .int .i64 (q : Int), .int .i64 1, .int .i64 xl, .int .i64 (wrapX 0 0).kind, .string (wrapX 0 0).name, .string (wrapX 0 0).text, .slice Ax (wrapX 0 0).attrs.length ax, .slice none 0 0] 33) = w8 at HI8 HC8 HB9 ⊢
      have hp8 := (HC8.out.cell (cell_lt hp1).1).trans hp1
      have hd8 := (HC8.out.cell (cell_lt d3).1).trans d3
      have HX8 := Lib.hid ((HC8.out.block _ (lt_of_block HX7.out)).trans HX7.out)
      obtain ⟨t0, t1, t2, t3, t4⟩ := box5 HX8.out
      have i2 : w8.cell? ⟨w7.heap.size, 2, none⟩ = some (.int .i64 (q : Int)) := by rw [block_cell HI8.out]; rfl
      have i3 : w8.cell? ⟨w7.heap.size, 3, none⟩ = some (.int .i64 1) := by rw [block_cell HI8.out]; rfl
      have HW8 := Lib.hid (HB7.out.trans (HC8.out.mono HB7.out.size))
      have HTI8 := Lib.hid (HTI.out _ HW8.out)
      have hx' : Hid (∀ x, (allP (wrapX 0 q))[q]? = some x → x.dep = (q : Int)) := Lib.hid fun y hy => by
        have e := hy.symm.trans (show (allP (wrapX 0 q))[q]? = _ from hx)
        injection e with e
        subst e
        show (0 : Int) + q = q
        omega
      clear hp1 d3
      go_wp2_with fail
      rw [show (1 : Int) + (q : Int) - 1 = q by omega]
      refine (path_calls (wrapX 0 q) _ _ _ _ _ (q : Int) w8 HTI8.out (by omega) HAT.out).mono ?_
      rintro e w9 hE
      obtain ⟨A, l, rfl, hb9, _, hl, _⟩ := path_in hE (by omega)
      have hlq : l.length = q := by
        obtain ⟨x, hx⟩ : ∃ x, (allP (wrapX 0 q))[q]? = some x := ⟨_, hx⟩
        have h1 := hl x hx
        have h2 := hx'.out x hx
        omega
      rw [hlq]
      have hp9 := (hb9.cell (cell_lt hp8).1).trans hp8
      have HBF := Lib.hid (HB9.out.trans (hb9.mono HB9.out.size))
      clear hb9 hl hlq hE hp8 hd8 t0 t1 t2 t3 t4 i2 i3
      go_wp2_with fail
      refine (awake_calls _).mono ?_
      rintro e w10 ⟨rfl, hb10⟩
      have HBG := Lib.hid (HBF.out.trans (hb10.mono HBF.out.size))
      clear hb10
      go_wp2_with fail
      go_ret
      exact ⟨rfl, HBG.out⟩
theorem walkDeep (n : Int) (wide : Bool) (w : World) : Calls Try.prog 5 #[.int .i64 n, .bool wide] w fun e w' => e = .returned (.bool true) ∧ Below w.heap.size w w' := by
  cases wide
  · exact walkDeep_deep n w
  · exact walkDeep_wide n w
end Go.Proofs.Ytcacgbdnegmfnaa.Wk
