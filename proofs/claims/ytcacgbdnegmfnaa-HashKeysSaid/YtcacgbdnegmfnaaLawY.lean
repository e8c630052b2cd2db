/- The law of keys. -/
import Derived.Test.YtcacgbdnegmfnaaLine
namespace Go.Proofs.Ytcacgbdnegmfnaa.Wk
open Go Go.RowKit Go.Proofs.Ytcacgbdnegmfnaa.Pl Go.Proofs.Ytcacgbdnegmfnaa.Tr Go.Proofs.Ytcacgbdnegmfnaa.Ha
set_option linter.unusedVariables false
set_option maxHeartbeats 8000000 in
set_option maxRecDepth 100000 in
theorem hashKeys (n m : Int) (w : World) : Calls Try.prog 12 #[.int .i64 n, .int .i64 m] w fun e w' => e = .returned (.bool true) ∧ Below w.heap.size w w' := by
  obtain ⟨a, ha, hea⟩ := and31 n
  obtain ⟨b, hb, heb⟩ := and31 m
  have HB0 : Hid (Below w.heap.size w (w.alloc (.cells #[.int .i64 2, .string ⟨#[120]⟩, .string ⟨#[]⟩, .slice none 0 0, .slice none 0 0] 25))) := Lib.hid ((Below.refl _ w).alloc (Nat.le_refl _) _)
  have HX0 := Lib.hid (alloc_new w (.cells #[.int .i64 2, .string ⟨#[120]⟩, .string ⟨#[]⟩, .slice none 0 0, .slice none 0 0] 25))
  go_enter Try.func12, Try.ntmps12
  go_wp2_with fail
  clear hea heb
  generalize w.alloc (.cells #[.int .i64 2, .string ⟨#[120]⟩, .string ⟨#[]⟩, .slice none 0 0, .slice none 0 0] 25) = w1 at HB0 HX0 ⊢
  have hs1 := lt_of_block HX0.out
  obtain ⟨wb, hwb⟩ : ∃ wb : World, wb = w := ⟨w, rfl⟩
  have HR0 : Hid (CpRel (List.replicate b leafX) [] (.int .i64 2) (.string ⟨#[120]⟩) (.string ⟨#[]⟩) none 0 w.heap.size w.heap.size 0 (.slice none 0 0) [] wb w1) := Lib.hid ⟨HX0.out, World.ownsRow_nil _ _ _ _, by simp [Value.ownBlock], fun i t hi => by simp at hi,
    ⟨Nat.le_refl _, by unfold maxLen; omega, by simp, fun h => absurd rfl h⟩, Nat.le_refl _, by rw [hwb], hwb ▸ HB0.out⟩
  clear HX0
  go_loopw [8] (fun i wr => ∃ (j : Nat) (kv : Value) (xs : List Value), j ≤ b ∧ i = .int .i64 (j : Int) ∧ CpRel (List.replicate b leafX) [] (.int .i64 2) (.string ⟨#[120]⟩) (.string ⟨#[]⟩) none 0 w.heap.size w.heap.size j kv xs wb wr) (fun i _ => b - (intOf i).toNat)
  case atStart => exact ⟨0, _, _, Nat.zero_le _, rfl, HR0.out⟩
  case round =>
    obtain ⟨j, kv, xs, hj, rfl, hR⟩ := hrel
    have HR := Lib.hid hR
    clear hR
    obtain ⟨q0, q1, q2, q3, q4⟩ := box5 HR.out.blk
    rcases Nat.lt_or_ge j b with hl | hl
    · have hjl : (j : Int) < (b : Int) := by omega
      obtain ⟨i0, ii, hz0, hz1, hz2⟩ := info_parts tree_info
      have HROW : Hid ((wr.alloc (.cells #[.int .i64 3, .string ⟨#[]⟩, .string ⟨#[116]⟩, .slice none 0 0, .slice none 0 0] 25)).ownsRow w.heap.size 25 5 kv j xs) := Lib.hid (HR.out.row.alloc _)
      have HNEWS : Hid (∀ (j : Nat) u, [Value.int .i64 3, .string ⟨#[]⟩, .string ⟨#[116]⟩, .slice none 0 0, .slice none 0 0][j]? = some u → (wr.alloc (.cells #[.int .i64 3, .string ⟨#[]⟩, .string ⟨#[116]⟩, .slice none 0 0, .slice none 0 0] 25)).cell? ((⟨wr.heap.size, 0, none⟩ : Addr).add j) = some u) := Lib.hid fun j u hj => by
        rw [add_flat, Nat.zero_add, block_cell (alloc_new wr _)]; rw [← List.getElem?_toArray] at hj; exact hj
      have HONE : Hid (∀ u ∈ [Value.int .i64 3, .string ⟨#[]⟩, .string ⟨#[116]⟩, .slice none 0 0, .slice none 0 0], u.oneCell' = true) := Lib.hid (by simp [Value.oneCell'])
      have HB3 : Hid (Below wr.heap.size wr (wr.alloc (.cells #[.int .i64 3, .string ⟨#[]⟩, .string ⟨#[116]⟩, .slice none 0 0, .slice none 0 0] 25))) := Lib.hid ((Below.refl _ wr).alloc (Nat.le_refl _) _)
      have HBS : Hid (w.heap.size ≤ (wr.alloc (.cells #[.int .i64 3, .string ⟨#[]⟩, .string ⟨#[116]⟩, .slice none 0 0, .slice none 0 0] 25)).heap.size) := Lib.hid (Nat.le_trans (by have := HR.out.bel.size; rw [← HR.out.BW] at this; exact this) HB3.out.size)
      go_wp2_with (at_builtin; refine wpList_append_own_at _ rfl (.tmp 23) (.tmp 25) 23 rfl w.heap.size 25 i0 _ 5 88 Try.underlying23 ii hz0 hz1 hz2 rfl (by decide) kv j xs rfl HROW.out ⟨wr.heap.size, 0, none⟩ 1 1 [.int .i64 3, .string ⟨#[]⟩, .string ⟨#[116]⟩, .slice none 0 0, .slice none 0 0] rfl rfl HNEWS.out HONE.out (by unfold maxLen; omega) (by omega) HBS.out ?_)
      intro v' w5 h1 h2 h3 h4
      obtain ⟨gv, cv, rfl⟩ := row_form h1 (by omega)
      have HST : Hid (CpRel (List.replicate b leafX) [] (.int .i64 2) (.string ⟨#[120]⟩) (.string ⟨#[]⟩) none 0 w.heap.size w.heap.size (j + 1) (.slice (some ⟨gv, 0, none⟩) (j + 1) cv) (xs ++ [.int .i64 3, .string ⟨#[]⟩, .string ⟨#[116]⟩, .slice none 0 0, .slice none 0 0]) wb (w5.setCell ⟨w.heap.size, 4, none⟩ (.slice (some ⟨gv, 0, none⟩) (j + 1) cv))) := Lib.hid (cp_step HR.out HB3.out (rep_get hl) treeIn_leafX h1 h2 (h4.imp id fun e => by rw [e]; simp))
      have HB5 : Hid (w5.heap[w.heap.size]? = some (.cells #[.int .i64 2, .string ⟨#[120]⟩, .string ⟨#[]⟩, .slice none 0 0, kv] 25 (0, 0))) := Lib.hid
        ((h2.block _ (by have := lt_of_block HR.out.blk; have := HB3.out.size; omega) (fun e => HR.out.ne e.symm)).trans ((HB3.out.block _ (lt_of_block HR.out.blk)).trans HR.out.blk))
      clear q0 q1 q2 q3 q4
      obtain ⟨q0, q1, q2, q3, q4⟩ := box5 HB5.out
      have f4 : w5.frozen? ⟨w.heap.size, 4, none⟩ = false := Lib.frozen_of_heap HB5.out 4
      clear h1 h2 h3 h4
      go_wp2_with fail
      generalize w5.setCell ⟨w.heap.size, 4, none⟩ (.slice (some ⟨gv, 0, none⟩) (j + 1) cv) = w6 at HST ⊢
      go_roundw
      case rel => exact ⟨j + 1, _, _, by omega, by go_num, HST.out⟩
      case measure => simp [intOf]; omega
    · obtain rfl : j = b := by omega
      have hR2 := HR.out
      have hBW := hR2.BW
      obtain ⟨K, kc, rfl, hW⟩ := line_of (w1 := wb) (by rw [hBW] at hR2; rw [hwb] at hR2 ⊢; exact hR2)
      have HW := Lib.hid hW
      clear hR2 hW hBW q0 q1 q2 q3 q4
      go_wp2_with fail
      clear hl hj HR0 HR
      generalize hqq : j = q at *
      clear hqq
      obtain ⟨wo, hwo⟩ : ∃ wo, wo = wr := ⟨wr, rfl⟩
      subst hwo
      go_loopw [9, 10] (fun h i wr => ∃ (i' : Nat) (K : Option Addr) (lk kc : Nat), i' ≤ a ∧ h = .int .i64 ((i' + (min q 1 + 1) : Nat) : Int) ∧ i = .int .i64 (i' : Int) ∧ WrRel q i' wb.heap.size w.heap.size K lk kc wb wr) (fun _ i _ => a - (intOf i).toNat)
      case atStart => exact ⟨0, K, q, kc, Nat.zero_le _, congrArg (Value.int .i64) (by omega), rfl, HW.out⟩
      case round =>
        clear HW
        obtain ⟨i, K, lk, kc, hi, rfl, rfl, hR⟩ := hrel
        have HR := Lib.hid hR
        clear hR
        obtain ⟨q0, q1, q2, q3, q4⟩ := box5 HR.out.blk
        rcases Nat.lt_or_ge i a with hl | hl
        · have hil : (i : Int) < (a : Int) := by omega
          have hbl := lt_of_block HR.out.blk
          have f0 : wr.frozen? ⟨w.heap.size, 0, none⟩ = false := Lib.frozen_of_heap HR.out.blk 0
          have f1 : wr.frozen? ⟨w.heap.size, 1, none⟩ = false := Lib.frozen_of_heap HR.out.blk 1
          have f2 : wr.frozen? ⟨w.heap.size, 2, none⟩ = false := Lib.frozen_of_heap HR.out.blk 2
          have f3 : wr.frozen? ⟨w.heap.size, 3, none⟩ = false := Lib.frozen_of_heap HR.out.blk 3
          have f4 : wr.frozen? ⟨w.heap.size, 4, none⟩ = false := Lib.frozen_of_heap HR.out.blk 4
          have hS5 := set5 HR.out.blk (.int .i64 2) (.string ⟨#[120]⟩) (.string ⟨#[]⟩) (.slice none 0 0) (.slice (some ⟨wr.heap.size, 0, none⟩) 1 1)
          have HS := Lib.hid (wrap_step HR.out hS5)
          clear hS5
          go_wp2_with fail
          go_roundw
          case rel => exact ⟨i + 1, _, _, _, by omega, congrArg (Value.int .i64) (by omega), by go_num, HS.out⟩
          case measure => simp [intOf]; omega
        · obtain rfl : i = a := by omega
          subst hwb
          have HTI : Hid (∀ W, Below wr.heap.size wr W → IsTree W W.heap.size (wrapX q i) (.int .i64 2) (.string ⟨#[120]⟩) (.string ⟨#[]⟩) (.slice none 0 0) (.slice K lk kc)) := Lib.hid fun W hW => (HR.out.tree.is (fun c h => h.2.1)).keep (fun p hp => hW.cell hp) hW.size
          have HBE := Lib.hid HR.out.bel
          have hcn : cntT (wrapX q i) = i + q + 1 := cnt_wrapX q i
          have hht : hT (wrapX q i) = i + (min q 1 + 1) := h_wrapX q i
          have hok := ok_wrapX q i 0 (by omega)
          have HOK := Lib.hid hok
          have HKE : Hid (∀ W, Below wr.heap.size wr W → Calls Try.prog 34 #[.agg #[.int .i64 2, .string ⟨#[120]⟩, .string ⟨#[]⟩, .slice none 0 0, .slice K lk kc]] W fun e w' => e = .returned (.agg #[.int .u64 (un (treeH (wrapX q i))), .int .u64 (((i + q + 1 : Nat) : Int) * 4294967296 + ((i + (min q 1 + 1) : Nat) : Int))]) ∧ Below W.heap.size W w') := Lib.hid fun W hW => by
            have := key_calls (wrapX q i) _ _ _ _ _ W (HTI.out W hW) (by omega) (okT_att 0 _ hok) (okT_sh 0 0 (-1) 0 0 _ hok)
            unfold keyV at this
            rw [hcn, hht] at this
            exact this
          have HOF : Hid (∀ W, Below wr.heap.size wr W → Calls Try.prog 28 #[.agg #[.int .i64 2, .string ⟨#[120]⟩, .string ⟨#[]⟩, .slice none 0 0, .slice K lk kc]] W fun e w' => e = .returned (.int .u64 (un (treeH (wrapX q i)))) ∧ Below W.heap.size W w') := Lib.hid fun W hW => of_calls (wrapX q i) _ _ _ _ _ W (HTI.out W hW) (by omega) (okT_att 0 _ hok) (okT_sh 0 0 (-1) 0 0 _ hok)
          have HAL : Hid (∀ W, Below wr.heap.size wr W → Calls Try.prog 27 #[.agg #[.int .i64 2, .string ⟨#[120]⟩, .string ⟨#[]⟩, .slice none 0 0, .slice K lk kc]] W fun e w' => ∃ g, e = .returned (.slice (some ⟨g, 0, none⟩) (i + q + 1) (i + q + 1)) ∧ Below W.heap.size W w') := Lib.hid fun W hW => by
            refine (all_calls (wrapX q i) _ _ _ _ _ W (HTI.out W hW) (by omega) (okT_att 0 _ hok) (okT_sh 0 0 (-1) 0 0 _ hok)).mono ?_
            rintro e w' ⟨g, rfl, _, _, _, h⟩
            exact ⟨g, by rw [hcn], h⟩
          clear hcn hht hok
          generalize un (treeH (wrapX q i)) = nn at *
          have hmq : min q 1 ≤ 1 := Nat.min_le_right _ _
          generalize min q 1 = mq at *
          go_wp2_with fail
          refine (HKE.out wr (Below.refl _ _)).mono ?_
          rintro e w7 ⟨rfl, hb7⟩
          have HB7 := Lib.hid hb7
          have HX7 := Lib.hid ((hb7.block _ (lt_of_block HR.out.blk)).trans HR.out.blk)
          have z7 := lt_of_block HX7.out
          clear hb7 q0 q1 q2 q3 q4
          go_wp2_with fail
          have HB8 : Hid (Below w7.heap.size w7 (w7.alloc (.cells #[.int .u64 nn, .int .u64 (((i : Int) + q + 1) * 4294967296 + ((i : Int) + ((mq : Int) + 1)))] 55))) := Lib.hid ((Below.refl _ w7).alloc (Nat.le_refl _) _)
          have hX8 := alloc_old HX7.out (.cells #[.int .u64 nn, .int .u64 (((i : Int) + q + 1) * 4294967296 + ((i : Int) + ((mq : Int) + 1)))] 55)
          have hK8 := alloc_new w7 (.cells #[.int .u64 nn, .int .u64 (((i : Int) + q + 1) * 4294967296 + ((i : Int) + ((mq : Int) + 1)))] 55)
          generalize w7.alloc (.cells #[.int .u64 nn, .int .u64 (((i : Int) + q + 1) * 4294967296 + ((i : Int) + ((mq : Int) + 1)))] 55) = w8 at HB8 hX8 hK8 ⊢
          obtain ⟨b0, b1, b2, b3, b4⟩ := box5 hX8
          have r0 := cell_regrown b0
          have r1 := cell_regrown b1
          have r2 := cell_regrown b2
          have r3 := cell_regrown b3
          have r4 := cell_regrown b4
          have k0 := cell_regrown (show w8.cell? ⟨w7.heap.size, 0, none⟩ = some (.int .u64 nn) by rw [block_cell hK8]; rfl)
          have k1 := cell_regrown (show w8.cell? ⟨w7.heap.size, 1, none⟩ = some (.int .u64 (((i : Int) + q + 1) * 4294967296 + ((i : Int) + ((mq : Int) + 1)))) by rw [block_cell hK8]; rfl)
          have HX8 := Lib.hid hX8
          clear b0 b1 b2 b3 b4 hX8 hK8
          have u1 : IntKind.i64.wrap ((i : Int) + q) = (i : Int) + q := IntWalk.i64_in _ (by omega)
          have u2 : IntKind.i64.wrap ((i : Int) + q + 1) = (i : Int) + q + 1 := IntWalk.i64_in _ (by omega)
          have u3 : IntKind.u64.wrap ((i : Int) + q + 1) = (i : Int) + q + 1 := IntWalk.u64_in _ (by omega)
          have u4 : IntKind.u64.wrap (((i : Int) + q + 1) * 4294967296) = ((i : Int) + q + 1) * 4294967296 := IntWalk.u64_in _ (by omega)
          have u5 : IntKind.u64.wrap ((i : Int) + ((mq : Int) + 1)) = (i : Int) + ((mq : Int) + 1) := IntWalk.u64_in _ (by omega)
          have u6 : IntKind.u64.wrap (((i : Int) + q + 1) * 4294967296 + ((i : Int) + ((mq : Int) + 1))) = ((i : Int) + q + 1) * 4294967296 + ((i : Int) + ((mq : Int) + 1)) := IntWalk.u64_in _ (by omega)
          refine Kr.wp_region_R [(16, fun v _ => v = .int .u64 nn), (21, fun v _ => ∃ g, v = .slice (some ⟨g, 0, none⟩) (i + q + 1) (i + q + 1)), (30, fun v _ => v = .bool true)] mixed2 (by kernel_rfl) ?_
          repeat (refine Kr.wpR_one rfl rfl ?_; go_big_quiet_step (fail); refine wpQuiet_nil ?_)
          refine Kr.wpR_call _ rfl rfl rfl ?_ ?_
          · intro W hW hk
            have HWW := Lib.hid (HB7.out.trans ((HB8.out.trans ((Kr.later_iff.1 hW).mono HB8.out.size)).mono HB7.out.size))
            go_simp
            refine Kr.upMany_enter ((HOF.out W HWW.out).mono ?_)
            rintro e w' ⟨rfl, hbb⟩
            exact ⟨_, rfl, rfl, hbb⟩
          rintro v ⟨_, _, _, _, hS, _⟩
          obtain rfl := hS
          go_frame
          repeat (refine Kr.wpR_one rfl rfl ?_; go_big_quiet_step (fail); refine wpQuiet_nil ?_)
          refine Kr.wpR_call _ rfl rfl rfl ?_ ?_
          · intro W hW hk
            have HWW := Lib.hid (HB7.out.trans ((HB8.out.trans ((Kr.later_iff.1 hW).mono HB8.out.size)).mono HB7.out.size))
            go_simp
            refine Kr.upMany_enter ((HAL.out W HWW.out).mono ?_)
            rintro e w' ⟨g, rfl, hbb⟩
            exact ⟨_, rfl, ⟨g, rfl⟩, hbb⟩
          rintro v ⟨_, _, _, _, hS, _⟩
          obtain ⟨g, rfl⟩ := hS
          go_frame
          repeat (refine Kr.wpR_one rfl rfl ?_; go_big_quiet_step (fail); refine wpQuiet_nil ?_)
          refine Kr.wpR_call _ rfl rfl rfl ?_ ?_
          · intro W hW hk
            have HWW := Lib.hid (HB7.out.trans ((HB8.out.trans ((Kr.later_iff.1 hW).mono HB8.out.size)).mono HB7.out.size))
            go_simp
            refine Kr.upMany_enter ((hawake_calls W).mono ?_)
            rintro e w' ⟨rfl, hbb⟩
            exact ⟨_, rfl, rfl, hbb⟩
          rintro v ⟨_, _, _, _, hS, _⟩
          obtain rfl := hS
          go_frame
          repeat (refine Kr.wpR_one rfl rfl ?_; go_big_quiet_step (fail); refine wpQuiet_nil ?_)
          refine Kr.wpR_nil ?_
          intro w' hbb _
          have HBZ : Hid (Below wb.heap.size wb w') := Lib.hid (HBE.out.trans ((HB7.out.trans ((HB8.out.trans (hbb.mono HB8.out.size)).mono HB7.out.size)).mono HBE.out.size))
          clear hbb u1 u2 u3 u4 u5 u6
          go_wp2_with fail
          go_ret
          exact ⟨rfl, HBZ.out⟩
end Go.Proofs.Ytcacgbdnegmfnaa.Wk
