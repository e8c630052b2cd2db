/- The document's Key. -/
import Derived.Test.YtcacgbdnegmfnaaRAll
namespace Go.Proofs.Ytcacgbdnegmfnaa.Ha
open Go Go.RowKit Go.Proofs.Ytcacgbdnegmfnaa.Pl Go.Proofs.Ytcacgbdnegmfnaa.Tr Go.Proofs.Ytcacgbdnegmfnaa.Wk
set_option linter.unusedVariables false
set_option maxHeartbeats 8000000 in
set_option maxRecDepth 100000 in
theorem rKey_calls (t : Nd) (v0 v1 v2 v3 v4 : Value) (w : World) (h : IsTree w w.heap.size t v0 v1 v2 v3 v4) (hN : cntT t ≤ 400) (hok : okT 0 t) :
    Calls Try.prog 35 #[.agg #[v0, v1, v2, v3, v4]] w fun e w' => e = .returned (keyV t) ∧ Below w.heap.size w w' := by
  have HT : Hid (∀ W', Below w.heap.size w W' → IsTree W' W'.heap.size t v0 v1 v2 v3 v4) := Lib.hid fun W' hb => h.keep (fun p hp => hb.cell hp) hb.size
  have HOK := Lib.hid hok
  have hhl := hT_le t
  have HB0 : Hid (Below w.heap.size w ((w.alloc (.cells #[v0, v1, v2, v3, v4] 25)).alloc (.cells #[.int .u64 0, .int .u64 0] 55))) := Lib.hid (((Below.refl _ w).alloc (Nat.le_refl _) _).alloc (by simp) _)
  have HX0 := Lib.hid (alloc_old (alloc_new w (.cells #[v0, v1, v2, v3, v4] 25)) (.cells #[.int .u64 0, .int .u64 0] 55))
  have HR0 : Hid (((w.alloc (.cells #[v0, v1, v2, v3, v4] 25)).alloc (.cells #[.int .u64 0, .int .u64 0] 55)).heap[w.heap.size + 1]? = some (.cells #[.int .u64 0, .int .u64 0] 55 (0, 0))) := Lib.hid (by
    have := alloc_new (w.alloc (.cells #[v0, v1, v2, v3, v4] 25)) (.cells #[.int .u64 0, .int .u64 0] 55)
    rwa [show (w.alloc (.cells #[v0, v1, v2, v3, v4] 25)).heap.size = w.heap.size + 1 by simp] at this)
  clear h hok
  go_enter Try.func35, Try.ntmps35
  go_wp2_with fail
  generalize (w.alloc (.cells #[v0, v1, v2, v3, v4] 25)).alloc (.cells #[.int .u64 0, .int .u64 0] 55) = w0 at HB0 HX0 HR0 ⊢
  refine (rFlat_calls t v0 v1 v2 v3 v4 w0 (HT.out _ HB0.out) (by omega) (okT_att 0 _ HOK.out)).mono ?_
  rintro e w1 ⟨g, cap, B, wt, rfl, hrow, hbel, _, _, _⟩
  have HB1 : Hid (Below w.heap.size w w1) := Lib.hid (HB0.out.trans (hbel.mono HB0.out.size))
  have HX1 := Lib.hid ((hbel.block _ (lt_of_block HX0.out)).trans HX0.out)
  have HR1 := Lib.hid ((hbel.block _ (lt_of_block HR0.out)).trans HR0.out)
  obtain ⟨g2, c2, A2, ac2, y0, y1, y2, y3, y4, hv2, hgl, _, _, d1, _, d3, _⟩ := hrow.at_ (allP_zero t)
  injection hv2 with hv2 hle hc2
  clear hle hc2
  injection hv2 with hv2
  injection hv2 with hv2 _ _
  subst hv2
  have hf0 : finOf (allP t) 0 = (cntT t, hT t) := by unfold finOf; rw [allP_zero]
  rw [hf0] at d1 d3
  rw [Nat.zero_mul] at d1 d3
  have hpos := cntT_pos t
  clear hrow hbel hf0
  dsimp only at d1 d3
  go_wp2_with fail
  obtain ⟨wd, hwd⟩ : ∃ wd, wd = w1.drew := ⟨_, rfl⟩
  have HBD : Hid (Below w.heap.size w wd) := Lib.hid (hwd ▸ HB1.out.drew)
  have HXD : Hid (wd.heap[w.heap.size]? = some (.cells #[v0, v1, v2, v3, v4] 25 (0, 0))) := Lib.hid (hwd ▸ HX1.out)
  have HRD : Hid (wd.heap[w.heap.size + 1]? = some (.cells #[.int .u64 0, .int .u64 0] 55 (0, 0))) := Lib.hid (hwd ▸ HR1.out)
  have i1 : wd.cell? ⟨g, 0 + 1, none⟩ = some (.int .i64 (cntT t : Nat)) := hwd ▸ d1
  have i3 : wd.cell? ⟨g, 0 + 3, none⟩ = some (.int .i64 (hT t : Nat)) := hwd ▸ d3
  obtain ⟨b0, b1, b2, b3, b4⟩ := box5 HXD.out
  have r0 := cell_regrown b0
  have r1 := cell_regrown b1
  have r2 := cell_regrown b2
  have r3 := cell_regrown b3
  have r4 := cell_regrown b4
  have s1 := cell_regrown i1
  have s3 := cell_regrown i3
  have u1 : IntKind.u64.wrap (cntT t : Int) = (cntT t : Int) := IntWalk.u64_in _ (by omega)
  have u3 : IntKind.u64.wrap (hT t : Int) = (hT t : Int) := IntWalk.u64_in _ (by omega)
  have u4 : IntKind.u64.wrap ((cntT t : Int) * 4294967296) = (cntT t : Int) * 4294967296 := IntWalk.u64_in _ (by omega)
  have u5 : IntKind.u64.wrap ((cntT t : Int) * 4294967296 + (hT t : Int)) = (cntT t : Int) * 4294967296 + (hT t : Int) := IntWalk.u64_in _ (by omega)
  clear b0 b1 b2 b3 b4 i1 i3 d1 d3
  refine Kr.wp_region_T 15 [15] [(1, fun v _ => v = .int .u64 (un (treeH t)))]
    (by simp only [List.take_succ_cons, List.take_zero] <;> rfl) (by simp only [Kr.takeI, List.getElem?_cons_succ, List.getElem?_cons_zero] <;> rfl) mixed2 (by kernel_rfl) ?_
  rw [← hwd]
  clear hwd
  repeat (refine Kr.wpR_one rfl rfl ?_; go_big_quiet_step (fail); refine wpQuiet_nil ?_)
  refine Kr.wpR_call _ rfl rfl rfl ?_ ?_
  · intro W hW hk
    have HW := Lib.hid (HBD.out.trans ((Kr.later_iff.1 hW).mono HBD.out.size))
    go_simp
    refine Kr.upMany_enter ((rOf_calls _ t v0 v1 v2 v3 v4 0 W (Nat.le_refl _) HOK.out (HT.out _ HW.out)).mono ?_)
    rintro e w' ⟨rfl, hbb⟩
    exact ⟨_, rfl, rfl, hbb⟩
  rintro v ⟨_, _, _, _, hS, _⟩
  obtain rfl := hS
  go_frame
  repeat (refine Kr.wpR_one rfl rfl ?_; go_big_quiet_step (fail); refine wpQuiet_nil ?_)
  refine Kr.wpR_nil ?_
  intro w3 hb3 _
  have HB3 : Hid (Below w.heap.size w w3) := Lib.hid (HBD.out.trans (hb3.mono HBD.out.size))
  have hR3 := (hb3.block _ (lt_of_block HRD.out)).trans HRD.out
  have z0 : w3.cell? ⟨w.heap.size + 1, 0, none⟩ = some (.int .u64 0) := by rw [block_cell hR3]; rfl
  have z1 : w3.cell? ⟨w.heap.size + 1, 1, none⟩ = some (.int .u64 0) := by rw [block_cell hR3]; rfl
  have f0 : w3.frozen? ⟨w.heap.size + 1, 0, none⟩ = false := Lib.frozen_of_heap hR3 0
  have f1 : w3.frozen? ⟨w.heap.size + 1, 1, none⟩ = false := Lib.frozen_of_heap hR3 1
  have HR3 := Lib.hid hR3
  clear hb3 hR3 r0 r1 r2 r3 r4 s1 s3 u1 u3 u4 u5
  have HB4 : Hid (Below w.heap.size w ((w3.setCell ⟨w.heap.size + 1, 0, none⟩ (.int .u64 (un (treeH t)))).setCell ⟨w.heap.size + 1, 1, none⟩ (.int .u64 ((cntT t : Int) * 4294967296 + (hT t : Int))))) := Lib.hid ((HB3.out.setCell (by show _ ≤ w.heap.size + 1; omega) _).setCell (by show _ ≤ w.heap.size + 1; omega) _)
  have HR4 : Hid (((w3.setCell ⟨w.heap.size + 1, 0, none⟩ (.int .u64 (un (treeH t)))).setCell ⟨w.heap.size + 1, 1, none⟩ (.int .u64 ((cntT t : Int) * 4294967296 + (hT t : Int)))).heap[w.heap.size + 1]? = some (.cells #[.int .u64 (un (treeH t)), .int .u64 ((cntT t : Int) * 4294967296 + (hT t : Int))] 55 (0, 0))) := Lib.hid (by
    have h := HR3.out
    simp only [World.setCell, Array.getElem?_modify, ↓reduceIte, h, Option.map_some]
    rfl)
  generalize hkk : (cntT t : Int) * 4294967296 + (hT t : Int) = kk at *
  have HKK := Lib.hid hkk
  clear hkk
  go_wp2_with fail
  generalize (w3.setCell ⟨w.heap.size + 1, 0, none⟩ (.int .u64 (un (treeH t)))).setCell ⟨w.heap.size + 1, 1, none⟩ (.int .u64 kk) = w9 at HB4 HR4 ⊢
  have hld := run_loadVar_row (P := Try.prog) w9 (w.heap.size + 1) 55 55 _ _ _ HR4.out Try.underlying55 rfl (by kernel_rfl)
  (try simp only [Exit.inBlock, Exit.then])
  refine bodyPost_ret (v := .agg #[.int .u64 (un (treeH t)), .int .u64 kk]) ?_ rfl ⟨?_, HB4.out⟩
  · rw [results_one rfl]
    simp [asAddr, Result.andThen, hld]
  · unfold keyV; rw [HKK.out]
end Go.Proofs.Ytcacgbdnegmfnaa.Ha
