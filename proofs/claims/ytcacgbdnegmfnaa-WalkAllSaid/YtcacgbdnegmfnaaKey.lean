/- hash.Key. -/
import Derived.Test.YtcacgbdnegmfnaaHawk
import Derived.Test.YtcacgbdnegmfnaaCopyT
namespace Go.Proofs.Ytcacgbdnegmfnaa.Ha
open Go Go.RowKit Go.Proofs.Ytcacgbdnegmfnaa.Pl Go.Proofs.Ytcacgbdnegmfnaa.Tr Go.Proofs.Ytcacgbdnegmfnaa.Wk
set_option linter.unusedVariables false
mutual
theorem hT_le : ∀ t, hT t ≤ cntT t
  | .mk k n s al ks => by have := hL_le ks; unfold hT cntT; omega
theorem hL_le : ∀ ts, hL ts ≤ cntL ts
  | [] => by unfold hL cntL; omega
  | t :: ts => by have := hT_le t; have := hL_le ts; unfold hL cntL; omega
end
def keyV (t : Nd) : Value := .agg #[.int .u64 (un (treeH t)), .int .u64 ((cntT t : Int) * 4294967296 + (hT t : Int))]
set_option maxHeartbeats 8000000 in
set_option maxRecDepth 100000 in
theorem key_calls (t : Nd) (v0 v1 v2 v3 v4 : Value) (w : World) (h : IsTree w w.heap.size t v0 v1 v2 v3 v4) (hN : cntT t ≤ 1000000) (ht : attT t) (hsh : ∀ x ∈ allP t, shP x.t) :
    Calls Try.prog 34 #[.agg #[v0, v1, v2, v3, v4]] w fun e w' => e = .returned (keyV t) ∧ Below w.heap.size w w' := by
  have HT : Hid (∀ W', Below w.heap.size w W' → IsTree W' W'.heap.size t v0 v1 v2 v3 v4) := Lib.hid fun W' hb => h.keep (fun p hp => hb.cell hp) hb.size
  have HSH := Lib.hid hsh
  have HTT := Lib.hid ht
  have hhl := hT_le t
  have HB0 : Hid (Below w.heap.size w ((w.alloc (.cells #[v0, v1, v2, v3, v4] 25)).alloc (.cells #[.int .u64 0, .int .u64 0] 55))) := Lib.hid (((Below.refl _ w).alloc (Nat.le_refl _) _).alloc (by simp) _)
  have HX0 := Lib.hid (alloc_old (alloc_new w (.cells #[v0, v1, v2, v3, v4] 25)) (.cells #[.int .u64 0, .int .u64 0] 55))
  have HR0 : Hid (((w.alloc (.cells #[v0, v1, v2, v3, v4] 25)).alloc (.cells #[.int .u64 0, .int .u64 0] 55)).heap[w.heap.size + 1]? = some (.cells #[.int .u64 0, .int .u64 0] 55 (0, 0))) := Lib.hid (by
    have := alloc_new (w.alloc (.cells #[v0, v1, v2, v3, v4] 25)) (.cells #[.int .u64 0, .int .u64 0] 55)
    rwa [show (w.alloc (.cells #[v0, v1, v2, v3, v4] 25)).heap.size = w.heap.size + 1 by simp] at this)
  clear h hsh ht
  go_enter Try.func34, Try.ntmps34
  go_wp2_with fail
  generalize (w.alloc (.cells #[v0, v1, v2, v3, v4] 25)).alloc (.cells #[.int .u64 0, .int .u64 0] 55) = w0 at HB0 HX0 HR0 ⊢
  refine (flat_calls t v0 v1 v2 v3 v4 w0 (HT.out _ HB0.out) hN HTT.out).mono ?_
  rintro e w1 ⟨g, cap, rfl, hc1, hc2, hg, hrow, hbel⟩
  have HB1 : Hid (Below w.heap.size w w1) := Lib.hid (HB0.out.trans (hbel.mono HB0.out.size))
  have HX1 := Lib.hid ((hbel.block _ (lt_of_block HX0.out)).trans HX0.out)
  have HR1 := Lib.hid ((hbel.block _ (lt_of_block HR0.out)).trans HR0.out)
  obtain ⟨av, ⟨A, ac, rfl, _⟩, _, c0, c1, c2, c3, c4, c5, c6, c7, c8, c9⟩ := hrow.at_ 0 _ (allP_zero t)
  have hf0 : finOf (allP t) 0 = (cntT t, hT t) := by unfold finOf; rw [allP_zero]
  rw [hf0] at c1 c3
  rw [Nat.zero_mul] at c0 c1 c2 c3 c4 c5 c6 c7 c8 c9
  have hpos := cntT_pos t
  clear hrow hbel hf0 hg
  dsimp only at c0 c1 c2 c3 c4 c5 c6 c7 c8 c9
  go_wp2_with fail
  have HB2 : Hid (Below w1.heap.size w1 (w1.alloc (.cells #[.int .i64 (-1), .int .i64 (cntT t : Nat), .int .i64 0, .int .i64 (hT t : Nat), .int .i64 0, .int .i64 t.kind, .string t.name, .string t.text, .slice A t.attrs.length ac, .slice none 0 0] 33))) := Lib.hid ((Below.refl _ w1).alloc (Nat.le_refl _) _)
  have HI2 := Lib.hid (alloc_new w1 (.cells #[.int .i64 (-1), .int .i64 (cntT t : Nat), .int .i64 0, .int .i64 (hT t : Nat), .int .i64 0, .int .i64 t.kind, .string t.name, .string t.text, .slice A t.attrs.length ac, .slice none 0 0] 33))
  clear c0 c1 c2 c3 c4 c5 c6 c7 c8 c9
  generalize w1.alloc (.cells #[.int .i64 (-1), .int .i64 (cntT t : Nat), .int .i64 0, .int .i64 (hT t : Nat), .int .i64 0, .int .i64 t.kind, .string t.name, .string t.text, .slice A t.attrs.length ac, .slice none 0 0] 33) = w2 at HB2 HI2 ⊢
  have HBZ : Hid (Below w.heap.size w w2) := Lib.hid (HB1.out.trans (HB2.out.mono HB1.out.size))
  have HX2 := Lib.hid ((HB2.out.block _ (lt_of_block HX1.out)).trans HX1.out)
  have HR2 := Lib.hid ((HB2.out.block _ (lt_of_block HR1.out)).trans HR1.out)
  obtain ⟨wd, hwd⟩ : ∃ wd, wd = w2.drew := ⟨_, rfl⟩
  have HBD : Hid (Below w.heap.size w wd) := Lib.hid (hwd ▸ HBZ.out.drew)
  have HXD : Hid (wd.heap[w.heap.size]? = some (.cells #[v0, v1, v2, v3, v4] 25 (0, 0))) := Lib.hid (hwd ▸ HX2.out)
  have HRD : Hid (wd.heap[w.heap.size + 1]? = some (.cells #[.int .u64 0, .int .u64 0] 55 (0, 0))) := Lib.hid (hwd ▸ HR2.out)
  have HID : Hid (wd.heap[w1.heap.size]? = some (.cells #[.int .i64 (-1), .int .i64 (cntT t : Nat), .int .i64 0, .int .i64 (hT t : Nat), .int .i64 0, .int .i64 t.kind, .string t.name, .string t.text, .slice A t.attrs.length ac, .slice none 0 0] 33 (0, 0))) := Lib.hid (hwd ▸ HI2.out)
  obtain ⟨b0, b1, b2, b3, b4⟩ := box5 HXD.out
  have r0 := cell_regrown b0
  have r1 := cell_regrown b1
  have r2 := cell_regrown b2
  have r3 := cell_regrown b3
  have r4 := cell_regrown b4
  have i1 : wd.cell? ⟨w1.heap.size, 1, none⟩ = some (.int .i64 (cntT t : Nat)) := by rw [block_cell HID.out]; rfl
  have i3 : wd.cell? ⟨w1.heap.size, 3, none⟩ = some (.int .i64 (hT t : Nat)) := by rw [block_cell HID.out]; rfl
  have s1 := cell_regrown i1
  have s3 := cell_regrown i3
  have u1 : IntKind.u32.wrap (cntT t : Int) = (cntT t : Int) := IntWalk.u32_in _ (by omega)
  have u3 : IntKind.u32.wrap (hT t : Int) = (hT t : Int) := IntWalk.u32_in _ (by omega)
  clear b0 b1 b2 b3 b4 i1 i3
  refine Kr.wp_region_T 10 [10] [(1, fun v _ => v = .int .u64 (un (treeH t))), (8, fun v _ => v = .int .u64 ((cntT t : Int) * 4294967296 + (hT t : Int)))]
    (by simp only [List.take_succ_cons, List.take_zero] <;> rfl) (by simp only [Kr.takeI, List.getElem?_cons_succ, List.getElem?_cons_zero] <;> rfl) mixed2 (by kernel_rfl) ?_
  rw [← hwd]
  clear hwd
  repeat (refine Kr.wpR_one rfl rfl ?_; go_big_quiet_step (fail); refine wpQuiet_nil ?_)
  refine Kr.wpR_call _ rfl rfl rfl ?_ ?_
  · intro W hW hk
    have HW := Lib.hid (HBD.out.trans ((Kr.later_iff.1 hW).mono HBD.out.size))
    go_simp
    refine Kr.upMany_enter ((of_calls t v0 v1 v2 v3 v4 W (HT.out _ HW.out) hN HTT.out HSH.out).mono ?_)
    rintro e w' ⟨rfl, hbb⟩
    exact ⟨_, rfl, rfl, hbb⟩
  rintro v ⟨_, _, _, _, hS, _⟩
  obtain rfl := hS
  go_frame
  repeat (refine Kr.wpR_one rfl rfl ?_; go_big_quiet_step (fail); refine wpQuiet_nil ?_)
  refine Kr.wpR_call _ rfl rfl rfl ?_ ?_
  · intro W hW hk
    go_simp
    refine Kr.upMany_enter ((Ct.join_calls (cntT t) (hT t) (by omega) (by omega) (by omega) (by omega) W).mono ?_)
    rintro e w' ⟨rfl, rfl⟩
    exact ⟨_, rfl, rfl, Below.refl _ _⟩
  rintro v ⟨_, _, _, _, hS, _⟩
  obtain rfl := hS
  go_frame
  repeat (refine Kr.wpR_one rfl rfl ?_; go_big_quiet_step (fail); refine wpQuiet_nil ?_)
  refine Kr.wpR_nil ?_
  intro w3 hb3 _
  have HB3 : Hid (Below w.heap.size w w3) := Lib.hid (HBD.out.trans (hb3.mono HBD.out.size))
  have hR3 := (hb3.block _ (lt_of_block HRD.out)).trans HRD.out
  have z0 : w3.cell? ⟨w.heap.size + 1, 0, none⟩ = some (.int .u64 0) := by rw [block_cell hR3]; rfl
  have z1 : w3.cell? ⟨w.heap.size + 1, 1, none⟩ = some (.int .u64 0) := by rw [block_cell hR3]; rfl
  have f0 : w3.frozen? ⟨w.heap.size + 1, 0, none⟩ = false := Lib.frozen_of_heap hR3 0
  have f1 : w3.frozen? ⟨w.heap.size + 1, 1, none⟩ = false := Lib.frozen_of_heap hR3 1
  have HR3 := Lib.hid hR3
  clear hb3 hR3 r0 r1 r2 r3 r4 s1 s3 u1 u3
  have HB4 : Hid (Below w.heap.size w ((w3.setCell ⟨w.heap.size + 1, 0, none⟩ (.int .u64 (un (treeH t)))).setCell ⟨w.heap.size + 1, 1, none⟩ (.int .u64 ((cntT t : Int) * 4294967296 + (hT t : Int))))) := Lib.hid ((HB3.out.setCell (by show _ ≤ w.heap.size + 1; omega) _).setCell (by show _ ≤ w.heap.size + 1; omega) _)
  have HR4 : Hid (((w3.setCell ⟨w.heap.size + 1, 0, none⟩ (.int .u64 (un (treeH t)))).setCell ⟨w.heap.size + 1, 1, none⟩ (.int .u64 ((cntT t : Int) * 4294967296 + (hT t : Int)))).heap[w.heap.size + 1]? = some (.cells #[.int .u64 (un (treeH t)), .int .u64 ((cntT t : Int) * 4294967296 + (hT t : Int))] 55 (0, 0))) := Lib.hid (by
    have h := HR3.out
    simp only [World.setCell, Array.getElem?_modify, ↓reduceIte, h, Option.map_some]
    rfl)
  generalize hkk : (cntT t : Int) * 4294967296 + (hT t : Int) = kk at *
  have HKK := Lib.hid hkk
  clear hkk
  go_wp2_with fail
  generalize (w3.setCell ⟨w.heap.size + 1, 0, none⟩ (.int .u64 (un (treeH t)))).setCell ⟨w.heap.size + 1, 1, none⟩ (.int .u64 kk) = w9 at HB4 HR4 ⊢
  have hld := run_loadVar_row (P := Try.prog) w9 (w.heap.size + 1) 55 55 _ _ _ HR4.out Try.underlying55 rfl (by kernel_rfl)
  (try simp only [Exit.inBlock, Exit.then])
  refine bodyPost_ret (v := .agg #[.int .u64 (un (treeH t)), .int .u64 kk]) ?_ rfl ⟨?_, HB4.out⟩
  · rw [results_one rfl]
    simp [asAddr, Result.andThen, hld]
  · unfold keyV; rw [HKK.out]
end Go.Proofs.Ytcacgbdnegmfnaa.Ha
