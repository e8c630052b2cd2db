/- topiarylaw00.Grown: a tree by numbers. -/
import Derived.Test.YtbjcahhijfommaaDoorGrownS
namespace Go.Proofs.YtbjcahhijfommaaDoor.Gn
open Go Go.RowKit Go.Proofs.YtbjcahhijfommaaDoor.Tr
set_option linter.unusedVariables false
/-- The world with the result's box, two counters and the tree's box. -/
theorem root_start (w : World) (A : Option Addr) (len : Nat) (h : LRow w w.heap.size A len) :
    GSt (w.heap.size + 1) (w.heap.size + 1 + 1) 0 (w.heap.size + 1 + 1 + 1) w.heap.size (w.heap.size + 4) 1 0 ⟨#[]⟩ (.slice none 0 0) [] (.slice none 0 0) [] [] w
      ((((w.alloc (.cells #[.int .i64 0, .string ⟨#[]⟩, .string ⟨#[]⟩, .slice none 0 0, .slice none 0 0] 25)).alloc (.cells #[.int .i64 0] 3)).alloc (.cells #[.int .i64 0] 3)).alloc (.cells #[.int .i64 1, .string ⟨#[]⟩, .string ⟨#[]⟩, .slice none 0 0, .slice none 0 0] 25)) := by
  have e1 : (w.alloc (.cells #[.int .i64 0, .string ⟨#[]⟩, .string ⟨#[]⟩, .slice none 0 0, .slice none 0 0] 25)).heap.size = w.heap.size + 1 := by simp
  generalize hw1 : w.alloc (.cells #[.int .i64 0, .string ⟨#[]⟩, .string ⟨#[]⟩, .slice none 0 0, .slice none 0 0] 25) = w1 at e1
  have b1 := hw1 ▸ alloc_new w (.cells #[.int .i64 0, .string ⟨#[]⟩, .string ⟨#[]⟩, .slice none 0 0, .slice none 0 0] 25)
  have f1 : Below w.heap.size w w1 := hw1 ▸ (Below.refl _ w).alloc (Nat.le_refl _) _
  have e2 : (w1.alloc (.cells #[.int .i64 0] 3)).heap.size = w.heap.size + 2 := by simp; omega
  generalize hw2 : w1.alloc (.cells #[.int .i64 0] 3) = w2 at e2
  have b2 := hw2 ▸ alloc_new w1 (.cells #[.int .i64 0] 3)
  have g2 : ∀ {b : Nat} {x : Obj}, w1.heap[b]? = some x → w2.heap[b]? = some x := fun h => hw2 ▸ alloc_old h _
  have f2 : Below w.heap.size w w2 := hw2 ▸ f1.alloc (by omega) _
  have e3 : (w2.alloc (.cells #[.int .i64 0] 3)).heap.size = w.heap.size + 3 := by simp; omega
  generalize hw3 : w2.alloc (.cells #[.int .i64 0] 3) = w3 at e3
  have b3 := hw3 ▸ alloc_new w2 (.cells #[.int .i64 0] 3)
  have g3 : ∀ {b : Nat} {x : Obj}, w2.heap[b]? = some x → w3.heap[b]? = some x := fun h => hw3 ▸ alloc_old h _
  have f3 : Below w.heap.size w w3 := hw3 ▸ f2.alloc (by omega) _
  have b4 := alloc_new w3 (.cells #[.int .i64 1, .string ⟨#[]⟩, .string ⟨#[]⟩, .slice none 0 0, .slice none 0 0] 25)
  rw [e1] at b2
  rw [e2] at b3
  rw [e3] at b4
  rw [show w.heap.size + 1 + 1 = w.heap.size + 2 by omega, show w.heap.size + 2 + 1 = w.heap.size + 3 by omega]
  exact ⟨b4, World.ownsRow_nil _ _ _ _, by simp [Value.ownBlock], (fun g e => by cases e), World.ownsRow_nil _ _ _ _, by simp [Value.ownBlock], (fun i t hi => by simp at hi), alloc_old (g3 (g2 b1)) _, alloc_old (g3 b2) _,
    by rw [show cntL [] = 0 by unfold cntL; rfl]; exact alloc_old b3 _, by simp; omega, Fr.of_below (f3.alloc (by omega) _)⟩
/-- The first counter moved on. -/
theorem GSt.next {a b N T r B1 : Nat} {kd y y' : Int} {nm : ByteArray} {av : Value} {al : List (ByteArray × ByteArray)} {kv : Value} {ks : List Nd} {xs : List Value} {w wr w2 : World} (h : GSt a b N T r B1 kd y nm av al kv ks xs w wr)
    (hab : a ≠ b) (hf : Fr (· = a) wr.heap.size wr w2) (hc : Cnt w2 a y') : GSt a b N T r B1 kd y' nm av al kv ks xs w w2 := by
  have ho := h.ab
  have hs := hf.size
  have old : ∀ c, c < wr.heap.size → c ≠ a → w2.heap[c]? = wr.heap[c]? := fun c h1 h2 => hf.block c h1 h2
  exact ⟨(old _ (lt_of_block h.blk) (by omega)).trans h.blk, row_of_heap h.arow fun g e => old g (h.arow.lt g e).2 (by have := (h.arow.lt g e).1; omega), h.ane, h.asep, row_of_heap h.row fun g e => old g (h.row.lt g e).2 (by have := (h.row.lt g e).1; omega), h.ne,
    h.kids.keep fun c ⟨h1, h2, h3, h4⟩ => ⟨⟨h1, by omega, h3, h4⟩, fun o => cell_of_heap (old c h2 (by omega)) o⟩, (old _ (lt_of_block h.box) (by omega)).trans h.box, hc, (old _ h.cb.lt (fun e => hab e.symm)).trans h.cb, by omega, h.fr.trans (hf.mono h.fr.size fun _ _ e => .inl e)⟩
set_option maxHeartbeats 8000000 in
set_option maxRecDepth 100000 in
theorem grownRoot_calls (A : Option Addr) (len cap : Nat) (w : World) (hl : LRow w w.heap.size A len) :
    Calls Tryd.prog 14 #[.slice A len cap] w (GrownRoot w) := by
  have HG0 := Lib.hid (root_start w A len hl)
  have HL := Lib.hid hl
  clear hl
  go_enter Tryd.func14, Tryd.ntmps14
  go_upto_region 3 with fail
  obtain ⟨T, hT⟩ : ∃ T, T = w.heap.size + 1 + 1 + 1 := ⟨_, rfl⟩
  obtain ⟨b, hb⟩ : ∃ b, b = w.heap.size + 1 + 1 := ⟨_, rfl⟩
  obtain ⟨a, ha⟩ : ∃ a, a = w.heap.size + 1 := ⟨_, rfl⟩
  rw [← hT, ← hb, ← ha] at HG0 ⊢
  have hwa : w.heap.size ≤ a := by omega
  have hwb : w.heap.size ≤ b := by omega
  have hab : a ≠ b := by omega
  clear hT hb ha
  generalize (((w.alloc (.cells #[.int .i64 0, .string ⟨#[]⟩, .string ⟨#[]⟩, .slice none 0 0, .slice none 0 0] 25)).alloc (.cells #[.int .i64 0] 3)).alloc (.cells #[.int .i64 0] 3)).alloc (.cells #[.int .i64 1, .string ⟨#[]⟩, .string ⟨#[]⟩, .slice none 0 0, .slice none 0 0] 25) = w1 at HG0 ⊢
  have HLX : Hid (∀ W, Fr (Two a b) w.heap.size w W → LRow W w.heap.size A len) := Lib.hid fun W hW => HL.out.keep fun p hp => hW.cell hp (by unfold Two; omega)
  have HGC : Hid (∀ (n : Nat) (x : Int) (W : World), LRow W w.heap.size A len → Cnt W a x → Cnt W b (n : Int) → n < 40 → Calls Tryd.prog 24 #[.slice A len cap, .pointer (some ⟨a, 0, none⟩), .pointer (some ⟨b, 0, none⟩), .int .i64 1] W (GrownEnd 1 a b n W)) := Lib.hid fun n x W h1 h2 h3 h4 => grown_calls A len cap a b w.heap.size hwa hwb hab 5 1 rfl n x W h1 h2 h3 h4
  go_wp2_with fail
  refine (next_calls A len cap a w.heap.size 0 w1 (HLX.out _ HG0.out.fr) hwa HG0.out.ca).mono ?_
  rintro e w2 ⟨v, y, rfl, hv, hcy, hfr⟩
  have HG1 := Lib.hid (HG0.out.next hab hfr hcy)
  clear hcy hfr HG0 HL
  have hv0 : (0 : Int) ≤ (v : Int) % 4 ∧ (v : Int) % 4 ≤ 3 := by omega
  go_wp2_with fail
  go_loopw [6] (fun kk wr => ∃ (z : Int) (y : Int) (A1 : Option Addr) (c1 : Nat) (ks : List Nd) (xs : List Value), -1 ≤ z ∧ z ≤ 3 ∧ kk = .int .i64 z ∧ GSt a b 0 T w.heap.size (w.heap.size + 4) 1 y ⟨#[]⟩ (.slice none 0 0) [] (.slice A1 ks.length c1) ks xs w wr ∧ cntL ks ≤ 40 ∧ okL 1 ks) (fun kk _ => (intOf kk + 1).toNat)
  case atStart => exact ⟨_, y, none, 0, [], [], by omega, by omega, rfl, HG1.out, by rw [show cntL [] = 0 by unfold cntL; rfl]; omega, by unfold okL; trivial⟩
  case round =>
    clear hv0
    obtain ⟨z, y1, A1, c1, ks, xs, hm1, hm2, rfl, hg, hcn, hok⟩ := hrel
    have HG := Lib.hid hg
    have HOK := Lib.hid hok
    have HB := Lib.hid hg.cb
    obtain ⟨N, hN⟩ : ∃ N, N = 0 + cntL ks := ⟨_, rfl⟩
    have hN40 : N ≤ 40 := by omega
    rw [← hN] at HB
    have HN := Lib.hid hN
    clear hg hok hcn hN HG1
    obtain ⟨q0, q1, q2, q3, q4⟩ := box5 HG.out.blk
    have cb0 := HB.out.cell
    by_cases hz : 0 ≤ z
    · by_cases hN4 : N < 40
      · have t6 : (N : Int) < 40 := by omega
        have HL4 : Hid (LRow wr w.heap.size A len) := Lib.hid (HLX.out _ HG.out.fr)
        have hksl : ks.length ≤ 1000 := by have := cntL_ge ks; have := HN.out; omega
        obtain ⟨i0, ii, hz0, hz1, hz2⟩ := info_parts tree_info
        clear q0 q1 q2 q3
        go_wp2_with fail
        go_region_law (first
          | (refine step_append_lies _ (by rfl) (.tmp 20) (.tmp 23) 23 (by rfl) (w.heap.size + 4) 25 i0 _ 5 88 Tryd.underlying23 ii hz0 hz1 hz2 (by rfl) (by decide) (.slice A1 ks.length c1) ks.length xs (by rfl) HROWX.out ⟨wk.heap.size, 0, none⟩ 1 1 [x0, x1, x2, x3, x4] (by rfl) (by rfl) HNEWS.out HONE.out (by decide) (by unfold maxLen; omega) (by omega) HBS.out (wk.heap.size + 1) HH.out ?_
             intro g cap5 w5 hown hgrow hat hlt
             have HST : Hid (GSt a b 0 T w.heap.size (w.heap.size + 4) 1 y2 ⟨#[]⟩ (.slice none 0 0) [] (.slice (some ⟨g, 0, none⟩) (ks.length + 1) cap5) (ks ++ [u]) (xs ++ [x0, x1, x2, x3, x4]) w (w5.setCell ⟨T, 4, none⟩ (.slice (some ⟨g, 0, none⟩) (ks.length + 1) cap5))) := Lib.hid (GSt.kid HG.out HFR.out HCA2.out HCB2.out HTI.out ((Below.refl _ wk).alloc (Nat.le_refl _) _) hown hgrow (hat.imp id fun e => by rw [e, HH.out]))
             have q5 : w5.cell? ⟨T, 4, none⟩ = some (.slice A1 ks.length c1) := (World.cell?_of_block (hgrow.block T (by rw [HH.out]; have := HTK.out; omega) (fun e => HG.out.ne e.symm))).trans (qa _)
             have f5 : w5.frozen? ⟨T, 4, none⟩ = false := (World.frozen?_of_block (hgrow.block T (by rw [HH.out]; have := HTK.out; omega) (fun e => HG.out.ne e.symm))).trans (fa _)
             clear hown hgrow hat hlt)
          | (go_simp
             go_at_call 24
             with_reducible refine (HGC.out N y1 _ ?_ ?_ ?_ hN4).mono ?_
             · exact HL4.out
             · exact HG.out.ca
             · exact HB.out
             rintro e wk ⟨u, x0, x1, x2, x3, x4, y2, rfl, hti, hou, hnu, hca2, hcb2, hfr2⟩
             have HFR : Hid (Fr (Two a b) wr.heap.size wr wk) := Lib.hid (((Fr.refl (Two a b) wr.heap.size wr).drew).trans hfr2)
             have HTI : Hid (TreeIn wk (fun c => wr.heap.size ≤ c ∧ c < wk.heap.size) u x0 x1 x2 x3 x4) := Lib.hid hti
             have HOU := Lib.hid hou
             have HNU := Lib.hid hnu
             have HCA2 := Lib.hid hca2
             have HCB2 : Hid (Cnt wk b ((0 + cntL ks + cntT u : Nat) : Int)) := Lib.hid (by rw [← HN.out]; exact hcb2)
             have HTK : Hid (T < wr.heap.size ∧ wr.heap.size ≤ wk.heap.size) := Lib.hid ⟨lt_of_block HG.out.blk, HFR.out.size⟩
             have hblkT : wk.heap[T]? = wr.heap[T]? := HFR.out.block T HTK.out.1 (by have := HG.out.ab; unfold Two; omega)
             have q6 : wk.cell? ⟨T, 4, none⟩ = some (.slice A1 ks.length c1) := (World.cell?_of_block hblkT).trans q4
             have qa : ∀ o, (wk.alloc o).cell? ⟨T, 4, none⟩ = some (.slice A1 ks.length c1) := fun o => (World.cell?_of_block (Below.heap_alloc wk o T (by have := HTK.out; omega))).trans q6
             have fa : ∀ o, (wk.alloc o).frozen? ⟨T, 4, none⟩ = false := fun o => (World.frozen?_of_block ((Below.heap_alloc wk o T (by have := HTK.out; omega)).trans hblkT)).trans (Lib.frozen_of_heap HG.out.blk 4)
             have HROWX : Hid ((wk.alloc (.cells #[x0, x1, x2, x3, x4] 25)).ownsRow (w.heap.size + 4) 25 5 (.slice A1 ks.length c1) ks.length xs) := Lib.hid (row_of_heap HG.out.row fun c hc => (Below.heap_alloc wk _ c (by have := (HG.out.row.lt c hc).2; have := HTK.out; omega)).trans (HFR.out.block c (HG.out.row.lt c hc).2 (by have := (HG.out.row.lt c hc).1; have := HG.out.ab; unfold Two; omega)))
             have HNEWS : Hid (∀ (j : Nat) u, [x0, x1, x2, x3, x4][j]? = some u → (wk.alloc (.cells #[x0, x1, x2, x3, x4] 25)).cell? ((⟨wk.heap.size, 0, none⟩ : Addr).add j) = some u) := Lib.hid fun j u hj => by
               rw [add_flat, Nat.zero_add, block_cell (alloc_new wk _)]; rw [← List.getElem?_toArray] at hj; exact hj
             have HONE : Hid (∀ u ∈ [x0, x1, x2, x3, x4], u.oneCell' = true) := Lib.hid (treeIn_one HTI.out)
             have HBS : Hid (w.heap.size + 4 ≤ (wk.alloc (.cells #[x0, x1, x2, x3, x4] 25)).heap.size) := Lib.hid (by have := HG.out.ab; have := HTK.out; simp; omega)
             have HH : Hid ((wk.alloc (.cells #[x0, x1, x2, x3, x4] 25)).heap.size = wk.heap.size + 1) := Lib.hid (by simp)
             clear hti hou hnu hca2 hcb2 hfr2 hblkT))
        all_goals
          generalize w5.setCell ⟨T, 4, none⟩ (.slice (some ⟨g, 0, none⟩) (ks.length + 1) cap5) = w6 at HST ⊢
          clear q4 q5 f5 q6 qa fa HROWX HNEWS HONE HBS HH
          go_wp2_with fail
          go_roundw
          case rel =>
            have r2 : cntL (ks ++ [u]) ≤ 40 := by rw [cntL_app]; have := HN.out; have := HNU.out; omega
            have r3 : GSt a b 0 T w.heap.size (w.heap.size + 4) 1 y2 ⟨#[]⟩ (.slice none 0 0) [] (.slice (some ⟨g, 0, none⟩) (ks ++ [u]).length cap5) (ks ++ [u]) (xs ++ [x0, x1, x2, x3, x4]) w w6 := by rw [List.length_append]; exact HST.out
            exact ⟨z - 1, y2, some ⟨g, 0, none⟩, cap5, ks ++ [u], xs ++ [x0, x1, x2, x3, x4], by omega, by omega, rfl, r3, r2, okL_app _ _ HOU.out _ HOK.out⟩
          case measure => simp [intOf]; omega
      · have t6 : decide ((N : Int) < 40) = false := decide_eq_false (by omega)
        obtain ⟨z0, z1, z2, z3, z4⟩ := box5 HG.out.box
        have z5 : wr.frozen? ⟨w.heap.size, 0, none⟩ = false := Lib.frozen_of_heap HG.out.box 0
        have z6 : wr.frozen? ⟨w.heap.size, 1, none⟩ = false := Lib.frozen_of_heap HG.out.box 1
        have z7 : wr.frozen? ⟨w.heap.size, 2, none⟩ = false := Lib.frozen_of_heap HG.out.box 2
        have z8 : wr.frozen? ⟨w.heap.size, 3, none⟩ = false := Lib.frozen_of_heap HG.out.box 3
        have z9 : wr.frozen? ⟨w.heap.size, 4, none⟩ = false := Lib.frozen_of_heap HG.out.box 4
        have hS := set5 HG.out.box (.int .i64 1) (.string ⟨#[]⟩) (.string ⟨#[]⟩) (.slice none 0 0) (.slice A1 ks.length c1)
        go_wp2_with fail
        generalize ((((wr.setCell ⟨w.heap.size, 0, none⟩ (.int .i64 1)).setCell ⟨w.heap.size, 1, none⟩ (.string ⟨#[]⟩)).setCell ⟨w.heap.size, 2, none⟩ (.string ⟨#[]⟩)).setCell ⟨w.heap.size, 3, none⟩ (.slice none 0 0)).setCell ⟨w.heap.size, 4, none⟩ (.slice A1 ks.length c1) = w9 at hS ⊢
        have hld := run_loadVar_row (P := Tryd.prog) w9 w.heap.size 25 25 _ _ _ hS.blk Tryd.underlying25 rfl (by kernel_rfl)
        (try simp only [Exit.inBlock, Exit.then])
        refine bodyPost_ret (v := .agg #[.int .i64 1, .string ⟨#[]⟩, .string ⟨#[]⟩, .slice none 0 0, .slice A1 ks.length c1]) ?_ rfl (GSt.root HG.out hS hwa hwb HOK.out (by have := HN.out; omega))
        rw [results_one rfl]
        simp [asAddr, Result.andThen, hld]
    · have t5 : decide (0 ≤ z) = false := decide_eq_false hz
      obtain ⟨z0, z1, z2, z3, z4⟩ := box5 HG.out.box
      have z5 : wr.frozen? ⟨w.heap.size, 0, none⟩ = false := Lib.frozen_of_heap HG.out.box 0
      have z6 : wr.frozen? ⟨w.heap.size, 1, none⟩ = false := Lib.frozen_of_heap HG.out.box 1
      have z7 : wr.frozen? ⟨w.heap.size, 2, none⟩ = false := Lib.frozen_of_heap HG.out.box 2
      have z8 : wr.frozen? ⟨w.heap.size, 3, none⟩ = false := Lib.frozen_of_heap HG.out.box 3
      have z9 : wr.frozen? ⟨w.heap.size, 4, none⟩ = false := Lib.frozen_of_heap HG.out.box 4
      have hS := set5 HG.out.box (.int .i64 1) (.string ⟨#[]⟩) (.string ⟨#[]⟩) (.slice none 0 0) (.slice A1 ks.length c1)
      go_wp2_with fail
      generalize ((((wr.setCell ⟨w.heap.size, 0, none⟩ (.int .i64 1)).setCell ⟨w.heap.size, 1, none⟩ (.string ⟨#[]⟩)).setCell ⟨w.heap.size, 2, none⟩ (.string ⟨#[]⟩)).setCell ⟨w.heap.size, 3, none⟩ (.slice none 0 0)).setCell ⟨w.heap.size, 4, none⟩ (.slice A1 ks.length c1) = w9 at hS ⊢
      have hld := run_loadVar_row (P := Tryd.prog) w9 w.heap.size 25 25 _ _ _ hS.blk Tryd.underlying25 rfl (by kernel_rfl)
      (try simp only [Exit.inBlock, Exit.then])
      refine bodyPost_ret (v := .agg #[.int .i64 1, .string ⟨#[]⟩, .string ⟨#[]⟩, .slice none 0 0, .slice A1 ks.length c1]) ?_ rfl (GSt.root HG.out hS hwa hwb HOK.out (by have := HN.out; omega))
      rw [results_one rfl]
      simp [asAddr, Result.andThen, hld]
end Go.Proofs.YtbjcahhijfommaaDoor.Gn
