/- The law of orders. -/
import Derived.Test.YtcacgbdnegmfnaaLawT
import Derived.Test.YtcacgbdnegmfnaaKin
import Derived.Deep.OwnRows
import Derived.Deep.CutRange
import Derived.Deep.RegionLaw
namespace Go.Proofs.Ytcacgbdnegmfnaa.Wk
open Go Go.RowKit Tr
set_option linter.unusedVariables false

/-- The nodes' row and the other order's, both at once. -/
structure ORel (t : Nd) (w : World) (g gp : Nat) (wr : World) : Prop where
  items : IRow g (allP t) (finOf (allP t)) wr
  post : ∀ (i v : Nat), (postT 0 t)[i]? = some v → wr.cell? ⟨gp, i, none⟩ = some (.int .i64 (v : Int))
  glt : g < wr.heap.size ∧ gp < wr.heap.size ∧ w.heap.size ≤ g ∧ w.heap.size ≤ gp
  bel : Below w.heap.size w wr
theorem ORel.keep {t : Nd} {w : World} {g gp : Nat} {wr w' : World} {B : Nat} (h : ORel t w g gp wr) (hb : Below B wr w') (hB : wr.heap.size ≤ B) : ORel t w g gp w' := by
  have := h.glt
  have := hb.size
  exact ⟨h.items.keep hb hB, fun i v hv => (hb.cell (by show gp < B; omega)).trans (h.post i v hv), by omega, h.bel.trans (hb.mono (by have := h.bel.size; omega))⟩
theorem irow_lt {g : Nat} {l : List Pn} {st : St2} {w : World} (h : IRow g l st w) : g < w.heap.size := by
  obtain ⟨cur, hc⟩ := h.blk
  exact lt_of_block hc
/-- A row of numbers: where it lies, what it holds. -/
theorem post_row {B0 : Nat} {w : World} {v : Value} {l : List Nat} {n : Nat} (h : w.ownsRow B0 3 1 v n (cellsN l)) (hn : 0 < n) : ∃ gp capp, v = .slice (some ⟨gp, 0, none⟩) (n : Nat) capp ∧ n ≤ capp ∧ capp ≤ maxLen ∧ B0 ≤ gp ∧ gp < w.heap.size ∧ ∀ (i x : Nat), l[i]? = some x → w.cell? ⟨gp, i, none⟩ = some (.int .i64 (x : Int)) := by
  obtain ⟨n, rfl⟩ : ∃ m, n = m + 1 := ⟨n - 1, by omega⟩
  obtain ⟨gp, capp, rfl, h1, h2, h3, h4⟩ := row_top h
  refine ⟨gp, capp, rfl, h1, h2, h3, h4, fun i x hx => ?_⟩
  have := h.cells (g := gp) rfl i _ (cellsN_at hx)
  rwa [add_flat, Nat.zero_add] at this
theorem orel_fp {t : Nd} {w wF wP W' : World} {g gp : Nat} (hrow : IRow g (allP t) (finOf (allP t)) wF) (hg : W'.heap.size ≤ g) (hW : Below w.heap.size w W') (hF : Below w.heap.size w wF) (hP : Below wF.heap.size wF wP)
    (hB : wF.heap.size ≤ gp) (hlt : gp < wP.heap.size) (hp : ∀ (i x : Nat), (postT 0 t)[i]? = some x → wP.cell? ⟨gp, i, none⟩ = some (.int .i64 (x : Int))) : ORel t w g gp wP := by
  have h1 := irow_lt hrow
  have h2 := hP.size
  have h3 := hF.size
  have h4 := hW.size
  exact ⟨hrow.keep hP (Nat.le_refl _), hp, by omega, hF.trans (hP.mono hF.size)⟩
theorem orel_pf {t : Nd} {w wF wP W' : World} {g gp : Nat} (hrow : IRow g (allP t) (finOf (allP t)) wF) (hg : wP.heap.size ≤ g) (hW : Below w.heap.size w W') (hP : Below w.heap.size w wP) (hF : Below wP.heap.size wP wF)
    (hB : W'.heap.size ≤ gp) (hlt : gp < wP.heap.size) (hp : ∀ (i x : Nat), (postT 0 t)[i]? = some x → wP.cell? ⟨gp, i, none⟩ = some (.int .i64 (x : Int))) : ORel t w g gp wF := by
  have h1 := irow_lt hrow
  have h2 := hF.size
  have h3 := hP.size
  have h4 := hW.size
  exact ⟨hrow, fun i x hx => (hF.cell hlt).trans (hp i x hx), by omega, hP.trans (hF.mono hP.size)⟩
/-- What stands in 'at' when k of the numbers have been seen. -/
def atK (t : Nd) (k v : Nat) : Nat := if idxP t v < k then idxP t v + 1 else 0
theorem atK_here {t : Nd} {k v : Nat} (h : (postT 0 t)[k]? = some v) : atK t k v = 0 := by
  unfold atK; rw [(idxP_of h).1, if_neg (Nat.lt_irrefl _)]
theorem atK_next {t : Nd} {k v j : Nat} (h : (postT 0 t)[k]? = some v) (hj : j < cntT t) : (if j = v then k + 1 else atK t k j) = atK t (k + 1) j := by
  unfold atK
  by_cases e : j = v
  · subst e; rw [if_pos rfl, (idxP_of h).1, if_pos (Nat.lt_succ_self _)]
  · rw [if_neg e]
    have hne : idxP t j ≠ k := fun e2 => by
      have := (idxP_at t j hj).1
      rw [e2, h] at this; injection this with this; exact e this.symm
    by_cases hl : idxP t j < k
    · rw [if_pos hl, if_pos (by omega)]
    · rw [if_neg hl, if_neg (by omega)]
theorem atK_all {t : Nd} {v : Nat} (h : v < cntT t) : atK t (cntT t) v = idxP t v + 1 := by unfold atK; rw [if_pos (idxP_at t v h).2]
theorem flat_at {t : Nd} {v0 v1 v2 v3 v4 : Value} {w : World} (h : ∀ W', Below w.heap.size w W' → IsTree W' W'.heap.size t v0 v1 v2 v3 v4) (hN : cntT t ≤ 1000000) (ht : attT t) (W' : World) (hb : Below w.heap.size w W') :
    Calls Try.prog 16 #[.agg #[v0, v1, v2, v3, v4]] W' (FlatEnd t W') := flat_calls t v0 v1 v2 v3 v4 W' (h W' hb) hN ht
theorem post_at {t : Nd} {v0 v1 v2 v3 v4 : Value} {w : World} (h : ∀ W', Below w.heap.size w W' → IsTree W' W'.heap.size t v0 v1 v2 v3 v4) (hN : cntT t ≤ 1000000) (ht : attT t) (W' : World) (hb : Below w.heap.size w W') :
    Calls Try.prog 17 #[.agg #[v0, v1, v2, v3, v4]] W' (PostEnd t W') := post_calls t v0 v1 v2 v3 v4 W' (h W' hb) hN ht
theorem box5 {w : World} {b : Nat} {v0 v1 v2 v3 v4 : Value} {T : TypeId} (h : w.heap[b]? = some (.cells #[v0, v1, v2, v3, v4] T (0, 0))) : w.cell? ⟨b, 0, none⟩ = some v0 ∧ w.cell? ⟨b, 1, none⟩ = some v1 ∧ w.cell? ⟨b, 2, none⟩ = some v2 ∧ w.cell? ⟨b, 3, none⟩ = some v3 ∧ w.cell? ⟨b, 4, none⟩ = some v4 := by
  refine ⟨?_, ?_, ?_, ?_, ?_⟩ <;> rw [block_cell h] <;> rfl
set_option maxHeartbeats 4000000 in
set_option maxRecDepth 100000 in
theorem walkOrders (t : Nd) (v0 v1 v2 v3 v4 : Value) (w : World) (h : IsTree w w.heap.size t v0 v1 v2 v3 v4) :
    Calls Try.prog 3 #[.agg #[v0, v1, v2, v3, v4]] w fun e w' => e = .returned (.bool true) ∧ Below w.heap.size w w' := by
  have H := Lib.hid h
  have HB : Hid (Below w.heap.size w (w.alloc (.cells #[v0, v1, v2, v3, v4] 25))) := Lib.hid ((Below.refl _ w).alloc (Nat.le_refl _) _)
  have HNW := Lib.hid (alloc_new w (.cells #[v0, v1, v2, v3, v4] 25))
  have FL : Hid (∀ W', Below w.heap.size w W' → IsTree W' W'.heap.size t v0 v1 v2 v3 v4) := Lib.hid fun W' hb => h.keep (fun p hp => hb.cell hp) hb.size
  clear h
  go_enter Try.func3, Try.ntmps3
  go_wp2_with fail
  refine (small0_calls _ _ _ _ _ _ _ (FL.out _ HB.out)).mono ?_
  rintro e w1 ⟨ok, rfl, hok, hb1⟩
  have hbox : w1.heap[w.heap.size]? = some (.cells #[v0, v1, v2, v3, v4] 25 (0, 0)) := (hb1.block _ (by simp)).trans HNW.out
  have HB1 : Hid (Below w.heap.size w w1) := Lib.hid (HB.out.trans (hb1.mono HB.out.size))
  clear hb1 HNW HB
  cases ok with
  | false =>
    clear hbox
    go_wp2_with fail
    refine (awake_calls _).mono ?_
    rintro e w2 ⟨rfl, hb2⟩
    have HB2 : Hid (Below w.heap.size w w2) := Lib.hid (HB1.out.trans (hb2.mono HB1.out.size))
    clear hb2
    go_wp2_with fail
    go_ret
    exact ⟨rfl, HB2.out⟩
  | true =>
    obtain ⟨hok1, hok2⟩ := hok rfl
    have HAT := Lib.hid (okT_att 0 _ hok1)
    have b0 : w1.cell? ⟨w.heap.size, 0, none⟩ = some v0 := by rw [block_cell hbox]; rfl
    have b1 : w1.cell? ⟨w.heap.size, 1, none⟩ = some v1 := by rw [block_cell hbox]; rfl
    have b2 : w1.cell? ⟨w.heap.size, 2, none⟩ = some v2 := by rw [block_cell hbox]; rfl
    have b3 : w1.cell? ⟨w.heap.size, 3, none⟩ = some v3 := by rw [block_cell hbox]; rfl
    have b4 : w1.cell? ⟨w.heap.size, 4, none⟩ = some v4 := by rw [block_cell hbox]; rfl
    have HBX := Lib.hid hbox
    clear hok hok1 hbox
    have hpos := cntT_pos t
    go_upto_region 3 with fail
    go_cut [3, 4] from 13 (fun x y wc => ∃ g cap gp capp, x = .slice (some ⟨g, 0, none⟩) (cntT t : Nat) cap ∧ y = .slice (some ⟨gp, 0, none⟩) (cntT t : Nat) capp ∧ cntT t ≤ cap ∧ cap ≤ maxLen ∧ cntT t ≤ capp ∧ capp ≤ maxLen ∧ ORel t w g gp wc)
    case first =>
      go_region_with (first
        | (go_at_call 16
           refine (flat_at FL.out (by omega) HAT.out _ ?_).mono ?_
           · first | exact HB1.out.drew | exact HBP.out
           rintro e wF ⟨g, cap, rfl, hc1, hc2, hg, hrow, hbel⟩
           have HBF : Hid (Below w.heap.size w wF) := Lib.hid (by first | exact HB1.out.drew.trans (hbel.mono HB1.out.size) | exact HBP.out.trans (hbel.mono HBP.out.size))
           have HXF : Hid (wF.heap[w.heap.size]? = some (.cells #[v0, v1, v2, v3, v4] 25 (0, 0))) := Lib.hid (by first | exact (hbel.block _ (lt_of_block HBX.out)).trans HBX.out | exact (hbel.block _ (lt_of_block HXP.out)).trans HXP.out)
           obtain ⟨f0, f1, f2, f3, f4⟩ := box5 HXF.out
           have HRW := Lib.hid hrow
           have HBL := Lib.hid hbel
           have HG := Lib.hid hg
           clear hrow hbel hg)
        | (go_at_call 17
           refine (post_at FL.out (by omega) HAT.out _ ?_).mono ?_
           · first | exact HB1.out.drew | exact HBF.out
           rintro e wP ⟨v, rfl, hrowp, hbelp⟩
           have HBP : Hid (Below w.heap.size w wP) := Lib.hid (by first | exact HB1.out.drew.trans (hbelp.mono HB1.out.size) | exact HBF.out.trans (hbelp.mono HBF.out.size))
           have HXP : Hid (wP.heap[w.heap.size]? = some (.cells #[v0, v1, v2, v3, v4] 25 (0, 0))) := Lib.hid (by first | exact (hbelp.block _ (lt_of_block HBX.out)).trans HBX.out | exact (hbelp.block _ (lt_of_block HXF.out)).trans HXF.out)
           obtain ⟨p0, p1, p2, p3, p4⟩ := box5 HXP.out
           have HRP := Lib.hid hrowp
           have HPL := Lib.hid hbelp
           clear hrowp hbelp))
      all_goals go_wp2_with fail
      all_goals go_meet
      all_goals obtain ⟨gp, capp, rfl, k1, k2, k3, k4, k5⟩ := post_row HRP.out hpos
      all_goals refine ⟨g, cap, gp, capp, rfl, rfl, hc1, hc2, k1, k2, ?_⟩
      all_goals first | exact orel_fp HRW.out HG.out HB1.out.drew HBF.out HPL.out k3 k4 k5 | exact orel_pf HRW.out HG.out HB1.out.drew HBP.out HBL.out k3 k4 k5
    case rest =>
      obtain ⟨g, cap, gp, capp, rfl, rfl, hc1, hc2, hc3, hc4, hO⟩ := hcut
      have HO := Lib.hid hO
      have hsz := hO.glt
      have c0 : wc.cell? ⟨g, 0, none⟩ = some (.int .i64 (-1)) := by
        obtain ⟨av, _, _, d0, _⟩ := hO.items.at_ 0 _ (allP_zero t)
        rwa [Nat.zero_mul] at d0
      have hmk := fun W => run_make_row' (P := Try.prog) 30 3 (.int .i64 0) 8 Try.underlying30 int_info rfl .i64 .i64 (cntT t) (by omega) (by omega) W
      have HRI := Lib.hid (World.rowIs_made wc (.int .i64 0) (cntT t) 3)
      have HBA : Hid (Below wc.heap.size wc (wc.alloc (.cells (madeCells #[.int .i64 0] (cntT t)) 3))) := Lib.hid ((Below.refl _ wc).alloc (Nat.le_refl _) _)
      clear hO b0 b1 b2 b3 b4 HBX
      go_wp2_with fail
      clear c0 hmk
      go_loopw [6] (fun i wr => ∃ k : Nat, k ≤ cntT t ∧ i = .int .i64 (k : Int) ∧ Below wc.heap.size wc wr ∧ wr.rowIs wc.heap.size 3 (cntT t) (fun v => .int .i64 (atK t k v : Nat))) (fun i _ => cntT t - (intOf i).toNat)
      case atStart => exact ⟨0, Nat.zero_le _, rfl, HBA.out, HRI.out.congr fun v hv => by unfold atK; rw [if_neg (Nat.not_lt_zero _)]; rfl⟩
      case round =>
        obtain ⟨k, hk, rfl, hbel, hri⟩ := hrel
        rcases Nat.lt_or_ge k (cntT t) with hl | hl
        · obtain ⟨v, hv⟩ : ∃ v, (postT 0 t)[k]? = some v := ⟨_, List.getElem?_eq_getElem (by rw [postT_length]; exact hl)⟩
          obtain ⟨hv1, hv2⟩ := idxP_of hv
          have d0 : wr.cell? ⟨gp, k, none⟩ = some (.int .i64 (v : Int)) := (hbel.cell (by show gp < _; omega)).trans (HO.out.post k v hv)
          have d1 : wr.cell? ⟨wc.heap.size, v, none⟩ = some (.int .i64 0) := by have := hri.cell hv2; rw [atK_here hv] at this; exact this
          have d2 := hri.frozen v
          have hlt : (k : Int) < (cntT t : Int) := by omega
          have hvt : (v : Int) < (cntT t : Int) := by omega
          have HBE : Hid (Below wc.heap.size wc (wr.setCell ⟨wc.heap.size, v, none⟩ (.int .i64 ((k + 1 : Nat) : Int)))) := Lib.hid (hbel.setCell (Nat.le_refl _) _)
          have HRI2 : Hid ((wr.setCell ⟨wc.heap.size, v, none⟩ (.int .i64 ((k + 1 : Nat) : Int))).rowIs wc.heap.size 3 (cntT t) (fun j => .int .i64 (atK t (k + 1) j : Nat))) := Lib.hid ((hri.set v _).congr fun j hj => by
            rw [← atK_next hv hj]
            split <;> rfl)
          clear hbel hri
          go_wp2_with fail
          go_roundw
          case rel => exact ⟨k + 1, by omega, by go_num, HBE.out, HRI2.out⟩
          case measure => simp [intOf]; omega
        · obtain rfl : k = cntT t := by omega
          have HRK := Lib.hid (hri.congr (g := fun v => .int .i64 ((idxP t v + 1 : Nat) : Int)) fun v hv => by rw [atK_all hv])
          have HO3 : Hid (ORel t w g gp wr) := Lib.hid (HO.out.keep hbel (Nat.le_refl _))
          clear hbel hri HRI HBA
          obtain ⟨wq, hwq⟩ : ∃ q, q = wr := ⟨wr, rfl⟩
          subst hwq
          go_wp2_with fail
          go_loopw [7] (fun i wr => ∃ j : Nat, 1 ≤ j ∧ j ≤ cntT t ∧ i = .int .i64 (j : Int) ∧ Below wq.heap.size wq wr) (fun i _ => cntT t - (intOf i).toNat)
          case atStart => exact ⟨1, Nat.le_refl _, hpos, rfl, Below.refl _ _⟩
          case round =>
            obtain ⟨j, hj1, hj2, rfl, hbel⟩ := hrel
            have hO4 := HO3.out.keep hbel (Nat.le_refl _)
            rcases Nat.lt_or_ge j (cntT t) with hl2 | hl2
            · obtain ⟨x, hx⟩ : ∃ x, (allP t)[j]? = some x := ⟨_, List.getElem?_eq_getElem (by rw [allP_length]; omega)⟩
              obtain ⟨q, y, hp, hy, hK⟩ := allP_kin t j x hx hj1
              have hi := idxP_kin hx hy hK
              have hql := hK.lt
              obtain ⟨av, _, _, d0, d1, d2, d3, _⟩ := hO4.items.at_ j x hx
              obtain ⟨bv, _, _, _, b1, b2, b3, _⟩ := hO4.items.at_ q y hy
              have fx : finOf (allP t) j = (cntT x.t, hT x.t) := by unfold finOf; rw [hx]
              have fy : finOf (allP t) q = (cntT y.t, hT y.t) := by unfold finOf; rw [hy]
              rw [fx] at d1 d3
              rw [fy] at b1 b3
              rw [hp] at d0
              rw [hK.dep] at d2
              dsimp only at d1 d3 b1 b3
              have a0 : wr.cell? ⟨wc.heap.size, j, none⟩ = some (.int .i64 ((idxP t j + 1 : Nat) : Int)) := (hbel.cell HRK.out.lt).trans (HRK.out.cell hl2)
              have a1 : wr.cell? ⟨wc.heap.size, q, none⟩ = some (.int .i64 ((idxP t q + 1 : Nat) : Int)) := (hbel.cell HRK.out.lt).trans (HRK.out.cell (by omega))
              have h1 := hK.fits
              have h2 := hK.low
              have hcx := preT_cnt 0 (-1) 0 0 t x (List.mem_of_getElem? hx)
              have hcy := preT_cnt 0 (-1) 0 0 t y (List.mem_of_getElem? hy)
              obtain ⟨dd, hd1, hd2, _⟩ := idx_T 0 (-1) 0 0 t q y hy
              rw [Int.zero_add] at hd1
              rw [hd1] at d2 b2
              have hjt : (j : Int) < (cntT t : Int) := by omega
              have hqj : (q : Int) < (j : Int) := by omega
              have hqt : (q : Int) < (cntT t : Int) := by omega
              have w1 : IntKind.i64.wrap ((dd : Int) + 1) = (dd : Int) + 1 := IntWalk.i64_in _ (by omega)
              have w2 : IntKind.i64.wrap ((j : Int) + (cntT x.t : Int)) = (j : Int) + (cntT x.t : Int) := IntWalk.i64_in _ (by omega)
              have w3 : IntKind.i64.wrap ((q : Int) + (cntT y.t : Int)) = (q : Int) + (cntT y.t : Int) := IntWalk.i64_in _ (by omega)
              rw [Int.natCast_add] at a0 a1
              have e1 : decide ((q : Int) < 0) = false := by rw [decide_eq_false_iff_not]; omega
              have e2 : decide ((j : Int) ≤ (q : Int)) = false := by rw [decide_eq_false_iff_not]; omega
              have HBL : Hid (Below w.heap.size w wr.drew) := Lib.hid hO4.bel.drew
              have HB5 := Lib.hid hbel
              generalize idxP t j = ij at a0 hi
              generalize idxP t q = iq at a1 hi
              generalize cntT x.t = cx at *
              generalize cntT y.t = cy at *
              generalize hT x.t = hx' at *
              generalize hT y.t = hy' at *
              clear hO4 fx fy hK hp hbel
              go_wp2_with fail
              go_quiet (fail)
              have HBN : Hid (Below wq.heap.size wq (wr.drewN nq)) := Lib.hid ⟨HB5.out.os, HB5.out.tape, HB5.out.output, HB5.out.size, HB5.out.block⟩
              generalize wr.drewN nq = wn at HBN ⊢
              go_wp2_with fail
              go_roundw
              case rel => exact ⟨j + 1, by omega, by omega, by go_num, HBN.out⟩
              case measure => simp [intOf]; omega
            · obtain rfl : j = cntT t := by omega
              have HBL : Hid (Below w.heap.size w wr) := Lib.hid hO4.bel
              clear hO4 hbel
              go_wp2_with fail
              refine (awake_calls _).mono ?_
              rintro e w5 ⟨rfl, hb5⟩
              have HN5 : Hid (Below w.heap.size w w5) := Lib.hid (HBL.out.trans (hb5.mono HBL.out.size))
              clear hb5
              go_wp2_with fail
              go_ret
              exact ⟨rfl, HN5.out⟩
end Go.Proofs.Ytcacgbdnegmfnaa.Wk
