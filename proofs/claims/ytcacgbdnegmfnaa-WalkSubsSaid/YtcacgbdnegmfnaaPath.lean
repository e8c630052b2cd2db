/- walk.Path: the places that lead to a node. -/
import Derived.Test.YtcacgbdnegmfnaaKin
import Derived.Test.YtcacgbdnegmfnaaPost
import Derived.Deep.OwnRows
import Derived.Deep.RegionLaw
import Derived.Laws.IdiomCopy
import Derived.WalkLawsBesides
import Derived.WalkSpells
namespace Go.Proofs.Ytcacgbdnegmfnaa.Tr
open Go Go.RowKit
set_option linter.unusedVariables false

/-- The places that lead to number j. -/
inductive IsPath (t : Nd) : Nat → List Nat → Prop
  | top : IsPath t 0 []
  | kid {j q pl : Nat} {x y : Pn} {l : List Nat} (hx : (allP t)[j]? = some x) (hy : (allP t)[q]? = some y) (hk : Kin j x q y) (hp : x.par = q) (hpl : x.pl = pl) (hq : IsPath t q l) : IsPath t j (l ++ [pl])
theorem path_ex (t : Nd) (j : Nat) : j < cntT t → ∃ l, IsPath t j l ∧ ∀ x, (allP t)[j]? = some x → x.dep = l.length := by
  induction j using Nat.strongRecOn with
  | ind j IH =>
  intro hj
  rcases Nat.eq_zero_or_pos j with rfl | h0
  · exact ⟨[], .top, fun x hx => by rw [allP_zero] at hx; injection hx with hx; subst hx; rfl⟩
  · obtain ⟨x, hx⟩ : ∃ x, (allP t)[j]? = some x := ⟨_, List.getElem?_eq_getElem (by rw [allP_length]; omega)⟩
    obtain ⟨q, y, hp, hy, hK⟩ := allP_kin t j x hx h0
    obtain ⟨l, hl, hd⟩ := IH q hK.lt (by have := hK.lt; omega)
    obtain ⟨i, hi, _⟩ := hK.kid
    refine ⟨l ++ [i], .kid hx hy hK hp hi hl, fun x' hx' => ?_⟩
    rw [hx] at hx'; injection hx' with hx'; subst hx'
    rw [hK.dep, hd y hy, List.length_append]; rfl
theorem path_inv {t : Nd} {j d : Nat} {l : List Nat} (h : IsPath t j (l.take (d + 1))) (hd : d < l.length) : ∃ (q : Nat) (x y : Pn), (allP t)[j]? = some x ∧ (allP t)[q]? = some y ∧ Kin j x q y ∧ x.par = q ∧ x.pl = (l[d]?.getD 0 : Nat) ∧ IsPath t q (l.take d) := by
  generalize hm : l.take (d + 1) = m at h
  cases h with
  | top =>
    have := congrArg List.length hm
    rw [List.length_take, List.length_nil] at this
    omega
  | kid hx hy hk hp hpl hq =>
    rename_i q pl x y l'
    have e : l.take (d + 1) = l.take d ++ [l[d]] := by rw [List.take_add_one, List.getElem?_eq_getElem hd]; rfl
    rw [e] at hm
    obtain ⟨h1, h2⟩ := List.append_inj' hm rfl
    injection h2 with h2
    subst h1
    exact ⟨q, x, y, hx, hy, hk, hp, by rw [hpl, ← h2, List.getElem?_eq_getElem hd]; rfl, hq⟩
theorem step_copy1 {P : Program} {ops : Array Oper} {o : Oper} {a : Act} {w : World} {K : Act → World → Prop} {Q : Exit → Act → World → Prop} {E : Prop}
    (hg : o.guard = none) (d x : Operand) (dT sT : TypeId) (hop : o.op = Op.call { callee := Callee.builtin Builtin.copy, args := #[d, x], argTypes := #[dT, sT] })
    (elem : TypeId) (hu : P.underlying dT = some (.slice elem)) (hs : (P.info? elem).map (·.size) = some 1) (b off dc : Nat) (ad : Addr) (sc : Nat) (v : Value)
    (hd : a.eval d = .slice (some ⟨b, off, none⟩) 1 dc) (hx : a.eval x = .slice (some ad) 1 sc) (hsrc : w.cell? ad = some v) (hc : (w.cell? ⟨b, off, none⟩).isSome = true) (hf : w.frozen? ⟨b, off, none⟩ = false) (h1 : v.oneCell' = true)
    (hK : K (a.put o.dst (goInt 1)) (w.setCell ⟨b, off, none⟩ v)) :
    if Region.wanted o (yielded ops a.tmps) = true then Oper.wp P o a w K Q else E := by
  have hw : Region.wanted o (yielded ops a.tmps) = true := by simp [Region.wanted, hg]
  rw [if_pos hw]
  have hr := run_copy_cells (P := P) w dT sT o.type elem b off 1 dc ad 1 sc [v] hu hs rfl
    (fun j u hj => by
      cases j with
      | zero => simp at hj; subst hj; simpa [Addr.add] using hsrc
      | succ j => simp at hj)
    (fun j hj => by
      obtain rfl : j = 0 := by simpa using hj
      exact hc)
    (fun j hj => by
      obtain rfl : j = 0 := by simpa using hj
      exact hf)
    (fun u hu => by simp at hu; subst hu; exact h1)
  unfold Oper.wp
  simp [execOp, hop, resolve, invoke, builtin, hd, hx, hr, Result.andThen]
  exact hK

def PathEnd (t : Nd) (id : Int) (w : World) (e : Ending) (w' : World) : Prop :=
  Below w.heap.size w w' ∧ ((¬ (0 ≤ id ∧ id < cntT t) ∧ e = .returned (.slice none 0 0)) ∨
    (0 ≤ id ∧ id < cntT t ∧ ∃ l, IsPath t id.toNat l ∧ (∀ x, (allP t)[id.toNat]? = some x → x.dep = l.length) ∧
      ((l = [] ∧ e = .returned (.slice none 0 0)) ∨ (l ≠ [] ∧ ∃ g, e = .returned (.slice (some ⟨g, 0, none⟩) (l.length : Nat) (l.length : Nat)) ∧ w.heap.size ≤ g ∧ g < w'.heap.size ∧ ∀ (i x : Nat), l[i]? = some x → w'.cell? ⟨g, i, none⟩ = some (.int .i64 (x : Int))))))
/-- What holds at each round: the number, and what is laid already. -/
structure ARel (t : Nd) (wc : World) (g : Nat) (l : List Nat) (d j : Nat) (wr : World) : Prop where
  way : IsPath t j (l.take d)
  dep : ∀ x, (allP t)[j]? = some x → x.dep = d
  lt : j < cntT t ∧ d ≤ l.length
  row : wr.rowIs wc.heap.size 3 l.length (fun i => .int .i64 (if i < d then 0 else (l[i]?.getD 0 : Nat) : Int))
  bel : Below wc.heap.size wc wr
theorem HR2_size {t : Nd} {wc : World} {g : Nat} {l : List Nat} {d j : Nat} {wr : World} (h : ARel t wc g l d j wr) : wc.heap.size < wr.heap.size := h.row.lt
set_option maxHeartbeats 4000000 in
set_option maxRecDepth 100000 in
theorem path_calls (t : Nd) (v0 v1 v2 v3 v4 : Value) (id : Int) (w : World) (h : IsTree w w.heap.size t v0 v1 v2 v3 v4) (hN : cntT t ≤ 1000000) (ht : attT t) :
    Calls Try.prog 23 #[.agg #[v0, v1, v2, v3, v4], .int .i64 id] w (PathEnd t id w) := by
  have HT : Hid (IsTree (w.alloc (.cells #[v0, v1, v2, v3, v4] 25)) (w.alloc (.cells #[v0, v1, v2, v3, v4] 25)).heap.size t v0 v1 v2 v3 v4) := Lib.hid (h.keep (fun p hp => World.cell?_of_block (Below.heap_alloc w _ p.block hp)) (by simp))
  have HB0 : Hid (Below w.heap.size w (w.alloc (.cells #[v0, v1, v2, v3, v4] 25))) := Lib.hid ((Below.refl _ w).alloc (Nat.le_refl _) _)
  clear h
  go_enter Try.func23, Try.ntmps23
  go_wp2_with fail
  refine (flat_calls t v0 v1 v2 v3 v4 _ HT.out hN ht).mono ?_
  rintro e w1 ⟨g, cap, rfl, hc1, hc2, hg, hrow, hbel⟩
  have HB : Hid (Below w.heap.size w w1) := Lib.hid (HB0.out.trans (hbel.mono HB0.out.size))
  have HR := Lib.hid hrow
  have hgl : g < w1.heap.size := by obtain ⟨cur, hc⟩ := hrow.blk; exact lt_of_block hc
  clear hrow hbel hg HT HB0
  by_cases h0 : id < 0
  · go_wp2_with fail
    go_ret
    exact ⟨HB.out, .inl ⟨by omega, rfl⟩⟩
  by_cases h1 : (cntT t : Int) ≤ id
  · have h00 : (0 : Int) ≤ id := by omega
    go_wp2_with fail
    go_ret
    exact ⟨HB.out, .inl ⟨by omega, rfl⟩⟩
  obtain ⟨j0, rfl⟩ : ∃ j : Nat, id = j := ⟨id.toNat, by omega⟩
  have hj0 : j0 < cntT t := by omega
  obtain ⟨l, hl, hdep⟩ := path_ex t j0 hj0
  obtain ⟨x0, hx0⟩ : ∃ x, (allP t)[j0]? = some x := ⟨_, List.getElem?_eq_getElem (by rw [allP_length]; omega)⟩
  obtain ⟨av, z1, z2, z3, z4, d2, z5⟩ := HR.out.at_ j0 x0 hx0
  clear z1 z2 z3 z4 z5
  rw [hdep x0 hx0] at d2
  obtain ⟨dd, hd1, hd2, z6⟩ := idx_T 0 (-1) 0 0 t j0 x0 hx0
  have hll : l.length < cntT t := by have := hdep x0 hx0; omega
  have hjt : (j0 : Int) < (cntT t : Int) := by omega
  have hmk := fun W => run_make_row' (P := Try.prog) 30 3 (.int .i64 0) 8 Try.underlying30 int_info rfl .i64 .i64 l.length (by omega) (by omega) W
  have HRI : Hid (ARel t w1 g l l.length j0 (w1.alloc (.cells (madeCells #[.int .i64 0] l.length) 3))) := Lib.hid ⟨by rw [List.take_length]; exact hl, hdep, ⟨hj0, Nat.le_refl _⟩, (World.rowIs_made w1 (.int .i64 0) l.length 3).congr fun i hi => by rw [if_pos hi], (Below.refl _ w1).alloc (Nat.le_refl _) _⟩
  have HL := Lib.hid hl
  have HD := Lib.hid hdep
  clear hl hdep hd1 hd2 z6
  go_wp2_with fail
  clear hmk d2
  go_loopw [1, 7] (fun idv i wr => ∃ (d j : Nat), i = .int .i64 ((d : Int) - 1) ∧ idv = .int .i64 (j : Int) ∧ ARel t w1 g l d j wr) (fun _ i _ => (intOf i + 1).toNat)
  case atStart => exact ⟨l.length, j0, rfl, rfl, HRI.out⟩
  case round =>
    obtain ⟨d, j, rfl, rfl, hR⟩ := hrel
    cases d with
    | zero =>
      have HR2 := Lib.hid hR
      clear hR
      cases l with
      | nil =>
        go_wp2_with fail
        go_ret
        exact ⟨HB.out.trans (HR2.out.bel.mono HB.out.size), .inr ⟨by omega, by omega, [], HL.out, HD.out, .inl ⟨rfl, rfl⟩⟩⟩
      | cons x l =>
        go_wp2_with fail
        go_ret
        refine ⟨HB.out.trans (HR2.out.bel.mono HB.out.size), .inr ⟨by omega, by omega, x :: l, HL.out, HD.out, .inr ⟨by simp, w1.heap.size, rfl, HB.out.size, HR2.out.row.lt, fun i y hy => ?_⟩⟩⟩
        have := HR2.out.row.cell (i := i) (List.getElem?_eq_some_iff.1 hy).1
        rw [if_neg (Nat.not_lt_zero _), hy] at this
        exact this
    | succ d =>
      rw [show ((d + 1 : Nat) : Int) - 1 = (d : Int) by omega]
      obtain ⟨hjl, hdl⟩ := hR.lt
      obtain ⟨q, x, y, hx, hy, hK, hp, hpl, hq⟩ := path_inv hR.way (by omega)
      have hdx := hR.dep x hx
      have hdy : y.dep = d := by have := hK.dep; omega
      obtain ⟨av, z1, z2, d0, z4, z5, z6, d4, z7⟩ := (HR.out.keep hR.bel (Nat.le_refl _)).at_ j x hx
      clear z1 z2 z4 z5 z6 z7
      rw [hp] at d0
      rw [hpl] at d4
      have hjt2 : (j : Int) < (cntT t : Int) := by omega
      have hdl2 : (d : Int) < (l.length : Int) := by omega
      have r0 : wr.cell? ⟨w1.heap.size, d, none⟩ = some (.int .i64 0) := by have := hR.row.cell (i := d) (by omega); rw [if_pos (by omega)] at this; exact this
      have fz : wr.frozen? ⟨w1.heap.size, d, none⟩ = false := hR.row.frozen d
      have hwl := HR2_size hR
      have hwd : IntKind.i64.wrap ((d : Int) + 1) = (d : Int) + 1 := IntWalk.i64_in _ (by omega)
      have htn : ((d : Int) + 1).toNat = d + 1 := by omega
      have hne : ¬ l.length = d := by omega
      have hle : (d : Int) + 1 ≤ (l.length : Int) := by omega
      have h0d : (0 : Int) ≤ (d : Int) + 1 := by omega
      have HR2 := Lib.hid hR
      have HQ := Lib.hid hq
      generalize hgd : (l[d]?.getD 0) = pl at d4 hpl
      have HPL := Lib.hid hgd
      clear hgd
      clear hR hq
      go_wp2_with fail
      have HSRC : Hid (((wr.alloc (.cells #[.int .i64 (pl : Int)] 3)).drew).cell? ⟨wr.heap.size, 0, none⟩ = some (.int .i64 (pl : Int))) := Lib.hid (by
        show (wr.alloc _).cell? _ = _
        rw [block_cell (alloc_new wr _)]; rfl)
      have HC : Hid ((((wr.alloc (.cells #[.int .i64 (pl : Int)] 3)).drew).cell? ⟨w1.heap.size, d, none⟩).isSome = true) := Lib.hid (by
        show ((wr.alloc _).cell? _).isSome = true
        rw [World.cell?_of_block (Below.heap_alloc wr _ _ hwl), r0]; rfl)
      have HF : Hid (((wr.alloc (.cells #[.int .i64 (pl : Int)] 3)).drew).frozen? ⟨w1.heap.size, d, none⟩ = false) := Lib.hid (by
        show (wr.alloc _).frozen? _ = false
        rw [World.frozen?_of_block (Below.heap_alloc wr _ _ hwl)]; exact fz)
      go_region_law (refine step_copy1 rfl (.tmp 35) (.tmp 41) 30 30 rfl 3 Try.underlying30 (by kernel_rfl) w1.heap.size d (l.length - d) ⟨wr.heap.size, 0, none⟩ 1 (.int .i64 (pl : Int)) rfl rfl HSRC.out HC.out HF.out rfl ?_)
      have HN : Hid (ARel t w1 g l d q (((wr.setCell ⟨w1.heap.size, d, none⟩ (.int .i64 (pl : Int))).alloc (.cells #[.int .i64 (pl : Int)] 3)).drew)) := by
        refine Lib.hid ⟨HQ.out, fun x' hx' => ?_, ⟨by have := hK.lt; omega, by omega⟩, ?_, ?_⟩
        · rw [hy] at hx'; injection hx' with hx'; rw [← hx']; exact hdy
        · refine (((HR2.out.row.set d (.int .i64 (pl : Int))).congr fun i hi => ?_).alloc _).drew
          by_cases e : i = d
          · subst e
            rw [if_pos rfl, if_neg (Nat.lt_irrefl _), HPL.out]
          · rw [if_neg e]
            by_cases h2 : i < d
            · rw [if_pos h2, if_pos (by omega)]
            · rw [if_neg h2, if_neg (by omega)]
        · exact ((HR2.out.bel.setCell (p := ⟨w1.heap.size, d, none⟩) (Nat.le_refl _) _).alloc (by simp; omega) _).drew
      have d0' : (((wr.setCell ⟨w1.heap.size, d, none⟩ (.int .i64 (pl : Int))).alloc (.cells #[.int .i64 (pl : Int)] 3)).drew).cell? ⟨g, j * 10, none⟩ = some (.int .i64 (q : Int)) := by
        have hgw : g < wr.heap.size := by omega
        rw [← d0]
        exact World.cell?_of_block ((Below.heap_alloc _ _ g (by simp; omega)).trans (Below.heap_setCell wr _ _ g (by show g ≠ w1.heap.size; omega)))
      generalize ((wr.setCell ⟨w1.heap.size, d, none⟩ (.int .i64 (pl : Int))).alloc (.cells #[.int .i64 (pl : Int)] 3)).drew = w5 at HN d0' ⊢
      clear d0 d4 r0 fz HSRC HC HF
      go_wp2_with fail
      go_roundw
      case rel => exact ⟨d, q, by go_num, rfl, HN.out⟩
      case measure => simp [intOf]
end Go.Proofs.Ytcacgbdnegmfnaa.Tr
