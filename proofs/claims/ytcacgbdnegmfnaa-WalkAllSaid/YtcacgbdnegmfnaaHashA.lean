/- hash.All: the numbers of all nodes. -/
import Derived.Test.YtcacgbdnegmfnaaHashN
import Derived.Test.YtcacgbdnegmfnaaPost
import Derived.Test.YtcacgbdnegmfnaaKin
import Derived.Deep.OwnRows
namespace Go.Proofs.Ytcacgbdnegmfnaa.Ha
open Go Go.RowKit Go.Proofs.Ytcacgbdnegmfnaa.Pl Go.Proofs.Ytcacgbdnegmfnaa.Tr
set_option linter.unusedVariables false

mutual
/-- A tree's number. -/
def treeH : Nd → BitVec 64 | .mk k n s al ks => nodeH k n s al (treesH ks)
def treesH : List Nd → List (BitVec 64) | [] => [] | t :: ts => treeH t :: treesH ts
end
theorem treesH_map : ∀ ts, treesH ts = ts.map treeH
  | [] => by unfold treesH; rfl
  | t :: ts => by unfold treesH; rw [treesH_map ts, List.map_cons]
theorem treesH_length (ts : List Nd) : (treesH ts).length = ts.length := by rw [treesH_map, List.length_map]
theorem preL_kid (id : Nat) (par dep pl : Int) : ∀ (ts : List Nd) (j : Nat) (u : Nd), ts[j]? = some u → ∃ y, (preL id par dep pl ts)[cntL (ts.take j)]? = some y ∧ y.t = u
  | [], j, u, h => by simp at h
  | t :: ts, 0, u, h => by
    simp at h; subst h
    rw [List.take_zero]
    unfold preL
    rw [show cntL [] = 0 by unfold cntL; rfl]
    cases t with
    | mk k n s al ks => exact ⟨⟨.mk k n s al ks, par, dep, pl⟩, by unfold preT; rfl, rfl⟩
  | t :: ts, j + 1, u, h => by
    obtain ⟨y, h1, h2⟩ := preL_kid (id + cntT t) par dep (pl + 1) ts j u (by simpa using h)
    refine ⟨y, ?_, h2⟩
    unfold preL
    have hl := preT_length id par dep pl t
    rw [List.take_succ_cons, show cntL (t :: ts.take j) = cntT t + cntL (ts.take j) by rw [cntL], List.getElem?_append_right (by omega), hl, Nat.add_sub_cancel_left]
    exact h1
mutual
theorem kid_T (id : Nat) (par dep pl : Int) : ∀ t (i : Nat) (x : Pn), (preT id par dep pl t)[i]? = some x → ∀ (j : Nat) (u : Nd), x.t.kids[j]? = some u → ∃ y, (preT id par dep pl t)[i + 1 + cntL (x.t.kids.take j)]? = some y ∧ y.t = u
  | .mk k n s al ks, i, x, h, j, u, hu => by
    unfold preT at h ⊢
    cases i with
    | zero =>
      simp at h; subst h
      rw [show 0 + 1 + cntL (List.take j (Nd.kids (Nd.mk k n s al ks))) = cntL (ks.take j) + 1 by rw [Nat.add_comm]; rfl, List.getElem?_cons_succ]
      exact preL_kid _ _ _ _ ks j u hu
    | succ i =>
      rw [List.getElem?_cons_succ] at h
      obtain ⟨y, h1, h2⟩ := kid_L (id + 1) id (dep + 1) 0 ks i x h j u hu
      exact ⟨y, by rw [show i + 1 + 1 + cntL (x.t.kids.take j) = (i + 1 + cntL (x.t.kids.take j)) + 1 by omega, List.getElem?_cons_succ]; exact h1, h2⟩
theorem kid_L (id : Nat) (par dep pl : Int) : ∀ ts (i : Nat) (x : Pn), (preL id par dep pl ts)[i]? = some x → ∀ (j : Nat) (u : Nd), x.t.kids[j]? = some u → ∃ y, (preL id par dep pl ts)[i + 1 + cntL (x.t.kids.take j)]? = some y ∧ y.t = u
  | [], i, x, h, j, u, hu => by unfold preL at h; simp at h
  | t :: ts, i, x, h, j, u, hu => by
    unfold preL at h ⊢
    rcases Nat.lt_or_ge i (preT id par dep pl t).length with hl | hl
    · rw [List.getElem?_append_left hl] at h
      obtain ⟨y, h1, h2⟩ := kid_T id par dep pl t i x h j u hu
      exact ⟨y, by rw [List.getElem?_append_left (List.getElem?_eq_some_iff.1 h1).1]; exact h1, h2⟩
    · rw [List.getElem?_append_right hl] at h
      obtain ⟨y, h1, h2⟩ := kid_L _ par dep (pl + 1) ts _ x h j u hu
      exact ⟨y, by rw [List.getElem?_append_right (by omega), show i + 1 + cntL (x.t.kids.take j) - (preT id par dep pl t).length = i - (preT id par dep pl t).length + 1 + cntL (x.t.kids.take j) by omega]; exact h1, h2⟩
end
/-- A node's kid, by its number. -/
theorem allP_kid {t : Nd} {i : Nat} {x : Pn} (h : (allP t)[i]? = some x) {j : Nat} {u : Nd} (hu : x.t.kids[j]? = some u) : ∃ y, (allP t)[i + 1 + cntL (x.t.kids.take j)]? = some y ∧ y.t = u := kid_T 0 (-1) 0 0 t i x h j u hu
theorem cntL_take_all (ks : List Nd) : cntL (ks.take ks.length) = cntL ks := by rw [List.take_length]
theorem cntL_take_lt {ks : List Nd} {j : Nat} {u : Nd} (h : ks[j]? = some u) : cntL (ks.take j) < cntL ks := by
  have h1 := cntL_take_succ h
  have h2 := cntT_pos u
  have h3 : cntL (ks.take (j + 1)) ≤ cntL ks := by
    clear h h1 h2
    induction ks generalizing j with
    | nil => simp
    | cons x xs ih =>
      rw [List.take_succ_cons]
      unfold cntL
      cases j with
      | zero => rw [List.take_zero, show cntL [] = 0 by unfold cntL; rfl]; omega
      | succ j => have := ih (j := j); omega
  omega
def u64v (x : BitVec 64) : Value := .int .u64 (un x)
def cellsU (l : List (BitVec 64)) : List Value := l.map u64v
theorem cellsU_length (l : List (BitVec 64)) : (cellsU l).length = l.length := List.length_map _
theorem cellsU_snoc (l : List (BitVec 64)) (x : BitVec 64) : cellsU (l ++ [x]) = cellsU l ++ [u64v x] := List.map_append
theorem u64_info : (Try.prog.info? 48).map (fun i => (i.zero, i.size, i.bytes)) = some (some (.int .u64 0), 1, 8) := by kernel_rfl
theorem rowU {B0 : Nat} {w : World} {v : Value} {l : List (BitVec 64)} {n : Nat} (h : w.ownsRow B0 48 1 v n (cellsU l)) : ∃ B cap, v = .slice B n cap ∧ ∀ (i : Nat) (x : BitVec 64), l[i]? = some x → ∃ g, B = some ⟨g, 0, none⟩ ∧ w.cell? ⟨g, i, none⟩ = some (.int .u64 (un x)) := by
  have hl := h.1
  rw [cellsU_length, Nat.mul_one] at hl
  rcases h.2 with ⟨h1, h2⟩ | ⟨g, cap, cur, h1, _⟩
  · refine ⟨none, 0, by rw [h1, h2], fun i x hx => ?_⟩
    have := (List.getElem?_eq_some_iff.1 hx).1
    omega
  · refine ⟨_, cap, h1, fun i x hx => ⟨g, rfl, ?_⟩⟩
    have := h.cells (g := g) (by rw [h1]; rfl) i (u64v x) (by unfold cellsU; rw [List.getElem?_map, hx]; rfl)
    rwa [add_flat, Nat.zero_add] at this
theorem treeH_eq (t : Nd) : nodeH t.kind t.name t.text t.attrs (treesH t.kids) = treeH t := by cases t; unfold treeH; rfl
/-- Strings that are not too long. -/
def shP (t : Nd) : Prop := t.name.size ≤ 6000 ∧ t.text.size ≤ 6000 ∧ (∀ a ∈ t.attrs, a.1.size ≤ 6000 ∧ a.2.size ≤ 6000) ∧ t.attrs.length ≤ 1000000
/-- The number that stands at i when the nodes from d on are done. -/
def cellAt (t : Nd) (d i : Nat) : Value := if i < d then .int .u64 0 else match (allP t)[i]? with | some x => u64v (treeH x.t) | none => .int .u64 0
/-- What holds at All's rounds. -/
structure HRel (t : Nd) (w1 : World) (g d : Nat) (wr : World) : Prop where
  row : wr.rowIs w1.heap.size 48 (cntT t) (cellAt t d)
  items : IRow g (allP t) (finOf (allP t)) w1
  glt : g < w1.heap.size
  bel : Below w1.heap.size w1 wr
def AllEnd (t : Nd) (w : World) (e : Ending) (w' : World) : Prop :=
  ∃ g, e = .returned (.slice (some ⟨g, 0, none⟩) (cntT t : Nat) (cntT t : Nat)) ∧ w.heap.size ≤ g ∧ g < w'.heap.size ∧ (∀ (i : Nat) (x : Pn), (allP t)[i]? = some x → w'.cell? ⟨g, i, none⟩ = some (.int .u64 (un (treeH x.t)))) ∧ Below w.heap.size w w'
set_option maxHeartbeats 4000000 in
set_option maxRecDepth 100000 in
theorem all_calls (t : Nd) (v0 v1 v2 v3 v4 : Value) (w : World) (h : IsTree w w.heap.size t v0 v1 v2 v3 v4) (hN : cntT t ≤ 1000000) (ht : attT t) (hsh : ∀ x ∈ allP t, shP x.t) :
    Calls Try.prog 27 #[.agg #[v0, v1, v2, v3, v4]] w (AllEnd t w) := by
  have HT : Hid (IsTree (w.alloc (.cells #[v0, v1, v2, v3, v4] 25)) (w.alloc (.cells #[v0, v1, v2, v3, v4] 25)).heap.size t v0 v1 v2 v3 v4) := Lib.hid (h.keep (fun p hp => World.cell?_of_block (Below.heap_alloc w _ p.block hp)) (by simp))
  have HB0 : Hid (Below w.heap.size w (w.alloc (.cells #[v0, v1, v2, v3, v4] 25))) := Lib.hid ((Below.refl _ w).alloc (Nat.le_refl _) _)
  have HSH := Lib.hid hsh
  clear h hsh
  go_enter Try.func27, Try.ntmps27
  go_wp2_with fail
  refine (flat_calls t v0 v1 v2 v3 v4 _ HT.out hN ht).mono ?_
  rintro e w1 ⟨g, cap, rfl, hc1, hc2, hg, hrow, hbel⟩
  have HB : Hid (Below w.heap.size w w1) := Lib.hid (HB0.out.trans (hbel.mono HB0.out.size))
  have hgl : g < w1.heap.size := by obtain ⟨cur, hc⟩ := hrow.blk; exact lt_of_block hc
  have hmk := fun W => run_make_row' (P := Try.prog) 46 48 (.int .u64 0) 8 Try.underlying46 u64_info rfl .i64 .i64 (cntT t) (by omega) (by omega) W
  have hpos := cntT_pos t
  have HR : Hid (HRel t w1 g (cntT t) (w1.alloc (.cells (madeCells #[.int .u64 0] (cntT t)) 48))) := Lib.hid
    ⟨(World.rowIs_made w1 (.int .u64 0) (cntT t) 48).congr fun i hi => by unfold cellAt; rw [if_pos hi], hrow, hgl, (Below.refl _ w1).alloc (Nat.le_refl _) _⟩
  clear hrow hbel hg HT HB0
  go_wp2_with fail
  clear hmk
  go_loopw [5] (fun i wr => ∃ d : Nat, d ≤ cntT t ∧ i = .int .i64 ((d : Int) - 1) ∧ HRel t w1 g d wr) (fun i _ => (intOf i + 1).toNat)
  case atStart => exact ⟨cntT t, Nat.le_refl _, rfl, HR.out⟩
  case round =>
    obtain ⟨d, hd, rfl, hR⟩ := hrel
    have HR2 := Lib.hid hR
    clear hR
    cases d with
    | zero =>
      go_wp2_with fail
      go_ret
      refine ⟨w1.heap.size, rfl, HB.out.size, HR2.out.row.lt, fun i x hx => ?_, HB.out.trans (HR2.out.bel.mono HB.out.size)⟩
      have hi : i < cntT t := by have := (List.getElem?_eq_some_iff.1 hx).1; rw [allP_length] at this; exact this
      have := HR2.out.row.cell hi
      unfold cellAt at this
      rw [if_neg (Nat.not_lt_zero _), hx] at this
      exact this
    | succ d =>
      rw [show ((d + 1 : Nat) : Int) - 1 = (d : Int) by omega]
      obtain ⟨x, hx⟩ : ∃ x, (allP t)[d]? = some x := ⟨_, List.getElem?_eq_getElem (by rw [allP_length]; omega)⟩
      obtain ⟨wq, hwq⟩ : ∃ q, q = wr := ⟨wr, rfl⟩
      subst hwq
      have hfin : ∀ (i : Nat) (y : Pn), (allP t)[i]? = some y → (finOf (allP t) i).1 = cntT y.t := fun i y hy => by unfold finOf; rw [hy]
      have hfits : ∀ (i : Nat) (y : Pn), (allP t)[i]? = some y → i + cntT y.t ≤ cntT t := fun i y hy => by obtain ⟨_, _, _, h3, _⟩ := idx_T 0 (-1) 0 0 t i y hy; exact h3
      have hFIN := Lib.hid hfin
      have hFIT := Lib.hid hfits
      have hcx : cntT x.t = cntL x.t.kids + 1 := (kids_node (id := 0) x.t).2.2
      have hdx := hfits d x hx
      clear hfin hfits
      go_wp2_with fail
      go_loopw [6, 7] (fun v k wr => ∃ m : Nat, m ≤ x.t.kids.length ∧ k = .int .i64 ((d + 1 + cntL (x.t.kids.take m) : Nat) : Int) ∧ wr.ownsRow wq.heap.size 48 1 v m (cellsU (treesH (x.t.kids.take m))) ∧ Below wq.heap.size wq wr) (fun _ k _ => cntT t + 1 - (intOf k).toNat)
      case atStart => exact ⟨0, Nat.zero_le _, by rw [List.take_zero, show cntL [] = 0 by unfold cntL; rfl]; go_num, ⟨rfl, .inl ⟨rfl, rfl⟩⟩, Below.refl _ _⟩
      case round =>
        obtain ⟨m, hm, rfl, hown, hbw⟩ := hrel
        have HBW := Lib.hid hbw
        have HOWN := Lib.hid hown
        have HIT := Lib.hid ((HR2.out.items.keep HR2.out.bel (Nat.le_refl _)).keep hbw (Nat.le_refl _))
        have hql := HR2.out.row.lt
        clear hbw hown
        obtain ⟨av, hav, z1, z2, e1, z3, z4, z5, e5, e6, e7, e8, e9⟩ := HIT.out.at_ d x hx
        rw [hFIN.out d x hx] at e1
        clear z1 z2 z3 z4 z5
        have hdt : (d : Int) < (cntT t : Int) := by omega
        have hw1 : IntKind.i64.wrap ((d : Int) + (cntT x.t : Int)) = (d : Int) + (cntT x.t : Int) := IntWalk.i64_in _ (by omega)
        rcases Nat.lt_or_ge m x.t.kids.length with hl | hl
        · obtain ⟨u, hu⟩ : ∃ u, x.t.kids[m]? = some u := ⟨_, List.getElem?_eq_getElem hl⟩
          obtain ⟨y, hy, rfl⟩ := allP_kid hx hu
          have hlt := cntL_take_lt hu
          have hnext := cntL_take_succ hu
          have hfy := hFIT.out _ y hy
          obtain ⟨bv, y0, y1, y2, b1, y3⟩ := HIT.out.at_ _ y hy
          rw [hFIN.out _ y hy] at b1
          clear y0 y1 y2 y3
          have hky : d + 1 + cntL (x.t.kids.take m) < cntT t := by have := cntT_pos y.t; omega
          have l0 : wr.cell? ⟨w1.heap.size, d + 1 + cntL (x.t.kids.take m), none⟩ = some (.int .u64 (un (treeH y.t))) := by
            have := HR2.out.row.cell hky
            unfold cellAt at this
            rw [if_neg (by omega), hy] at this
            exact (HBW.out.cell hql).trans this
          have HEQ : Hid (cellsU (treesH (x.t.kids.take (m + 1))) = cellsU (treesH (x.t.kids.take m)) ++ [u64v (treeH y.t)]) := Lib.hid (by rw [List.take_add_one, hu, treesH_map, treesH_map, List.map_append]; exact cellsU_snoc _ _)
          have HNX := Lib.hid hnext
          clear hnext
          generalize hkk : d + 1 + cntL (x.t.kids.take m) = kk at *
          have hk1 : (kk : Int) < (d : Int) + (cntT x.t : Int) := by omega
          have hk2 : (kk : Int) < (cntT t : Int) := by omega
          have hw2 : IntKind.i64.wrap ((kk : Int) + (cntT y.t : Int)) = (kk : Int) + (cntT y.t : Int) := IntWalk.i64_in _ (by omega)
          obtain ⟨i0, ii, hz0, hz1, hz2⟩ := info_parts u64_info
          have hml : m ≤ 1000000 := by have := cntL_ge x.t.kids; omega
          have HROW : Hid ((wr.alloc (.cells #[.int .u64 (un (treeH y.t))] 48)).ownsRow wq.heap.size 48 1 u6 m (cellsU (treesH (x.t.kids.take m)))) := Lib.hid (HOWN.out.alloc _)
          have HNEWS : Hid (∀ (j : Nat) u, [Value.int .u64 (un (treeH y.t))][j]? = some u → (wr.alloc (.cells #[.int .u64 (un (treeH y.t))] 48)).cell? ((⟨wr.heap.size, 0, none⟩ : Addr).add j) = some u) := Lib.hid fun j u hj => by
            rw [add_flat, Nat.zero_add, block_cell (alloc_new wr _)]; rw [← List.getElem?_toArray] at hj; exact hj
          have HONE : Hid (∀ u ∈ [Value.int .u64 (un (treeH y.t))], u.oneCell' = true) := Lib.hid (by simp [Value.oneCell'])
          have HBS : Hid (wq.heap.size ≤ (wr.alloc (.cells #[.int .u64 (un (treeH y.t))] 48)).heap.size) := Lib.hid (by have := HBW.out.size; simp; omega)
          go_wp2_with (at_builtin; refine wpList_append_own_at _ rfl (.tmp 38) (.tmp 43) 46 rfl wq.heap.size 48 i0 _ 1 8 Try.underlying46 ii hz0 hz1 hz2 rfl (by decide) u6 m (cellsU (treesH (x.t.kids.take m))) rfl HROW.out ⟨wr.heap.size, 0, none⟩ 1 1 [.int .u64 (un (treeH y.t))] rfl rfl HNEWS.out HONE.out (by unfold maxLen; omega) (by omega) HBS.out ?_)
          intro v' w5 h1 h2 h3 h4
          have HN5 : Hid (w5.ownsRow wq.heap.size 48 1 v' (m + 1) (cellsU (treesH (x.t.kids.take (m + 1))))) := Lib.hid (by rw [HEQ.out]; exact h1)
          have HB5 : Hid (Below wq.heap.size wq w5) := Lib.hid ((HBW.out.alloc HBW.out.size _).grown h2 HBS.out fun k hk => (HOWN.out.lt k hk).1)
          have b1' : w5.cell? ⟨g, kk * 10 + 1, none⟩ = some (.int .i64 (cntT y.t : Nat)) := by
            have hgi := hgl
            have : wq.cell? ⟨g, kk * 10 + 1, none⟩ = wr.cell? ⟨g, kk * 10 + 1, none⟩ := (HBW.out.cell (by show g < _; omega)).symm
            exact (HB5.out.cell (by show g < _; omega)).trans (this.trans b1)
          clear h1 h2 h3 h4 b1 l0 e1 e5 e6 e7 e8 e9
          go_wp2_with fail
          go_roundw
          case rel => exact ⟨m + 1, by omega, by rw [HNX.out]; go_num, HN5.out, HB5.out⟩
          case measure => simp [intOf]; have := cntT_pos y.t; omega
        · obtain rfl : m = x.t.kids.length := by omega
          have hcl : (d : Int) + (cntT x.t : Int) ≤ ((d + 1 + cntL (x.t.kids.take x.t.kids.length) : Nat) : Int) := by rw [List.take_length]; omega
          have hown2 := HOWN.out
          rw [List.take_length] at hown2
          obtain ⟨B, bc, rfl, hBc⟩ := rowU hown2
          obtain ⟨A, ac, rfl, hat⟩ := hav
          have hsp := HSH.out x (List.mem_of_getElem? hx)
          have HSP := Lib.hid hsp
          have hkl : (treesH x.t.kids).length ≤ 1000000 := by rw [treesH_length]; have := cntL_ge x.t.kids; omega
          have HND := Lib.hid (fun V (hV : V = Value.slice none 0 0) => node_calls x.t.kind x.t.name x.t.text x.t.attrs A ac V (treesH x.t.kids) B bc wr HSP.out.1 HSP.out.2.1 HSP.out.2.2.1 HSP.out.2.2.2 hkl hV hat hBc)
          have HLEN : Hid ((treesH x.t.kids).length = x.t.kids.length) := Lib.hid (treesH_length _)
          rw [HLEN.out] at HND
          have HIT2 := Lib.hid HIT.out
          clear hsp hat hBc hown2
          go_wp2_with fail
          refine (HND.out _ rfl).mono ?_
          rintro e w5 ⟨rfl, hb5⟩
          rw [treeH_eq]
          have HB5 : Hid (Below wq.heap.size wq w5) := Lib.hid (HBW.out.trans (hb5.mono HBW.out.size))
          have hri : w5.rowIs w1.heap.size 48 (cntT t) (cellAt t (d + 1)) := HR2.out.row.of_block (HB5.out.block _ hql)
          have l1 : w5.cell? ⟨w1.heap.size, d, none⟩ = some (.int .u64 0) := by have := hri.cell (i := d) (by omega); unfold cellAt at this; rw [if_pos (by omega)] at this; exact this
          have fz : w5.frozen? ⟨w1.heap.size, d, none⟩ = false := hri.frozen d
          have HN : Hid (HRel t w1 g d (w5.setCell ⟨w1.heap.size, d, none⟩ (.int .u64 (un (treeH x.t))))) := by
            refine Lib.hid ⟨(hri.set d _).congr fun i hi => ?_, ?_, hgl, ?_⟩
            · unfold cellAt
              by_cases e : i = d
              · subst e; rw [if_pos rfl, if_neg (Nat.lt_irrefl _), hx]; rfl
              · rw [if_neg e]
                by_cases h2 : i < d
                · rw [if_pos h2, if_pos (by omega)]
                · rw [if_neg h2, if_neg (by omega)]
            · exact HR2.out.items
            · exact (HR2.out.bel.trans (HB5.out.mono HR2.out.bel.size)).setCell (Nat.le_refl _) _
          clear hb5 hri e1 e5 e6 e7 e8 e9
          generalize hw6 : w5.setCell ⟨w1.heap.size, d, none⟩ (.int .u64 (un (treeH x.t))) = w6 at HN
          have HW6 := Lib.hid hw6
          clear hw6
          go_wp2_with fail
          rw [HW6.out]
          go_roundw
          case rel => exact ⟨d, by omega, by go_num, HN.out⟩
          case measure => simp [intOf]
end Go.Proofs.Ytcacgbdnegmfnaa.Ha
