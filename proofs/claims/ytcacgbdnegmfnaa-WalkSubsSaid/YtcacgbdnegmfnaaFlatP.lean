/- What Flat leaves: nodes in a row. Plain laws, and laws of the row. -/
import Derived.Test.YtcacgbdnegmfnaaHt
import Derived.Test.YtcacgbdnegmfnaaFlatC
namespace Go.Proofs.Ytcacgbdnegmfnaa.Tr
open Go Go.RowKit
set_option linter.unusedVariables false

mutual
theorem hT_le : ∀ t, hT t ≤ cntT t
  | .mk k n s al ks => by unfold hT cntT; have := hL_le ks; omega
theorem hL_le : ∀ ts, hL ts ≤ cntL ts
  | [] => Nat.le_refl _
  | t :: ts => by unfold hL cntL; have := hT_le t; have := hL_le ts; omega
end
mutual
theorem preT_cnt (id : Nat) (par dep pl : Int) : ∀ t, ∀ x ∈ preT id par dep pl t, cntT x.t ≤ cntT t
  | .mk k n s al ks => by
    unfold preT
    intro x hx
    rcases List.mem_cons.1 hx with rfl | hx
    · exact Nat.le_refl _
    · have := preL_cnt (id + 1) id (dep + 1) 0 ks x hx
      rw [show cntT (.mk k n s al ks) = cntL ks + 1 by unfold cntT; rfl]; omega
theorem preL_cnt (id : Nat) (par dep pl : Int) : ∀ ts, ∀ x ∈ preL id par dep pl ts, cntT x.t ≤ cntL ts
  | [] => by unfold preL; simp
  | t :: ts => by
    unfold preL
    intro x hx
    rw [show cntL (t :: ts) = cntT t + cntL ts by rw [cntL]]
    rcases List.mem_append.1 hx with hx | hx
    · have := preT_cnt id par dep pl t x hx; omega
    · have := preL_cnt _ par dep (pl + 1) ts x hx; omega
end
mutual
theorem preT_par (id p : Nat) (dep pl : Int) (hp : p < id) : ∀ t, ∀ (i : Nat) (x : Pn), (preT id p dep pl t)[i]? = some x → 0 ≤ x.par ∧ x.par < ((id + i : Nat) : Int)
  | .mk k n s al ks => by
    unfold preT
    intro i x hx
    cases i with
    | zero => simp at hx; subst hx; exact ⟨Int.natCast_nonneg p, by show (p : Int) < _; omega⟩
    | succ i =>
      have := preL_par (id + 1) id (dep + 1) 0 (by omega) ks i x (by simpa using hx)
      exact ⟨this.1, by have := this.2; omega⟩
theorem preL_par (id p : Nat) (dep pl : Int) (hp : p < id) : ∀ ts, ∀ (i : Nat) (x : Pn), (preL id p dep pl ts)[i]? = some x → 0 ≤ x.par ∧ x.par < ((id + i : Nat) : Int)
  | [] => by unfold preL; simp
  | t :: ts => by
    unfold preL
    intro i x hx
    have hlen := preT_length id p dep pl t
    rcases Nat.lt_or_ge i (preT id p dep pl t).length with h | h
    · rw [List.getElem?_append_left h] at hx
      exact preT_par id p dep pl hp t i x hx
    · rw [List.getElem?_append_right h] at hx
      have := preL_par (id + cntT t) p dep (pl + 1) (by omega) ts _ x hx
      refine ⟨this.1, ?_⟩
      have h2 := this.2
      rw [hlen] at h2
      omega
end
theorem allP_par (t : Nd) (i : Nat) (x : Pn) (h : (allP t)[i]? = some x) (hi : 0 < i) : ∃ p : Nat, x.par = p ∧ p < i ∧ parOf (allP t) i = p := by
  have hp : 0 ≤ x.par ∧ x.par < i := by
    cases t with
    | mk k n s al ks =>
      unfold allP preT at h
      obtain ⟨j, rfl⟩ : ∃ j, i = j + 1 := ⟨i - 1, by omega⟩
      have := preL_par 1 0 (0 + 1) 0 (by omega) ks j x (by simpa using h)
      exact ⟨this.1, by have := this.2; omega⟩
  refine ⟨x.par.toNat, by omega, by omega, ?_⟩
  unfold parOf; rw [h]
theorem st_le (t : Nd) (i j : Nat) (hi : 1 ≤ i) (hn : i ≤ cntT t) (hj : j < cntT t) : (stAt t i j).1 ≤ cntT t ∧ (stAt t i j).2 ≤ cntT t := by
  have h1 := goDown_mono (parOf (allP t)) 1 (i - 1) (stAt t i) j
  have e : goDown (parOf (allP t)) 1 (i - 1) (stAt t i) = stAt t 1 := by
    unfold stAt
    rw [show cntT t - 1 = (i - 1) + (cntT t - i) by omega, goDown_add, show 1 + (i - 1) = i by omega]
  rw [e, stAt_one t j hj] at h1
  have h2 : (finOf (allP t) j).1 ≤ cntT t ∧ (finOf (allP t) j).2 ≤ cntT t := by
    unfold finOf
    cases hx : (allP t)[j]? with
    | none => exact ⟨Nat.zero_le _, Nat.zero_le _⟩
    | some x =>
      have h3 := preT_cnt 0 (-1) 0 0 t x (List.mem_of_getElem? hx)
      have h4 := hT_le x.t
      exact ⟨h3, by show hT x.t ≤ _; omega⟩
  omega

/-- The nodes l in a row, with such sizes and heights. -/
structure IRow (g : Nat) (l : List Pn) (st : St2) (w : World) : Prop where
  blk : ∃ cur, w.heap[g]? = some (.cells cur 33 (0, 0))
  at_ : ∀ (i : Nat) (x : Pn), l[i]? = some x → ∃ av, AttrV w x.t.attrs av ∧ av.ownBlock ≠ some g ∧ w.cell? ⟨g, i * 10, none⟩ = some (.int .i64 x.par) ∧ w.cell? ⟨g, i * 10 + 1, none⟩ = some (.int .i64 (st i).1) ∧ w.cell? ⟨g, i * 10 + 2, none⟩ = some (.int .i64 x.dep) ∧
    w.cell? ⟨g, i * 10 + 3, none⟩ = some (.int .i64 (st i).2) ∧ w.cell? ⟨g, i * 10 + 4, none⟩ = some (.int .i64 x.pl) ∧ w.cell? ⟨g, i * 10 + 5, none⟩ = some (.int .i64 x.t.kind) ∧ w.cell? ⟨g, i * 10 + 6, none⟩ = some (.string x.t.name) ∧ w.cell? ⟨g, i * 10 + 7, none⟩ = some (.string x.t.text) ∧
    w.cell? ⟨g, i * 10 + 8, none⟩ = some av ∧ w.cell? ⟨g, i * 10 + 9, none⟩ = some (.slice none 0 0)
theorem IRow.keep {g : Nat} {l : List Pn} {st : St2} {w w' : World} {B : Nat} (h : IRow g l st w) (hb : Below B w w') (hB : w.heap.size ≤ B) : IRow g l st w' := by
  obtain ⟨cur, hc⟩ := h.blk
  have hg : g < w.heap.size := lt_of_block hc
  have hk : w'.heap[g]? = w.heap[g]? := hb.block g (by omega)
  refine ⟨⟨cur, hk.trans hc⟩, fun i x hx => ?_⟩
  obtain ⟨av, ha, hn, c0, c1, c2, c3, c4, c5, c6, c7, c8, c9⟩ := h.at_ i x hx
  have kc : ∀ o, w'.cell? ⟨g, o, none⟩ = w.cell? ⟨g, o, none⟩ := fun o => World.cell?_of_block hk
  refine ⟨av, ?_, hn, (kc _).trans c0, (kc _).trans c1, (kc _).trans c2, (kc _).trans c3, (kc _).trans c4, (kc _).trans c5, (kc _).trans c6, (kc _).trans c7, (kc _).trans c8, (kc _).trans c9⟩
  obtain ⟨A, ac, rfl, hat⟩ := ha
  exact ⟨A, ac, rfl, hat.keep (fun p hp => hb.cell (by omega)) hb.size⟩
theorem IRow.drew {g : Nat} {l : List Pn} {st : St2} {w : World} (h : IRow g l st w) : IRow g l st w.drew := h.keep ((Below.refl w.heap.size w).drew) (Nat.le_refl _)
theorem IRow.free {g : Nat} {l : List Pn} {st : St2} {w : World} (h : IRow g l st w) (o : Nat) : w.frozen? ⟨g, o, none⟩ = false := by
  obtain ⟨cur, hc⟩ := h.blk
  exact Lib.frozen_of_heap hc o
/-- A size, or a height, set. -/
theorem IRow.set {g : Nat} {l : List Pn} {st : St2} {w : World} (h : IRow g l st w) (p : Nat) (hp : p < l.length) (q : Nat) (a : Nat) (hq : q = 1 ∨ q = 3) :
    IRow g l (fun j => if j = p then (if q = 1 then (a, (st p).2) else ((st p).1, a)) else st j) (w.setCell ⟨g, p * 10 + q, none⟩ (.int .i64 a)) := by
  obtain ⟨cur, hc⟩ := h.blk
  refine ⟨⟨cur.setIfInBounds (p * 10 + q) (.int .i64 a), ?_⟩, fun i x hx => ?_⟩
  · simp only [World.setCell, Array.getElem?_modify, ↓reduceIte, hc, Option.map_some]
    rfl
  obtain ⟨av, ha, hn, c0, c1, c2, c3, c4, c5, c6, c7, c8, c9⟩ := h.at_ i x hx
  have other : ∀ o, o ≠ p * 10 + q → (w.setCell ⟨g, p * 10 + q, none⟩ (.int .i64 a)).cell? ⟨g, o, none⟩ = w.cell? ⟨g, o, none⟩ := fun o ho =>
    World.cell?_setCell_other _ _ _ _ (fun e => by injection e with _ e; exact ho e.symm)
  have hav : AttrV (w.setCell ⟨g, p * 10 + q, none⟩ (.int .i64 a)) x.t.attrs av := ha.keep (fun k hk => Below.heap_setCell w _ _ k (fun e => hn (by rw [hk, e]))) (by simp)
  refine ⟨av, hav, hn, (other _ (by omega)).trans c0, ?_, (other _ (by omega)).trans c2, ?_, (other _ (by omega)).trans c4, (other _ (by omega)).trans c5, (other _ (by omega)).trans c6, (other _ (by omega)).trans c7, (other _ (by omega)).trans c8, (other _ (by omega)).trans c9⟩
  · by_cases hi : i = p ∧ q = 1
    · obtain ⟨rfl, rfl⟩ := hi
      rw [World.cell?_setCell_same _ _ _ c1, if_pos rfl, if_pos rfl]
    · rw [other _ (by omega), c1]
      by_cases hip : i = p
      · subst hip
        rw [if_pos rfl, if_neg (fun e => hi ⟨rfl, e⟩)]
      · rw [if_neg hip]
  · by_cases hi : i = p ∧ q = 3
    · obtain ⟨rfl, rfl⟩ := hi
      rw [World.cell?_setCell_same _ _ _ c3, if_pos rfl, if_neg (by omega)]
    · rw [other _ (by omega), c3]
      by_cases hip : i = p
      · subst hip
        rw [if_pos rfl, if_pos (by rcases hq with e | e; exact e; exact absurd ⟨rfl, e⟩ hi)]
      · rw [if_neg hip]
end Go.Proofs.Ytcacgbdnegmfnaa.Tr
