/- How many nodes, how high: reckoned from the last node to the first, each into its parent. Plain Lean. -/
import Derived.Test.YtcacgbdnegmfnaaPre
namespace Go.Proofs.Ytcacgbdnegmfnaa.Tr
open Go Go.RowKit

mutual
def hT : Nd → Nat | .mk _ _ _ _ ks => hL ks + 1
def hL : List Nd → Nat | [] => 0 | t :: ts => max (hT t) (hL ts)
end
abbrev St2 := Nat → Nat × Nat
/-- Node i's numbers into its parent's. -/
def upd (S : St2) (p i : Nat) : St2 := fun j => if j = p then ((S p).1 + (S i).1, max (S p).2 ((S i).2 + 1)) else S j
/-- From hi - 1 down to lo. -/
def goDown (par : Nat → Nat) (lo : Nat) : Nat → St2 → St2
  | 0, S => S
  | k + 1, S => goDown par lo k (upd S (par (lo + k)) (lo + k))
theorem goDown_add (par : Nat → Nat) (lo a : Nat) : ∀ (b : Nat) (S : St2), goDown par lo (a + b) S = goDown par lo a (goDown par (lo + a) b S)
  | 0, S => rfl
  | b + 1, S => by
    show goDown par lo (a + b) (upd S (par (lo + (a + b))) (lo + (a + b))) = _
    rw [goDown_add par lo a b]
    show _ = goDown par lo a (goDown par (lo + a) b (upd S (par (lo + a + b)) (lo + a + b)))
    rw [show lo + (a + b) = lo + a + b by omega]

section
variable (all : List Pn)
def parOf (j : Nat) : Nat := match all[j]? with | some x => x.par.toNat | none => 0
def finOf (j : Nat) : Nat × Nat := match all[j]? with | some x => (cntT x.t, hT x.t) | none => (0, 0)
/-- What the nodes from lo on, n of them, all with parent p at the top, leave. -/
structure Left (lo n p dc dh : Nat) (S S' : St2) : Prop where
  out : ∀ j, j ≠ p → ¬ (lo ≤ j ∧ j < lo + n) → S' j = S j
  par : S' p = ((S p).1 + dc, max (S p).2 (dh + 1))
  fin : ∀ j, lo ≤ j → j < lo + n → S' j = finOf all j
def Seg (lo : Nat) (l : List Pn) : Prop := ∀ i x, l[i]? = some x → all[lo + i]? = some x
variable {all}
theorem Seg.left {lo : Nat} {a b : List Pn} (h : Seg all lo (a ++ b)) : Seg all lo a := fun i x hx => h i x (by rw [List.getElem?_append_left (List.getElem?_eq_some_iff.1 hx).1]; exact hx)
theorem Seg.right {lo : Nat} {a b : List Pn} (h : Seg all lo (a ++ b)) : Seg all (lo + a.length) b := fun i x hx => by
  have := h (a.length + i) x (by rw [List.getElem?_append_right (by omega), Nat.add_sub_cancel_left]; exact hx)
  rwa [← Nat.add_assoc] at this
mutual
theorem left_T (id p : Nat) (dep pl : Int) (S : St2) (hp : p < id) : ∀ t, Seg all id (preT id p dep pl t) → (∀ j, id ≤ j → j < id + cntT t → S j = (1, 1)) → 1 ≤ (S p).2 →
    Left all id (cntT t) p (cntT t) (hT t) S (goDown (parOf all) id (cntT t) S)
  | .mk k n s al ks, hs, h1, hh => by
    unfold preT at hs
    have hs0 := hs 0 _ rfl
    have hs1 : Seg all (id + 1) (preL (id + 1) id (dep + 1) 0 ks) := fun i x hx => by
      have := hs (i + 1) x hx
      rwa [show id + (i + 1) = id + 1 + i by omega] at this
    have hc : cntT (.mk k n s al ks) = 1 + cntL ks := by unfold cntT; omega
    have hht : hT (.mk k n s al ks) = hL ks + 1 := by unfold hT; rfl
    have L := left_L (id + 1) id (dep + 1) 0 S (by omega) ks hs1 (fun j a b => h1 j (by omega) (by omega)) (by rw [h1 id (by omega) (by omega)]; exact Nat.le_refl _)
    rw [hc, goDown_add]
    generalize goDown (parOf all) (id + 1) (cntL ks) S = S1 at L
    have hid : S1 id = (cntL ks + 1, hL ks + 1) := by
      rw [L.par, h1 id (by omega) (by omega)]
      show (1 + cntL ks, max 1 (hL ks + 1)) = _
      rw [show max 1 (hL ks + 1) = hL ks + 1 by omega, Nat.add_comm]
    have hp1 : S1 p = S p := L.out p (by omega) (by omega)
    have hpar : parOf all id = p := by unfold parOf; rw [show all[id]? = _ from hs0]; simp
    have hfin : finOf all id = (cntL ks + 1, hL ks + 1) := by
      unfold finOf; rw [show all[id]? = _ from hs0]
      show (cntT _, hT _) = _
      rw [hc, hht, Nat.add_comm]
    show Left all id (1 + cntL ks) p (1 + cntL ks) _ S (upd S1 (parOf all (id + 0)) (id + 0))
    rw [Nat.add_zero, hpar, hht]
    refine ⟨fun j a b => ?_, ?_, fun j a b => ?_⟩
    · unfold upd; rw [if_neg a]
      exact L.out j (by omega) (by omega)
    · unfold upd; rw [if_pos rfl, hp1, hid, Nat.add_comm (cntL ks) 1]
    · unfold upd; rw [if_neg (by omega)]
      rcases Nat.lt_or_ge id j with hl | hl
      · exact L.fin j hl (by omega)
      · obtain rfl : j = id := by omega
        rw [hid, hfin]
theorem left_L (id p : Nat) (dep pl : Int) (S : St2) (hp : p < id) : ∀ ts, Seg all id (preL id p dep pl ts) → (∀ j, id ≤ j → j < id + cntL ts → S j = (1, 1)) → 1 ≤ (S p).2 →
    Left all id (cntL ts) p (cntL ts) (hL ts) S (goDown (parOf all) id (cntL ts) S)
  | [], _, _, hh => by
    unfold cntL hL goDown
    refine ⟨fun j _ _ => rfl, ?_, fun j a b => by omega⟩
    rw [Nat.add_zero, show max (S p).2 (0 + 1) = (S p).2 by omega]
  | t :: ts, hs, h1, hh => by
    unfold preL at hs
    have hlen := preT_length id p dep pl t
    have hr := hs.right
    rw [hlen] at hr
    unfold cntL at h1 ⊢
    have L2 := left_L (id + cntT t) p dep (pl + 1) S (by omega) ts hr (fun j a b => h1 j (by omega) (by omega)) hh
    rw [goDown_add]
    generalize goDown (parOf all) (id + cntT t) (cntL ts) S = S1 at L2
    have L1 := left_T id p dep pl S1 hp t hs.left (fun j a b => by rw [L2.out j (by omega) (by omega)]; exact h1 j a (by omega)) (by rw [L2.par]; show 1 ≤ max _ _; omega)
    refine ⟨fun j a b => ?_, ?_, fun j a b => ?_⟩
    · rw [L1.out j a (by omega), L2.out j a (by omega)]
    · rw [L1.par, L2.par]
      rw [show hL (t :: ts) = max (hT t) (hL ts) from by rw [hL]]
      show ((S p).1 + cntL ts + cntT t, max (max (S p).2 (hL ts + 1)) (hT t + 1)) = _
      rw [show (S p).1 + cntL ts + cntT t = (S p).1 + (cntT t + cntL ts) by omega, show max (max (S p).2 (hL ts + 1)) (hT t + 1) = max (S p).2 (max (hT t) (hL ts) + 1) by omega]
    · rcases Nat.lt_or_ge j (id + cntT t) with hl | hl
      · exact L1.fin j a hl
      · rw [L1.out j (by omega) (by omega)]
        exact L2.fin j hl (by omega)
end
end
/-- The whole: from the last node down to the second one. -/
theorem goDown_all (t : Nd) (j : Nat) (hj : j < cntT t) : goDown (parOf (allP t)) 1 (cntT t - 1) (fun _ => (1, 1)) j = finOf (allP t) j := by
  cases t with
  | mk k n s al ks =>
    have hc : cntT (.mk k n s al ks) = cntL ks + 1 := by unfold cntT; rfl
    have hs1 : Seg (allP (.mk k n s al ks)) 1 (preL 1 (0 : Nat) (0 + 1) 0 ks) := fun i x hx => by
      unfold allP preT
      rw [Nat.add_comm 1 i]; exact hx
    have L := left_L (all := allP (.mk k n s al ks)) 1 0 (0 + 1) 0 (fun _ => (1, 1)) (by omega) ks hs1 (fun _ _ _ => rfl) (Nat.le_refl _)
    rw [hc, Nat.add_sub_cancel]
    generalize goDown (parOf (allP (.mk k n s al ks))) 1 (cntL ks) (fun _ => (1, 1)) = S1 at L
    rcases Nat.eq_zero_or_pos j with rfl | h
    · rw [L.par]
      unfold finOf allP preT
      show (1 + cntL ks, max 1 (hL ks + 1)) = (cntT _, hT _)
      rw [hc]; unfold hT
      rw [show max 1 (hL ks + 1) = hL ks + 1 by omega, Nat.add_comm]
    · exact L.fin j h (by omega)
theorem goDown_mono (par : Nat → Nat) (lo : Nat) : ∀ (k : Nat) (S : St2) (j : Nat), (S j).1 ≤ (goDown par lo k S j).1 ∧ (S j).2 ≤ (goDown par lo k S j).2
  | 0, S, j => ⟨Nat.le_refl _, Nat.le_refl _⟩
  | k + 1, S, j => by
    have h := goDown_mono par lo k (upd S (par (lo + k)) (lo + k)) j
    have h2 : (S j).1 ≤ (upd S (par (lo + k)) (lo + k) j).1 ∧ (S j).2 ≤ (upd S (par (lo + k)) (lo + k) j).2 := by
      unfold upd
      split
      · rename_i e; subst e; dsimp only; omega
      · exact ⟨Nat.le_refl _, Nat.le_refl _⟩
    exact ⟨Nat.le_trans h2.1 h.1, Nat.le_trans h2.2 h.2⟩
/-- The state when the nodes from i on are done. -/
def stAt (t : Nd) (i : Nat) : St2 := goDown (parOf (allP t)) i (cntT t - i) (fun _ => (1, 1))
theorem stAt_end (t : Nd) : stAt t (cntT t) = fun _ => (1, 1) := by unfold stAt; rw [Nat.sub_self]; rfl
theorem stAt_step (t : Nd) (i : Nat) (h : i < cntT t) : stAt t i = upd (stAt t (i + 1)) (parOf (allP t) i) i := by
  unfold stAt
  rw [show cntT t - i = 1 + (cntT t - (i + 1)) by omega, goDown_add]; rfl
theorem stAt_one (t : Nd) (j : Nat) (hj : j < cntT t) : stAt t 1 j = finOf (allP t) j := goDown_all t j hj
end Go.Proofs.Ytcacgbdnegmfnaa.Tr
