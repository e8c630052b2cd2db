/- A node and its parent, by their numbers; where a node lies among the numbers behind their kids. Plain. -/
import Derived.Test.YtcacgbdnegmfnaaPostP
namespace Go.Proofs.Ytcacgbdnegmfnaa.Tr
open Go Go.RowKit
set_option linter.unusedVariables false

/-- x, number j, is a kid of y, number q. -/
structure Kin (j : Nat) (x : Pn) (q : Nat) (y : Pn) : Prop where
  lt : q < j
  dep : x.dep = y.dep + 1
  fits : j + cntT x.t ≤ q + cntT y.t
  low : hT x.t < hT y.t
  kid : ∃ i : Nat, x.pl = i ∧ y.t.kids[i]? = some x.t
/-- x, number j within, is one of them. -/
structure OneOf (ts : List Nd) (p : Nat) (dep pl : Int) (j : Nat) (x : Pn) : Prop where
  par : x.par = p
  dep : x.dep = dep
  fits : j + cntT x.t ≤ cntL ts
  low : hT x.t ≤ hL ts
  kid : ∃ i : Nat, x.pl = pl + i ∧ ts[i]? = some x.t
theorem Kin.shift {j q k : Nat} {x y : Pn} (h : Kin j x q y) : Kin (k + j) x (k + q) y := ⟨by have := h.lt; omega, h.dep, by have := h.fits; omega, h.low, h.kid⟩
mutual
theorem kin_T (id p : Nat) (dep pl : Int) : ∀ t (j : Nat) (x : Pn), (preT id p dep pl t)[j]? = some x → (j = 0 ∧ x = ⟨t, p, dep, pl⟩) ∨ ∃ (q : Nat) (y : Pn), x.par = ((id + q : Nat) : Int) ∧ (preT id p dep pl t)[q]? = some y ∧ Kin j x q y
  | .mk k n s al ks, j, x, h => by
    unfold preT at h ⊢
    cases j with
    | zero => simp at h; exact .inl ⟨rfl, h.symm⟩
    | succ j =>
      right
      rw [List.getElem?_cons_succ] at h
      rcases kin_L (id + 1) id (dep + 1) 0 ks j x h with h1 | ⟨q, y, h1, h2, h3⟩
      · refine ⟨0, ⟨.mk k n s al ks, p, dep, pl⟩, by rw [h1.par]; rfl, rfl, ⟨by omega, h1.dep, ?_, ?_, ?_⟩⟩
        · have := h1.fits
          dsimp only; rw [show cntT (.mk k n s al ks) = cntL ks + 1 by unfold cntT; rfl]; omega
        · have := h1.low
          dsimp only; rw [show hT (.mk k n s al ks) = hL ks + 1 by unfold hT; rfl]; omega
        · obtain ⟨i, hi, hk⟩ := h1.kid
          exact ⟨i, by rw [hi, Int.zero_add], hk⟩
      · refine ⟨q + 1, y, by rw [h1]; congr 1; omega, by rw [List.getElem?_cons_succ]; exact h2, ?_⟩
        have := h3.shift (k := 1)
        rwa [Nat.add_comm 1 j, Nat.add_comm 1 q] at this
theorem kin_L (id p : Nat) (dep pl : Int) : ∀ ts (j : Nat) (x : Pn), (preL id p dep pl ts)[j]? = some x → OneOf ts p dep pl j x ∨ ∃ (q : Nat) (y : Pn), x.par = ((id + q : Nat) : Int) ∧ (preL id p dep pl ts)[q]? = some y ∧ Kin j x q y
  | [], j, x, h => by unfold preL at h; simp at h
  | t :: ts, j, x, h => by
    unfold preL at h ⊢
    have hlen := preT_length id p dep pl t
    rcases Nat.lt_or_ge j (preT id p dep pl t).length with hl | hl
    · rw [List.getElem?_append_left hl] at h
      rcases kin_T id p dep pl t j x h with ⟨rfl, rfl⟩ | ⟨q, y, h1, h2, h3⟩
      · left
        refine ⟨rfl, rfl, ?_, ?_, 0, by simp, rfl⟩
        · dsimp only; rw [show cntL (t :: ts) = cntT t + cntL ts by rw [cntL]]; omega
        · dsimp only; rw [show hL (t :: ts) = max (hT t) (hL ts) from by rw [hL]]; omega
      · right
        exact ⟨q, y, h1, by rw [List.getElem?_append_left (by have := h3.lt; omega)]; exact h2, h3⟩
    · rw [List.getElem?_append_right hl] at h
      rcases kin_L (id + cntT t) p dep (pl + 1) ts _ x h with h1 | ⟨q, y, h1, h2, h3⟩
      · left
        refine ⟨h1.par, h1.dep, ?_, ?_, ?_⟩
        · have := h1.fits
          unfold cntL; omega
        · have := h1.low
          rw [show hL (t :: ts) = max (hT t) (hL ts) from by rw [hL]]; omega
        · obtain ⟨i, hi, hk⟩ := h1.kid
          exact ⟨i + 1, by rw [hi]; omega, by simpa using hk⟩
      · right
        refine ⟨cntT t + q, y, by rw [h1]; congr 1; omega, ?_, ?_⟩
        · rw [List.getElem?_append_right (by omega), hlen, Nat.add_sub_cancel_left]; exact h2
        · have := h3.shift (k := cntT t)
          rwa [← hlen, Nat.add_sub_cancel' hl, hlen] at this
end
theorem allP_kin (t : Nd) (j : Nat) (x : Pn) (h : (allP t)[j]? = some x) (hj : 0 < j) : ∃ (q : Nat) (y : Pn), x.par = q ∧ (allP t)[q]? = some y ∧ Kin j x q y := by
  have : allP t = .mk t (-1) 0 0 :: (preT 0 (0 : Nat) 0 0 t).tail := by
    cases t with
    | mk k n s al ks => unfold allP preT; rfl
  have h2 : preT 0 (0 : Nat) 0 0 t = .mk t (0 : Nat) 0 0 :: (preT 0 (0 : Nat) 0 0 t).tail := by
    cases t with
    | mk k n s al ks => unfold preT; rfl
  obtain ⟨j, rfl⟩ : ∃ i, j = i + 1 := ⟨j - 1, by omega⟩
  have hx : (preT 0 (0 : Nat) 0 0 t)[j + 1]? = some x := by
    rw [h2, List.getElem?_cons_succ]; rw [this, List.getElem?_cons_succ] at h; exact h
  rcases kin_T 0 0 0 0 t (j + 1) x hx with ⟨h0, _⟩ | ⟨q, y, h3, h4, h5⟩
  · omega
  · cases q with
    | zero =>
      rw [h2] at h4
      simp at h4
      subst h4
      refine ⟨0, .mk t (-1) 0 0, by simpa using h3, by rw [this]; rfl, ⟨by omega, h5.dep, h5.fits, h5.low, h5.kid⟩⟩
    | succ q =>
      refine ⟨q + 1, y, by simpa using h3, ?_, h5⟩
      rw [this, List.getElem?_cons_succ]; rw [h2, List.getElem?_cons_succ] at h4; exact h4
theorem allP_zero (t : Nd) : (allP t)[0]? = some ⟨t, -1, 0, 0⟩ := by
  cases t with
  | mk k n s al ks => unfold allP preT; rfl

/-! ### The other order -/
mutual
theorem idx_T (id : Nat) (par dep pl : Int) : ∀ t (j : Nat) (x : Pn), (preT id par dep pl t)[j]? = some x → ∃ d : Nat, x.dep = dep + d ∧ d ≤ j ∧ j + cntT x.t ≤ cntT t ∧ (postT id t)[j + cntT x.t - 1 - d]? = some (id + j)
  | .mk k n s al ks, j, x, h => by
    unfold preT at h
    have hc : cntT (.mk k n s al ks) = cntL ks + 1 := by unfold cntT; rfl
    cases j with
    | zero =>
      simp at h; subst h
      refine ⟨0, by simp, Nat.le_refl _, by dsimp only; omega, ?_⟩
      unfold postT
      dsimp only
      rw [List.getElem?_append_right (by rw [postL_length, hc]; omega), postL_length, hc, show 0 + (cntL ks + 1) - 1 - 0 - cntL ks = 0 by omega]
      rfl
    | succ j =>
      rw [List.getElem?_cons_succ] at h
      obtain ⟨d, h1, h2, h3, h4⟩ := idx_L (id + 1) id (dep + 1) 0 ks j x h
      refine ⟨d + 1, by rw [h1]; omega, by omega, by omega, ?_⟩
      unfold postT
      have hpos := cntT_pos x.t
      rw [show j + 1 + cntT x.t - 1 - (d + 1) = j + cntT x.t - 1 - d by omega, List.getElem?_append_left (by rw [postL_length]; omega), h4]
      congr 1; omega
theorem idx_L (id : Nat) (par dep pl : Int) : ∀ ts (j : Nat) (x : Pn), (preL id par dep pl ts)[j]? = some x → ∃ d : Nat, x.dep = dep + d ∧ d ≤ j ∧ j + cntT x.t ≤ cntL ts ∧ (postL id ts)[j + cntT x.t - 1 - d]? = some (id + j)
  | [], j, x, h => by unfold preL at h; simp at h
  | t :: ts, j, x, h => by
    unfold preL at h
    have hlen := preT_length id par dep pl t
    have hpos := cntT_pos x.t
    unfold postL
    have hc : cntL (t :: ts) = cntT t + cntL ts := by rw [cntL]
    rcases Nat.lt_or_ge j (preT id par dep pl t).length with hl | hl
    · rw [List.getElem?_append_left hl] at h
      obtain ⟨d, h1, h2, h3, h4⟩ := idx_T id par dep pl t j x h
      exact ⟨d, h1, h2, by omega, by rw [List.getElem?_append_left (by rw [postT_length]; omega)]; exact h4⟩
    · rw [List.getElem?_append_right hl] at h
      obtain ⟨d, h1, h2, h3, h4⟩ := idx_L (id + cntT t) par dep (pl + 1) ts _ x h
      refine ⟨d, h1, by omega, by omega, ?_⟩
      rw [List.getElem?_append_right (by rw [postT_length]; omega), postT_length, show j + cntT x.t - 1 - d - cntT t = j - (preT id par dep pl t).length + cntT x.t - 1 - d by omega, h4]
      congr 1; omega
end
mutual
theorem postT_mem (id : Nat) : ∀ t, ∀ m ∈ postT id t, id ≤ m ∧ m < id + cntT t
  | .mk k n s al ks, m, hm => by
    unfold postT at hm
    unfold cntT
    rcases List.mem_append.1 hm with hm | hm
    · have := postL_mem (id + 1) ks m hm; omega
    · simp at hm; omega
theorem postL_mem (id : Nat) : ∀ ts, ∀ m ∈ postL id ts, id ≤ m ∧ m < id + cntL ts
  | [], m, hm => by unfold postL at hm; simp at hm
  | t :: ts, m, hm => by
    unfold postL at hm
    unfold cntL
    rcases List.mem_append.1 hm with hm | hm
    · have := postT_mem id t m hm; omega
    · have := postL_mem _ ts m hm; omega
end
mutual
theorem postT_nodup (id : Nat) : ∀ t, (postT id t).Nodup
  | .mk k n s al ks => by
    unfold postT
    refine List.nodup_append.2 ⟨postL_nodup _ ks, by simp, fun a ha b hb => ?_⟩
    simp at hb; subst hb
    have := postL_mem _ ks a ha; omega
theorem postL_nodup (id : Nat) : ∀ ts, (postL id ts).Nodup
  | [] => by unfold postL; simp
  | t :: ts => by
    unfold postL
    refine List.nodup_append.2 ⟨postT_nodup _ t, postL_nodup _ ts, fun a ha b hb => ?_⟩
    have := postT_mem _ t a ha
    have := postL_mem _ ts b hb; omega
end
/-- Where number v stands. -/
def idxP (t : Nd) (v : Nat) : Nat := match (allP t)[v]? with | some x => v + cntT x.t - 1 - x.dep.toNat | none => 0
theorem idxP_at (t : Nd) (v : Nat) (hv : v < cntT t) : (postT 0 t)[idxP t v]? = some v ∧ idxP t v < cntT t := by
  obtain ⟨x, hx⟩ : ∃ x, (allP t)[v]? = some x := ⟨_, List.getElem?_eq_getElem (by rw [allP_length]; omega)⟩
  obtain ⟨d, h1, h2, h3, h4⟩ := idx_T 0 (-1) 0 0 t v x hx
  have e : idxP t v = v + cntT x.t - 1 - d := by unfold idxP; rw [hx]; dsimp only; rw [h1]; congr 1; omega
  have := cntT_pos x.t
  rw [e]
  exact ⟨by rw [h4, Nat.zero_add], by omega⟩
theorem idxP_of {t : Nd} {k v : Nat} (h : (postT 0 t)[k]? = some v) : idxP t v = k ∧ v < cntT t := by
  have hm := postT_mem 0 t v (List.mem_of_getElem? h)
  obtain ⟨h1, h2⟩ := idxP_at t v (by omega)
  have hl := postT_length 0 t
  obtain ⟨hk, e1⟩ := List.getElem?_eq_some_iff.1 h
  obtain ⟨hi, e2⟩ := List.getElem?_eq_some_iff.1 h1
  exact ⟨(List.getElem?_inj hi (postT_nodup 0 t)).1 (h1.trans h.symm), by omega⟩
theorem idxP_kin {t : Nd} {j q : Nat} {x y : Pn} (hx : (allP t)[j]? = some x) (hy : (allP t)[q]? = some y) (h : Kin j x q y) : idxP t j < idxP t q := by
  obtain ⟨d, h1, h2, h3, _⟩ := idx_T 0 (-1) 0 0 t j x hx
  obtain ⟨d', k1, k2, k3, _⟩ := idx_T 0 (-1) 0 0 t q y hy
  unfold idxP
  rw [hx, hy]
  dsimp only
  have := h.dep
  have := h.fits
  have := cntT_pos x.t
  have := cntT_pos y.t
  have : x.dep.toNat = d := by omega
  have : y.dep.toNat = d' := by omega
  omega
end Go.Proofs.Ytcacgbdnegmfnaa.Tr
