/- Numbers, a node behind its kids: what a stack of open nodes still gives. Plain. -/
import Derived.Test.YtcacgbdnegmfnaaFlat
namespace Go.Proofs.Ytcacgbdnegmfnaa.Tr
open Go Go.RowKit
set_option linter.unusedVariables false

mutual
def postT (id : Nat) : Nd → List Nat | .mk _ _ _ _ ks => postL (id + 1) ks ++ [id]
def postL (id : Nat) : List Nd → List Nat | [] => [] | t :: ts => postT id t ++ postL (id + cntT t) ts
end
mutual
theorem postT_length (id : Nat) : ∀ t, (postT id t).length = cntT t
  | .mk k n s al ks => by unfold postT cntT; rw [List.length_append, postL_length (id + 1) ks]; rfl
theorem postL_length (id : Nat) : ∀ ts, (postL id ts).length = cntL ts
  | [] => by unfold postL cntL; rfl
  | t :: ts => by unfold postL cntL; rw [List.length_append, postT_length id t, postL_length _ ts]
end
mutual
/-- All sizes, a node ahead of its kids. -/
def szT : Nd → List Nat | .mk k n s al ks => cntT (.mk k n s al ks) :: szL ks
def szL : List Nd → List Nat | [] => [] | t :: ts => szT t ++ szL ts
end
mutual
theorem szT_pre (id : Nat) (par dep pl : Int) : ∀ t, (preT id par dep pl t).map (fun x => cntT x.t) = szT t
  | .mk k n s al ks => by unfold preT szT; rw [List.map_cons, szL_pre (id + 1) id (dep + 1) 0 ks]
theorem szL_pre (id : Nat) (par dep pl : Int) : ∀ ts, (preL id par dep pl ts).map (fun x => cntT x.t) = szL ts
  | [] => by unfold preL szL; rfl
  | t :: ts => by unfold preL szL; rw [List.map_append, szT_pre id par dep pl t, szL_pre _ par dep (pl + 1) ts]
end
theorem sz_all (t : Nd) : (allP t).map (fun x => cntT x.t) = szT t := szT_pre _ _ _ _ _
theorem szT_length (t : Nd) : (szT t).length = cntT t := by rw [← sz_all, List.length_map, allP_length]
mutual
theorem szT_len : ∀ t, (szT t).length = cntT t
  | .mk k n s al ks => by unfold szT cntT; rw [List.length_cons, szL_len ks]
theorem szL_len : ∀ ts, (szL ts).length = cntL ts
  | [] => by unfold szL cntL; rfl
  | t :: ts => by unfold szL cntL; rw [List.length_append, szT_len t, szL_len ts]
end
theorem fin_sz {t : Nd} {i m : Nat} (h : (szT t)[i]? = some m) : ∃ x, (allP t)[i]? = some x ∧ cntT x.t = m ∧ (finOf (allP t) i).1 = m := by
  rw [← sz_all, List.getElem?_map] at h
  obtain ⟨x, hx, e⟩ := Option.map_eq_some_iff.1 h
  refine ⟨x, hx, e, ?_⟩
  unfold finOf; rw [hx]; exact e

abbrev Frm := Nat × List Nd
/-- The sizes that are still to come. -/
def restS (fs : List Frm) (ts0 : List Nd) : List Nat := match fs with | [] => szL ts0 | f :: fs => szL f.2 ++ restS fs ts0
/-- What the open nodes still give. -/
def restP (id : Nat) (fs : List Frm) (ts0 : List Nd) : List Nat := match fs with | [] => postL id ts0 | f :: fs => postL id f.2 ++ f.1 :: restP (id + cntL f.2) fs ts0
/-- Each open node's end. -/
def ends (sz : Nat → Nat) (id : Nat) (fs : List Frm) : Prop := match fs with | [] => True | f :: fs => f.1 + sz f.1 = id + cntL f.2 ∧ f.1 < id ∧ ends sz (id + cntL f.2) fs
def restN (id : Nat) (fs : List Frm) (ts0 : List Nd) : Nat := match fs with | [] => id + cntL ts0 | f :: fs => restN (id + cntL f.2) fs ts0
structure PInv (t : Nd) (id : Nat) (l : List Nat) (fs : List Frm) (ts0 : List Nd) : Prop where
  sizes : (szT t).drop id = restS fs ts0
  post : l ++ restP id fs ts0 = postT 0 t
  ends : ends (fun i => (finOf (allP t) i).1) id fs
  num : restN id fs ts0 = cntT t
theorem restP_len : ∀ (fs : List Frm) (id : Nat) (ts0 : List Nd), fs.length ≤ (restP id fs ts0).length
  | [], _, _ => Nat.zero_le _
  | f :: fs, id, ts0 => by
    unfold restP
    have := restP_len fs (id + cntL f.2) ts0
    rw [List.length_append, List.length_cons, List.length_cons]; omega
theorem restN_ge : ∀ (fs : List Frm) (id : Nat) (ts0 : List Nd), id ≤ restN id fs ts0
  | [], _, _ => Nat.le_add_right _ _
  | f :: fs, id, ts0 => by unfold restN; have := restN_ge fs (id + cntL f.2) ts0; omega
section
variable {t : Nd} {id : Nat} {l : List Nat} {fs : List Frm} {ts0 : List Nd}
theorem pinv_start (t : Nd) : PInv t 0 [] [] [t] := by
  refine ⟨?_, ?_, trivial, ?_⟩
  · rw [List.drop_zero]; unfold restS szL szL; rw [List.append_nil]
  · unfold restP postL postL; rw [List.append_nil]; rfl
  · unfold restN cntL cntL; omega
theorem PInv.lens (h : PInv t id l fs ts0) : l.length + fs.length ≤ cntT t ∧ id ≤ cntT t := by
  have h1 := congrArg List.length h.post
  rw [List.length_append, postT_length] at h1
  have h2 := restP_len fs id ts0
  have h3 := restN_ge fs id ts0
  have h4 := h.num
  omega
theorem PInv.le (h : PInv t id l fs ts0) : id ≤ cntT t := h.lens.2
/-- The uppermost one's last kid is done: it is. -/
theorem PInv.close {o : Nat} (h : PInv t id l ((o, []) :: fs) ts0) : PInv t id (l ++ [o]) fs ts0 := by
  obtain ⟨h1, h2, h3, h4⟩ := h
  unfold restS at h1
  unfold restP at h2
  unfold Tr.ends at h3
  unfold restN at h4
  dsimp only at h1 h2 h3 h4
  rw [show szL [] = [] by unfold szL; rfl, List.nil_append] at h1
  rw [show postL id [] = [] by unfold postL; rfl, List.nil_append, show cntL [] = 0 by unfold cntL; rfl, Nat.add_zero] at h2
  rw [show cntL [] = 0 by unfold cntL; rfl, Nat.add_zero] at h3 h4
  exact ⟨h1, by rw [List.append_assoc]; exact h2, h3.2.2, h4⟩
theorem kids_node (u : Nd) : postT id u = postL (id + 1) u.kids ++ [id] ∧ szT u = cntT u :: szL u.kids ∧ cntT u = cntL u.kids + 1 := by
  cases u with
  | mk k n s al ks => exact ⟨by unfold postT; rfl, by unfold szT; rfl, by unfold cntT; rfl⟩
theorem drop_next {α : Type} {l : List α} {i : Nat} {x : α} {r : List α} (h : l.drop i = x :: r) : l[i]? = some x ∧ l.drop (i + 1) = r := by
  constructor
  · have := congrArg (·[0]?) h
    simpa using this
  · have := congrArg (List.drop 1) h
    simpa using this
/-- The next node. -/
theorem PInv.push {o : Nat} {u : Nd} {us : List Nd} (h : PInv t id l ((o, u :: us) :: fs) ts0) : PInv t (id + 1) l ((id, u.kids) :: (o, us) :: fs) ts0 ∧ id < cntT t := by
  obtain ⟨h1, h2, h3, h4⟩ := h
  obtain ⟨k1, k2, k3⟩ := kids_node (id := id) u
  unfold restS at h1
  unfold restP at h2
  unfold Tr.ends at h3
  unfold restN at h4
  dsimp only at h1 h2 h3 h4
  rw [show szL (u :: us) = szT u ++ szL us by rw [szL], k2, List.append_assoc, List.cons_append] at h1
  rw [show postL id (u :: us) = postT id u ++ postL (id + cntT u) us by rw [postL], k1] at h2
  rw [show cntL (u :: us) = cntT u + cntL us by rw [cntL]] at h2 h3 h4
  obtain ⟨g1, g2⟩ := drop_next h1
  obtain ⟨x, hx, e1, e2⟩ := fin_sz g1
  refine ⟨⟨?_, ?_, ?_, ?_⟩, ?_⟩
  · rw [g2]; rfl
  · unfold restP restP
    dsimp only
    rw [← h2, show id + 1 + cntL u.kids = id + cntT u by omega, show id + cntT u + cntL us = id + (cntT u + cntL us) by omega]
    simp
  · unfold Tr.ends Tr.ends
    refine ⟨by rw [e2, k3]; dsimp only; omega, by dsimp only; omega, ?_, ?_, ?_⟩
    · rw [h3.1]; dsimp only; omega
    · have := h3.2.1; dsimp only; omega
    · rw [show id + 1 + cntL (id, u.kids).2 + cntL (o, us).2 = id + (cntT u + cntL us) by dsimp only; omega]
      exact h3.2.2
  · unfold restN restN
    rw [← h4]; dsimp only
    rw [show id + 1 + cntL u.kids + cntL us = id + (cntT u + cntL us) by omega]
  · have := restN_ge fs (id + (cntT u + cntL us)) ts0
    have := cntT_pos u
    omega
/-- The next node, at the very top. -/
theorem PInv.push0 {u : Nd} {us : List Nd} (h : PInv t id l [] (u :: us)) : PInv t (id + 1) l [(id, u.kids)] us ∧ id < cntT t := by
  obtain ⟨h1, h2, h3, h4⟩ := h
  obtain ⟨k1, k2, k3⟩ := kids_node (id := id) u
  unfold restS at h1
  unfold restP at h2
  unfold restN at h4
  rw [show szL (u :: us) = szT u ++ szL us by rw [szL], k2, List.cons_append] at h1
  rw [show postL id (u :: us) = postT id u ++ postL (id + cntT u) us by rw [postL], k1] at h2
  rw [show cntL (u :: us) = cntT u + cntL us by rw [cntL]] at h4
  obtain ⟨g1, g2⟩ := drop_next h1
  obtain ⟨x, hx, e1, e2⟩ := fin_sz g1
  refine ⟨⟨?_, ?_, ?_, ?_⟩, ?_⟩
  · rw [g2]; rfl
  · unfold restP restP
    dsimp only
    rw [← h2, show id + 1 + cntL u.kids = id + cntT u by omega]
    simp
  · unfold Tr.ends
    refine ⟨by rw [e2, k3]; dsimp only; omega, by dsimp only; omega, trivial⟩
  · unfold restN restN
    rw [← h4]; dsimp only
    omega
  · have := cntT_pos u
    omega
/-- Nothing is left. -/
theorem PInv.done (h : PInv t id l [] []) : id = cntT t ∧ l = postT 0 t := by
  obtain ⟨h1, h2, h3, h4⟩ := h
  unfold restP postL at h2
  unfold restN cntL at h4
  exact ⟨by omega, by rw [← h2, List.append_nil]⟩
/-- The uppermost one's size. -/
theorem PInv.top {o : Nat} {ts : List Nd} (h : PInv t id l ((o, ts) :: fs) ts0) : ∃ x, (allP t)[o]? = some x ∧ o < cntT t ∧ o + (finOf (allP t) o).1 = id + cntL ts := by
  have h3 := h.ends
  unfold Tr.ends at h3
  have hlt : o < cntT t := by have := h.le; have := h3.2.1; dsimp only at this; omega
  exact ⟨_, List.getElem?_eq_getElem (by rw [allP_length]; omega), hlt, h3.1⟩
/-- Nothing can be closed now. -/
def Stuck (fs : List Frm) : Prop := match fs with | [] => True | f :: _ => f.2 ≠ []
/-- The next one opened, or the end. -/
theorem PInv.next (h : PInv t id l fs ts0) (hs : Stuck fs) : (∃ ts fs' ts0', fs'.map (·.1) = fs.map (·.1) ∧ PInv t (id + 1) l ((id, ts) :: fs') ts0') ∨ (id = cntT t ∧ l = postT 0 t) := by
  cases fs with
  | nil =>
    cases ts0 with
    | nil => exact .inr h.done
    | cons u us => exact .inl ⟨_, [], us, rfl, h.push0.1⟩
  | cons f fs =>
    obtain ⟨o, ts⟩ := f
    cases ts with
    | nil => exact absurd rfl hs
    | cons u us => exact .inl ⟨_, (o, us) :: fs, ts0, rfl, h.push.1⟩
theorem cntL_zero {ts : List Nd} (h : cntL ts = 0) : ts = [] := by
  cases ts with
  | nil => rfl
  | cons t ts => unfold cntL at h; have := cntT_pos t; omega
end
end Go.Proofs.Ytcacgbdnegmfnaa.Tr
