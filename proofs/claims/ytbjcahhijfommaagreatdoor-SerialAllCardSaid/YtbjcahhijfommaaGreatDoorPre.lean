/- A tree gone through: its nodes, by their numbers; what a stack of nodes still gives. Plain Lean. -/
import Derived.Test.YtbjcahhijfommaaGreatDoorSmall
namespace Go.Proofs.YtbjcahhijfommaaGreatDoor.Tr
open Go Go.RowKit

/-- A node that is visited: its parent's number, how deep, which kid. -/
structure Pn where
  t : Nd
  par : Int
  dep : Int
  pl : Int
mutual
def preT (id : Nat) (par dep pl : Int) : Nd → List Pn
  | .mk k n s al ks => ⟨.mk k n s al ks, par, dep, pl⟩ :: preL (id + 1) id (dep + 1) 0 ks
def preL (id : Nat) (par dep pl : Int) : List Nd → List Pn
  | [] => []
  | t :: ts => preT id par dep pl t ++ preL (id + cntT t) par dep (pl + 1) ts
end
mutual
theorem preT_length (id : Nat) (par dep pl : Int) : ∀ t, (preT id par dep pl t).length = cntT t
  | .mk k n s al ks => by unfold preT cntT; rw [List.length_cons, preL_length (id + 1) id (dep + 1) 0 ks]
theorem preL_length (id : Nat) (par dep pl : Int) : ∀ ts, (preL id par dep pl ts).length = cntL ts
  | [] => by unfold preL cntL; rfl
  | t :: ts => by unfold preL cntL; rw [List.length_append, preT_length id par dep pl t, preL_length _ par dep (pl + 1) ts]
end
/-- A node's kids, as they are visited. -/
def kidsPn (id dep pl : Int) : List Nd → List Pn
  | [] => []
  | t :: ts => ⟨t, id, dep, pl⟩ :: kidsPn id dep (pl + 1) ts
theorem kidsPn_length (id dep pl : Int) : ∀ ts, (kidsPn id dep pl ts).length = ts.length
  | [] => rfl
  | t :: ts => by unfold kidsPn; rw [List.length_cons, kidsPn_length id dep (pl + 1) ts, List.length_cons]
theorem kidsPn_drop (id dep : Int) : ∀ (ts : List Nd) (pl : Int) (j : Nat) (t : Nd), ts[j]? = some t → (kidsPn id dep pl ts).drop j = ⟨t, id, dep, pl + j⟩ :: (kidsPn id dep pl ts).drop (j + 1)
  | [], _, _, _, h => by simp at h
  | t :: ts, pl, 0, u, h => by
    simp at h; subst h
    unfold kidsPn; simp
  | t :: ts, pl, j + 1, u, h => by
    have := kidsPn_drop id dep ts (pl + 1) j u (by simpa using h)
    unfold kidsPn
    rw [List.drop_succ_cons, List.drop_succ_cons, this]
    congr 2; omega
/-- What a stack still gives, the next number being id. -/
def preS (id : Nat) : List Pn → List Pn
  | [] => []
  | x :: st => preT id x.par x.dep x.pl x.t ++ preS (id + cntT x.t) st
theorem preS_kids (st : List Pn) : ∀ (ts : List Nd) (id : Nat) (par dep pl : Int), preS id (kidsPn par dep pl ts ++ st) = preL id par dep pl ts ++ preS (id + cntL ts) st
  | [], id, par, dep, pl => by unfold kidsPn preL cntL; simp
  | t :: ts, id, par, dep, pl => by
    unfold kidsPn preL cntL
    rw [List.cons_append]
    show preT id par dep pl t ++ preS (id + cntT t) (kidsPn par dep (pl + 1) ts ++ st) = _
    rw [preS_kids st ts (id + cntT t) par dep (pl + 1), List.append_assoc, Nat.add_assoc]
theorem preS_step (id : Nat) (x : Pn) (st : List Pn) : preS id (x :: st) = x :: preS (id + 1) (kidsPn id (x.dep + 1) 0 x.t.kids ++ st) := by
  obtain ⟨t, par, dep, pl⟩ := x
  cases t with
  | mk k n s al ks =>
    rw [preS_kids]
    show preT id par dep pl (.mk k n s al ks) ++ _ = _
    unfold preT cntT
    rw [List.cons_append, show id + (cntL ks + 1) = id + 1 + cntL ks by omega]
    rfl
theorem preS_length : ∀ (st : List Pn) (id : Nat), (preS id st).length = (st.map fun x => cntT x.t).sum
  | [], _ => rfl
  | x :: st, id => by unfold preS; rw [List.length_append, preT_length, preS_length st]; simp
/-- The whole. -/
def allP (t : Nd) : List Pn := preT 0 (-1) 0 0 t
theorem allP_eq (t : Nd) : allP t = preS 0 [⟨t, -1, 0, 0⟩] := by unfold preS allP; simp [preS]
theorem allP_length (t : Nd) : (allP t).length = cntT t := preT_length _ _ _ _ _
end Go.Proofs.YtbjcahhijfommaaGreatDoor.Tr
