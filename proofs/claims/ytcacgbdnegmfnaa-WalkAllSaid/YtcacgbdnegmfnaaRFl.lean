/- The document's list of nodes, as it lies in memory. -/
import Derived.Test.YtcacgbdnegmfnaaBare
namespace Go.Proofs.Ytcacgbdnegmfnaa.Tr
open Go Go.RowKit Wk
set_option linter.unusedVariables false
theorem preL_snoc (par dep : Int) : ∀ (ts : List Nd) (id : Nat) (pl : Int) (j : Nat) (u : Nd), ts[j]? = some u →
    preL id par dep pl (ts.take (j + 1)) = preL id par dep pl (ts.take j) ++ preT (id + cntL (ts.take j)) par dep (pl + j) u
  | [], id, pl, j, u, h => by simp at h
  | t :: ts, id, pl, 0, u, h => by
    simp at h; subst h
    rw [List.take_succ_cons, List.take_zero, List.take_zero]
    unfold preL preL
    rw [show cntL [] = 0 by unfold cntL; rfl]
    simp
  | t :: ts, id, pl, j + 1, u, h => by
    have ih := preL_snoc par dep ts (id + cntT t) (pl + 1) j u (by simpa using h)
    rw [List.take_succ_cons, List.take_succ_cons]
    rw [show preL id par dep pl (t :: ts.take (j + 1)) = preT id par dep pl t ++ preL (id + cntT t) par dep (pl + 1) (ts.take (j + 1)) by rw [preL], show preL id par dep pl (t :: ts.take j) = preT id par dep pl t ++ preL (id + cntT t) par dep (pl + 1) (ts.take j) by rw [preL], ih, List.append_assoc, show cntL (t :: ts.take j) = cntT t + cntL (ts.take j) by rw [cntL], Nat.add_assoc]
    rw [show pl + 1 + (j : Int) = pl + ((j + 1 : Nat) : Int) by omega]
theorem hL_take (ts : List Nd) (j : Nat) (u : Nd) (h : ts[j]? = some u) : hL (ts.take (j + 1)) = max (hL (ts.take j)) (hT u) := by
  induction ts generalizing j with
  | nil => simp at h
  | cons t ts ih =>
    cases j with
    | zero => simp at h; subst h; rw [List.take_succ_cons, List.take_zero, List.take_zero]; unfold hL hL; omega
    | succ j =>
      have := ih j (by simpa using h)
      rw [List.take_succ_cons, List.take_succ_cons, show hL (t :: ts.take (j + 1)) = max (hT t) (hL (ts.take (j + 1))) by rw [hL], show hL (t :: ts.take j) = max (hT t) (hL (ts.take j)) by rw [hL], this]
      omega
/-- The world goes on: a row's block may turn; all else that was there stays. -/
structure FrG (w : World) (v : Value) (w' : World) (v' : Value) : Prop where
  g : w.grownBy w' v.ownBlock
  at_ : v'.ownBlock = v.ownBlock ∨ ∃ b, v'.ownBlock = some b ∧ w.heap.size ≤ b
theorem FrG.refl (w : World) (v : Value) : FrG w v w v := ⟨World.grownBy.refl _ _, .inl rfl⟩
theorem FrG.trans {w w2 w3 : World} {v v2 v3 : Value} (h : FrG w v w2 v2) (h' : FrG w2 v2 w3 v3) : FrG w v w3 v3 := by
  have hs := h.g.size
  have hs' := h'.g.size
  refine ⟨⟨h'.g.os.trans h.g.os, h'.g.tape.trans h.g.tape, h'.g.output.trans h.g.output, by omega, fun k hk hne => ?_⟩, ?_⟩
  · refine (h'.g.block k (by omega) fun e => ?_).trans (h.g.block k hk hne)
    rcases h.at_ with e2 | ⟨b, e2, hb⟩
    · exact hne (e.trans e2)
    · rw [e2] at e; injection e with e; omega
  · rcases h'.at_ with e | ⟨b, e, hb⟩
    · rcases h.at_ with e2 | ⟨b, e2, hb⟩
      · exact .inl (e.trans e2)
      · exact .inr ⟨b, e.trans e2, hb⟩
    · exact .inr ⟨b, e, by omega⟩
theorem FrG.of_below {w w' : World} (v : Value) (h : Below w.heap.size w w') : FrG w v w' v := ⟨⟨h.os, h.tape, h.output, h.size, fun k hk _ => h.block k hk⟩, .inl rfl⟩
theorem FrG.block {w w' : World} {v v' : Value} (h : FrG w v w' v') {c : Nat} (hc : c < w.heap.size) (hne : v.ownBlock ≠ some c) : w'.heap[c]? = w.heap[c]? := h.g.block c hc fun e => hne e.symm
theorem FrG.other {w w' : World} {v v' : Value} (h : FrG w v w' v') {c : Nat} (hc : c < w.heap.size) (hne : v.ownBlock ≠ some c) : v'.ownBlock ≠ some c := by
  rcases h.at_ with e | ⟨b, e, hb⟩
  · rw [e]; exact hne
  · rw [e]; intro e2; injection e2 with e2; omega
/-- The blocks that the nodes' own parts may lie in. -/
def OwnS (B : Nat) (w : World) (v : Value) (c : Nat) : Prop := B ≤ c ∧ c < w.heap.size ∧ v.ownBlock ≠ some c
/-- One node's fifteen cells. -/
def RAt (w0 w : World) (B : Nat) (v : Value) (xs : List Value) (i : Nat) (x : Pn) (s : Nat × Nat) : Prop :=
  ∃ (A : Option Addr) (ac : Nat) (t0 t1 t2 t3 t4 : Value), xs[i * 15]? = some (.int .i64 x.par) ∧ xs[i * 15 + 1]? = some (.int .i64 (s.1 : Nat)) ∧ xs[i * 15 + 2]? = some (.int .i64 x.dep) ∧ xs[i * 15 + 3]? = some (.int .i64 (s.2 : Nat)) ∧ xs[i * 15 + 4]? = some (.int .i64 x.pl) ∧
    xs[i * 15 + 5]? = some (.int .i64 x.t.kind) ∧ xs[i * 15 + 6]? = some (.string x.t.name) ∧ xs[i * 15 + 7]? = some (.string x.t.text) ∧ xs[i * 15 + 8]? = some (.slice A x.t.attrs.length ac) ∧ xs[i * 15 + 9]? = some (.slice none 0 0) ∧
    xs[i * 15 + 10]? = some t0 ∧ xs[i * 15 + 11]? = some t1 ∧ xs[i * 15 + 12]? = some t2 ∧ xs[i * 15 + 13]? = some t3 ∧ xs[i * 15 + 14]? = some t4 ∧ AttrsIn w (OwnS B w v) x.t.attrs A ac ∧ IsTree w0 w0.heap.size x.t t0 t1 t2 t3 t4
def RAll (w0 w : World) (B : Nat) (v : Value) (l : List Pn) (xs : List Value) (st : Nat → Nat × Nat) : Prop := ∀ i x, l[i]? = some x → RAt w0 w B v xs i x (st i)
/-- The list in a row of the call's own. -/
structure RRow (w0 w : World) (B : Nat) (v : Value) (l : List Pn) (st : Nat → Nat × Nat) : Prop where
  ex : ∃ xs, w.ownsRow B 64 15 v l.length xs ∧ RAll w0 w B v l xs st
theorem OwnS.move {w w' : World} {B : Nat} {v v' : Value} (hF : FrG w v w' v') {c : Nat} (h : OwnS B w v c) : OwnS B w' v' c ∧ ∀ o, w'.cell? ⟨c, o, none⟩ = w.cell? ⟨c, o, none⟩ :=
  ⟨⟨h.1, Nat.lt_of_lt_of_le h.2.1 hF.g.size, hF.other h.2.1 h.2.2⟩, fun o => cell_of_heap (hF.block h.2.1 h.2.2) o⟩
theorem RAll.move {w0 w w' : World} {B : Nat} {v v' : Value} {l : List Pn} {xs : List Value} {st : Nat → Nat × Nat} (h : RAll w0 w B v l xs st) (hF : FrG w v w' v') : RAll w0 w' B v' l xs st := by
  intro i x hx
  obtain ⟨A, ac, t0, t1, t2, t3, t4, c0, c1, c2, c3, c4, c5, c6, c7, c8, c9, c10, c11, c12, c13, c14, ha, ht⟩ := h i x hx
  exact ⟨A, ac, t0, t1, t2, t3, t4, c0, c1, c2, c3, c4, c5, c6, c7, c8, c9, c10, c11, c12, c13, c14, ha.keep fun c hc => OwnS.move hF hc, ht⟩
/-- The row as it was, the world grown behind it. -/
theorem RRow.below {w0 w w' : World} {B : Nat} {v : Value} {l : List Pn} {st : Nat → Nat × Nat} (h : RRow w0 w B v l st) (hb : Below w.heap.size w w') : RRow w0 w' B v l st := by
  obtain ⟨xs, h1, h2⟩ := h.ex
  exact ⟨xs, row_of_heap h1 fun g hg => hb.block g (h1.lt g hg).2, h2.move (FrG.of_below v hb)⟩
/-- One node more. -/
theorem RAll.snoc {w0 w : World} {B : Nat} {v : Value} {l : List Pn} {xs : List Value} {st : Nat → Nat × Nat} (h : RAll w0 w B v l xs st) (hl : xs.length = l.length * 15) {x : Pn} {A : Option Addr} {ac : Nat} {t0 t1 t2 t3 t4 : Value}
    (ha : AttrsIn w (OwnS B w v) x.t.attrs A ac) (ht : IsTree w0 w0.heap.size x.t t0 t1 t2 t3 t4) (hst : st l.length = (0, 0)) :
    RAll w0 w B v (l ++ [x]) (xs ++ [.int .i64 x.par, .int .i64 0, .int .i64 x.dep, .int .i64 0, .int .i64 x.pl, .int .i64 x.t.kind, .string x.t.name, .string x.t.text, .slice A x.t.attrs.length ac, .slice none 0 0, t0, t1, t2, t3, t4]) st := by
  intro i y hy
  rcases Nat.lt_or_ge i l.length with hi | hi
  · rw [List.getElem?_append_left hi] at hy
    obtain ⟨A', ac', u0, u1, u2, u3, u4, c0, c1, c2, c3, c4, c5, c6, c7, c8, c9, c10, c11, c12, c13, c14, ha', ht'⟩ := h i y hy
    refine ⟨A', ac', u0, u1, u2, u3, u4, ?_, ?_, ?_, ?_, ?_, ?_, ?_, ?_, ?_, ?_, ?_, ?_, ?_, ?_, ?_, ha', ht'⟩ <;> (rw [List.getElem?_append_left (by omega)]; assumption)
  · have hlt := (List.getElem?_eq_some_iff.1 hy).1
    rw [List.length_append, List.length_singleton] at hlt
    obtain rfl : i = l.length := by omega
    rw [List.getElem?_append_right (Nat.le_refl _), Nat.sub_self] at hy
    simp at hy
    subst hy
    rw [hst]
    refine ⟨A, ac, t0, t1, t2, t3, t4, ?_, ?_, ?_, ?_, ?_, ?_, ?_, ?_, ?_, ?_, ?_, ?_, ?_, ?_, ?_, ha, ht⟩ <;> (rw [List.getElem?_append_right (by omega), hl]; simp [Nat.add_sub_cancel_left])
/-- Behind the appending. -/
theorem RRow.snoc {w0 w w' : World} {B : Nat} {v v' : Value} {l : List Pn} {xs : List Value} {st : Nat → Nat × Nat} (h : RAll w0 w B v l xs st) (hl : xs.length = l.length * 15) {x : Pn} {A : Option Addr} {ac : Nat} {t0 t1 t2 t3 t4 : Value}
    (ha : AttrsIn w (OwnS B w v) x.t.attrs A ac) (ht : IsTree w0 w0.heap.size x.t t0 t1 t2 t3 t4) (hst : st l.length = (0, 0)) (hF : FrG w v w' v')
    (hrow : w'.ownsRow B 64 15 v' (l.length + 1) (xs ++ [.int .i64 x.par, .int .i64 0, .int .i64 x.dep, .int .i64 0, .int .i64 x.pl, .int .i64 x.t.kind, .string x.t.name, .string x.t.text, .slice A x.t.attrs.length ac, .slice none 0 0, t0, t1, t2, t3, t4])) :
    RRow w0 w' B v' (l ++ [x]) st := ⟨_, by rw [List.length_append]; exact hrow, (h.snoc hl ha ht hst).move hF⟩
/-- A node's cells, read. -/
theorem RRow.at_ {w0 w : World} {B : Nat} {v : Value} {l : List Pn} {st : Nat → Nat × Nat} (h : RRow w0 w B v l st) {i : Nat} {x : Pn} (hx : l[i]? = some x) : ∃ g cap A ac t0 t1 t2 t3 t4, v = .slice (some ⟨g, 0, none⟩) l.length cap ∧ g < w.heap.size ∧ B ≤ g ∧
    w.cell? ⟨g, i * 15, none⟩ = some (.int .i64 x.par) ∧ w.cell? ⟨g, i * 15 + 1, none⟩ = some (.int .i64 ((st i).1 : Nat)) ∧ w.cell? ⟨g, i * 15 + 2, none⟩ = some (.int .i64 x.dep) ∧ w.cell? ⟨g, i * 15 + 3, none⟩ = some (.int .i64 ((st i).2 : Nat)) ∧ w.cell? ⟨g, i * 15 + 4, none⟩ = some (.int .i64 x.pl) ∧
    w.cell? ⟨g, i * 15 + 5, none⟩ = some (.int .i64 x.t.kind) ∧ w.cell? ⟨g, i * 15 + 6, none⟩ = some (.string x.t.name) ∧ w.cell? ⟨g, i * 15 + 7, none⟩ = some (.string x.t.text) ∧ w.cell? ⟨g, i * 15 + 8, none⟩ = some (.slice A x.t.attrs.length ac) ∧ w.cell? ⟨g, i * 15 + 9, none⟩ = some (.slice none 0 0) ∧
    w.cell? ⟨g, i * 15 + 10, none⟩ = some t0 ∧ w.cell? ⟨g, i * 15 + 11, none⟩ = some t1 ∧ w.cell? ⟨g, i * 15 + 12, none⟩ = some t2 ∧ w.cell? ⟨g, i * 15 + 13, none⟩ = some t3 ∧ w.cell? ⟨g, i * 15 + 14, none⟩ = some t4 ∧
    AttrsIn w (OwnS B w v) x.t.attrs A ac ∧ IsTree w0 w0.heap.size x.t t0 t1 t2 t3 t4 := by
  obtain ⟨xs, h1, h2⟩ := h.ex
  obtain ⟨A, ac, t0, t1, t2, t3, t4, c0, c1, c2, c3, c4, c5, c6, c7, c8, c9, c10, c11, c12, c13, c14, ha, ht⟩ := h2 i x hx
  obtain ⟨g, cap, hv⟩ := row_form h1 (by have := (List.getElem?_eq_some_iff.1 hx).1; omega)
  have hc := fun k u => h1.cells (g := g) (by rw [hv]; rfl) k u
  have hlt := h1.lt g (by rw [hv]; rfl)
  refine ⟨g, cap, A, ac, t0, t1, t2, t3, t4, hv, hlt.2, hlt.1, ?_, ?_, ?_, ?_, ?_, ?_, ?_, ?_, ?_, ?_, ?_, ?_, ?_, ?_, ?_, ha, ht⟩
  · have := hc _ _ c0; rwa [add_flat, Nat.zero_add] at this
  · have := hc _ _ c1; rwa [add_flat, Nat.zero_add] at this
  · have := hc _ _ c2; rwa [add_flat, Nat.zero_add] at this
  · have := hc _ _ c3; rwa [add_flat, Nat.zero_add] at this
  · have := hc _ _ c4; rwa [add_flat, Nat.zero_add] at this
  · have := hc _ _ c5; rwa [add_flat, Nat.zero_add] at this
  · have := hc _ _ c6; rwa [add_flat, Nat.zero_add] at this
  · have := hc _ _ c7; rwa [add_flat, Nat.zero_add] at this
  · have := hc _ _ c8; rwa [add_flat, Nat.zero_add] at this
  · have := hc _ _ c9; rwa [add_flat, Nat.zero_add] at this
  · have := hc _ _ c10; rwa [add_flat, Nat.zero_add] at this
  · have := hc _ _ c11; rwa [add_flat, Nat.zero_add] at this
  · have := hc _ _ c12; rwa [add_flat, Nat.zero_add] at this
  · have := hc _ _ c13; rwa [add_flat, Nat.zero_add] at this
  · have := hc _ _ c14; rwa [add_flat, Nat.zero_add] at this
def setSt (st : Nat → Nat × Nat) (i : Nat) (s : Nat × Nat) (k : Nat) : Nat × Nat := if k = i then s else st k
/-- A node's size, or its height, stored. -/
theorem RRow.set1 {w0 w : World} {B g cap : Nat} {l : List Pn} {st : Nat → Nat × Nat} (h : RRow w0 w B (.slice (some ⟨g, 0, none⟩) l.length cap) l st) {i : Nat} (hi : i < l.length) (n : Nat) :
    RRow w0 (w.setCell ⟨g, i * 15 + 1, none⟩ (.int .i64 (n : Nat))) B (.slice (some ⟨g, 0, none⟩) l.length cap) l (setSt st i (n, (st i).2)) ∧ FrG w (.slice (some ⟨g, 0, none⟩) l.length cap) (w.setCell ⟨g, i * 15 + 1, none⟩ (.int .i64 (n : Nat))) (.slice (some ⟨g, 0, none⟩) l.length cap) := by
  obtain ⟨xs, h1, h2⟩ := h.ex
  obtain ⟨h3, h4⟩ := h1.stored (i * 15 + 1) (.int .i64 (n : Nat))
  have hF : FrG w (.slice (some ⟨g, 0, none⟩) l.length cap) (w.setCell ⟨g, i * 15 + 1, none⟩ (.int .i64 (n : Nat))) (.slice (some ⟨g, 0, none⟩) l.length cap) := ⟨h4, .inl rfl⟩
  refine ⟨⟨_, h3, fun k y hy => ?_⟩, hF⟩
  obtain ⟨A, ac, t0, t1, t2, t3, t4, c0, c1, c2, c3, c4, c5, c6, c7, c8, c9, c10, c11, c12, c13, c14, ha, ht⟩ := (h2.move hF) k y hy
  have hl := h1.1
  by_cases e : k = i
  · subst e
    refine ⟨A, ac, t0, t1, t2, t3, t4, ?_, ?_, ?_, ?_, ?_, ?_, ?_, ?_, ?_, ?_, ?_, ?_, ?_, ?_, ?_, ha, ht⟩
    case refine_2 => rw [List.getElem?_set_self (by omega)]; unfold setSt; rw [if_pos rfl]
    case refine_4 => rw [List.getElem?_set_ne (by omega), c3]; unfold setSt; rw [if_pos rfl]
    all_goals (rw [List.getElem?_set_ne (by omega)]; assumption)
  · have es : setSt st i (n, (st i).2) k = st k := by unfold setSt; rw [if_neg e]
    rw [es]
    refine ⟨A, ac, t0, t1, t2, t3, t4, ?_, ?_, ?_, ?_, ?_, ?_, ?_, ?_, ?_, ?_, ?_, ?_, ?_, ?_, ?_, ha, ht⟩ <;> (rw [List.getElem?_set_ne (by omega)]; assumption)
theorem RRow.set3 {w0 w : World} {B g cap : Nat} {l : List Pn} {st : Nat → Nat × Nat} (h : RRow w0 w B (.slice (some ⟨g, 0, none⟩) l.length cap) l st) {i : Nat} (hi : i < l.length) (n : Nat) :
    RRow w0 (w.setCell ⟨g, i * 15 + 3, none⟩ (.int .i64 (n : Nat))) B (.slice (some ⟨g, 0, none⟩) l.length cap) l (setSt st i ((st i).1, n)) ∧ FrG w (.slice (some ⟨g, 0, none⟩) l.length cap) (w.setCell ⟨g, i * 15 + 3, none⟩ (.int .i64 (n : Nat))) (.slice (some ⟨g, 0, none⟩) l.length cap) := by
  obtain ⟨xs, h1, h2⟩ := h.ex
  obtain ⟨h3, h4⟩ := h1.stored (i * 15 + 3) (.int .i64 (n : Nat))
  have hF : FrG w (.slice (some ⟨g, 0, none⟩) l.length cap) (w.setCell ⟨g, i * 15 + 3, none⟩ (.int .i64 (n : Nat))) (.slice (some ⟨g, 0, none⟩) l.length cap) := ⟨h4, .inl rfl⟩
  refine ⟨⟨_, h3, fun k y hy => ?_⟩, hF⟩
  obtain ⟨A, ac, t0, t1, t2, t3, t4, c0, c1, c2, c3, c4, c5, c6, c7, c8, c9, c10, c11, c12, c13, c14, ha, ht⟩ := (h2.move hF) k y hy
  have hl := h1.1
  by_cases e : k = i
  · subst e
    refine ⟨A, ac, t0, t1, t2, t3, t4, ?_, ?_, ?_, ?_, ?_, ?_, ?_, ?_, ?_, ?_, ?_, ?_, ?_, ?_, ?_, ha, ht⟩
    case refine_4 => rw [List.getElem?_set_self (by omega)]; unfold setSt; rw [if_pos rfl]
    case refine_2 => rw [List.getElem?_set_ne (by omega), c1]; unfold setSt; rw [if_pos rfl]
    all_goals (rw [List.getElem?_set_ne (by omega)]; assumption)
  · have es : setSt st i ((st i).1, n) k = st k := by unfold setSt; rw [if_neg e]
    rw [es]
    refine ⟨A, ac, t0, t1, t2, t3, t4, ?_, ?_, ?_, ?_, ?_, ?_, ?_, ?_, ?_, ?_, ?_, ?_, ?_, ?_, ?_, ha, ht⟩ <;> (rw [List.getElem?_set_ne (by omega)]; assumption)
theorem RRow.congr {w0 w : World} {B : Nat} {v : Value} {l : List Pn} {st st' : Nat → Nat × Nat} (h : RRow w0 w B v l st) (he : ∀ i, i < l.length → st' i = st i) : RRow w0 w B v l st' := by
  obtain ⟨xs, h1, h2⟩ := h.ex
  exact ⟨xs, h1, fun i x hx => by rw [he i (List.getElem?_eq_some_iff.1 hx).1]; exact h2 i x hx⟩
end Go.Proofs.Ytcacgbdnegmfnaa.Tr
