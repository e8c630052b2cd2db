/- each: all nodes, until one says no. -/
import Derived.Test.YtcacgbdnegmfnaaPre
import Derived.Test.YtcacgbdnegmfnaaStep
import Derived.RegionTactic
import Derived.IntWalk
import Derived.Laws.AppendOwn
import Derived.StillTailTactics
import Derived.WalkLawsBesides
import Derived.Shelf.Abstract
import Derived.Outline
import Derived.Maps.AppendAt
import Derived.WalkMore
import Derived.Deep.LoopGhost
namespace Go.Proofs.Ytcacgbdnegmfnaa.Tr
open Go Go.RowKit
set_option linter.unusedVariables false

/-- A node lies at an address: within the input's blocks, or in the root's. -/
def NodeAt (w : World) (B r : Nat) (p : Addr) (t : Nd) : Prop :=
  ∃ b off v0 v1 v2 v3 v4, p = ⟨b, off, none⟩ ∧ (b < B ∨ b = r) ∧ w.cell? ⟨b, off, none⟩ = some v0 ∧ w.cell? ⟨b, off + 1, none⟩ = some v1 ∧ w.cell? ⟨b, off + 2, none⟩ = some v2 ∧ w.cell? ⟨b, off + 3, none⟩ = some v3 ∧ w.cell? ⟨b, off + 4, none⟩ = some v4 ∧ IsTree w B t v0 v1 v2 v3 v4
theorem NodeAt.keep {w w' : World} {B r : Nat} {p : Addr} {t : Nd} (h : NodeAt w B r p t) (hk : ∀ k, k < B ∨ k = r → w'.heap[k]? = w.heap[k]?) : NodeAt w' B r p t := by
  obtain ⟨b, off, v0, v1, v2, v3, v4, e, hb, c0, c1, c2, c3, c4, ht⟩ := h
  have kc : ∀ o, w'.cell? ⟨b, o, none⟩ = w.cell? ⟨b, o, none⟩ := fun o => World.cell?_of_block (hk b hb)
  exact ⟨b, off, v0, v1, v2, v3, v4, e, hb, (kc _).trans c0, (kc _).trans c1, (kc _).trans c2, (kc _).trans c3, (kc _).trans c4, ht.keep (fun q hq => World.cell?_of_block (hk _ (.inl hq))) (Nat.le_refl _)⟩
/-- A kid's address. -/
theorem NodeAt.kid {w : World} {B r : Nat} {p : Addr} {t : Nd} (h : NodeAt w B r p t) : ∃ b off K kc, p = ⟨b, off, none⟩ ∧ (b < B ∨ b = r) ∧ w.cell? ⟨b, off + 4, none⟩ = some (.slice K t.kids.length kc) ∧ t.kids.length ≤ kc ∧ kc ≤ maxLen ∧
    (∀ j u, t.kids[j]? = some u → ∃ kb ko, K = some ⟨kb, ko, none⟩ ∧ NodeAt w B r ⟨kb, ko + j * 5, none⟩ u) := by
  obtain ⟨b, off, v0, v1, v2, v3, v4, e, hb, c0, c1, c2, c3, c4, ht⟩ := h
  cases t with
  | mk k n s al ks =>
    unfold IsTree at ht
    obtain ⟨rfl, rfl, rfl, _, _, _, A, ac, K, kc, rfl, rfl, _, h1, h2, h3⟩ := ht
    refine ⟨b, off, K, kc, e, hb, c4, h1, h2, fun j u hj => ?_⟩
    have hj' : ks[j]? = some u := hj
    obtain ⟨kb, ko, e2, hkb, hk⟩ := h3 (by rintro rfl; simp at hj')
    obtain ⟨u0, u1, u2, u3, u4, d0, d1, d2, d3, d4, hu⟩ := hk.at_ hj'
    exact ⟨kb, ko, e2, kb, ko + j * 5, u0, u1, u2, u3, u4, rfl, .inl hkb, d0, d1, d2, d3, d4, hu⟩

/-- A function that looks at nodes: what it keeps, and what it says. -/
structure Clo (fc : FuncId) (caps : Array Value) (W0 : World) (B r : Nat) (t : Nd) {S : Type} (Inv : List Pn → S → World → Prop) (own : S → Nat → Prop) (s0 : S) (stop : List Pn → Bool) : Prop where
  stable : ∀ vis s w w', Inv vis s w → (∀ k, own s k → w'.heap[k]? = w.heap[k]?) → w.heap.size ≤ w'.heap.size → Inv vis s w'
  lt : ∀ vis s w, Inv vis s w → ∀ k, own s k → k < w.heap.size
  apart : ∀ k, own s0 k → B ≤ k ∧ k ≠ r
  call : ∀ vis s w p x rest, vis ++ x :: rest = allP t → Inv vis s w → Fr (own s0) W0.heap.size W0 w → W0.heap.size ≤ w.heap.size → NodeAt w B r p x.t → vis.length ≤ 1000000 →
    Calls Try.prog fc (#[.int .i64 vis.length, .agg #[.pointer (some p), .int .i64 x.par, .int .i64 x.dep, .int .i64 x.pl]] ++ caps) w fun e w' =>
      ∃ s', e = .returned (.bool (!stop (vis ++ [x]))) ∧ Inv (vis ++ [x]) s' w' ∧ Fr (own s) w.heap.size w w' ∧ ∀ k, own s' k → own s k ∨ w.heap.size ≤ k

def cell4 (q : Addr × Pn) : List Value := [.pointer (some q.1), .int .i64 q.2.par, .int .i64 q.2.dep, .int .i64 q.2.pl]
def cellsSt (st : List (Addr × Pn)) : List Value := st.reverse.flatMap cell4
theorem cellsSt_cons (q : Addr × Pn) (st : List (Addr × Pn)) : cellsSt (q :: st) = cellsSt st ++ cell4 q := by simp [cellsSt]
theorem cellsSt_length (st : List (Addr × Pn)) : (cellsSt st).length = st.length * 4 := by
  induction st with
  | nil => rfl
  | cons q st ih => rw [cellsSt_cons, List.length_append, ih, List.length_cons]; simp [cell4]; omega

/-- What each leaves. -/
def EachEnd {S : Type} (W0 w : World) (t : Nd) (Inv : List Pn → S → World → Prop) (own : S → Nat → Prop) (s0 : S) (stop : List Pn → Bool) (e : Ending) (w' : World) : Prop :=
  ∃ (m : Nat) (s : S), e = .returned (.tuple #[]) ∧ m ≤ (allP t).length ∧ Inv ((allP t).take m) s w' ∧ Fr (own s0) W0.heap.size W0 w' ∧ (∀ k, own s k → own s0 k ∨ W0.heap.size ≤ k) ∧
    (∀ j, 0 < j → j < m → stop ((allP t).take j) = false) ∧ (m = (allP t).length ∨ stop ((allP t).take m) = true)

/-- What holds at each round's head. -/
structure ERel {S : Type} (W0 : World) (B r : Nat) (Inv : List Pn → S → World → Prop) (own : S → Nat → Prop) (s0 : S) (stop : List Pn → Bool) (t : Nd) (v : Value) (vis : List Pn) (st : List (Addr × Pn)) (s : S) (wr : World) : Prop where
  all : vis ++ preS vis.length (st.map (·.2)) = allP t
  inv : Inv vis s wr
  fr : Fr (own s0) W0.heap.size W0 wr
  mine : ∀ k, own s k → own s0 k ∨ W0.heap.size ≤ k
  row : wr.ownsRow W0.heap.size 71 4 v st.length (cellsSt st)
  apart : ∀ g, v.ownBlock = some g → ¬ own s g
  nodes : ∀ q ∈ st, NodeAt W0 B r q.1 q.2.t
  stops : ∀ j, 0 < j → j ≤ vis.length → stop (vis.take j) = false
  deps : ∀ q ∈ st, 0 ≤ q.2.dep ∧ q.2.dep ≤ vis.length
section
variable {S : Type} {W0 : World} {B r : Nat} {Inv : List Pn → S → World → Prop} {own : S → Nat → Prop} {s0 : S} {stop : List Pn → Bool} {t : Nd} {v : Value} {vis : List Pn} {st : List (Addr × Pn)} {s : S} {wr : World}
theorem row_slice {B0 e z n : Nat} {xs : List Value} (h : wr.ownsRow B0 e z v n xs) : ∃ a cap, v = .slice a n cap ∧ n ≤ cap ∧ cap ≤ maxLen := by
  rcases h.2 with ⟨h1, h2⟩ | ⟨g, cap, cur, h1, _, _, h2, h3, _⟩
  · exact ⟨none, 0, by rw [h1, h2], by omega, by unfold maxLen; omega⟩
  · exact ⟨_, cap, h1, h2, h3⟩
theorem row_top {B0 e z n : Nat} {xs : List Value} (h : wr.ownsRow B0 e z v (n + 1) xs) : ∃ g cap, v = .slice (some ⟨g, 0, none⟩) (n + 1) cap ∧ n + 1 ≤ cap ∧ cap ≤ maxLen ∧ B0 ≤ g ∧ g < wr.heap.size := by
  have hl := h.lt
  rcases h.2 with ⟨h1, h2⟩ | ⟨g, cap, cur, h1, h5, h6, h2, h3, _⟩
  · omega
  · exact ⟨g, cap, h1, h2, h3, h5, (hl g (by rw [h1]; rfl)).2⟩
/-- A row without its last elements. -/
theorem row_less {B0 e z n m : Nat} {g cap : Nat} {xs ys : List Value} (h : wr.ownsRow B0 e z (.slice (some ⟨g, 0, none⟩) (n + m) cap) (n + m) (xs ++ ys)) (hx : xs.length = n * z) : wr.ownsRow B0 e z (.slice (some ⟨g, 0, none⟩) n cap) n xs := by
  obtain ⟨hl, h2⟩ := h
  refine ⟨hx, .inr ?_⟩
  rcases h2 with ⟨h1, _⟩ | ⟨g', cap', cur, h1, h5, h6, h7, h8, h9, h10⟩
  · cases h1
  · injection h1 with h1a h1b h1c
    injection h1a with h1a
    injection h1a with h1a
    subst h1a h1c
    refine ⟨g, cap, cur, rfl, h5, h6, by omega, h8, h9, ?_⟩
    have := congrArg (List.take (n * z)) h10
    rw [List.take_take, Nat.min_eq_left (by rw [Nat.add_mul]; omega), ← hx, List.take_left] at this
    rw [← hx]; exact this
theorem ERel.visLen (h : ERel W0 B r Inv own s0 stop t v vis st s wr) : vis.length + (st.map fun x => cntT x.2.t).sum = cntT t := by
  have := congrArg List.length h.all
  rw [List.length_append, preS_length, allP_length, List.map_map] at this
  exact this
theorem row_cells {B0 e n g cap : Nat} {q : Addr × Pn} {st : List (Addr × Pn)} (h : wr.ownsRow B0 e 4 (.slice (some ⟨g, 0, none⟩) n cap) n (cellsSt (q :: st))) :
    wr.cell? ⟨g, st.length * 4, none⟩ = some (.pointer (some q.1)) ∧ wr.cell? ⟨g, st.length * 4 + 1, none⟩ = some (.int .i64 q.2.par) ∧ wr.cell? ⟨g, st.length * 4 + 2, none⟩ = some (.int .i64 q.2.dep) ∧ wr.cell? ⟨g, st.length * 4 + 3, none⟩ = some (.int .i64 q.2.pl) := by
  have hc := h.cells (g := g) rfl
  have hl := cellsSt_length st
  rw [cellsSt_cons] at hc
  have at_ : ∀ i u, (cell4 q)[i]? = some u → wr.cell? ⟨g, st.length * 4 + i, none⟩ = some u := by
    intro i u hu
    have := hc (st.length * 4 + i) u (by rw [List.getElem?_append_right (by omega), hl, Nat.add_sub_cancel_left]; exact hu)
    rwa [add_flat, Nat.zero_add] at this
  exact ⟨at_ 0 _ rfl, at_ 1 _ rfl, at_ 2 _ rfl, at_ 3 _ rfl⟩
theorem erel_start {fc : FuncId} {caps : Array Value} {p : Addr} (C : Clo fc caps W0 B r t Inv own s0 stop) (hI : Inv [] s0 W0) (hp : NodeAt W0 B r p t) :
    ERel W0 B r Inv own s0 stop t (.slice (some ⟨W0.heap.size, 0, none⟩) 1 1) [] [(p, ⟨t, -1, 0, 0⟩)] s0 (W0.alloc (.cells #[.pointer (some p), .int .i64 (-1), .int .i64 0, .int .i64 0] 71)) := by
  have hlt := C.lt _ _ _ hI
  refine ⟨(allP_eq t).symm, C.stable _ _ _ _ hI (fun k hk => (alloc_old (w := W0) (o := _) (x := _) (Array.getElem?_eq_getElem (hlt k hk)) ).trans (Array.getElem?_eq_getElem (hlt k hk)).symm) (by simp), (Fr.refl _ _ _).alloc (Nat.le_refl _) _, fun k hk => .inl hk, ?_, ?_, ?_, fun j h1 h2 => ?_, ?_⟩
  · exact ⟨rfl, .inr ⟨_, 1, _, rfl, Nat.le_refl _, alloc_new W0 _, Nat.le_refl 1, by unfold maxLen; omega, rfl, rfl⟩⟩
  · intro g hg hk
    injection hg with hg
    have := hlt _ hk
    rw [← hg] at this
    exact absurd this (Nat.lt_irrefl _)
  · intro q hq
    simp only [List.mem_singleton] at hq
    subst hq; exact hp
  · simp at h2; omega
  · intro q hq
    simp only [List.mem_singleton] at hq
    subst hq; exact ⟨Int.le_refl _, by simp⟩
/-- Within a round: the node that is looked at, its block, and the stack so far. -/
structure IRel {S : Type} (W0 : World) (B r : Nat) (Inv : List Pn → S → World → Prop) (own : S → Nat → Prop) (s0 : S) (v : Value) (sb : Nat) (q : Addr × Pn) (vis : List Pn) (stk : List (Addr × Pn)) (s : S) (wr : World) : Prop where
  inv : Inv vis s wr
  fr : Fr (own s0) W0.heap.size W0 wr
  mine : ∀ k, own s k → own s0 k ∨ W0.heap.size ≤ k
  row : wr.ownsRow W0.heap.size 71 4 v stk.length (cellsSt stk)
  apart : ∀ g, v.ownBlock = some g → ¬ own s g
  nodes : ∀ q ∈ stk, NodeAt W0 B r q.1 q.2.t
  sblk : wr.heap[sb]? = some (.cells #[.pointer (some q.1), .int .i64 q.2.par, .int .i64 q.2.dep, .int .i64 q.2.pl] 71 (0, 0))
  sne : v.ownBlock ≠ some sb
  shigh : W0.heap.size ≤ sb
  deps : ∀ q ∈ stk, 0 ≤ q.2.dep ∧ q.2.dep ≤ vis.length
/-- The kids, where they lie. -/
def kidsA (kb : Nat) (id dep : Int) : Nat → Int → List Nd → List (Addr × Pn)
  | _, _, [] => []
  | ko, pl, t :: ts => (⟨kb, ko, none⟩, ⟨t, id, dep, pl⟩) :: kidsA kb id dep (ko + 5) (pl + 1) ts
theorem kidsA_map (kb : Nat) (id dep : Int) : ∀ (ts : List Nd) (ko : Nat) (pl : Int), (kidsA kb id dep ko pl ts).map (·.2) = kidsPn id dep pl ts
  | [], _, _ => rfl
  | t :: ts, ko, pl => by unfold kidsA kidsPn; rw [List.map_cons, kidsA_map kb id dep ts]
theorem kidsA_length (kb : Nat) (id dep : Int) (ts : List Nd) (ko : Nat) (pl : Int) : (kidsA kb id dep ko pl ts).length = ts.length := by
  rw [← List.length_map (f := (·.2)), kidsA_map, kidsPn_length]
theorem kidsA_drop (kb : Nat) (id dep : Int) : ∀ (ts : List Nd) (ko : Nat) (pl : Int) (j : Nat) (t : Nd), ts[j]? = some t →
    (kidsA kb id dep ko pl ts).drop j = (⟨kb, ko + j * 5, none⟩, ⟨t, id, dep, pl + j⟩) :: (kidsA kb id dep ko pl ts).drop (j + 1)
  | [], _, _, _, _, h => by simp at h
  | t :: ts, ko, pl, 0, u, h => by simp at h; subst h; unfold kidsA; simp
  | t :: ts, ko, pl, j + 1, u, h => by
    have := kidsA_drop kb id dep ts (ko + 5) (pl + 1) j u (by simpa using h)
    unfold kidsA
    rw [List.drop_succ_cons, List.drop_succ_cons, this]
    congr 2
    · congr 1; omega
    · congr 1; omega
theorem sum_kids (kb : Nat) (id dep : Int) : ∀ (ts : List Nd) (ko : Nat) (pl : Int), ((kidsA kb id dep ko pl ts).map fun x => cntT x.2.t).sum = cntL ts
  | [], _, _ => rfl
  | t :: ts, ko, pl => by unfold kidsA cntL; rw [List.map_cons, List.sum_cons, sum_kids kb id dep ts]
theorem cntL_ge : ∀ ts : List Nd, ts.length ≤ cntL ts
  | [] => Nat.le_refl _
  | t :: ts => by unfold cntL; have := cntT_pos t; have := cntL_ge ts; simp; omega
theorem IRel.push {fc : FuncId} {caps : Array Value} (C : Clo fc caps W0 B r t Inv own s0 stop) {sb : Nat} {q x : Addr × Pn} {stk : List (Addr × Pn)} (h : IRel W0 B r Inv own s0 v sb q vis stk s wr) (hx : NodeAt W0 B r x.1 x.2.t) (hd : 0 ≤ x.2.dep ∧ x.2.dep ≤ vis.length)
    {o : Obj} {v' : Value} {w2 : World} (hown : w2.ownsRow W0.heap.size 71 4 v' (stk.length + 1) (cellsSt stk ++ cell4 x)) (hg : ((wr.alloc o).drew).grownBy w2 v.ownBlock)
    (hv : v'.ownBlock = v.ownBlock ∨ v'.ownBlock = some ((wr.alloc o).drew).heap.size) : IRel W0 B r Inv own s0 v' sb q vis (x :: stk) s w2 := by
  have hlt := C.lt _ _ _ h.inv
  have hsz : ((wr.alloc o).drew).heap.size = wr.heap.size + 1 := by show (wr.alloc o).heap.size = _; simp
  have hs0 := h.fr.size
  have old : ∀ k, k < wr.heap.size → v.ownBlock ≠ some k → w2.heap[k]? = wr.heap[k]? := fun k hk hne =>
    (hg.block k (by rw [hsz]; omega) (fun e => hne e.symm)).trans (Below.heap_alloc wr o k hk)
  have hs2 : wr.heap.size ≤ w2.heap.size := by have := hg.size; rw [hsz] at this; omega
  have hsb : sb < wr.heap.size := lt_of_block h.sblk
  refine ⟨C.stable _ _ _ _ h.inv (fun k hk => old k (hlt k hk) fun e => h.apart k e hk) hs2, ?_, h.mine, ?_, ?_, ?_, (old sb hsb h.sne).trans h.sblk, ?_, h.shigh, ?_⟩
  · refine (((h.fr.alloc hs0 o).drew).grown hg (by rw [hsz]; omega) fun k hk => .inl ?_)
    exact (h.row.lt k hk).1
  · rw [cellsSt_cons]; exact hown
  · intro g hg' hk
    rcases hv with e | e
    · exact h.apart g (e.symm.trans hg') hk
    · rw [e] at hg'; injection hg' with hg'
      have := hlt g hk
      rw [hsz] at hg'; omega
  · intro y hy
    rcases List.mem_cons.1 hy with rfl | hy
    · exact hx
    · exact h.nodes y hy
  · rcases hv with e | e
    · rw [e]; exact h.sne
    · rw [e, hsz]; intro e2; injection e2 with e2; omega
  · intro y hy
    rcases List.mem_cons.1 hy with rfl | hy
    · exact hd
    · exact h.deps y hy
theorem row_keep {w w' : World} {B0 e z n : Nat} {v : Value} {xs : List Value} (h : w.ownsRow B0 e z v n xs) (hk : ∀ g, v.ownBlock = some g → w'.heap[g]? = w.heap[g]?) : w'.ownsRow B0 e z v n xs := by
  refine ⟨h.1, ?_⟩
  rcases h.2 with h2 | ⟨g, cap, cur, h1, h5, h6, h7⟩
  · exact .inl h2
  · exact .inr ⟨g, cap, cur, h1, h5, (hk g (by rw [h1]; rfl)).trans h6, h7⟩
theorem len_le_sum : ∀ st : List (Addr × Pn), st.length ≤ (st.map fun x => cntT x.2.t).sum
  | [] => Nat.le_refl _
  | q :: st => by have := len_le_sum st; have := cntT_pos q.2.t; simp; omega
theorem ERel.next {q : Addr × Pn} (h : ERel W0 B r Inv own s0 stop t v vis (q :: st) s wr) : (vis ++ [q.2]) ++ preS (vis.length + 1) (kidsPn vis.length (q.2.dep + 1) 0 q.2.t.kids ++ st.map (·.2)) = allP t := by
  rw [← h.all, List.map_cons, preS_step, List.append_assoc]; rfl
theorem ERel.here {p : Addr} {x : Pn} (h : ERel W0 B r Inv own s0 stop t v vis ((p, x) :: st) s wr) : vis ++ x :: preS (vis.length + 1) (kidsPn vis.length (x.dep + 1) 0 x.t.kids ++ st.map (·.2)) = allP t := by
  have := h.next; rwa [List.append_assoc] at this
theorem ERel.takeNext {q : Addr × Pn} (h : ERel W0 B r Inv own s0 stop t v vis (q :: st) s wr) : (allP t).take (vis.length + 1) = vis ++ [q.2] := by
  rw [← h.next, List.take_append_of_le_length (by simp)]
  exact List.take_of_length_le (by simp)
/-- What holds when a node's block is laid, and the function is called. -/
theorem ERel.ready {fc : FuncId} {caps : Array Value} (C : Clo fc caps W0 B r t Inv own s0 stop) (hB : B ≤ W0.heap.size) (hr : r < W0.heap.size) {q : Addr × Pn} (h : ERel W0 B r Inv own s0 stop t v vis (q :: st) s wr) (o : Obj) :
    Inv vis s (wr.alloc o) ∧ Fr (own s0) W0.heap.size W0 (wr.alloc o) ∧ W0.heap.size ≤ (wr.alloc o).heap.size ∧ NodeAt (wr.alloc o) B r q.1 q.2.t := by
  have hs0 := h.fr.size
  have hF : Fr (own s0) W0.heap.size W0 (wr.alloc o) := h.fr.alloc hs0 o
  refine ⟨C.stable _ _ _ _ h.inv (fun k hk => Below.heap_alloc wr o k (C.lt _ _ _ h.inv k hk)) (by simp), hF, hF.size, (h.nodes q (by simp)).keep fun k hk => hF.block k (by omega) fun ho => ?_⟩
  have := C.apart k ho
  omega
/-- What is left behind the function's call, the stack being one less. -/
theorem ERel.called {fc : FuncId} {caps : Array Value} (C : Clo fc caps W0 B r t Inv own s0 stop) {q : Addr × Pn} {g cap : Nat} (h : ERel W0 B r Inv own s0 stop t (.slice (some ⟨g, 0, none⟩) (st.length + 1) cap) vis (q :: st) s wr) {w2 : World} {s' : S}
    (hI : Inv (vis ++ [q.2]) s' w2) (hF : Fr (own s) (wr.alloc (.cells #[.pointer (some q.1), .int .i64 q.2.par, .int .i64 q.2.dep, .int .i64 q.2.pl] 71)).heap.size (wr.alloc (.cells #[.pointer (some q.1), .int .i64 q.2.par, .int .i64 q.2.dep, .int .i64 q.2.pl] 71)) w2)
    (hm : ∀ k, own s' k → own s k ∨ (wr.alloc (.cells #[.pointer (some q.1), .int .i64 q.2.par, .int .i64 q.2.dep, .int .i64 q.2.pl] 71)).heap.size ≤ k) :
    IRel W0 B r Inv own s0 (.slice (some ⟨g, 0, none⟩) st.length cap) wr.heap.size q (vis ++ [q.2]) st s' w2 := by
  generalize ho : (Obj.cells #[.pointer (some q.1), .int .i64 q.2.par, .int .i64 q.2.dep, .int .i64 q.2.pl] 71) = o at hF hm
  have hlt := C.lt _ _ _ h.inv
  have hs0 := h.fr.size
  have hsz : (wr.alloc o).heap.size = wr.heap.size + 1 := by simp
  rw [hsz] at hF hm
  have hgl := (h.row.lt g rfl).2
  have hgo := h.apart g rfl
  have hga : (wr.alloc o).heap[g]? = wr.heap[g]? := Below.heap_alloc wr o g hgl
  have hrow : wr.ownsRow W0.heap.size 71 4 (.slice (some ⟨g, 0, none⟩) st.length cap) st.length (cellsSt st) :=
    row_less (m := 1) (ys := cell4 q) (by have := h.row; rwa [cellsSt_cons, List.length_cons] at this) (cellsSt_length st)
  refine ⟨hI, ?_, ?_, ?_, ?_, fun y hy => h.nodes y (by simp [hy]), ?_, ?_, hs0, fun y hy => ?_⟩
  · exact (h.fr.alloc hs0 o).trans (hF.mono (by omega) fun k hk ho => by rcases h.mine k ho with h1 | h1; exact h1; omega)
  · intro k hk
    rcases hm k hk with h1 | h1
    · exact h.mine k h1
    · right; omega
  · exact row_keep hrow fun k hk => by
      injection hk with hk
      subst hk
      exact (hF.block g (by omega) hgo).trans hga
  · intro k hk ho'
    injection hk with hk
    subst hk
    rcases hm g ho' with h1 | h1
    · exact hgo h1
    · omega
  · rw [hF.block _ (by omega) fun ho' => absurd (hlt _ ho') (Nat.lt_irrefl _), alloc_new, ← ho]
  · intro e; injection e with e; exact absurd e (Nat.ne_of_lt hgl)
  · have := h.deps y (by simp [hy])
    rw [List.length_append]; simp only [List.length_cons, List.length_nil]; omega
theorem ERel.again {v' : Value} {sb kb ko : Nat} {s' : S} {w2 : World} {q : Addr × Pn} (h : ERel W0 B r Inv own s0 stop t v vis (q :: st) s wr) (hst : stop (vis ++ [q.2]) = false)
    (hI : IRel W0 B r Inv own s0 v' sb q (vis ++ [q.2]) (kidsA kb vis.length (q.2.dep + 1) ko 0 q.2.t.kids ++ st) s' w2) :
    ERel W0 B r Inv own s0 stop t v' (vis ++ [q.2]) (kidsA kb vis.length (q.2.dep + 1) ko 0 q.2.t.kids ++ st) s' w2 := by
  refine ⟨?_, hI.inv, hI.fr, hI.mine, hI.row, hI.apart, hI.nodes, fun j h0 h1 => ?_, hI.deps⟩
  · rw [List.map_append, kidsA_map, List.length_append]; exact h.next
  · rw [List.length_append] at h1
    simp only [List.length_cons, List.length_nil] at h1
    rcases Nat.lt_or_ge j (vis.length + 1) with hl | hl
    · rw [List.take_append_of_le_length (by omega)]; exact h.stops j h0 (by omega)
    · rw [List.take_of_length_le (by simp; omega)]; exact hst
theorem ERel.takeStop (h : ERel W0 B r Inv own s0 stop t v vis st s wr) (j : Nat) (h0 : 0 < j) (h1 : j ≤ vis.length) : stop ((allP t).take j) = false := by
  rw [← h.all, List.take_append_of_le_length h1]; exact h.stops j h0 h1
theorem kids_at {w : World} {p : Addr} {t : Nd} (h : NodeAt w B r p t) : ∃ b off K kc kb ko, p = ⟨b, off, none⟩ ∧ (b < B ∨ b = r) ∧ w.cell? ⟨b, off + 4, none⟩ = some (.slice K t.kids.length kc) ∧ t.kids.length ≤ kc ∧ kc ≤ maxLen ∧
    ∀ j u, t.kids[j]? = some u → K = some ⟨kb, ko, none⟩ ∧ NodeAt w B r ⟨kb, ko + j * 5, none⟩ u := by
  obtain ⟨b, off, K, kc, e, hb, c, h1, h2, h3⟩ := h.kid
  cases hk : t.kids with
  | nil => exact ⟨b, off, K, kc, 0, 0, e, hb, by rw [← hk]; exact c, by rw [← hk]; exact h1, h2, fun j u hj => by simp at hj⟩
  | cons x xs =>
    obtain ⟨kb, ko, e2, _⟩ := h3 0 x (by rw [hk]; rfl)
    refine ⟨b, off, K, kc, kb, ko, e, hb, by rw [← hk]; exact c, by rw [← hk]; exact h1, h2, fun j u hj => ?_⟩
    obtain ⟨kb', ko', e3, hn⟩ := h3 j u (by rw [hk]; exact hj)
    rw [e2] at e3
    injection e3 with e3
    injection e3 with e4 e5
    subst e4 e5
    exact ⟨e2, hn⟩
end

theorem size_alloc (w : World) (o : Obj) : w.heap.size ≤ ((w.alloc o).drew).heap.size := by show w.heap.size ≤ (w.alloc o).heap.size; simp
theorem step_info : (Try.prog.info? 71).map (fun i => (i.zero, i.size, i.bytes)) = some (some (.agg #[.pointer none, .int .i64 0, .int .i64 0, .int .i64 0]), 4, 32) := by kernel_rfl
set_option maxRecDepth 100000 in
set_option maxHeartbeats 4000000 in
theorem each_calls {S : Type} (fc : FuncId) (caps : Array Value) (hent : ∀ args w, (callFunc fc args).run Try.prog w = .ok (.enter fc args) w) (W0 : World) (B r : Nat) (Inv : List Pn → S → World → Prop) (own : S → Nat → Prop) (s0 : S) (stop : List Pn → Bool) (t : Nd)
    (C : Clo fc caps W0 B r t Inv own s0 stop) (hB : B ≤ W0.heap.size) (hr : r < W0.heap.size) (p : Addr) (hN : cntT t ≤ 1000000) (hI : Inv [] s0 W0) (hp : NodeAt W0 B r p t) :
    Calls Try.prog 42 #[.pointer (some p), .func (.func fc) #[] caps] W0 (EachEnd W0 W0 t Inv own s0 stop) := by
  have HP := Lib.hid hp
  have HI := Lib.hid hI
  clear hp hI
  go_enter Try.func42, Try.ntmps42
  go_wp2_with fail
  go_step3
  go_wp2_with fail
  go_step3
  go_wp2_with fail
  go_loopw [4, 5] (fun v i wr => ∃ (vis : List Pn) (st : List (Addr × Pn)) (s : S), i = .int .i64 vis.length ∧ ERel W0 B r Inv own s0 stop t v vis st s wr) (fun _ i _ => cntT t - (intOf i).toNat)
  case atStart => exact ⟨[], [(p, ⟨t, -1, 0, 0⟩)], s0, rfl, erel_start C HI.out HP.out⟩
  case round =>
    obtain ⟨vis, st, s, rfl, hR⟩ := hrel
    have hlen := hR.visLen
    cases st with
    | nil =>
      obtain ⟨a, cap, rfl, _, _⟩ := row_slice hR.row
      have HR := Lib.hid hR
      clear hR
      go_wp2_with fail
      rw [Exit.noGoto_normal]
      go_end0
      have hall := HR.out.all
      simp only [List.map_nil, preS, List.append_nil] at hall
      exact ⟨vis.length, s, rfl, by rw [← hall]; exact Nat.le_refl _, by rw [← hall, List.take_length]; exact HR.out.inv, HR.out.fr, HR.out.mine, fun j h0 h1 => by rw [← hall]; exact HR.out.stops j h0 (by omega), .inl (by rw [← hall])⟩
    | cons q st =>
      obtain ⟨qp, x⟩ := q
      obtain ⟨g, cap, rfl, hg1, hg2, hg3, hg4⟩ := row_top hR.row
      obtain ⟨c0, c1, c2, c3⟩ := row_cells hR.row
      have hcap : st.length ≤ 9223372036854775806 := by unfold maxLen at hg2; omega
      have hl2 := len_le_sum st
      rw [List.map_cons, List.sum_cons] at hlen
      have hq := cntT_pos x.t
      change vis.length + (cntT x.t + (st.map fun x => cntT x.2.t).sum) = cntT t at hlen
      have HR := Lib.hid hR
      have HY := Lib.hid (hR.ready C hB hr (.cells #[.pointer (some qp), .int .i64 x.par, .int .i64 x.dep, .int .i64 x.pl] 71))
      have hvl : vis.length + 1 ≤ 1000000 := by omega
      have HL := Lib.hid hlen
      clear hR hlen
      go_wp2_with fail
      refine (C.call vis s _ qp x _ HR.out.here HY.out.1 HY.out.2.1 HY.out.2.2.1 HY.out.2.2.2 (by omega)).mono ?_
      rintro e w2 ⟨s', rfl, hI2, hF2, hm2⟩
      have HX := Lib.hid (HR.out.called C hI2 hF2 hm2)
      clear hI2 hF2 hm2 c0 c1 c2 c3 HY
      have d0 : w2.cell? ⟨wr.heap.size, 0, none⟩ = some (.pointer (some qp)) := by rw [block_cell HX.out.sblk]; rfl
      have d2 : w2.cell? ⟨wr.heap.size, 2, none⟩ = some (.int .i64 x.dep) := by rw [block_cell HX.out.sblk]; rfl
      have hnode : NodeAt w2 B r qp x.t := (HR.out.nodes (qp, x) (by simp)).keep fun k hk => HX.out.fr.block k (by omega) fun ho => by
        have := C.apart k ho
        omega
      obtain ⟨nb, noff, K, kc, kb, ko, rfl, hnb, d4, hk1, hk2, hkid⟩ := kids_at hnode
      have HK := Lib.hid hkid
      have HNB := Lib.hid hnb
      clear hnode hkid hnb
      have hkl : x.t.kids.length ≤ 9223372036854775806 := by
        have := HL.out
        have h1 := cntL_ge x.t.kids
        have h2 : cntT x.t = cntL x.t.kids + 1 := by cases x.t; unfold cntT; rfl
        omega
      cases hst : stop (vis ++ [x]) with
      | true =>
        have HS := Lib.hid hst
        clear hst
        go_wp2_with fail
        rw [Exit.noGoto_normal]
        go_end0
        exact ⟨vis.length + 1, s', rfl, by rw [allP_length]; have := HL.out; omega, by rw [HR.out.takeNext]; exact HX.out.inv, HX.out.fr, HX.out.mine, fun j h0 h1 => HR.out.takeStop j h0 (by omega), .inr (by rw [HR.out.takeNext]; exact HS.out)⟩
      | false =>
        have HS := Lib.hid hst
        clear hst
        generalize wr.heap.size = sb at HX d0 d2 hg4 ⊢
        have HA := Lib.hid (kidsA_drop kb vis.length (x.dep + 1) x.t.kids ko 0)
        go_wp2_with fail
        have HLK : (kidsA kb vis.length (x.dep + 1) ko 0 x.t.kids).length = x.t.kids.length := kidsA_length _ _ _ _ _ _
        go_loopw [4, 7] (fun v i wi => ∃ (j : Nat), j ≤ x.t.kids.length ∧ i = .int .i64 ((j : Int) - 1) ∧ IRel W0 B r Inv own s0 v sb (⟨nb, noff, none⟩, x) (vis ++ [x]) ((kidsA kb vis.length (x.dep + 1) ko 0 x.t.kids).drop j ++ st) s' wi) (fun _ i _ => (intOf i + 1).toNat)
        case atStart => exact ⟨x.t.kids.length, Nat.le_refl _, rfl, by rw [List.drop_of_length_le (by omega), List.nil_append]; exact HX.out⟩
        case round =>
          obtain ⟨j, hj, rfl, hIR⟩ := hrel
          cases j with
          | zero =>
            have HE := Lib.hid (HR.out.again HS.out (by rw [List.drop_zero] at hIR; exact hIR))
            have HI2 := Lib.hid hIR
            clear hIR
            go_wp2_with fail
            go_roundw
            case rel => exact ⟨vis ++ [x], _, s', by rw [List.length_append]; go_num, HE.out⟩
            case measure =>
              have h := HL.out
              simp [intOf]
              omega
          | succ j =>
            rw [show ((j + 1 : Nat) : Int) - 1 = (j : Int) by omega]
            obtain ⟨u, hu⟩ : ∃ u, x.t.kids[j]? = some u := ⟨_, List.getElem?_eq_getElem (by omega)⟩
            obtain ⟨rfl, hun⟩ := HK.out j u hu
            have e0 : wr.cell? ⟨sb, 0, none⟩ = some (.pointer (some ⟨nb, noff, none⟩)) := by rw [block_cell hIR.sblk]; rfl
            have e2 : wr.cell? ⟨sb, 2, none⟩ = some (.int .i64 x.dep) := by rw [block_cell hIR.sblk]; rfl
            have e4 : wr.cell? ⟨nb, noff + 4, none⟩ = some (.slice (some ⟨kb, ko, none⟩) x.t.kids.length kc) := by
              rw [← d4]
              exact World.cell?_of_block ((hIR.fr.block nb (by have := HNB.out; omega) (fun ho => by have := C.apart nb ho; have := HNB.out; omega)).trans (HX.out.fr.block nb (by have := HNB.out; omega) (fun ho => by have := C.apart nb ho; have := HNB.out; omega)).symm)
            have hdep := HR.out.deps (⟨nb, noff, none⟩, x) (by simp)
            change 0 ≤ x.dep ∧ x.dep ≤ vis.length at hdep
            have hwd : IntKind.i64.wrap (x.dep + 1) = x.dep + 1 := IntWalk.i64_in _ (by omega)
            have HD : Hid (0 ≤ x.dep + 1 ∧ x.dep + 1 ≤ ((vis ++ [x]).length : Int)) := Lib.hid (by rw [List.length_append]; simp only [List.length_cons, List.length_nil]; omega)
            have HU := Lib.hid hu
            have HUN := Lib.hid hun
            have hjl : (j : Int) < (x.t.kids.length : Int) := by omega
            have HI2 := Lib.hid hIR
            have HROW := Lib.hid hIR.row
            have hsz0 := hIR.fr.size
            have HONE : Hid _ := Lib.hid (show ∀ u' ∈ cell4 (⟨kb, ko + j * 5, none⟩, ⟨u, vis.length, x.dep + 1, j⟩), u'.oneCell' = true by simp [cell4, Value.oneCell'])
            obtain ⟨i0, ii, hz0, hz1, hz2⟩ := info_parts step_info
            generalize hlst : (kidsA kb vis.length (x.dep + 1) ko 0 x.t.kids).drop (j + 1) ++ st = stk at HI2 HROW
            have HB0 : Hid (W0.heap.size ≤ wr.heap.size) := Lib.hid hsz0
            have hstk : stk.length ≤ 1000000 := by
              rw [← hlst, List.length_append, List.length_drop, HLK]
              have := HL.out
              have h1 := cntL_ge x.t.kids
              have h2 : cntT x.t = cntL x.t.kids + 1 := by cases x.t; unfold cntT; rfl
              omega
            have HST := Lib.hid hlst
            clear hIR hu hun d0 d2 d4 hdep hlst hsz0
            have HNEWS : Hid (∀ (i : Nat) u', (cell4 (⟨kb, ko + j * 5, none⟩, ⟨u, vis.length, x.dep + 1, j⟩))[i]? = some u' → ((wr.alloc (.cells #[.pointer (some ⟨kb, ko + j * 5, none⟩), .int .i64 vis.length, .int .i64 (x.dep + 1), .int .i64 j] 71)).drew).cell? ((⟨wr.heap.size, 0, none⟩ : Addr).add i) = some u') := Lib.hid fun i u' hi => by
              rw [add_flat, Nat.zero_add]
              show (wr.alloc _).cell? _ = _
              rw [block_cell (alloc_new wr _)]
              simpa [cell4] using hi
            go_wp2_with fail
            go_region_law (refine step_append_own rfl (.tmp 41) (.tmp 55) 96 rfl W0.heap.size 71 i0 _ 4 32 Try.underlying96 ii hz0 hz1 hz2 rfl (by decide) u4 stk.length (cellsSt stk) rfl (HROW.out.alloc _) ⟨wr.heap.size, 0, none⟩ 1 1 (cell4 (⟨kb, ko + j * 5, none⟩, ⟨u, vis.length, x.dep + 1, j⟩)) rfl rfl HNEWS.out HONE.out (by unfold maxLen; omega) (by omega) (Nat.le_trans HB0.out (size_alloc wr _)) ?_; intro v' w3 g1 g2 g3)
            all_goals
              have G := Lib.hid (HI2.out.push C (x := (⟨kb, ko + j * 5, none⟩, ⟨u, vis.length, x.dep + 1, j⟩)) (HUN.out.keep fun k hk => (HX.out.fr.block k (by omega) (fun ho => by have := C.apart k ho; omega)).symm) HD.out g1 g2 g3)
              clear g1 g2 g3
              go_wp2_with fail
              go_roundw
              case rel => exact ⟨j, by omega, rfl, by rw [HA.out j u HU.out, Int.zero_add, List.cons_append, HST.out]; exact G.out⟩
              case measure => simp [intOf]
end Go.Proofs.Ytcacgbdnegmfnaa.Tr
