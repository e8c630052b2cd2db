/- topiarylaw00.grown: a tree by numbers. -/
import Derived.Test.YtbjcahhijfommaaDoorNextS
import Derived.Deep.RegionHeld3
import Derived.Deep.AppendLies
import Derived.Deep.CutRange
namespace Go.Proofs.YtbjcahhijfommaaDoor.Gn
open Go Go.RowKit Go.Proofs.YtbjcahhijfommaaDoor.Tr
set_option linter.unusedVariables false
def zero5 : Array Value := #[.int .i64 0, .string ⟨#[]⟩, .string ⟨#[]⟩, .slice none 0 0, .slice none 0 0]
def Two (a b : Nat) (k : Nat) : Prop := k = a ∨ k = b
def GrownEnd (d a b n : Nat) (w : World) (e : Ending) (w' : World) : Prop :=
  ∃ (t : Nd) (x0 x1 x2 x3 x4 : Value) (y : Int), e = .returned (.agg #[x0, x1, x2, x3, x4]) ∧ TreeIn w' (fun c => w.heap.size ≤ c ∧ c < w'.heap.size) t x0 x1 x2 x3 x4 ∧ okT d t ∧ n + cntT t ≤ 40 ∧ Cnt w' a y ∧ Cnt w' b ((n + cntT t : Nat) : Int) ∧ Fr (Two a b) w.heap.size w w'
/-- Behind the first numbers. -/
structure GOne (a b n : Nat) (y : Int) (w w2 : World) : Prop where
  fr : Fr (Two a b) w.heap.size w w2
  ca : Cnt w2 a y
  cb : Cnt w2 b ((n + 1 : Nat) : Int)
  box : w2.heap[w.heap.size]? = some (.cells #[.int .i64 0, .string ⟨#[]⟩, .string ⟨#[]⟩, .slice none 0 0, .slice none 0 0] 25 (0, 0))
theorem leaf_in {w : World} {S : Nat → Prop} (k : Int) (s : ByteArray) (hk : (Lit.int .i64 k).wf = true) (hs : s.size ≤ 6) : TreeIn w S (.mk k ⟨#[]⟩ s [] []) (.int .i64 k) (.string ⟨#[]⟩) (.string s) (.slice none 0 0) (.slice none 0 0) := by
  unfold TreeIn
  exact ⟨rfl, rfl, rfl, hk, Nat.zero_le _, by unfold maxLen; omega, none, 0, none, 0, rfl, rfl, ⟨Nat.le_refl _, Nat.zero_le _, by simp, fun h => absurd rfl h⟩, Nat.le_refl _, Nat.zero_le _, fun h => absurd rfl h⟩
theorem leaf_ok (d : Nat) (hd : d ≤ 6) (k : Int) (s : ByteArray) (hs : s.size ≤ 6) : okT d (.mk k ⟨#[]⟩ s [] []) := by
  unfold okT
  exact ⟨by omega, Nat.zero_le _, Nat.zero_le _, by omega, by simp, by unfold okL; trivial⟩
theorem leaf_cnt (k : Int) (s : ByteArray) : cntT (.mk k ⟨#[]⟩ s [] []) = 1 := by unfold cntT cntL; rfl
/-- The end with a leaf in the result's box. -/
theorem leaf_end {d a b n : Nat} {y : Int} {w w2 w3 : World} (h : GOne a b n y w w2) (hd : d ≤ 6) (hn : n < 40) (ha : a < w.heap.size) (hb : b < w.heap.size) {k : Int} {s : ByteArray} (hk : (Lit.int .i64 k).wf = true) (hs : s.size ≤ 6)
    (hS : Set5 w2 w.heap.size 25 (.int .i64 k) (.string ⟨#[]⟩) (.string s) (.slice none 0 0) (.slice none 0 0) w3) : GrownEnd d a b n w (.returned (.agg #[.int .i64 k, .string ⟨#[]⟩, .string s, .slice none 0 0, .slice none 0 0])) w3 := by
  refine ⟨_, _, _, _, _, _, y, rfl, leaf_in k s hk hs, leaf_ok d hd k s hs, by rw [leaf_cnt]; omega, ?_, ?_, ?_⟩
  · exact (hS.other a (by omega)).trans h.ca
  · rw [leaf_cnt]; exact (hS.other b (by omega)).trans h.cb
  · refine h.fr.trans (hS.fr.mono h.fr.size ?_)
    intro k hk e; omega
/-- What holds of a node that is being made: its box T, the result's box r, the counters a and b; new rows from B1 on; N nodes ahead of its kids. -/
structure GSt (a b N T r B1 : Nat) (kd : Int) (y : Int) (nm : ByteArray) (av : Value) (al : List (ByteArray × ByteArray)) (kv : Value) (ks : List Nd) (xs : List Value) (w wr : World) : Prop where
  blk : wr.heap[T]? = some (.cells #[.int .i64 kd, .string nm, .string ⟨#[]⟩, av, kv] 25 (0, 0))
  arow : wr.ownsRow B1 39 2 av al.length (cellsA al)
  ane : av.ownBlock ≠ some T
  asep : ∀ g, kv.ownBlock = some g → av.ownBlock ≠ some g
  row : wr.ownsRow B1 25 5 kv ks.length xs
  ne : kv.ownBlock ≠ some T
  kids : KidRow wr (fun c => B1 ≤ c ∧ c < wr.heap.size ∧ c ≠ T ∧ kv.ownBlock ≠ some c) ks xs
  box : wr.heap[r]? = some (.cells #[.int .i64 0, .string ⟨#[]⟩, .string ⟨#[]⟩, .slice none 0 0, .slice none 0 0] 25 (0, 0))
  ca : Cnt wr a y
  cb : Cnt wr b ((N + cntL ks : Nat) : Int)
  ab : r < B1 ∧ a < B1 ∧ b < B1 ∧ T ≠ a ∧ T ≠ b ∧ T ≠ r ∧ r ≠ a ∧ r ≠ b ∧ w.heap.size ≤ r ∧ w.heap.size ≤ T ∧ w.heap.size ≤ B1 ∧ B1 ≤ wr.heap.size
  fr : Fr (Two a b) w.heap.size w wr
theorem GSt.start {a b n : Nat} {y : Int} {w w2 : World} (h : GOne a b n y w w2) (ha : a < w.heap.size) (hb : b < w.heap.size) (nm : ByteArray) :
    GSt a b (n + 1) w2.heap.size w.heap.size (w.heap.size + 1) 2 y nm (.slice none 0 0) [] (.slice none 0 0) [] [] w (w2.alloc (.cells #[.int .i64 2, .string nm, .string ⟨#[]⟩, .slice none 0 0, .slice none 0 0] 25)) := by
  have hs := h.fr.size
  have hbx := lt_of_block h.box
  exact ⟨alloc_new w2 _, World.ownsRow_nil _ _ _ _, by simp [Value.ownBlock], (fun g e => by cases e), World.ownsRow_nil _ _ _ _, by simp [Value.ownBlock], (fun i t hi => by simp at hi), alloc_old h.box _, alloc_old h.ca _,
    by rw [show cntL [] = 0 by unfold cntL; rfl]; exact alloc_old h.cb _, by simp; omega, h.fr.alloc hs _⟩
/-- So many attributes at most, no kids yet. -/
def ASt (a b n T : Nat) (y : Int) (nm : ByteArray) (N : Nat) (w wr : World) : Prop := ∃ A ac al, al.length ≤ N ∧ (∀ x ∈ al, x.1.size ≤ 6 ∧ x.2.size ≤ 6) ∧ GSt a b (n + 1) T w.heap.size (w.heap.size + 1) 2 y nm (.slice A al.length ac) al (.slice none 0 0) [] [] w wr
/-- An attribute in an array of its own. -/
def SpAttr (H : Nat) (p : ByteArray) (v : Value) (W : World) : Prop := ∃ g s, v = .slice (some ⟨g, 0, none⟩) 1 1 ∧ s.size ≤ 6 ∧ H ≤ g ∧ W.heap[g]? = some (.cells #[.string p, .string s] 39 (0, 0))
/-- One attribute more. -/
theorem GSt.attr {a b N T r B1 : Nat} {kd y : Int} {nm : ByteArray} {av av' : Value} {al : List (ByteArray × ByteArray)} {w wr w3 w5 : World} {p q : ByteArray} (h : GSt a b N T r B1 kd y nm av al (.slice none 0 0) [] [] w wr) (hb3 : Below wr.heap.size wr w3)
    (hrow : w5.ownsRow B1 39 2 av' (al.length + 1) (cellsA al ++ [.string p, .string q])) (hg : w3.grownBy w5 av.ownBlock) (hat : av'.ownBlock = av.ownBlock ∨ av'.ownBlock = some w3.heap.size) :
    GSt a b N T r B1 kd y nm av' (al ++ [(p, q)]) (.slice none 0 0) [] [] w (w5.setCell ⟨T, 3, none⟩ av') := by
  have hTl := lt_of_block h.blk
  have hs3 := hb3.size
  have hs5 := hg.size
  have hne : av'.ownBlock ≠ some T := by
    rcases hat with e | e <;> rw [e]
    · exact h.ane
    · intro e; injection e with e; omega
  have old : ∀ c, c < wr.heap.size → c ≠ T → av.ownBlock ≠ some c → (w5.setCell ⟨T, 3, none⟩ av').heap[c]? = wr.heap[c]? := fun c hc hcT hca =>
    (Below.heap_setCell _ _ _ c hcT).trans ((hg.block c (by omega) (fun e => hca e.symm)).trans (hb3.block c hc))
  have hal : ∀ g, av.ownBlock = some g → B1 ≤ g := fun g e => (h.arow.lt g e).1
  have hab := h.ab
  have hca := h.ca.lt
  have hcb := h.cb.lt
  have hbx := lt_of_block h.box
  have hsz : (w5.setCell ⟨T, 3, none⟩ av').heap.size = w5.heap.size := by simp
  have far : ∀ c, c < B1 → av.ownBlock ≠ some c := fun c hc e => by have := hal c e; omega
  refine ⟨?_, ?_, hne, (fun g e => by cases e), World.ownsRow_nil _ _ _ _, by simp [Value.ownBlock], (fun i t hi => by simp at hi), (old _ hbx (by omega) (far _ (by omega))).trans h.box, (old _ hca (by omega) (far _ (by omega))).trans h.ca,
    (old _ hcb (by omega) (far _ (by omega))).trans h.cb, by rw [hsz]; omega, ?_⟩
  · have h5 : w5.heap[T]? = some (.cells #[.int .i64 kd, .string nm, .string ⟨#[]⟩, av, .slice none 0 0] 25 (0, 0)) := (hg.block T (by omega) (fun e => h.ane e.symm)).trans ((hb3.block T hTl).trans h.blk)
    simp only [World.setCell, Array.getElem?_modify, ↓reduceIte, h5, Option.map_some]
    rfl
  · rw [show cellsA (al ++ [(p, q)]) = cellsA al ++ [.string p, .string q] by simp [cellsA], List.length_append]
    exact row_of_heap hrow fun g e => Below.heap_setCell _ _ _ g (fun e2 => hne (by rw [e, e2]))
  · refine ((h.fr.trans ((Fr.of_below hb3).mono h.fr.size fun _ _ e => e)).grown hg (by have := h.fr.size; omega) fun k e => .inl (by have := hal k e; omega)).setCell (.inl (by show _ ≤ T; omega)) _
theorem cntL_app (u : Nd) : ∀ ks : List Nd, cntL (ks ++ [u]) = cntL ks + cntT u
  | [] => by rw [List.nil_append]; unfold cntL cntL; omega
  | k :: ks => by have := cntL_app u ks; rw [List.cons_append]; unfold cntL; omega
theorem okL_app (d : Nat) (u : Nd) (hu : okT d u) : ∀ ks : List Nd, okL d ks → okL d (ks ++ [u])
  | [], _ => by rw [List.nil_append]; unfold okL; exact ⟨hu, by unfold okL; trivial⟩
  | k :: ks, h => by unfold okL at h; rw [List.cons_append]; unfold okL; exact ⟨h.1, okL_app d u hu ks h.2⟩
/-- One kid more. -/
theorem GSt.kid {a b N T r B1 : Nat} {kd y y' : Int} {nm : ByteArray} {av : Value} {al : List (ByteArray × ByteArray)} {kv : Value} {ks : List Nd} {xs : List Value} {w wr w3 w4 w5 : World} {u : Nd} {x0 x1 x2 x3 x4 : Value} {g cap : Nat}
    (h : GSt a b N T r B1 kd y nm av al kv ks xs w wr) (hfr : Fr (Two a b) wr.heap.size wr w3) (ha : Cnt w3 a y') (hb : Cnt w3 b ((N + cntL ks + cntT u : Nat) : Int)) (ht : TreeIn w3 (fun c => wr.heap.size ≤ c ∧ c < w3.heap.size) u x0 x1 x2 x3 x4)
    (hb4 : Below w3.heap.size w3 w4) (hrow : w5.ownsRow B1 25 5 (.slice (some ⟨g, 0, none⟩) (ks.length + 1) cap) (ks.length + 1) (xs ++ [x0, x1, x2, x3, x4])) (hg : w4.grownBy w5 kv.ownBlock) (hat : kv.ownBlock = some g ∨ g = w4.heap.size) :
    GSt a b N T r B1 kd y' nm av al (.slice (some ⟨g, 0, none⟩) (ks.length + 1) cap) (ks ++ [u]) (xs ++ [x0, x1, x2, x3, x4]) w (w5.setCell ⟨T, 4, none⟩ (.slice (some ⟨g, 0, none⟩) (ks.length + 1) cap)) := by
  have hTl := lt_of_block h.blk
  have hs3 := hfr.size
  have hs4 := hb4.size
  have hs5 := hg.size
  have hab := h.ab
  have hsw := h.fr.size
  have hkl : ∀ c, kv.ownBlock = some c → B1 ≤ c ∧ c < wr.heap.size := fun c e => h.row.lt c e
  have hal : ∀ c, av.ownBlock = some c → B1 ≤ c ∧ c < wr.heap.size := fun c e => h.arow.lt c e
  have hgT : g ≠ T := by
    rcases hat with e | e
    · intro e2; subst e2; exact h.ne e
    · omega
  have set : ∀ c, c ≠ T → (w5.setCell ⟨T, 4, none⟩ (.slice (some ⟨g, 0, none⟩) (ks.length + 1) cap)).heap[c]? = w5.heap[c]? := fun c hc => Below.heap_setCell _ _ _ c hc
  have mid : ∀ c, c < w3.heap.size → c ≠ T → kv.ownBlock ≠ some c → (w5.setCell ⟨T, 4, none⟩ (.slice (some ⟨g, 0, none⟩) (ks.length + 1) cap)).heap[c]? = w3.heap[c]? := fun c hc hcT hck =>
    (set c hcT).trans ((hg.block c (by omega) (fun e => hck e.symm)).trans (hb4.block c hc))
  have old : ∀ c, c < wr.heap.size → c ≠ T → ¬ Two a b c → kv.ownBlock ≠ some c → (w5.setCell ⟨T, 4, none⟩ (.slice (some ⟨g, 0, none⟩) (ks.length + 1) cap)).heap[c]? = wr.heap[c]? := fun c hc hcT hc2 hck =>
    (mid c (by omega) hcT hck).trans (hfr.block c hc hc2)
  have far : ∀ c, c < B1 → kv.ownBlock ≠ some c := fun c hc e => by have := hkl c e; omega
  have two : ∀ c, B1 ≤ c ∨ c = T ∨ c = r → ¬ Two a b c := fun c hc e => by unfold Two at e; omega
  have hvc : ∀ c, c < w3.heap.size → kv.ownBlock ≠ some c → (Value.slice (some ⟨g, 0, none⟩) (ks.length + 1) cap).ownBlock ≠ some c := fun c hc hck e => by
    have e : g = c := by simpa [Value.ownBlock] using e
    rcases hat with e2 | e2
    · exact hck (by rw [e2, e])
    · omega
  have hsz : (w5.setCell ⟨T, 4, none⟩ (.slice (some ⟨g, 0, none⟩) (ks.length + 1) cap)).heap.size = w5.heap.size := by simp
  have hbx := lt_of_block h.box
  refine ⟨?_, ?_, h.ane, ?_, ?_, ?_, ?_, (old _ hbx (by omega) (two _ (by omega)) (far _ (by omega))).trans h.box, (mid a (by omega) (by omega) (far a (by omega))).trans ha, ?_, by rw [hsz]; omega, ?_⟩
  · have h5 : w5.heap[T]? = some (.cells #[.int .i64 kd, .string nm, .string ⟨#[]⟩, av, kv] 25 (0, 0)) := (hg.block T (by omega) (fun e => h.ne e.symm)).trans ((hb4.block T (by omega)).trans ((hfr.block T hTl (two T (by omega))).trans h.blk))
    simp only [World.setCell, Array.getElem?_modify, ↓reduceIte, h5, Option.map_some]
    rfl
  · exact row_of_heap h.arow fun c e => old c (hal c e).2 (fun e2 => h.ane (by rw [e, e2])) (two c (by have := hal c e; omega)) (fun e2 => h.asep c e2 e)
  · intro c e e2
    have e : g = c := by simpa [Value.ownBlock] using e
    rcases hat with e3 | e3
    · exact h.asep c (by rw [e3, e]) e2
    · have := hal c e2; omega
  · have hgc : ∀ c, (Value.slice (some ⟨g, 0, none⟩) (ks.length + 1) cap).ownBlock = some c → c ≠ T := fun c e e2 => by
      have e : g = c := by simpa [Value.ownBlock] using e
      omega
    rw [List.length_append]
    exact row_of_heap hrow fun c e => set c (hgc c e)
  · intro e
    have e : g = T := by simpa [Value.ownBlock] using e
    exact hgT e
  · have hk := h.kids.keep (S' := fun c => B1 ≤ c ∧ c < (w5.setCell ⟨T, 4, none⟩ (.slice (some ⟨g, 0, none⟩) (ks.length + 1) cap)).heap.size ∧ c ≠ T ∧ (Value.slice (some ⟨g, 0, none⟩) (ks.length + 1) cap).ownBlock ≠ some c) (fun c ⟨h1, h2, h3, h4⟩ => ⟨⟨h1, by rw [hsz]; omega, h3, hvc c (by omega) h4⟩, fun o => cell_of_heap (old c h2 h3 (two c (by omega)) h4) o⟩)
    have hu := ht.keep (S' := fun c => B1 ≤ c ∧ c < (w5.setCell ⟨T, 4, none⟩ (.slice (some ⟨g, 0, none⟩) (ks.length + 1) cap)).heap.size ∧ c ≠ T ∧ (Value.slice (some ⟨g, 0, none⟩) (ks.length + 1) cap).ownBlock ≠ some c) (w' := w5.setCell ⟨T, 4, none⟩ (.slice (some ⟨g, 0, none⟩) (ks.length + 1) cap)) (fun c ⟨h1, h2⟩ => ⟨⟨by omega, by rw [hsz]; omega, by omega, hvc c h2 (fun e => by have := hkl c e; omega)⟩, fun o => cell_of_heap (mid c h2 (by omega) (fun e => by have := hkl c e; omega)) o⟩)
    have := KidRow.snoc (ks := ks ++ [u]) (j := ks.length) (u := u) (x0 := x0) (x1 := x1) (x2 := x2) (x3 := x3) (x4 := x4) (by simpa using hk) h.row.1 (by simp) hu
    rwa [List.take_of_length_le (by simp)] at this
  · rw [cntL_app, ← Nat.add_assoc]; exact (mid b (by omega) (by omega) (far b (by omega))).trans hb
  · refine (((h.fr.trans (hfr.mono hsw fun _ _ e => e)).trans ((Fr.of_below hb4).mono (by omega) fun _ _ e => e)).grown hg (by omega) fun k e => .inl (by have := hkl k e; omega)).setCell (.inl (by show _ ≤ T; omega)) _
/-- The node is done. -/
theorem GSt.done {a b n T d : Nat} {y : Int} {nm : ByteArray} {A0 A1 : Option Addr} {ac0 c1 : Nat} {al : List (ByteArray × ByteArray)} {ks : List Nd} {xs : List Value} {w wr w9 : World}
    (h : GSt a b (n + 1) T w.heap.size (w.heap.size + 1) 2 y nm (.slice A0 al.length ac0) al (.slice A1 ks.length c1) ks xs w wr) (hS : Set5 wr w.heap.size 25 (.int .i64 2) (.string nm) (.string ⟨#[]⟩) (.slice A0 al.length ac0) (.slice A1 ks.length c1) w9)
    (hd : d ≤ 6) (hnm : nm.size ≤ 6) (hall : al.length ≤ 2) (hals : ∀ x ∈ al, x.1.size ≤ 6 ∧ x.2.size ≤ 6) (hok : okL (d + 1) ks) (hc : n + 1 + cntL ks ≤ 40) : GrownEnd d a b n w (.returned (.agg #[.int .i64 2, .string nm, .string ⟨#[]⟩, .slice A0 al.length ac0, .slice A1 ks.length c1])) w9 := by
  have hab := h.ab
  have hcnt : cntT (.mk 2 nm ⟨#[]⟩ al ks) = cntL ks + 1 := by unfold cntT; rfl
  obtain ⟨K', kc', e, m1, m2, m3⟩ := kids_of_row (S' := fun c => w.heap.size ≤ c ∧ c < wr.heap.size ∧ c ≠ w.heap.size) h.row h.kids (fun c ⟨h1, h2, h3, h4⟩ => ⟨by omega, h2, by omega⟩) (fun g hg => by have := h.row.lt g hg; exact ⟨by omega, this.2, by omega⟩)
  injection e with e1 _ e3
  subst e1 e3
  have hsz : ∀ x ∈ al, x.1.size ≤ maxLen ∧ x.2.size ≤ maxLen := fun x hx => by have := hals x hx; unfold maxLen; omega
  have hat : AttrsIn wr (fun c => w.heap.size ≤ c ∧ c < wr.heap.size ∧ c ≠ w.heap.size) al A0 ac0 := by
    rcases h.arow.2 with ⟨e, hz⟩ | ⟨g, cap, cur, e, hrest⟩
    · injection e with e1 _ e3
      subst e1 e3
      have : al = [] := List.length_eq_zero_iff.1 hz
      subst this
      exact ⟨Nat.le_refl _, Nat.zero_le _, by simp, fun h => absurd rfl h⟩
    · injection e with e1 _ e3
      subst e1 e3
      have hl := h.arow.lt g rfl
      exact isAttrs_in (isAttrs_row h.arow hsz) fun c off e => by
        injection e with e
        injection e with e _ _
        subst e
        exact ⟨by omega, hl.2, by omega⟩
  refine ⟨.mk 2 nm ⟨#[]⟩ al ks, _, _, _, _, _, y, rfl, ?_, ?_, by rw [hcnt]; omega, (hS.other a (by omega)).trans h.ca, ?_, h.fr.trans (hS.fr.mono h.fr.size fun k hk e => by omega)⟩
  · have ht : TreeIn wr (fun c => w.heap.size ≤ c ∧ c < wr.heap.size ∧ c ≠ w.heap.size) (.mk 2 nm ⟨#[]⟩ al ks) (.int .i64 2) (.string nm) (.string ⟨#[]⟩) (.slice A0 al.length ac0) (.slice A1 ks.length c1) := by
      unfold TreeIn
      exact ⟨rfl, rfl, rfl, by decide, by unfold maxLen; omega, Nat.zero_le _, A0, ac0, A1, c1, rfl, rfl, hat, m1, m2, m3⟩
    exact ht.keep fun c ⟨h1, h2, h3⟩ => ⟨⟨h1, by rw [hS.size]; exact h2⟩, fun o => cell_of_heap (hS.other c h3) o⟩
  · unfold okT
    exact ⟨by omega, by omega, by omega, Nat.zero_le _, fun x hx => by have := hals x hx; omega, hok⟩
  · rw [hcnt, show n + (cntL ks + 1) = n + 1 + cntL ks by omega]; exact (hS.other b (by omega)).trans h.cb
/-- The Root is done. -/
def GrownRoot (w : World) (e : Ending) (w' : World) : Prop :=
  ∃ (ks : List Nd) (x4 : Value), e = .returned (.agg #[.int .i64 1, .string ⟨#[]⟩, .string ⟨#[]⟩, .slice none 0 0, x4]) ∧ TreeIn w' (fun c => w.heap.size ≤ c ∧ c < w'.heap.size) (.mk 1 ⟨#[]⟩ ⟨#[]⟩ [] ks) (.int .i64 1) (.string ⟨#[]⟩) (.string ⟨#[]⟩) (.slice none 0 0) x4 ∧ okL 1 ks ∧ cntL ks ≤ 40 ∧ Below w.heap.size w w'
theorem GSt.root {a b T : Nat} {y : Int} {A1 : Option Addr} {c1 : Nat} {ks : List Nd} {xs : List Value} {w wr w9 : World}
    (h : GSt a b 0 T w.heap.size (w.heap.size + 4) 1 y ⟨#[]⟩ (.slice none 0 0) [] (.slice A1 ks.length c1) ks xs w wr) (hS : Set5 wr w.heap.size 25 (.int .i64 1) (.string ⟨#[]⟩) (.string ⟨#[]⟩) (.slice none 0 0) (.slice A1 ks.length c1) w9)
    (ha : w.heap.size ≤ a) (hb : w.heap.size ≤ b) (hok : okL 1 ks) (hc : cntL ks ≤ 40) : GrownRoot w (.returned (.agg #[.int .i64 1, .string ⟨#[]⟩, .string ⟨#[]⟩, .slice none 0 0, .slice A1 ks.length c1])) w9 := by
  have hab := h.ab
  obtain ⟨K', kc', e, m1, m2, m3⟩ := kids_of_row (S' := fun c => w.heap.size ≤ c ∧ c < wr.heap.size ∧ c ≠ w.heap.size) h.row h.kids (fun c ⟨h1, h2, h3, h4⟩ => ⟨by omega, h2, by omega⟩) (fun g hg => by have := h.row.lt g hg; exact ⟨by omega, this.2, by omega⟩)
  injection e with e1 _ e3
  subst e1 e3
  refine ⟨ks, _, rfl, ?_, hok, hc, (h.fr.trans (hS.fr.mono h.fr.size fun k hk e => by omega)).below (fun k hk e => by unfold Two at e; omega) (Nat.le_refl _)⟩
  have ht : TreeIn wr (fun c => w.heap.size ≤ c ∧ c < wr.heap.size ∧ c ≠ w.heap.size) (.mk 1 ⟨#[]⟩ ⟨#[]⟩ [] ks) (.int .i64 1) (.string ⟨#[]⟩) (.string ⟨#[]⟩) (.slice none 0 0) (.slice A1 ks.length c1) := by
    unfold TreeIn
    exact ⟨rfl, rfl, rfl, by decide, Nat.zero_le _, Nat.zero_le _, none, 0, A1, c1, rfl, rfl, ⟨Nat.le_refl _, Nat.zero_le _, by simp, fun h => absurd rfl h⟩, m1, m2, m3⟩
  exact ht.keep fun c ⟨h1, h2, h3⟩ => ⟨⟨h1, by rw [hS.size]; exact h2⟩, fun o => cell_of_heap (hS.other c h3) o⟩
set_option maxHeartbeats 8000000 in
set_option maxRecDepth 100000 in
theorem grown_step (d : Nat) (hd : d ≤ 6) (A : Option Addr) (len cap a b B n : Nat) (x : Int) (w : World) (hl : LRow w B A len) (hBa : B ≤ a) (hBb : B ≤ b) (hab : a ≠ b) (hca : Cnt w a x) (hcb : Cnt w b (n : Int)) (hn : n < 40)
    (ih : d ≤ 5 → ∀ (n : Nat) (x : Int) (w : World), LRow w B A len → Cnt w a x → Cnt w b (n : Int) → n < 40 → Calls Tryd.prog 24 #[.slice A len cap, .pointer (some ⟨a, 0, none⟩), .pointer (some ⟨b, 0, none⟩), .int .i64 ((d : Int) + 1)] w (GrownEnd (d + 1) a b n w)) :
    Calls Tryd.prog 24 #[.slice A len cap, .pointer (some ⟨a, 0, none⟩), .pointer (some ⟨b, 0, none⟩), .int .i64 (d : Int)] w (GrownEnd d a b n w) := by
  have HL := Lib.hid hl
  have HCA := Lib.hid hca
  have HCB := Lib.hid hcb
  have IH := Lib.hid ih
  have hal := hca.lt
  have hbl := hcb.lt
  have H0 : Hid (Below w.heap.size w (w.alloc (.cells #[.int .i64 0, .string ⟨#[]⟩, .string ⟨#[]⟩, .slice none 0 0, .slice none 0 0] 25)) ∧ (w.alloc (.cells #[.int .i64 0, .string ⟨#[]⟩, .string ⟨#[]⟩, .slice none 0 0, .slice none 0 0] 25)).heap[w.heap.size]? = some (.cells #[.int .i64 0, .string ⟨#[]⟩, .string ⟨#[]⟩, .slice none 0 0, .slice none 0 0] 25 (0, 0))) :=
    Lib.hid ⟨(Below.refl _ w).alloc (Nat.le_refl _) _, alloc_new w _⟩
  clear hl hca hcb ih
  go_enter Tryd.func24, Tryd.ntmps24
  go_upto_region 1 with fail
  generalize w.alloc (.cells #[.int .i64 0, .string ⟨#[]⟩, .string ⟨#[]⟩, .slice none 0 0, .slice none 0 0] 25) = w0 at H0 ⊢
  have HA0 : Hid (Cnt w0 a x) := Lib.hid ((H0.out.1.block a hal).trans HCA.out)
  have HB0 : Hid (Cnt w0 b (n : Int)) := Lib.hid ((H0.out.1.block b hbl).trans HCB.out)
  have c0 := HB0.out.cell
  have f0 : w0.frozen? ⟨b, 0, none⟩ = false := Lib.frozen_of_heap HB0.out 0
  go_upto_region 2 with fail
  have H1 : Hid (Fr (· = b) w0.heap.size w0 (w0.setCell ⟨b, 0, none⟩ (.int .i64 ((n : Int) + 1))) ∧ Cnt (w0.setCell ⟨b, 0, none⟩ (.int .i64 ((n : Int) + 1))) b ((n : Int) + 1) ∧ (w0.setCell ⟨b, 0, none⟩ (.int .i64 ((n : Int) + 1))).heap.size = w0.heap.size) := Lib.hid
    ⟨(Fr.refl (· = b) w0.heap.size w0).setCell (p := ⟨b, 0, none⟩) (.inr rfl) _, HB0.out.set _, by simp⟩
  clear c0 f0
  generalize w0.setCell ⟨b, 0, none⟩ (.int .i64 ((n : Int) + 1)) = w1 at H1 ⊢
  have hs0 := H0.out.1.size
  have HA1 : Hid (Cnt w1 a x) := Lib.hid ((H1.out.1.block a HA0.out.lt (by omega)).trans HA0.out)
  have HL1 : Hid (LRow w1 B A len) := Lib.hid (HL.out.keep fun p hp => (H1.out.1.cell (by omega) (by omega)).trans (H0.out.1.cell (by omega)))
  go_wp2_with fail
  refine (next_calls A len cap a B x w1 HL1.out hBa HA1.out).mono ?_
  rintro e w2 ⟨v, y, rfl, hv, hcy, hfr⟩
  have HG : Hid (GOne a b n y w w2) := Lib.hid ⟨((Fr.of_below H0.out.1).trans (H1.out.1.mono hs0 fun k _ e => .inr e)).trans (hfr.mono (Nat.le_trans hs0 (Nat.le_of_eq H1.out.2.2.symm)) fun k _ e => .inl e), hcy,
    (hfr.block b H1.out.2.1.lt (fun e => hab e.symm)).trans H1.out.2.1,
    (hfr.block _ (by have := lt_of_block H0.out.2; have := H1.out.2.2; omega) (by omega)).trans ((H1.out.1.block _ (lt_of_block H0.out.2) (by omega)).trans H0.out.2)⟩
  have HL2 : Hid (LRow w2 B A len) := Lib.hid (HL1.out.keep fun p hp => hfr.cell (by have := HA1.out.lt; omega) (by omega))
  clear hcy hfr HL1 HA1 H1 HA0 HB0 H0 hs0
  by_cases h7 : v % 7 = 0
  · have h7' : ((v : Int) % 7 == 0) = true := by simp; omega
    have hx3 : ((v : Int) / 7 % 4) = ((v / 7 % 4 : Nat) : Int) := by omega
    have hk3 : v / 7 % 4 ≤ 3 := by omega
    obtain ⟨k, hk⟩ : ∃ k : Nat, k = v / 7 % 4 := ⟨_, rfl⟩
    rw [← hk] at hx3 hk3
    clear hk
    obtain ⟨z0, z1, z2, z3, z4⟩ := box5 HG.out.box
    have f0 : w2.frozen? ⟨w.heap.size, 0, none⟩ = false := Lib.frozen_of_heap HG.out.box 0
    have f1 : w2.frozen? ⟨w.heap.size, 1, none⟩ = false := Lib.frozen_of_heap HG.out.box 1
    have f2 : w2.frozen? ⟨w.heap.size, 2, none⟩ = false := Lib.frozen_of_heap HG.out.box 2
    have f3 : w2.frozen? ⟨w.heap.size, 3, none⟩ = false := Lib.frozen_of_heap HG.out.box 3
    have f4 : w2.frozen? ⟨w.heap.size, 4, none⟩ = false := Lib.frozen_of_heap HG.out.box 4
    go_wp2_with fail
    generalize hsx : (⟨#[120, 121, 122]⟩ : ByteArray).extract 0 k = s
    have hs6 : s.size ≤ 6 := by rw [← hsx, ByteArray.size_extract]; show min _ (Array.size _) - _ ≤ 6; simp; omega
    have hS := set5 HG.out.box (.int .i64 4) (.string ⟨#[]⟩) (.string s) (.slice none 0 0) (.slice none 0 0)
    generalize ((((w2.setCell ⟨w.heap.size, 0, none⟩ (.int .i64 4)).setCell ⟨w.heap.size, 1, none⟩ (.string ⟨#[]⟩)).setCell ⟨w.heap.size, 2, none⟩ (.string s)).setCell ⟨w.heap.size, 3, none⟩ (.slice none 0 0)).setCell ⟨w.heap.size, 4, none⟩ (.slice none 0 0) = w3 at hS ⊢
    have hld := run_loadVar_row (P := Tryd.prog) w3 w.heap.size 25 25 _ _ _ hS.blk Tryd.underlying25 rfl (by kernel_rfl)
    (try simp only [Exit.inBlock, Exit.then])
    refine bodyPost_ret (v := .agg #[.int .i64 4, .string ⟨#[]⟩, .string s, .slice none 0 0, .slice none 0 0]) ?_ rfl (leaf_end HG.out hd hn hal hbl (by decide) hs6 hS)
    rw [results_one rfl]
    simp [asAddr, Result.andThen, hld]
  have h7' : ((v : Int) % 7 == 0) = false := by rw [beq_eq_false_iff_ne]; omega
  by_cases h3 : v % 7 < 3 ∨ 5 < d
  · have hx3 : ((v : Int) / 7 % 6) = ((v / 7 % 6 : Nat) : Int) := by omega
    have hk3 : v / 7 % 6 ≤ 5 := by omega
    obtain ⟨k, hk⟩ : ∃ k : Nat, k = v / 7 % 6 := ⟨_, rfl⟩
    rw [← hk] at hx3 hk3
    clear hk
    by_cases h33 : v % 7 < 3
    · have t1 : (v : Int) % 7 < 3 := by omega
      obtain ⟨z0, z1, z2, z3, z4⟩ := box5 HG.out.box
      have f0 : w2.frozen? ⟨w.heap.size, 0, none⟩ = false := Lib.frozen_of_heap HG.out.box 0
      have f1 : w2.frozen? ⟨w.heap.size, 1, none⟩ = false := Lib.frozen_of_heap HG.out.box 1
      have f2 : w2.frozen? ⟨w.heap.size, 2, none⟩ = false := Lib.frozen_of_heap HG.out.box 2
      have f3 : w2.frozen? ⟨w.heap.size, 3, none⟩ = false := Lib.frozen_of_heap HG.out.box 3
      have f4 : w2.frozen? ⟨w.heap.size, 4, none⟩ = false := Lib.frozen_of_heap HG.out.box 4
      go_wp2_with fail
      generalize hsx : (⟨#[97, 98, 99, 100, 101, 102]⟩ : ByteArray).extract k (k + 1) = s
      have hs6 : s.size ≤ 6 := by rw [← hsx, ByteArray.size_extract]; show min _ (Array.size _) - _ ≤ 6; simp; omega
      have hS := set5 HG.out.box (.int .i64 3) (.string ⟨#[]⟩) (.string s) (.slice none 0 0) (.slice none 0 0)
      generalize ((((w2.setCell ⟨w.heap.size, 0, none⟩ (.int .i64 3)).setCell ⟨w.heap.size, 1, none⟩ (.string ⟨#[]⟩)).setCell ⟨w.heap.size, 2, none⟩ (.string s)).setCell ⟨w.heap.size, 3, none⟩ (.slice none 0 0)).setCell ⟨w.heap.size, 4, none⟩ (.slice none 0 0) = w3 at hS ⊢
      have hld := run_loadVar_row (P := Tryd.prog) w3 w.heap.size 25 25 _ _ _ hS.blk Tryd.underlying25 rfl (by kernel_rfl)
      (try simp only [Exit.inBlock, Exit.then])
      refine bodyPost_ret (v := .agg #[.int .i64 3, .string ⟨#[]⟩, .string s, .slice none 0 0, .slice none 0 0]) ?_ rfl (leaf_end HG.out hd hn hal hbl (by decide) hs6 hS)
      rw [results_one rfl]
      simp [asAddr, Result.andThen, hld]
    · have t1 : decide ((v : Int) % 7 < 3) = false := decide_eq_false (by omega)
      have t2 : (5 : Int) < (d : Int) := by omega
      obtain ⟨z0, z1, z2, z3, z4⟩ := box5 HG.out.box
      have f0 : w2.frozen? ⟨w.heap.size, 0, none⟩ = false := Lib.frozen_of_heap HG.out.box 0
      have f1 : w2.frozen? ⟨w.heap.size, 1, none⟩ = false := Lib.frozen_of_heap HG.out.box 1
      have f2 : w2.frozen? ⟨w.heap.size, 2, none⟩ = false := Lib.frozen_of_heap HG.out.box 2
      have f3 : w2.frozen? ⟨w.heap.size, 3, none⟩ = false := Lib.frozen_of_heap HG.out.box 3
      have f4 : w2.frozen? ⟨w.heap.size, 4, none⟩ = false := Lib.frozen_of_heap HG.out.box 4
      go_wp2_with fail
      generalize hsx : (⟨#[97, 98, 99, 100, 101, 102]⟩ : ByteArray).extract k (k + 1) = s
      have hs6 : s.size ≤ 6 := by rw [← hsx, ByteArray.size_extract]; show min _ (Array.size _) - _ ≤ 6; simp; omega
      have hS := set5 HG.out.box (.int .i64 3) (.string ⟨#[]⟩) (.string s) (.slice none 0 0) (.slice none 0 0)
      generalize ((((w2.setCell ⟨w.heap.size, 0, none⟩ (.int .i64 3)).setCell ⟨w.heap.size, 1, none⟩ (.string ⟨#[]⟩)).setCell ⟨w.heap.size, 2, none⟩ (.string s)).setCell ⟨w.heap.size, 3, none⟩ (.slice none 0 0)).setCell ⟨w.heap.size, 4, none⟩ (.slice none 0 0) = w3 at hS ⊢
      have hld := run_loadVar_row (P := Tryd.prog) w3 w.heap.size 25 25 _ _ _ hS.blk Tryd.underlying25 rfl (by kernel_rfl)
      (try simp only [Exit.inBlock, Exit.then])
      refine bodyPost_ret (v := .agg #[.int .i64 3, .string ⟨#[]⟩, .string s, .slice none 0 0, .slice none 0 0]) ?_ rfl (leaf_end HG.out hd hn hal hbl (by decide) hs6 hS)
      rw [results_one rfl]
      simp [asAddr, Result.andThen, hld]
  have t1 : decide ((v : Int) % 7 < 3) = false := decide_eq_false (by omega)
  have t2 : decide ((5 : Int) < (d : Int)) = false := decide_eq_false (by omega)
  have hd5 : d ≤ 5 := by omega
  clear h3 h7
  obtain ⟨nm, hnm, hnms⟩ : ∃ nm : ByteArray, (∀ w, (Instr.index 37 (.agg #[.string ⟨#[98]⟩, .string ⟨#[112]⟩, .string ⟨#[100, 105, 118]⟩, .string ⟨#[108, 105]⟩]) (.int .i64 ((v : Int) / 7 % 4))).run Tryd.prog w = .ok (.string nm) w) ∧ nm.size ≤ 6 := by
    have : (v : Int) / 7 % 4 = 0 ∨ (v : Int) / 7 % 4 = 1 ∨ (v : Int) / 7 % 4 = 2 ∨ (v : Int) / 7 % 4 = 3 := by omega
    rcases this with h | h | h | h <;> rw [h]
    · exact ⟨⟨#[98]⟩, fun w => by kernel_rfl, by decide⟩
    · exact ⟨⟨#[112]⟩, fun w => by kernel_rfl, by decide⟩
    · exact ⟨⟨#[100, 105, 118]⟩, fun w => by kernel_rfl, by decide⟩
    · exact ⟨⟨#[108, 105]⟩, fun w => by kernel_rfl, by decide⟩
  go_upto_region 8 with fail
  have HGS : Hid _ := Lib.hid (GSt.start HG.out hal hbl nm)
  have hs2 := HG.out.fr.size
  have hbx := lt_of_block HG.out.box
  generalize w2.alloc (.cells #[.int .i64 2, .string nm, .string ⟨#[]⟩, .slice none 0 0, .slice none 0 0] 25) = w3 at HGS ⊢
  generalize w2.heap.size = T at HGS hs2 hbx ⊢
  have HL3 : Hid (LRow w3 B A len) := Lib.hid (HL.out.keep fun p hp => HGS.out.fr.cell (by omega) (by unfold Two; omega))
  clear HL2 HG HCA HCB
  have HAS : Hid (ASt a b n T y nm 0 w w3) := Lib.hid ⟨none, 0, [], Nat.zero_le _, by simp, HGS.out⟩
  clear HGS hs2 hbx
  go_upto_if 55 with fail
  go_cut [10] from 52 to 69 (fun x wc => x = .pointer (some ⟨T, 0, none⟩) ∧ ASt a b n T y nm 1 w wc)
  case first =>
    obtain ⟨A0, ac0, al, hall, hals, hgs⟩ := HAS.out
    have HGS := Lib.hid hgs
    have HAL := Lib.hid hals
    clear hgs hals
    by_cases ha : v / 28 % 3 = 0
    · have t3 : ((v : Int) / 28 % 3 == 0) = true := by simp; omega
      go_wp2_with fail
      obtain ⟨w3d, hwd⟩ : ∃ wd, wd = w3.drew := ⟨_, rfl⟩
      have HBD : Hid (Below w3.heap.size w3 w3d) := Lib.hid (hwd ▸ (Below.refl _ w3).drew)
      have HSD : Hid (w3d.heap.size = w3.heap.size) := Lib.hid (by rw [hwd]; rfl)
      have hx3 : ((v : Int) / 84 % 4) = ((v / 84 % 4 : Nat) : Int) := by omega
      obtain ⟨k, hk⟩ : ∃ k : Nat, k = v / 84 % 4 := ⟨_, rfl⟩
      have hk3 : k ≤ 3 := by omega
      rw [← hk] at hx3
      clear hk
      obtain ⟨q0, q1, q2, q3, q4⟩ := box5 HGS.out.blk
      have gq := cell_regrown ((HBD.out.cell (cell_lt q3).1).trans q3)
      clear q0 q1 q2 q3 q4
      refine Kr.wp_region_T 12 [12, 13, 14] [(11, SpAttr w3d.heap.size ⟨#[105, 100]⟩)]
        (by simp only [List.take_succ_cons, List.take_zero] <;> rfl) (by simp only [Kr.takeI, List.getElem?_cons_succ, List.getElem?_cons_zero] <;> rfl) mixed2 (by kernel_rfl) ?_
      rw [← hwd]
      clear hwd
      have hk4 : (k : Int) ≤ 3 := by omega
      have hk0 : (0 : Int) ≤ (k : Int) := by omega
      have hkn : (k : Int).toNat = k := by omega
      have hkn1 : ((k : Int) + 1).toNat = k + 1 := by omega
      have hkw : IntKind.i64.wrap ((k : Int) + 1) = (k : Int) + 1 := IntWalk.i64_in _ (by omega)
      repeat (refine Kr.wpR_one rfl rfl ?_; go_big_quiet_step (fail); refine wpQuiet_nil ?_)
      refine Kr.wpR_call _ rfl rfl rfl ?_ ?_
      · intro W hW hk
        have HBW := Lib.hid (Kr.later_iff.1 hW).size
        go_simp
        exact upMany_value ⟨_, _, rfl, (by rw [ByteArray.size_extract]; show min _ (Array.size _) - _ ≤ 6; simp; omega), HBW.out, alloc_new W _⟩ ((Below.refl _ W).alloc (Nat.le_refl _) _)
      rintro v' ⟨_, _, _, _, hS, _⟩
      obtain ⟨g, _, rfl, _⟩ := hS
      go_frame
      refine Kr.wpR_nil ?_
      intro w3e hb4 hH
      obtain ⟨W0, ⟨g', s1, e, hs6, hgge, hg1⟩, hbel⟩ := hH _ _ (.inl ⟨rfl, rfl⟩)
      injection e with e
      injection e with e
      injection e with e _ _
      subst e
      have HG1 : Hid (w3e.heap[g]? = some (.cells #[.string ⟨#[105, 100]⟩, .string s1] 39 (0, 0))) := Lib.hid ((hbel.block _ (lt_of_block hg1)).trans hg1)
      have HB4 : Hid (Below w3.heap.size w3 w3e) := Lib.hid (HBD.out.trans (hb4.mono (Nat.le_of_eq HSD.out.symm)))
      clear hH hb4 hg1 hbel gq hx3 hk3 hk4 hk0 hkn hkn1 hkw HBD HSD hgge
      obtain ⟨i0, ii, hz0, hz1, hz2⟩ := info_parts attr_info
      have HROW : Hid (w3e.ownsRow (w.heap.size + 1) 39 2 (.slice A0 al.length ac0) (al.length) (cellsA al)) := Lib.hid (row_of_heap HGS.out.arow fun c hc => HB4.out.block c (HGS.out.arow.lt c hc).2)
      have HNEWS : Hid (∀ (j : Nat) u, [Value.string ⟨#[105, 100]⟩, Value.string s1][j]? = some u → w3e.cell? ((⟨g, 0, none⟩ : Addr).add j) = some u) := Lib.hid fun j u hj => by
        rw [add_flat, Nat.zero_add, block_cell HG1.out]; rw [← List.getElem?_toArray] at hj; exact hj
      have HONE : Hid (∀ u ∈ [Value.string ⟨#[105, 100]⟩, Value.string s1], u.oneCell' = true) := Lib.hid (by simp [Value.oneCell'])
      have HBS : Hid (w.heap.size + 1 ≤ w3e.heap.size) := Lib.hid (by have := HGS.out.fr.size; have := HB4.out.size; have := lt_of_block HGS.out.box; omega)
      go_wp2_with (at_builtin; refine wpList_append_own_at _ rfl (.tmp 57) (.tmp 67) 22 rfl (w.heap.size + 1) 39 i0 _ 2 32 Tryd.underlying22 ii hz0 hz1 hz2 rfl (by decide) (.slice A0 al.length ac0) (al.length) (cellsA al) rfl HROW.out ⟨g, 0, none⟩ 1 1 [.string ⟨#[105, 100]⟩, .string s1] rfl rfl HNEWS.out HONE.out (by unfold maxLen; omega) (by omega) HBS.out ?_)
      intro v' w3f h1 h2 h3 h4
      obtain ⟨gv1, cv1, rfl⟩ := row_form h1 (by omega)
      have HST : Hid (GSt a b (n + 1) T w.heap.size (w.heap.size + 1) 2 y nm (.slice (some ⟨gv1, 0, none⟩) (al.length + 1) cv1) (al ++ [(⟨#[105, 100]⟩, s1)]) (.slice none 0 0) [] [] w (w3f.setCell ⟨T, 3, none⟩ (.slice (some ⟨gv1, 0, none⟩) (al.length + 1) cv1))) := Lib.hid (HGS.out.attr HB4.out h1 h2 h4)
      have HB5 : Hid (w3f.heap[T]? = some (.cells #[.int .i64 2, .string nm, .string ⟨#[]⟩, .slice A0 al.length ac0, .slice none 0 0] 25 (0, 0))) := Lib.hid
        ((h2.block T (by have := lt_of_block HGS.out.blk; have := HB4.out.size; omega) (fun e => HGS.out.ane e.symm)).trans ((HB4.out.block T (lt_of_block HGS.out.blk)).trans HGS.out.blk))
      obtain ⟨q0, q1, q2, q3, q4⟩ := box5 HB5.out
      have f3 : w3f.frozen? ⟨T, 3, none⟩ = false := Lib.frozen_of_heap HB5.out 3
      have HAL2 : Hid (∀ x ∈ (al ++ [(⟨#[105, 100]⟩, s1)]), x.1.size ≤ 6 ∧ x.2.size ≤ 6) := Lib.hid (by
        intro x hx
        rcases List.mem_append.1 hx with hx | hx
        · exact HAL.out x hx
        · simp at hx; subst hx; exact ⟨(show ByteArray.size ⟨#[105, 100]⟩ ≤ 6 by decide), hs6⟩)
      clear h1 h2 h3 h4 hs6 HROW HNEWS HONE HBS HG1 HGS HAL
      have HGS := HST
      have HAL := HAL2
      clear HST HAL2
      go_wp2_with fail
      go_meet
      exact ⟨rfl, _, _, _, by rw [List.length_append]; show _ + 1 ≤ _; omega, HAL.out, by rw [List.length_append]; exact HGS.out⟩
    · have t3 : ((v : Int) / 28 % 3 == 0) = false := by rw [beq_eq_false_iff_ne]; omega
      go_wp2_with fail
      go_meet
      exact ⟨rfl, _, _, _, by omega, HAL.out, HGS.out⟩
  case rest =>
    clear HAS
    obtain ⟨rfl, has⟩ := hcut
    have HAS := Lib.hid has
    clear has
    go_upto_if 73 with fail
    go_cut [10] from 70 to 83 (fun x wc => x = .pointer (some ⟨T, 0, none⟩) ∧ ASt a b n T y nm 2 w wc)
    case first =>
      obtain ⟨A0, ac0, al, hall, hals, hgs⟩ := HAS.out
      have HGS := Lib.hid hgs
      have HAL := Lib.hid hals
      clear hgs hals
      by_cases ha : v / 28 % 5 = 0
      · have t3 : ((v : Int) / 28 % 5 == 0) = true := by simp; omega
        go_wp2_with fail
        obtain ⟨wcd, hwd⟩ : ∃ wd, wd = wc.drew := ⟨_, rfl⟩
        have HBD : Hid (Below wc.heap.size wc wcd) := Lib.hid (hwd ▸ (Below.refl _ wc).drew)
        have HSD : Hid (wcd.heap.size = wc.heap.size) := Lib.hid (by rw [hwd]; rfl)
        have hx3 : ((v : Int) / 84 % 3) = ((v / 84 % 3 : Nat) : Int) := by omega
        obtain ⟨k, hk⟩ : ∃ k : Nat, k = v / 84 % 3 := ⟨_, rfl⟩
        have hk3 : k ≤ 2 := by omega
        rw [← hk] at hx3
        clear hk
        obtain ⟨q0, q1, q2, q3, q4⟩ := box5 HGS.out.blk
        have gq := cell_regrown ((HBD.out.cell (cell_lt q3).1).trans q3)
        clear q0 q1 q2 q3 q4
        refine Kr.wp_region_T 8 [8, 9, 10] [(7, SpAttr wcd.heap.size ⟨#[120]⟩)]
          (by simp only [List.take_succ_cons, List.take_zero] <;> rfl) (by simp only [Kr.takeI, List.getElem?_cons_succ, List.getElem?_cons_zero] <;> rfl) mixed2 (by kernel_rfl) ?_
        rw [← hwd]
        clear hwd
        have hk4 : (k : Int) ≤ 2 := by omega
        have hk0 : (0 : Int) ≤ (k : Int) := by omega
        have hkn : (k : Int).toNat = k := by omega
        have hkn1 : ((k : Int) + 1).toNat = k + 1 := by omega
        have hkw : IntKind.i64.wrap ((k : Int) + 1) = (k : Int) + 1 := IntWalk.i64_in _ (by omega)
        repeat (refine Kr.wpR_one rfl rfl ?_; go_big_quiet_step (fail); refine wpQuiet_nil ?_)
        refine Kr.wpR_call _ rfl rfl rfl ?_ ?_
        · intro W hW hk
          have HBW := Lib.hid (Kr.later_iff.1 hW).size
          go_simp
          exact upMany_value ⟨_, _, rfl, (by rw [ByteArray.size_extract]; show min _ (Array.size _) - _ ≤ 6; simp; omega), HBW.out, alloc_new W _⟩ ((Below.refl _ W).alloc (Nat.le_refl _) _)
        rintro v' ⟨_, _, _, _, hS, _⟩
        obtain ⟨g, _, rfl, _⟩ := hS
        go_frame
        refine Kr.wpR_nil ?_
        intro wce hb4 hH
        obtain ⟨W0, ⟨g', s2, e, hs6, hgge, hg1⟩, hbel⟩ := hH _ _ (.inl ⟨rfl, rfl⟩)
        injection e with e
        injection e with e
        injection e with e _ _
        subst e
        have HG1 : Hid (wce.heap[g]? = some (.cells #[.string ⟨#[120]⟩, .string s2] 39 (0, 0))) := Lib.hid ((hbel.block _ (lt_of_block hg1)).trans hg1)
        have HB4 : Hid (Below wc.heap.size wc wce) := Lib.hid (HBD.out.trans (hb4.mono (Nat.le_of_eq HSD.out.symm)))
        clear hH hb4 hg1 hbel gq hx3 hk3 hk4 hk0 hkn hkn1 hkw HBD HSD hgge
        obtain ⟨i0, ii, hz0, hz1, hz2⟩ := info_parts attr_info
        have HROW : Hid (wce.ownsRow (w.heap.size + 1) 39 2 (.slice A0 al.length ac0) (al.length) (cellsA al)) := Lib.hid (row_of_heap HGS.out.arow fun c hc => HB4.out.block c (HGS.out.arow.lt c hc).2)
        have HNEWS : Hid (∀ (j : Nat) u, [Value.string ⟨#[120]⟩, Value.string s2][j]? = some u → wce.cell? ((⟨g, 0, none⟩ : Addr).add j) = some u) := Lib.hid fun j u hj => by
          rw [add_flat, Nat.zero_add, block_cell HG1.out]; rw [← List.getElem?_toArray] at hj; exact hj
        have HONE : Hid (∀ u ∈ [Value.string ⟨#[120]⟩, Value.string s2], u.oneCell' = true) := Lib.hid (by simp [Value.oneCell'])
        have HBS : Hid (w.heap.size + 1 ≤ wce.heap.size) := Lib.hid (by have := HGS.out.fr.size; have := HB4.out.size; have := lt_of_block HGS.out.box; omega)
        go_wp2_with (at_builtin; refine wpList_append_own_at _ rfl (.tmp 75) (.tmp 81) 22 rfl (w.heap.size + 1) 39 i0 _ 2 32 Tryd.underlying22 ii hz0 hz1 hz2 rfl (by decide) (.slice A0 al.length ac0) (al.length) (cellsA al) rfl HROW.out ⟨g, 0, none⟩ 1 1 [.string ⟨#[120]⟩, .string s2] rfl rfl HNEWS.out HONE.out (by unfold maxLen; omega) (by omega) HBS.out ?_)
        intro v' wcf h1 h2 h3 h4
        obtain ⟨gv2, cv2, rfl⟩ := row_form h1 (by omega)
        have HST : Hid (GSt a b (n + 1) T w.heap.size (w.heap.size + 1) 2 y nm (.slice (some ⟨gv2, 0, none⟩) (al.length + 1) cv2) (al ++ [(⟨#[120]⟩, s2)]) (.slice none 0 0) [] [] w (wcf.setCell ⟨T, 3, none⟩ (.slice (some ⟨gv2, 0, none⟩) (al.length + 1) cv2))) := Lib.hid (HGS.out.attr HB4.out h1 h2 h4)
        have HB5 : Hid (wcf.heap[T]? = some (.cells #[.int .i64 2, .string nm, .string ⟨#[]⟩, .slice A0 al.length ac0, .slice none 0 0] 25 (0, 0))) := Lib.hid
          ((h2.block T (by have := lt_of_block HGS.out.blk; have := HB4.out.size; omega) (fun e => HGS.out.ane e.symm)).trans ((HB4.out.block T (lt_of_block HGS.out.blk)).trans HGS.out.blk))
        obtain ⟨q0, q1, q2, q3, q4⟩ := box5 HB5.out
        have f3 : wcf.frozen? ⟨T, 3, none⟩ = false := Lib.frozen_of_heap HB5.out 3
        have HAL2 : Hid (∀ x ∈ (al ++ [(⟨#[120]⟩, s2)]), x.1.size ≤ 6 ∧ x.2.size ≤ 6) := Lib.hid (by
          intro x hx
          rcases List.mem_append.1 hx with hx | hx
          · exact HAL.out x hx
          · simp at hx; subst hx; exact ⟨(show ByteArray.size ⟨#[120]⟩ ≤ 6 by decide), hs6⟩)
        clear h1 h2 h3 h4 hs6 HROW HNEWS HONE HBS HG1 HGS HAL
        have HGS := HST
        have HAL := HAL2
        clear HST HAL2
        go_wp2_with fail
        go_meet
        exact ⟨rfl, _, _, _, by rw [List.length_append]; show _ + 1 ≤ _; omega, HAL.out, by rw [List.length_append]; exact HGS.out⟩
      · have t3 : ((v : Int) / 28 % 5 == 0) = false := by rw [beq_eq_false_iff_ne]; omega
        go_wp2_with fail
        go_meet
        exact ⟨rfl, _, _, _, by omega, HAL.out, HGS.out⟩
    case rest =>
      clear HAS
      obtain ⟨rfl, has⟩ := hcut
      have HAS := Lib.hid has
      clear has
      obtain ⟨A0, ac0, al, hall, hals, hgs⟩ := HAS.out
      have HGS := Lib.hid hgs
      have HAL := Lib.hid hals
      clear hgs hals HAS
      have hx5 : ((v : Int) / 512 % 4) = ((v / 512 % 4 : Nat) : Int) := by omega
      obtain ⟨k0, hk0⟩ : ∃ k : Nat, k = v / 512 % 4 := ⟨_, rfl⟩
      have hk3 : k0 ≤ 3 := by omega
      rw [← hk0] at hx5
      clear hk0 HL3
      have HX5 := Lib.hid hx5
      clear hx5
      go_wp2_with fail
      go_loopw [11] (fun kk wr => ∃ (m : Nat) (y : Int) (A1 : Option Addr) (c1 : Nat) (ks : List Nd) (xs : List Value), m ≤ 3 ∧ kk = .int .i64 (m : Int) ∧ GSt a b (n + 1) T w.heap.size (w.heap.size + 1) 2 y nm (.slice A0 al.length ac0) al (.slice A1 ks.length c1) ks xs w wr ∧ n + 1 + cntL ks ≤ 40 ∧ okL (d + 1) ks) (fun kk _ => (intOf kk).toNat)
      case atStart => exact ⟨k0, y, none, 0, [], [], hk3, by rw [HX5.out], HGS.out, by rw [show cntL [] = 0 by unfold cntL; rfl]; omega, by unfold okL; trivial⟩
      case round =>
        obtain ⟨m, y1, A1, c1, ks, xs, hm, rfl, hg, hcn, hok⟩ := hrel
        have HG := Lib.hid hg
        have HOK := Lib.hid hok
        have HB := Lib.hid hg.cb
        obtain ⟨N, hN⟩ : ∃ N, N = n + 1 + cntL ks := ⟨_, rfl⟩
        have hN40 : N ≤ 40 := by omega
        rw [← hN] at HB
        have HN := Lib.hid hN
        clear hg hok hcn hN HGS
        obtain ⟨q0, q1, q2, q3, q4⟩ := box5 HG.out.blk
        have cb0 := HB.out.cell
        rcases Nat.eq_zero_or_pos m with rfl | hm0
        · obtain ⟨z0, z1, z2, z3, z4⟩ := box5 HG.out.box
          have z5 : wr.frozen? ⟨w.heap.size, 0, none⟩ = false := Lib.frozen_of_heap HG.out.box 0
          have z6 : wr.frozen? ⟨w.heap.size, 1, none⟩ = false := Lib.frozen_of_heap HG.out.box 1
          have z7 : wr.frozen? ⟨w.heap.size, 2, none⟩ = false := Lib.frozen_of_heap HG.out.box 2
          have z8 : wr.frozen? ⟨w.heap.size, 3, none⟩ = false := Lib.frozen_of_heap HG.out.box 3
          have z9 : wr.frozen? ⟨w.heap.size, 4, none⟩ = false := Lib.frozen_of_heap HG.out.box 4
          have hS := set5 HG.out.box (.int .i64 2) (.string nm) (.string ⟨#[]⟩) (.slice A0 al.length ac0) (.slice A1 ks.length c1)
          go_wp2_with fail
          generalize ((((wr.setCell ⟨w.heap.size, 0, none⟩ (.int .i64 2)).setCell ⟨w.heap.size, 1, none⟩ (.string nm)).setCell ⟨w.heap.size, 2, none⟩ (.string ⟨#[]⟩)).setCell ⟨w.heap.size, 3, none⟩ (.slice A0 al.length ac0)).setCell ⟨w.heap.size, 4, none⟩ (.slice A1 ks.length c1) = w9 at hS ⊢
          have hld := run_loadVar_row (P := Tryd.prog) w9 w.heap.size 25 25 _ _ _ hS.blk Tryd.underlying25 rfl (by kernel_rfl)
          (try simp only [Exit.inBlock, Exit.then])
          refine bodyPost_ret (v := .agg #[.int .i64 2, .string nm, .string ⟨#[]⟩, .slice A0 al.length ac0, .slice A1 ks.length c1]) ?_ rfl (GSt.done HG.out hS hd hnms hall HAL.out HOK.out (by have := HN.out; omega))
          rw [results_one rfl]
          simp [asAddr, Result.andThen, hld]
        · have t5 : (0 : Int) < (m : Int) := by omega
          by_cases hN4 : N < 40
          · have t6 : (N : Int) < 40 := by omega
            have HL4 : Hid (LRow wr B A len) := Lib.hid (HL.out.keep fun p hp => HG.out.fr.cell (by omega) (by unfold Two; omega))
            have hksl : ks.length ≤ 1000 := by have := cntL_ge ks; have := HN.out; omega
            obtain ⟨i0, ii, hz0, hz1, hz2⟩ := info_parts tree_info
            clear q0 q1 q2 q3
            have hdw : IntKind.i64.wrap ((d : Int) + 1) = (d : Int) + 1 := IntWalk.i64_in _ (by omega)
            go_wp2_with fail
            go_region_law (first
              | (refine step_append_lies _ (by rfl) (.tmp 98) (.tmp 105) 23 (by rfl) (w.heap.size + 1) 25 i0 _ 5 88 Tryd.underlying23 ii hz0 hz1 hz2 (by rfl) (by decide) (.slice A1 ks.length c1) ks.length xs (by rfl) HROWX.out ⟨wk.heap.size, 0, none⟩ 1 1 [x0, x1, x2, x3, x4] (by rfl) (by rfl) HNEWS.out HONE.out (by decide) (by unfold maxLen; omega) (by omega) HBS.out (wk.heap.size + 1) HH.out ?_
                 intro g cap5 w5 hown hgrow hat hlt
                 have HST : Hid (GSt a b (n + 1) T w.heap.size (w.heap.size + 1) 2 y2 nm (.slice A0 al.length ac0) al (.slice (some ⟨g, 0, none⟩) (ks.length + 1) cap5) (ks ++ [u]) (xs ++ [x0, x1, x2, x3, x4]) w (w5.setCell ⟨T, 4, none⟩ (.slice (some ⟨g, 0, none⟩) (ks.length + 1) cap5))) := Lib.hid (GSt.kid HG.out HFR.out HCA2.out HCB2.out HTI.out ((Below.refl _ wk).alloc (Nat.le_refl _) _) hown hgrow (hat.imp id fun e => by rw [e, HH.out]))
                 have q5 : w5.cell? ⟨T, 4, none⟩ = some (.slice A1 ks.length c1) := (World.cell?_of_block (hgrow.block T (by rw [HH.out]; have := HTK.out; omega) (fun e => HG.out.ne e.symm))).trans (qa _)
                 have f5 : w5.frozen? ⟨T, 4, none⟩ = false := (World.frozen?_of_block (hgrow.block T (by rw [HH.out]; have := HTK.out; omega) (fun e => HG.out.ne e.symm))).trans (fa _)
                 clear hown hgrow hat hlt)
              | (go_simp
                 go_at_call 24
                 with_reducible refine (IH.out hd5 N y1 _ ?_ ?_ ?_ hN4).mono ?_
                 · exact HL4.out
                 · exact HG.out.ca
                 · exact HB.out
                 rintro e wk ⟨u, x0, x1, x2, x3, x4, y2, rfl, hti, hou, hnu, hca2, hcb2, hfr2⟩
                 have HFR : Hid (Fr (Two a b) wr.heap.size wr wk) := Lib.hid (((Fr.refl (Two a b) wr.heap.size wr).drew).trans hfr2)
                 have HTI : Hid (TreeIn wk (fun c => wr.heap.size ≤ c ∧ c < wk.heap.size) u x0 x1 x2 x3 x4) := Lib.hid hti
                 have HOU := Lib.hid hou
                 have HNU := Lib.hid hnu
                 have HCA2 := Lib.hid hca2
                 have HCB2 : Hid (Cnt wk b ((n + 1 + cntL ks + cntT u : Nat) : Int)) := Lib.hid (by rw [← HN.out]; exact hcb2)
                 have HTK : Hid (T < wr.heap.size ∧ wr.heap.size ≤ wk.heap.size) := Lib.hid ⟨lt_of_block HG.out.blk, HFR.out.size⟩
                 have hblkT : wk.heap[T]? = wr.heap[T]? := HFR.out.block T HTK.out.1 (by have := HG.out.ab; unfold Two; omega)
                 have q6 : wk.cell? ⟨T, 4, none⟩ = some (.slice A1 ks.length c1) := (World.cell?_of_block hblkT).trans q4
                 have qa : ∀ o, (wk.alloc o).cell? ⟨T, 4, none⟩ = some (.slice A1 ks.length c1) := fun o => (World.cell?_of_block (Below.heap_alloc wk o T (by have := HTK.out; omega))).trans q6
                 have fa : ∀ o, (wk.alloc o).frozen? ⟨T, 4, none⟩ = false := fun o => (World.frozen?_of_block ((Below.heap_alloc wk o T (by have := HTK.out; omega)).trans hblkT)).trans (Lib.frozen_of_heap HG.out.blk 4)
                 have HROWX : Hid ((wk.alloc (.cells #[x0, x1, x2, x3, x4] 25)).ownsRow (w.heap.size + 1) 25 5 (.slice A1 ks.length c1) ks.length xs) := Lib.hid (row_of_heap HG.out.row fun c hc => (Below.heap_alloc wk _ c (by have := (HG.out.row.lt c hc).2; have := HTK.out; omega)).trans (HFR.out.block c (HG.out.row.lt c hc).2 (by have := (HG.out.row.lt c hc).1; unfold Two; omega)))
                 have HNEWS : Hid (∀ (j : Nat) u, [x0, x1, x2, x3, x4][j]? = some u → (wk.alloc (.cells #[x0, x1, x2, x3, x4] 25)).cell? ((⟨wk.heap.size, 0, none⟩ : Addr).add j) = some u) := Lib.hid fun j u hj => by
                   rw [add_flat, Nat.zero_add, block_cell (alloc_new wk _)]; rw [← List.getElem?_toArray] at hj; exact hj
                 have HONE : Hid (∀ u ∈ [x0, x1, x2, x3, x4], u.oneCell' = true) := Lib.hid (treeIn_one HTI.out)
                 have HBS : Hid (w.heap.size + 1 ≤ (wk.alloc (.cells #[x0, x1, x2, x3, x4] 25)).heap.size) := Lib.hid (by have := HG.out.ab; have := HTK.out; simp; omega)
                 have HH : Hid ((wk.alloc (.cells #[x0, x1, x2, x3, x4] 25)).heap.size = wk.heap.size + 1) := Lib.hid (by simp)
                 clear hti hou hnu hca2 hcb2 hfr2 hblkT))
            all_goals
              generalize w5.setCell ⟨T, 4, none⟩ (.slice (some ⟨g, 0, none⟩) (ks.length + 1) cap5) = w6 at HST ⊢
              clear q4 q5 f5 q6 qa fa hdw HROWX HNEWS HONE HBS HH
              go_wp2_with fail
              go_roundw
              case rel =>
                have r1 : ((m : Int) - 1) = ((m - 1 : Nat) : Int) := by omega
                have r2 : n + 1 + cntL (ks ++ [u]) ≤ 40 := by rw [cntL_app]; have := HN.out; have := HNU.out; omega
                have r3 : GSt a b (n + 1) T w.heap.size (w.heap.size + 1) 2 y2 nm (.slice A0 al.length ac0) al (.slice (some ⟨g, 0, none⟩) (ks ++ [u]).length cap5) (ks ++ [u]) (xs ++ [x0, x1, x2, x3, x4]) w w6 := by rw [List.length_append]; exact HST.out
                rw [r1]
                exact ⟨m - 1, y2, some ⟨g, 0, none⟩, cap5, ks ++ [u], xs ++ [x0, x1, x2, x3, x4], by omega, rfl, r3, r2, okL_app _ _ HOU.out _ HOK.out⟩
              case measure => simp [intOf]; omega
          · have t6 : decide ((N : Int) < 40) = false := decide_eq_false (by omega)
            obtain ⟨z0, z1, z2, z3, z4⟩ := box5 HG.out.box
            have z5 : wr.frozen? ⟨w.heap.size, 0, none⟩ = false := Lib.frozen_of_heap HG.out.box 0
            have z6 : wr.frozen? ⟨w.heap.size, 1, none⟩ = false := Lib.frozen_of_heap HG.out.box 1
            have z7 : wr.frozen? ⟨w.heap.size, 2, none⟩ = false := Lib.frozen_of_heap HG.out.box 2
            have z8 : wr.frozen? ⟨w.heap.size, 3, none⟩ = false := Lib.frozen_of_heap HG.out.box 3
            have z9 : wr.frozen? ⟨w.heap.size, 4, none⟩ = false := Lib.frozen_of_heap HG.out.box 4
            have hS := set5 HG.out.box (.int .i64 2) (.string nm) (.string ⟨#[]⟩) (.slice A0 al.length ac0) (.slice A1 ks.length c1)
            go_wp2_with fail
            generalize ((((wr.setCell ⟨w.heap.size, 0, none⟩ (.int .i64 2)).setCell ⟨w.heap.size, 1, none⟩ (.string nm)).setCell ⟨w.heap.size, 2, none⟩ (.string ⟨#[]⟩)).setCell ⟨w.heap.size, 3, none⟩ (.slice A0 al.length ac0)).setCell ⟨w.heap.size, 4, none⟩ (.slice A1 ks.length c1) = w9 at hS ⊢
            have hld := run_loadVar_row (P := Tryd.prog) w9 w.heap.size 25 25 _ _ _ hS.blk Tryd.underlying25 rfl (by kernel_rfl)
            (try simp only [Exit.inBlock, Exit.then])
            refine bodyPost_ret (v := .agg #[.int .i64 2, .string nm, .string ⟨#[]⟩, .slice A0 al.length ac0, .slice A1 ks.length c1]) ?_ rfl (GSt.done HG.out hS hd hnms hall HAL.out HOK.out (by have := HN.out; omega))
            rw [results_one rfl]
            simp [asAddr, Result.andThen, hld]
/-- grown, from whatever depth on. -/
theorem grown_calls (A : Option Addr) (len cap a b B : Nat) (hBa : B ≤ a) (hBb : B ≤ b) (hab : a ≠ b) : ∀ (f d : Nat), d + f = 6 → ∀ (n : Nat) (x : Int) (w : World), LRow w B A len → Cnt w a x → Cnt w b (n : Int) → n < 40 →
    Calls Tryd.prog 24 #[.slice A len cap, .pointer (some ⟨a, 0, none⟩), .pointer (some ⟨b, 0, none⟩), .int .i64 (d : Int)] w (GrownEnd d a b n w)
  | 0, d, hd, n, x, w, h1, h2, h3, h4 => grown_step d (by omega) A len cap a b B n x w h1 hBa hBb hab h2 h3 h4 fun h => absurd h (by omega)
  | f + 1, d, hd, n, x, w, h1, h2, h3, h4 => grown_step d (by omega) A len cap a b B n x w h1 hBa hBb hab h2 h3 h4 fun _ n x w g1 g2 g3 g4 => by
    have := grown_calls A len cap a b B hBa hBb hab f (d + 1) (by omega) n x w g1 g2 g3 g4
    rwa [show ((d + 1 : Nat) : Int) = (d : Int) + 1 by omega] at this
end Go.Proofs.YtbjcahhijfommaaDoor.Gn
