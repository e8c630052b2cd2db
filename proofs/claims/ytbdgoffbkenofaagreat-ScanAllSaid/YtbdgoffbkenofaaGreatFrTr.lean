/- What a call may have changed: all blocks below a number are as they were, but some. -/
import Derived.Below
import Derived.OneCell
import Derived.Lib.Hide
import Derived.Deep.Draws
import Derived.Laws.Rows
import Derived.Test.YtbdgoffbkenofaaGreatProg
import Derived.WalkKit
import Derived.Deep.Slices
import Derived.Deep.Fields
import Derived.ChangeSame
import Derived.OpenShut
namespace Go.Proofs.YtbdgoffbkenofaaGreat.Tr
open Go Go.RowKit

/-- Below B all is as it was, but the blocks of R. -/
structure Fr (R : Nat → Prop) (B : Nat) (w w' : World) : Prop where
  os : w'.os = w.os
  tape : w'.tape = w.tape
  output : w'.output = w.output
  size : w.heap.size ≤ w'.heap.size
  block : ∀ k, k < B → ¬ R k → w'.heap[k]? = w.heap[k]?
def noneR : Nat → Prop := fun _ => False
section
variable {R R' : Nat → Prop} {B B' : Nat} {a w w' : World}
theorem Fr.refl (R : Nat → Prop) (B : Nat) (w : World) : Fr R B w w := ⟨rfl, rfl, rfl, Nat.le_refl _, fun _ _ _ => rfl⟩
theorem Fr.trans {b c : World} (h : Fr R B a b) (k : Fr R B b c) : Fr R B a c :=
  ⟨k.os.trans h.os, k.tape.trans h.tape, k.output.trans h.output, Nat.le_trans h.size k.size, fun i hi hr => (k.block i hi hr).trans (h.block i hi hr)⟩
theorem Fr.mono (h : Fr R B w w') (hB : B' ≤ B) (hR : ∀ k, k < B' → R k → R' k) : Fr R' B' w w' :=
  ⟨h.os, h.tape, h.output, h.size, fun k hk hr => h.block k (by omega) fun hk' => hr (hR k hk hk')⟩
theorem Fr.drew (h : Fr R B a w) : Fr R B a w.drew := ⟨h.os, h.tape, h.output, h.size, h.block⟩
theorem Fr.drewN (h : Fr R B a w) (n : Nat) : Fr R B a (w.drewN n) := ⟨h.os, h.tape, h.output, h.size, h.block⟩
theorem Fr.of_below (h : Below B w w') : Fr R B w w' := ⟨h.os, h.tape, h.output, h.size, fun k hk _ => h.block k hk⟩
theorem Fr.below (h : Fr R B w w') (hr : ∀ k, k < B' → ¬ R k) (hB : B' ≤ B) : Below B' w w' := ⟨h.os, h.tape, h.output, h.size, fun k hk => h.block k (by omega) (hr k hk)⟩
theorem Fr.alloc (h : Fr R B a w) (hB : B ≤ w.heap.size) (o : Obj) : Fr R B a (w.alloc o) :=
  h.trans (Fr.of_below ((Below.refl B w).alloc hB o))
theorem Fr.setCell (h : Fr R B a w) {p : Addr} (hp : B ≤ p.block ∨ R p.block) (u : Value) : Fr R B a (w.setCell p u) := by
  refine h.trans ⟨rfl, rfl, rfl, by simp, fun k hk hr => Below.heap_setCell w p u k fun e => ?_⟩
  subst e
  rcases hp with hp | hp
  · omega
  · exact hr hp
theorem Fr.grown (h : Fr R B a w) {row : Option Nat} (hg : w.grownBy w' row) (hB : B ≤ w.heap.size) (hr : ∀ k, row = some k → B ≤ k ∨ R k) : Fr R B a w' := by
  refine h.trans ⟨hg.os, hg.tape, hg.output, hg.size, fun k hk hk' => hg.block k (by omega) fun e => ?_⟩
  rcases hr k e.symm with h1 | h1
  · omega
  · exact hk' h1
theorem Fr.cell (h : Fr R B w w') {p : Addr} (hp : p.block < B) (hr : ¬ R p.block) : w'.cell? p = w.cell? p := World.cell?_of_block (h.block _ hp hr)
theorem Fr.frozen (h : Fr R B w w') {p : Addr} (hp : p.block < B) (hr : ¬ R p.block) : w'.frozen? p = w.frozen? p := World.frozen?_of_block (h.block _ hp hr)
end
theorem alloc_old {w : World} {b : Nat} {x : Obj} (h : w.heap[b]? = some x) (o : Obj) : (w.alloc o).heap[b]? = some x := (Below.heap_alloc w o b (lt_of_block h)).trans h
theorem alloc_new (w : World) (o : Obj) : (w.alloc o).heap[w.heap.size]? = some o := heap_alloc_new w o
theorem setCell_old {w : World} {b : Nat} {x : Obj} (h : w.heap[b]? = some x) {p : Addr} (hp : b ≠ p.block) (u : Value) : (w.setCell p u).heap[b]? = some x := (Below.heap_setCell w p u b hp).trans h
theorem block_cell {w : World} {b i : Nat} {cs : Array Value} {t : TypeId} {f : Nat × Nat} (h : w.heap[b]? = some (.cells cs t f)) : w.cell? ⟨b, i, none⟩ = cs[i]? := by simp [World.cell?, h]
end Go.Proofs.YtbdgoffbkenofaaGreat.Tr
namespace Go.Proofs.YtbdgoffbkenofaaGreat.Tr
set_option maxRecDepth 100000
open Go Go.RowKit Go.ChangeShapes Go.WideShapes Go.Deep

/-- A node: its kind, name, text, attributes, kids. -/
inductive Nd where
  | mk (kind : Int) (name text : ByteArray) (attrs : List (ByteArray × ByteArray)) (kids : List Nd)
deriving Inhabited
namespace Nd
def kind : Nd → Int | mk k _ _ _ _ => k
def name : Nd → ByteArray | mk _ n _ _ _ => n
def text : Nd → ByteArray | mk _ _ s _ _ => s
def attrs : Nd → List (ByteArray × ByteArray) | mk _ _ _ a _ => a
def kids : Nd → List Nd | mk _ _ _ _ l => l
end Nd

section
variable (w w' : World) (B : Nat)
/-- Attributes behind an address. -/
def IsAttrs (al : List (ByteArray × ByteArray)) (A : Option Addr) (ac : Nat) : Prop :=
  al.length ≤ ac ∧ ac ≤ maxLen ∧ (∀ a ∈ al, a.1.size ≤ maxLen ∧ a.2.size ≤ maxLen) ∧
    (al ≠ [] → ∃ b off, A = some ⟨b, off, none⟩ ∧ b < B ∧ ∀ i x, al[i]? = some x → w.cell? ⟨b, off + i * 2, none⟩ = some (.string x.1) ∧ w.cell? ⟨b, off + i * 2 + 1, none⟩ = some (.string x.2))
mutual
/-- A tree, its five cells' values given. -/
def IsTree : Nd → Value → Value → Value → Value → Value → Prop
  | .mk k n s al ks, v0, v1, v2, v3, v4 => v0 = .int .i64 k ∧ v1 = .string n ∧ v2 = .string s ∧ (Lit.int .i64 k).wf = true ∧ n.size ≤ maxLen ∧ s.size ≤ maxLen ∧
      ∃ A ac K kc, v3 = .slice A al.length ac ∧ v4 = .slice K ks.length kc ∧ IsAttrs w B al A ac ∧ ks.length ≤ kc ∧ kc ≤ maxLen ∧ (ks ≠ [] → ∃ b off, K = some ⟨b, off, none⟩ ∧ b < B ∧ IsKids ks b off)
/-- Trees that lie in memory one behind the other. -/
def IsKids : List Nd → Nat → Nat → Prop
  | [], _, _ => True
  | t :: ts, b, off => (∃ v0 v1 v2 v3 v4, w.cell? ⟨b, off, none⟩ = some v0 ∧ w.cell? ⟨b, off + 1, none⟩ = some v1 ∧ w.cell? ⟨b, off + 2, none⟩ = some v2 ∧ w.cell? ⟨b, off + 3, none⟩ = some v3 ∧ w.cell? ⟨b, off + 4, none⟩ = some v4 ∧
      IsTree t v0 v1 v2 v3 v4) ∧ IsKids ts b (off + 5)
end
end

section
variable {w w' : World} {B B' : Nat}
theorem IsAttrs.keep {al : List (ByteArray × ByteArray)} {A : Option Addr} {ac : Nat} (h : IsAttrs w B al A ac) (hk : ∀ p : Addr, p.block < B → w'.cell? p = w.cell? p) (hB : B ≤ B') : IsAttrs w' B' al A ac := by
  obtain ⟨h1, h2, h3, h4⟩ := h
  refine ⟨h1, h2, h3, fun hn => ?_⟩
  obtain ⟨b, off, e, hb, hc⟩ := h4 hn
  exact ⟨b, off, e, by omega, fun i x hx => ⟨(hk _ hb).trans (hc i x hx).1, (hk _ hb).trans (hc i x hx).2⟩⟩
mutual
theorem IsTree.keep {t : Nd} {v0 v1 v2 v3 v4 : Value} (h : IsTree w B t v0 v1 v2 v3 v4) (hk : ∀ p : Addr, p.block < B → w'.cell? p = w.cell? p) (hB : B ≤ B') : IsTree w' B' t v0 v1 v2 v3 v4 := by
  match t with
  | .mk k n s al ks =>
    unfold IsTree at h ⊢
    obtain ⟨e0, e1, e2, h3, h4, h5, A, ac, K, kc, e6, e7, h8, h9, h10, h11⟩ := h
    refine ⟨e0, e1, e2, h3, h4, h5, A, ac, K, kc, e6, e7, h8.keep hk hB, h9, h10, fun hn => ?_⟩
    obtain ⟨b, off, e, hb, hc⟩ := h11 hn
    exact ⟨b, off, e, by omega, IsKids.keep hc hb hk hB⟩
theorem IsKids.keep {l : List Nd} {b off : Nat} (h : IsKids w B l b off) (hb : b < B) (hk : ∀ p : Addr, p.block < B → w'.cell? p = w.cell? p) (hB : B ≤ B') : IsKids w' B' l b off := by
  match l with
  | [] => unfold IsKids; trivial
  | t :: ts =>
    unfold IsKids at h ⊢
    obtain ⟨⟨v0, v1, v2, v3, v4, c0, c1, c2, c3, c4, ht⟩, hts⟩ := h
    exact ⟨⟨v0, v1, v2, v3, v4, (hk _ hb).trans c0, (hk _ hb).trans c1, (hk _ hb).trans c2, (hk _ hb).trans c3, (hk _ hb).trans c4, IsTree.keep ht hk hB⟩, IsKids.keep hts hb hk hB⟩
end
theorem IsKids.at_ {l : List Nd} {b off i : Nat} {t : Nd} (h : IsKids w B l b off) (hi : l[i]? = some t) :
    ∃ v0 v1 v2 v3 v4, w.cell? ⟨b, off + i * 5, none⟩ = some v0 ∧ w.cell? ⟨b, off + i * 5 + 1, none⟩ = some v1 ∧ w.cell? ⟨b, off + i * 5 + 2, none⟩ = some v2 ∧ w.cell? ⟨b, off + i * 5 + 3, none⟩ = some v3 ∧ w.cell? ⟨b, off + i * 5 + 4, none⟩ = some v4 ∧ IsTree w B t v0 v1 v2 v3 v4 := by
  induction l generalizing off i with
  | nil => simp at hi
  | cons x xs ih =>
    unfold IsKids at h
    cases i with
    | zero => simp at hi; subst hi; simpa using h.1
    | succ j =>
      have := ih h.2 (i := j) (by simpa using hi)
      rw [show off + (j + 1) * 5 = off + 5 + j * 5 by omega]
      exact this
theorem IsKids.of_at {l : List Nd} {b off : Nat} (h : ∀ i t, l[i]? = some t → ∃ v0 v1 v2 v3 v4, w.cell? ⟨b, off + i * 5, none⟩ = some v0 ∧ w.cell? ⟨b, off + i * 5 + 1, none⟩ = some v1 ∧ w.cell? ⟨b, off + i * 5 + 2, none⟩ = some v2 ∧ w.cell? ⟨b, off + i * 5 + 3, none⟩ = some v3 ∧ w.cell? ⟨b, off + i * 5 + 4, none⟩ = some v4 ∧ IsTree w B t v0 v1 v2 v3 v4) :
    IsKids w B l b off := by
  induction l generalizing off with
  | nil => unfold IsKids; trivial
  | cons x xs ih =>
    unfold IsKids
    refine ⟨by simpa using h 0 x rfl, ih fun i t hi => ?_⟩
    have := h (i + 1) t (by simpa using hi)
    rw [show off + (i + 1) * 5 = off + 5 + i * 5 by omega] at this
    exact this
end

/-! ### An argument, opened -/
theorem cell_lt {w : World} {a : Addr} {v : Value} (h : w.cell? a = some v) : a.block < w.heap.size ∧ a.spot = none := by
  unfold World.cell? at h
  cases hb : w.heap[a.block]? with
  | none => rw [hb] at h; cases h
  | some o =>
    rw [hb] at h
    have hlt : a.block < w.heap.size := by
      rcases Nat.lt_or_ge a.block w.heap.size with hl | hl
      · exact hl
      · rw [Array.getElem?_eq_none hl] at hb; cases hb
    refine ⟨hlt, ?_⟩
    cases o <;> simp at h
    exact h.1
theorem flat_addr {w : World} {a : Addr} {v : Value} (h : w.cell? a = some v) : a = ⟨a.block, a.off, none⟩ := by
  have := (cell_lt h).2
  cases a; simp_all
theorem add_flat (b o n : Nat) : (⟨b, o, none⟩ : Addr).add n = ⟨b, o + n, none⟩ := by
  unfold Addr.add; split
  · rename_i h; subst h; rfl
  · rfl

theorem list_of {α : Type} {p : Nat → α → Prop} : ∀ {n : Nat}, (∀ i, i < n → ∃ x, p i x) → ∃ l : List α, l.length = n ∧ ∀ i x, l[i]? = some x → p i x
  | 0, _ => ⟨[], rfl, by simp⟩
  | k + 1, H => by
    obtain ⟨al, hl, hx⟩ := list_of (n := k) (fun i hi => H i (by omega))
    obtain ⟨y, hy⟩ := H k (by omega)
    refine ⟨al ++ [y], by simp [hl], fun i x hi => ?_⟩
    rcases Nat.lt_or_ge i al.length with hlt | hge
    · rw [List.getElem?_append_left hlt] at hi; exact hx i x hi
    · rw [List.getElem?_append_right hge] at hi
      have e : i = k := by
        rcases Nat.lt_or_ge (i - al.length) 1 with h1 | h1
        · omega
        · rw [List.getElem?_eq_none (by simpa using h1)] at hi; cases hi
      subst e
      rw [hl, Nat.sub_self] at hi
      simp at hi; subst hi
      exact hy
section
variable {H : Type} {enc : TypeId × Value → H} {w : World} {base : Nat} {spare : Nat → Bool} {held : Bool}
theorem cells_attr : Tryz.prog.cellsOf 30 = 2 := by kernel_rfl
theorem cells_str : Tryz.prog.cellsOf 9 = 1 := by kernel_rfl
theorem cells_int : Tryz.prog.cellsOf 3 = 1 := by kernel_rfl
theorem cells_attrs : Tryz.prog.cellsOf 25 = 1 := by kernel_rfl
theorem open_attr {fuel : Nat} {cs : List Value} {x : DataW H × List MemPlace} (h : DataW.trod enc Tryz.prog w base spare held fuel 30 cs = some x) :
    ∃ n v : ByteArray, cs = [.string n, .string v] ∧ n.size ≤ maxLen ∧ v.size ≤ maxLen := by
  obtain ⟨ys, n, _, _, hl, _, hf⟩ := DataW.trod_struct Tryz.underlying30 h
  rw [cells_attr] at hl
  match cs, hl with
  | [c0, c1], _ =>
    match ys with
    | [y0, y1] =>
      have h0 : DataW.trod enc Tryz.prog w base spare held n 9 (([c0, c1].drop 0).take (Tryz.prog.cellsOf 9)) = some y0 := hf 0 _ rfl
      have h1 : DataW.trod enc Tryz.prog w base spare held n 9 (([c0, c1].drop 1).take (Tryz.prog.cellsOf 9)) = some y1 := hf 1 _ rfl
      rw [cells_str] at h0 h1
      simp at h0 h1
      obtain ⟨s0, e0, _, b0⟩ := DataW.trod_string Tryz.underlying9 h0
      obtain ⟨s1, e1, _, b1⟩ := DataW.trod_string Tryz.underlying9 h1
      simp at e0 e1
      subst e0 e1
      exact ⟨s0, s1, rfl, b0, b1⟩
    | [] => rename_i hy; cases hy
    | [_] => rename_i hy; cases hy
    | _ :: _ :: _ :: _ => rename_i hy; cases hy

theorem open_attrs {fuel : Nat} {v : Value} {x : DataW H × List MemPlace} (h : DataW.trod enc Tryz.prog w base spare held fuel 25 [v] = some x) :
    ∃ (al : List (ByteArray × ByteArray)) (A : Option Addr) (ac : Nat), v = .slice A al.length ac ∧ IsAttrs w w.heap.size al A ac := by
  rcases DataW.trod_slice Tryz.underlying25 h with ⟨hc, _⟩ | ⟨a, len, cap, elems, rest, n, _, hc, _, _, hl, hm, he, hel, _, _⟩
  · injection hc with hc; subst hc
    exact ⟨[], none, 0, rfl, by simp, by unfold maxLen; omega, by simp, fun h => absurd rfl h⟩
  · injection hc with hc; subst hc
    have H : ∀ i, i < len → ∃ n v : ByteArray, w.cell? (a.add (i * 2)) = some (.string n) ∧ w.cell? ((a.add (i * 2)).add 1) = some (.string v) ∧ n.size ≤ maxLen ∧ v.size ≤ maxLen := by
      intro i hi
      have h1 := hel i hi
      rw [cells_attr] at h1
      have h2 : ∃ y, elems[i]? = some y := ⟨elems[i]'(by omega), List.getElem?_eq_getElem (by omega)⟩
      obtain ⟨y, hy⟩ := h2
      rw [hy] at h1
      obtain ⟨cs, hcs, ht⟩ := Option.bind_eq_some_iff.1 h1
      obtain ⟨_, hlen, hat⟩ := World.cells?_some hcs
      obtain ⟨n, v, rfl, b0, b1⟩ := open_attr ht
      refine ⟨n, v, ?_, ?_, b0, b1⟩
      · have := hat 0 (by omega); simpa [Addr.add] using this
      · have := hat 1 (by omega); simpa using this
    have H2 : ∃ al : List (ByteArray × ByteArray), al.length = len ∧ ∀ i x, al[i]? = some x → w.cell? (a.add (i * 2)) = some (.string x.1) ∧ w.cell? ((a.add (i * 2)).add 1) = some (.string x.2) ∧ x.1.size ≤ maxLen ∧ x.2.size ≤ maxLen :=
      list_of fun i hi => by
        obtain ⟨n, v, h⟩ := H i hi
        exact ⟨(n, v), h⟩
    obtain ⟨al, hlen, hx⟩ := H2
    refine ⟨al, some a, cap, by rw [hlen], by omega, hm, fun x hx' => ?_, fun hne => ?_⟩
    · obtain ⟨i, hi⟩ := List.mem_iff_getElem?.1 hx'
      exact ⟨(hx i x hi).2.2.1, (hx i x hi).2.2.2⟩
    · have h0 : ∃ x, al[0]? = some x := by
        cases al with
        | nil => exact absurd rfl hne
        | cons y ys => exact ⟨y, rfl⟩
      obtain ⟨x0, hx0⟩ := h0
      have hc0 := (hx 0 x0 hx0).1
      rw [Nat.zero_mul] at hc0
      have ha : a.add 0 = a := by simp [Addr.add]
      rw [ha] at hc0
      have hf := flat_addr hc0
      refine ⟨a.block, a.off, by rw [← hf], (cell_lt hc0).1, fun i x hi => ?_⟩
      have := hx i x hi
      rw [hf, add_flat, add_flat] at this
      exact ⟨this.1, this.2.1⟩

end
end Go.Proofs.YtbdgoffbkenofaaGreat.Tr
