/- What a call may have changed: all blocks below a number are as they were, but some. -/
import Derived.Below
import Derived.OneCell
import Derived.Lib.Hide
import Derived.Deep.Draws
import Derived.Laws.Rows
namespace Go.Proofs.YtioaigedcoapcaaGreatDoor.Tr
open Go Go.RowKit

/-- Below B all is as it was, but the blocks of R. -/
structure Fr (R : Nat → Prop) (B : Nat) (w w' : World) : Prop where
  os : w'.os = w.os
  tape : w'.tape = w.tape
  output : w'.output = w.output
  size : w.heap.size ≤ w'.heap.size
  block : ∀ k, k < B → ¬ R k → w'.heap[k]? = w.heap[k]?
def noneR : Nat → Prop := fun _ => False
section
variable {R R' : Nat → Prop} {B B' : Nat} {a w w' : World}
theorem Fr.refl (R : Nat → Prop) (B : Nat) (w : World) : Fr R B w w := ⟨rfl, rfl, rfl, Nat.le_refl _, fun _ _ _ => rfl⟩
theorem Fr.trans {b c : World} (h : Fr R B a b) (k : Fr R B b c) : Fr R B a c :=
  ⟨k.os.trans h.os, k.tape.trans h.tape, k.output.trans h.output, Nat.le_trans h.size k.size, fun i hi hr => (k.block i hi hr).trans (h.block i hi hr)⟩
theorem Fr.mono (h : Fr R B w w') (hB : B' ≤ B) (hR : ∀ k, k < B' → R k → R' k) : Fr R' B' w w' :=
  ⟨h.os, h.tape, h.output, h.size, fun k hk hr => h.block k (by omega) fun hk' => hr (hR k hk hk')⟩
theorem Fr.drew (h : Fr R B a w) : Fr R B a w.drew := ⟨h.os, h.tape, h.output, h.size, h.block⟩
theorem Fr.drewN (h : Fr R B a w) (n : Nat) : Fr R B a (w.drewN n) := ⟨h.os, h.tape, h.output, h.size, h.block⟩
theorem Fr.of_below (h : Below B w w') : Fr R B w w' := ⟨h.os, h.tape, h.output, h.size, fun k hk _ => h.block k hk⟩
theorem Fr.below (h : Fr R B w w') (hr : ∀ k, k < B' → ¬ R k) (hB : B' ≤ B) : Below B' w w' := ⟨h.os, h.tape, h.output, h.size, fun k hk => h.block k (by omega) (hr k hk)⟩
theorem Fr.alloc (h : Fr R B a w) (hB : B ≤ w.heap.size) (o : Obj) : Fr R B a (w.alloc o) :=
  h.trans (Fr.of_below ((Below.refl B w).alloc hB o))
theorem Fr.setCell (h : Fr R B a w) {p : Addr} (hp : B ≤ p.block ∨ R p.block) (u : Value) : Fr R B a (w.setCell p u) := by
  refine h.trans ⟨rfl, rfl, rfl, by simp, fun k hk hr => Below.heap_setCell w p u k fun e => ?_⟩
  subst e
  rcases hp with hp | hp
  · omega
  · exact hr hp
theorem Fr.grown (h : Fr R B a w) {row : Option Nat} (hg : w.grownBy w' row) (hB : B ≤ w.heap.size) (hr : ∀ k, row = some k → B ≤ k ∨ R k) : Fr R B a w' := by
  refine h.trans ⟨hg.os, hg.tape, hg.output, hg.size, fun k hk hk' => hg.block k (by omega) fun e => ?_⟩
  rcases hr k e.symm with h1 | h1
  · omega
  · exact hk' h1
theorem Fr.cell (h : Fr R B w w') {p : Addr} (hp : p.block < B) (hr : ¬ R p.block) : w'.cell? p = w.cell? p := World.cell?_of_block (h.block _ hp hr)
theorem Fr.frozen (h : Fr R B w w') {p : Addr} (hp : p.block < B) (hr : ¬ R p.block) : w'.frozen? p = w.frozen? p := World.frozen?_of_block (h.block _ hp hr)
end
theorem alloc_old {w : World} {b : Nat} {x : Obj} (h : w.heap[b]? = some x) (o : Obj) : (w.alloc o).heap[b]? = some x := (Below.heap_alloc w o b (lt_of_block h)).trans h
theorem alloc_new (w : World) (o : Obj) : (w.alloc o).heap[w.heap.size]? = some o := heap_alloc_new w o
theorem setCell_old {w : World} {b : Nat} {x : Obj} (h : w.heap[b]? = some x) {p : Addr} (hp : b ≠ p.block) (u : Value) : (w.setCell p u).heap[b]? = some x := (Below.heap_setCell w p u b hp).trans h
theorem block_cell {w : World} {b i : Nat} {cs : Array Value} {t : TypeId} {f : Nat × Nat} (h : w.heap[b]? = some (.cells cs t f)) : w.cell? ⟨b, i, none⟩ = cs[i]? := by simp [World.cell?, h]
end Go.Proofs.YtioaigedcoapcaaGreatDoor.Tr
