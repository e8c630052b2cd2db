/- serial: a loop's body that takes pieces; what a piece leaves. -/
import Derived.RangeFuncNested
import Derived.RangeFuncBound
import Derived.RangeFuncCalls
import Derived.RangeFuncLeaves
import Derived.Shelf.Abstract
import Derived.Shelf.RegionOpen
import Derived.WalkKit
import Derived.OwnWalkIn
import Derived.TacticsInMore
import Derived.LoopNIn
import Derived.LoopIn
import Derived.ControlIn
import Derived.Test.YtbjcahhijfommaaGreatDoorFr
import Derived.Test.YtbjcahhijfommaaGreatDoorSay
namespace Go.Proofs.YtbjcahhijfommaaGreatDoor.Tr
open Go Go.RowKit

/-- What a round keeps: all below B, and all cells but those of some types. -/
structure KpT (T : TypeId → Bool) (B : Nat) (w w' : World) : Prop where
  below : Below B w w'
  cells : ∀ (k : Nat) (cs : Array Value) (t : TypeId) (f : Nat × Nat), w.heap[k]? = some (.cells cs t f) → T t = false → w'.heap[k]? = some (.cells cs t f)
section
variable {T : TypeId → Bool} {B : Nat} {a w w' : World}
theorem KpT.refl (T : TypeId → Bool) (B : Nat) (w : World) : KpT T B w w := ⟨Below.refl _ _, fun _ _ _ _ h _ => h⟩
theorem KpT.trans {b c : World} (h : KpT T B a b) (k : KpT T B b c) : KpT T B a c := ⟨h.below.trans k.below, fun i cs t f hi ht => k.cells i cs t f (h.cells i cs t f hi ht) ht⟩
theorem KpT.of_below (h : Below w.heap.size w w') (hB : B ≤ w.heap.size) : KpT T B w w' := ⟨h.mono hB, fun k _ _ _ hk _ => (h.block k (lt_of_block hk)).trans hk⟩
theorem KpT.alloc (h : KpT T B a w) (hB : B ≤ w.heap.size) (o : Obj) : KpT T B a (w.alloc o) := h.trans (KpT.of_below ((Below.refl _ w).alloc (Nat.le_refl _) o) hB)
theorem KpT.drew (h : KpT T B a w) : KpT T B a w.drew := ⟨⟨h.below.os, h.below.tape, h.below.output, h.below.size, h.below.block⟩, h.cells⟩
theorem KpT.size (h : KpT T B w w') : w.heap.size ≤ w'.heap.size := h.below.size
/-- The law's own book-keeping. -/
theorem kpT_b {w0 : World} (hB : B ≤ w0.heap.size) (W : World) (l : Nat) (o o' : Obj) (hl : w0.heap.size ≤ l) (h : W.heap[l]? = some o) (hc : o.isCells = false) (hw : o.isWalk = false) : KpT T B W (W.putObj l o') :=
  ⟨belowK_b hB W l o o' hl h hc hw, fun k cs t f hk _ => by
    refine (World.putObj_heap_other ?_).trans hk
    rintro rfl
    rw [hk] at h
    injection h with h
    subst h
    cases hc⟩
end
/-- How a walk over pieces ends: all have come; or one has said no. -/
def YEnd (T : TypeId → Bool) (B : Nat) (J Jx : List Pc → World → Prop) (l : List Pc) (w : World) (e : Ending) (w' : World) : Prop :=
  (e = .returned (.bool true) ∧ J l w' ∧ KpT T B w w') ∨ (e = .returned (.bool false) ∧ ∃ q, Jx q w')
/-- A loop's body that takes pieces. -/
structure Yd (l : Nat) (T : TypeId → Bool) (B N Bw : Nat) (J Jx : List Pc → World → Prop) : Prop where
  yld : ∀ m pre (x : Pc) w, J pre w → pre.length < N → YieldAt Fence.wide m Tryz.prog l #[.string x.1] w (YEnd T B J Jx (pre ++ [x]) w)
  abide : AbidesFrom Bw J
  t1 : T 9 = false
  t2 : T 25 = false
  t3 : T 50 = false
section
variable {l : Nat} {T : TypeId → Bool} {B N Bw : Nat} {J Jx : List Pc → World → Prop} {pre : List Pc} {w w' : World}
theorem Yd.below (Y : Yd l T B N Bw J Jx) (h : J pre w) (hb : Below w.heap.size w w') : J pre w' :=
  Y.abide pre w w' none h ⟨hb.os, hb.tape, hb.output, hb.size, fun k hk _ => hb.block k hk⟩ (fun r e => by cases e)
theorem Yd.alloc (Y : Yd l T B N Bw J Jx) (h : J pre w) (o : Obj) : J pre (w.alloc o) := Y.below h ((Below.refl _ w).alloc (Nat.le_refl _) o)
/-- Since the start: what has come, and what is kept. -/
structure YRel (T : TypeId → Bool) (B : Nat) (J : List Pc → World → Prop) (l : List Pc) (w0 w : World) : Prop where
  j : J l w
  k : KpT T B w0 w
  b : B ≤ w0.heap.size
theorem YRel.start (h : J pre w) (hB : B ≤ w.heap.size) : YRel T B J pre w w := ⟨h, KpT.refl _ _ _, hB⟩
variable {w0 : World}
theorem YRel.sizeB (h : YRel T B J pre w0 w) : B ≤ w.heap.size := Nat.le_trans h.b h.k.size
theorem YRel.below (Y : Yd l T B N Bw J Jx) (h : YRel T B J pre w0 w) (hb : Below w.heap.size w w') : YRel T B J pre w0 w' := ⟨Y.below h.j hb, h.k.trans (KpT.of_below hb h.sizeB), h.b⟩
theorem YRel.alloc (Y : Yd l T B N Bw J Jx) (h : YRel T B J pre w0 w) (o : Obj) : YRel T B J pre w0 (w.alloc o) := h.below Y ((Below.refl _ w).alloc (Nat.le_refl _) o)
theorem YRel.next {l' : List Pc} (h : YRel T B J pre w0 w) (hj : J l' w') (hk : KpT T B w w') : YRel T B J l' w0 w' := ⟨hj, h.k.trans hk, h.b⟩
theorem YRel.end_ (h : YRel T B J pre w0 w) : YEnd T B J Jx pre w0 (.returned (.bool true)) w := .inl ⟨rfl, h.j, h.k⟩
end
end Go.Proofs.YtbjcahhijfommaaGreatDoor.Tr
