/- strings' generic replacer: its trie's nodes, and what 'add' makes of them. -/
import Derived.Test.YtioaigedcoapcaaGreatDoorProg
import Derived.Test.YtioaigedcoapcaaGreatDoorFr
import Derived.WalkKit
import Derived.WalkLawsBesides
import Derived.WalkSpells
import Derived.Handy
import Derived.Lib.Hide
namespace Go.Proofs.YtioaigedcoapcaaGreatDoor.Gr
open Go Go.RowKit Go.Proofs.YtioaigedcoapcaaGreatDoor.Tr
set_option linter.unusedVariables false
set_option maxRecDepth 100000

/-- A node of the trie, whole. -/
def Node (w : World) (b : Nat) (v : ByteArray) (p : Int) (pre : ByteArray) (nx : Value) (tb : Value) : Prop :=
  w.heap[b]? = some (.cells #[.string v, .int .i64 p, .string pre, nx, tb] 451 (0, 0))
theorem Node.cells {w : World} {b : Nat} {v pre : ByteArray} {p : Int} {nx tb : Value} (h : Node w b v p pre nx tb) :
    w.cell? ⟨b, 0, none⟩ = some (.string v) ∧ w.cell? ⟨b, 1, none⟩ = some (.int .i64 p) ∧ w.cell? ⟨b, 2, none⟩ = some (.string pre) ∧ w.cell? ⟨b, 3, none⟩ = some nx ∧ w.cell? ⟨b, 4, none⟩ = some tb :=
  ⟨by rw [block_cell h]; rfl, by rw [block_cell h]; rfl, by rw [block_cell h]; rfl, by rw [block_cell h]; rfl, by rw [block_cell h]; rfl⟩
theorem Node.free {w : World} {b : Nat} {v pre : ByteArray} {p : Int} {nx tb : Value} (h : Node w b v p pre nx tb) (i : Nat) : w.frozen? ⟨b, i, none⟩ = false := frozen_of_row w b i _ _ h
theorem Node.lt {w : World} {b : Nat} {v pre : ByteArray} {p : Int} {nx tb : Value} (h : Node w b v p pre nx tb) : b < w.heap.size := lt_of_block h
/-- A node as 'new' makes it. -/
abbrev Fresh (w : World) (b : Nat) : Prop := Node w b ⟨#[]⟩ 0 ⟨#[]⟩ (.pointer none) (.slice none 0 0)
/-- The nodes that tell one key's rest. -/
def Sub (w : World) (b : Nat) (key v : ByteArray) (p : Int) : Prop :=
  (key = ⟨#[]⟩ ∧ Node w b v p ⟨#[]⟩ (.pointer none) (.slice none 0 0)) ∨
  (key ≠ ⟨#[]⟩ ∧ ∃ b2, Node w b ⟨#[]⟩ 0 key (.pointer (some ⟨b2, 0, none⟩)) (.slice none 0 0) ∧ Node w b2 v p ⟨#[]⟩ (.pointer none) (.slice none 0 0) ∧ b < b2)

theorem add_empty (b : Nat) (v : ByteArray) (p : Int) (r : Value) (w : World) (h : Fresh w b) :
    Calls Tryz.prog 419 #[.pointer (some ⟨b, 0, none⟩), .string ⟨#[]⟩, .string v, .int .i64 p, r] w fun e w' => e = .returned (.tuple #[]) ∧ w' = (w.setCell ⟨b, 0, none⟩ (.string v)).setCell ⟨b, 1, none⟩ (.int .i64 p) := by
  obtain ⟨c0, c1, c2, c3, c4⟩ := h.cells
  have f0 := h.free 0
  have f1 := h.free 1
  clear h
  go_enter Tryz.func419, Tryz.ntmps419
  go_wp2
  first | go_end0 | (simp only [Exit.inBlock, Exit.then]; refine bodyPost_ret (results_none rfl _ _ _) rfl ?_) | refine bodyPost_ret (results_none rfl _ _ _) rfl ?_
  exact ⟨rfl, rfl⟩
theorem Fresh.set {w : World} {b : Nat} (h : Fresh w b) (v : ByteArray) (p : Int) : Node ((w.setCell ⟨b, 0, none⟩ (.string v)).setCell ⟨b, 1, none⟩ (.int .i64 p)) b v p ⟨#[]⟩ (.pointer none) (.slice none 0 0) := by
  have h1 := heap_setCell_same w b 0 _ _ (.string v) h
  have h2 := heap_setCell_same _ b 1 _ _ (.int .i64 p) h1
  exact h2
theorem Fresh.link {w : World} {b : Nat} (h : Fresh w b) (k : ByteArray) (x : Value) : Node ((w.setCell ⟨b, 2, none⟩ (.string k)).setCell ⟨b, 3, none⟩ x) b ⟨#[]⟩ 0 k x (.slice none 0 0) := by
  have h1 := heap_setCell_same w b 2 _ _ (.string k) h
  have h2 := heap_setCell_same _ b 3 _ _ x h1
  exact h2
theorem Node.old {w w' : World} {b : Nat} {v pre : ByteArray} {p : Int} {nx tb : Value} (h : Node w b v p pre nx tb) (hk : w'.heap[b]? = w.heap[b]?) : Node w' b v p pre nx tb := hk.trans h
theorem alloc_at {w : World} {n : Nat} (h : w.heap.size = n) (o : Obj) : (w.alloc o).heap[n]? = some o := h ▸ alloc_new w o
def AddEnd (w : World) (b : Nat) (key v : ByteArray) (p : Int) (e : Ending) (w' : World) : Prop := e = .returned (.tuple #[]) ∧ Sub w' b key v p ∧ Fr (· = b) w.heap.size w w'
theorem fresh_add (b : Nat) (key v : ByteArray) (p : Int) (r : Value) (w : World) (h : Fresh w b) :
    Calls Tryz.prog 419 #[.pointer (some ⟨b, 0, none⟩), .string key, .string v, .int .i64 p, r] w (AddEnd w b key v p) := by
  by_cases hk : key = ⟨#[]⟩
  · subst hk
    refine (add_empty b v p r w h).mono ?_
    rintro e w' ⟨rfl, rfl⟩
    exact ⟨rfl, .inl ⟨rfl, h.set v p⟩, ((Fr.refl (· = b) _ _).setCell (.inr rfl) _).setCell (.inr rfl) _⟩
  · obtain ⟨c0, c1, c2, c3, c4⟩ := h.cells
    have f0 := h.free 0
    have f1 := h.free 1
    have f2 := h.free 2
    have f3 := h.free 3
    have hlt := h.lt
    have H := Lib.hid h
    have K := Lib.hid hk
    have hk1 : key.toList = [] ↔ False := ⟨fun e => hk (by cases key; rw [ByteArray.toList_eq] at e; exact congrArg ByteArray.mk (Array.toList_eq_nil_iff.1 e)), False.elim⟩
    have hk2 : key.toList.isEmpty = false := by rw [List.isEmpty_eq_false_iff]; exact fun e => hk1.1 e
    clear h hk hk1
    go_enter Tryz.func419, Tryz.ntmps419
    go_wp2_with fail
    have F : Fresh (((w.setCell ⟨b, 2, none⟩ (.string key)).setCell ⟨b, 3, none⟩ (.pointer (some ⟨w.heap.size, 0, none⟩))).alloc (.cells #[.string ⟨#[]⟩, .int .i64 0, .string ⟨#[]⟩, .pointer none, .slice none 0 0] 451)) w.heap.size :=
      alloc_at (by simp) _
    refine (add_empty w.heap.size v p r _ F).mono ?_
    rintro e w' ⟨rfl, hw⟩
    have S : Sub w' b key v p := by
      subst hw
      exact .inr ⟨K.out, w.heap.size, setCell_old (setCell_old (alloc_old (H.out.link key _) _) (by simp; omega) _) (by simp; omega) _, F.set v p, hlt⟩
    have G : Fr (· = b) w.heap.size w w' := by
      subst hw
      exact ((((Fr.refl (· = b) _ _).setCell (p := ⟨b, 2, none⟩) (.inr rfl) _).setCell (p := ⟨b, 3, none⟩) (.inr rfl) _).alloc (by simp) _ |>.setCell (p := ⟨w.heap.size, 0, none⟩) (.inl (Nat.le_refl _)) _).setCell (p := ⟨w.heap.size, 1, none⟩) (.inl (Nat.le_refl _)) _
    have S' := Lib.hid S
    have G' := Lib.hid G
    clear hw S G F c0 c1 c2 c3 c4 f0 f1 f2 f3
    go_wp2
    go_end0
    exact ⟨rfl, S'.out, G'.out⟩
end Go.Proofs.YtioaigedcoapcaaGreatDoor.Gr
