/- Attributes copied. -/
import Derived.Test.YtbjcahhijfommaaGreatDoorPre
import Derived.Maps.AppendAt
import Derived.OwnWalk
import Derived.WalkSpells
import Derived.Lib.SliceRun
import Derived.WalkLawsBesides
import Derived.Outline
namespace Go.Proofs.YtbjcahhijfommaaGreatDoor.Tr
open Go Go.RowKit
set_option linter.unusedVariables false

def cellsA (al : List (ByteArray × ByteArray)) : List Value := al.flatMap fun x => [.string x.1, .string x.2]
theorem cellsA_length : ∀ al, (cellsA al).length = al.length * 2
  | [] => rfl
  | x :: xs => by have := cellsA_length xs; simp [cellsA] at this ⊢; omega
theorem cellsA_at : ∀ (al : List (ByteArray × ByteArray)) (i : Nat) (x : ByteArray × ByteArray), al[i]? = some x → (cellsA al)[i * 2]? = some (.string x.1) ∧ (cellsA al)[i * 2 + 1]? = some (.string x.2)
  | [], i, x, h => by simp at h
  | y :: ys, 0, x, h => by simp at h; subst h; simp [cellsA]
  | y :: ys, i + 1, x, h => by
    have := cellsA_at ys i x (by simpa using h)
    have e : cellsA (y :: ys) = .string y.1 :: .string y.2 :: cellsA ys := by simp [cellsA]
    rw [e, show (i + 1) * 2 = i * 2 + 1 + 1 by omega, show i * 2 + 1 + 1 + 1 = (i * 2 + 1) + 1 + 1 by omega]
    simpa using this
theorem cellsA_of : ∀ (al : List (ByteArray × ByteArray)) (j : Nat) (u : Value), (cellsA al)[j]? = some u → ∃ i x, al[i]? = some x ∧ ((j = i * 2 ∧ u = .string x.1) ∨ (j = i * 2 + 1 ∧ u = .string x.2))
  | [], j, u, h => by simp [cellsA] at h
  | y :: ys, 0, u, h => by simp [cellsA] at h; exact ⟨0, y, rfl, .inl ⟨rfl, h.symm⟩⟩
  | y :: ys, 1, u, h => by simp [cellsA] at h; exact ⟨0, y, rfl, .inr ⟨rfl, h.symm⟩⟩
  | y :: ys, j + 2, u, h => by
    have e : cellsA (y :: ys) = .string y.1 :: .string y.2 :: cellsA ys := by simp [cellsA]
    rw [e] at h
    obtain ⟨i, x, hx, h2⟩ := cellsA_of ys j u (by simpa using h)
    exact ⟨i + 1, x, by simpa using hx, h2.imp (fun ⟨a, b⟩ => ⟨by omega, b⟩) (fun ⟨a, b⟩ => ⟨by omega, b⟩)⟩
theorem attr_info : (Tryz.prog.info? 50).map (fun i => (i.zero, i.size, i.bytes)) = some (some (.agg #[.string ByteArray.empty, .string ByteArray.empty]), 2, 32) := by kernel_rfl
theorem isAttrs_row {w : World} {B0 g cap : Nat} {al : List (ByteArray × ByteArray)} (hrow : w.ownsRow B0 50 2 (.slice (some ⟨g, 0, none⟩) al.length cap) al.length (cellsA al)) (hb : ∀ a ∈ al, a.1.size ≤ maxLen ∧ a.2.size ≤ maxLen) : IsAttrs w w.heap.size al (some ⟨g, 0, none⟩) cap := by
  have hg := (hrow.lt g rfl).2
  have hc := hrow.cells (g := g) rfl
  rcases hrow.2 with ⟨h1, _⟩ | ⟨g', cap', cur, h1, h5, h6, h7, h8, _⟩
  · cases h1
  · injection h1 with h1a h1b h1c
    subst h1c
    refine ⟨h7, h8, hb, fun _ => ⟨g, 0, rfl, hg, fun i x hx => ?_⟩⟩
    obtain ⟨e0, e1⟩ := cellsA_at al i x hx
    have a0 := hc _ _ e0
    have a1 := hc _ _ e1
    rw [add_flat] at a0 a1
    exact ⟨a0, by rw [Nat.add_assoc]; exact a1⟩
def CloneEnd (al : List (ByteArray × ByteArray)) (w : World) (e : Ending) (w' : World) : Prop :=
  ∃ A ac, e = .returned (.slice A al.length ac) ∧ IsAttrs w' w'.heap.size al A ac ∧ Below w.heap.size w w' ∧ ∀ g, (Value.slice A al.length ac).ownBlock = some g → w.heap.size ≤ g ∧ g < w'.heap.size

end Go.Proofs.YtbjcahhijfommaaGreatDoor.Tr
