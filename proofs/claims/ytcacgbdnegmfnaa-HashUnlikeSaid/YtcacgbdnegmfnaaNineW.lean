/- The memory of nine trees. -/
import Derived.Test.YtcacgbdnegmfnaaUnl
import Derived.Test.YtcacgbdnegmfnaaHawk
import Derived.Deep.WholeRow
namespace Go.Proofs.Ytcacgbdnegmfnaa.Ha
open Go Go.RowKit Go.Proofs.Ytcacgbdnegmfnaa.Pl Go.Proofs.Ytcacgbdnegmfnaa.Tr Go.Proofs.Ytcacgbdnegmfnaa.Wk
set_option linter.unusedVariables false
/-- The memory in which the nine trees lie. -/
def nineW (w : World) : World :=
  ((((w.alloc (.cells #[.string ⟨#[99]⟩, .string ⟨#[100]⟩] 51)).alloc (.cells #[.string ⟨#[99, 100]⟩, .string ⟨#[]⟩] 51)).alloc
    (.cells #[.int .i64 3, .string ⟨#[]⟩, .string ⟨#[97]⟩, .slice none 0 0, .slice none 0 0, .int .i64 3, .string ⟨#[]⟩, .string ⟨#[98]⟩, .slice none 0 0, .slice none 0 0] 25)).alloc
    (.cells #[.int .i64 3, .string ⟨#[]⟩, .string ⟨#[98]⟩, .slice none 0 0, .slice none 0 0, .int .i64 3, .string ⟨#[]⟩, .string ⟨#[97]⟩, .slice none 0 0, .slice none 0 0] 25)).alloc
    (.cells #[.int .i64 3, .string ⟨#[]⟩, .string ⟨#[97, 98]⟩, .slice none 0 0, .slice none 0 0,
      .int .i64 4, .string ⟨#[]⟩, .string ⟨#[97, 98]⟩, .slice none 0 0, .slice none 0 0,
      .int .i64 2, .string ⟨#[97, 98]⟩, .string ⟨#[]⟩, .slice none 0 0, .slice none 0 0,
      .int .i64 5, .string ⟨#[97, 98]⟩, .string ⟨#[]⟩, .slice none 0 0, .slice none 0 0,
      .int .i64 2, .string ⟨#[97, 98]⟩, .string ⟨#[]⟩, .slice (some ⟨w.heap.size, 0, none⟩) 1 1, .slice none 0 0,
      .int .i64 2, .string ⟨#[97, 98]⟩, .string ⟨#[]⟩, .slice (some ⟨w.heap.size + 1, 0, none⟩) 1 1, .slice none 0 0,
      .int .i64 2, .string ⟨#[97, 98]⟩, .string ⟨#[]⟩, .slice none 0 0, .slice (some ⟨w.heap.size + 1 + 1, 0, none⟩) 2 2,
      .int .i64 2, .string ⟨#[97, 98]⟩, .string ⟨#[]⟩, .slice none 0 0, .slice (some ⟨w.heap.size + 1 + 1 + 1, 0, none⟩) 2 2,
      .int .i64 3, .string ⟨#[]⟩, .string ⟨#[97, 98, 0]⟩, .slice none 0 0, .slice none 0 0] 52)
def fourW (w : World) : World :=
  (((w.alloc (.cells #[.string ⟨#[99]⟩, .string ⟨#[100]⟩] 51)).alloc (.cells #[.string ⟨#[99, 100]⟩, .string ⟨#[]⟩] 51)).alloc
    (.cells #[.int .i64 3, .string ⟨#[]⟩, .string ⟨#[97]⟩, .slice none 0 0, .slice none 0 0, .int .i64 3, .string ⟨#[]⟩, .string ⟨#[98]⟩, .slice none 0 0, .slice none 0 0] 25)).alloc
    (.cells #[.int .i64 3, .string ⟨#[]⟩, .string ⟨#[98]⟩, .slice none 0 0, .slice none 0 0, .int .i64 3, .string ⟨#[]⟩, .string ⟨#[97]⟩, .slice none 0 0, .slice none 0 0] 25)
def zero45 : Array Value := #[.int .i64 0, .string ⟨#[]⟩, .string ⟨#[]⟩, .slice none 0 0, .slice none 0 0, .int .i64 0, .string ⟨#[]⟩, .string ⟨#[]⟩, .slice none 0 0, .slice none 0 0, .int .i64 0, .string ⟨#[]⟩, .string ⟨#[]⟩, .slice none 0 0, .slice none 0 0, .int .i64 0, .string ⟨#[]⟩, .string ⟨#[]⟩, .slice none 0 0, .slice none 0 0, .int .i64 0, .string ⟨#[]⟩, .string ⟨#[]⟩, .slice none 0 0, .slice none 0 0, .int .i64 0, .string ⟨#[]⟩, .string ⟨#[]⟩, .slice none 0 0, .slice none 0 0, .int .i64 0, .string ⟨#[]⟩, .string ⟨#[]⟩, .slice none 0 0, .slice none 0 0, .int .i64 0, .string ⟨#[]⟩, .string ⟨#[]⟩, .slice none 0 0, .slice none 0 0, .int .i64 0, .string ⟨#[]⟩, .string ⟨#[]⟩, .slice none 0 0, .slice none 0 0]
def cells45 (w : World) : Array Value := #[.int .i64 3, .string ⟨#[]⟩, .string ⟨#[97, 98]⟩, .slice none 0 0, .slice none 0 0,
      .int .i64 4, .string ⟨#[]⟩, .string ⟨#[97, 98]⟩, .slice none 0 0, .slice none 0 0,
      .int .i64 2, .string ⟨#[97, 98]⟩, .string ⟨#[]⟩, .slice none 0 0, .slice none 0 0,
      .int .i64 5, .string ⟨#[97, 98]⟩, .string ⟨#[]⟩, .slice none 0 0, .slice none 0 0,
      .int .i64 2, .string ⟨#[97, 98]⟩, .string ⟨#[]⟩, .slice (some ⟨w.heap.size, 0, none⟩) 1 1, .slice none 0 0,
      .int .i64 2, .string ⟨#[97, 98]⟩, .string ⟨#[]⟩, .slice (some ⟨w.heap.size + 1, 0, none⟩) 1 1, .slice none 0 0,
      .int .i64 2, .string ⟨#[97, 98]⟩, .string ⟨#[]⟩, .slice none 0 0, .slice (some ⟨w.heap.size + 1 + 1, 0, none⟩) 2 2,
      .int .i64 2, .string ⟨#[97, 98]⟩, .string ⟨#[]⟩, .slice none 0 0, .slice (some ⟨w.heap.size + 1 + 1 + 1, 0, none⟩) 2 2,
      .int .i64 3, .string ⟨#[]⟩, .string ⟨#[97, 98, 0]⟩, .slice none 0 0, .slice none 0 0]
theorem wp_world {P : Program} {c : Code} {Q : Exit → Act → World → Prop} {a : Act} {W W' : World} (h : W' = W) (hw : c.wp P Q a W) : c.wp P Q a W' := h ▸ hw
theorem four_size (w : World) : (fourW w).heap.size = w.heap.size + 1 + 1 + 1 + 1 := by unfold fourW; simp
theorem nine_row (w : World) : ((fourW w).alloc (.cells zero45 52)).setRow (w.heap.size + 1 + 1 + 1 + 1) (cells45 w) = nineW w := by
  rw [← four_size w, World.setRow_alloc_new]
  rfl
theorem nine_new (w : World) : ((fourW w).alloc (.cells zero45 52)).heap[w.heap.size + 1 + 1 + 1 + 1]? = some (.cells zero45 52 (0, 0)) := by
  rw [← four_size w]; exact alloc_new _ _
theorem cells45_one (w : World) : (cells45 w).all (·.oneCell') = true := by unfold cells45; simp [Value.oneCell']
structure NineOk (w w5 : World) : Prop where
  kids : IsKids w5 w5.heap.size nine (w.heap.size + 1 + 1 + 1 + 1) 0
  lt : w.heap.size + 1 + 1 + 1 + 1 < w5.heap.size
  bel : Below w.heap.size w w5
theorem alloc_at (w : World) (n : Nat) (h : w.heap.size = n) (o : Obj) : (w.alloc o).heap[n]? = some o := by subst h; exact alloc_new w o
theorem nine_kids (w : World) : NineOk w (nineW w) := by
  have s1 : ∀ o, (w.alloc o).heap.size = w.heap.size + 1 := fun o => by simp
  have hsz : (nineW w).heap.size = w.heap.size + 5 := by unfold nineW; simp
  have h0 : (nineW w).heap[w.heap.size]? = some (.cells #[.string ⟨#[99]⟩, .string ⟨#[100]⟩] 51 (0, 0)) := alloc_old (alloc_old (alloc_old (alloc_old (alloc_new w _) _) _) _) _
  have h1 : (nineW w).heap[w.heap.size + 1]? = some (.cells #[.string ⟨#[99, 100]⟩, .string ⟨#[]⟩] 51 (0, 0)) := alloc_old (alloc_old (alloc_old (alloc_at _ _ (by simp) _) _) _) _
  have h2 : (nineW w).heap[w.heap.size + 1 + 1]? = some (.cells #[.int .i64 3, .string ⟨#[]⟩, .string ⟨#[97]⟩, .slice none 0 0, .slice none 0 0, .int .i64 3, .string ⟨#[]⟩, .string ⟨#[98]⟩, .slice none 0 0, .slice none 0 0] 25 (0, 0)) := alloc_old (alloc_old (alloc_at _ _ (by simp) _) _) _
  have h3 : (nineW w).heap[w.heap.size + 1 + 1 + 1]? = some (.cells #[.int .i64 3, .string ⟨#[]⟩, .string ⟨#[98]⟩, .slice none 0 0, .slice none 0 0, .int .i64 3, .string ⟨#[]⟩, .string ⟨#[97]⟩, .slice none 0 0, .slice none 0 0] 25 (0, 0)) := alloc_old (alloc_at _ _ (by simp) _) _
  have h4 := alloc_at ((((w.alloc (.cells #[.string ⟨#[99]⟩, .string ⟨#[100]⟩] 51)).alloc (.cells #[.string ⟨#[99, 100]⟩, .string ⟨#[]⟩] 51)).alloc
    (.cells #[.int .i64 3, .string ⟨#[]⟩, .string ⟨#[97]⟩, .slice none 0 0, .slice none 0 0, .int .i64 3, .string ⟨#[]⟩, .string ⟨#[98]⟩, .slice none 0 0, .slice none 0 0] 25)).alloc
    (.cells #[.int .i64 3, .string ⟨#[]⟩, .string ⟨#[98]⟩, .slice none 0 0, .slice none 0 0, .int .i64 3, .string ⟨#[]⟩, .string ⟨#[97]⟩, .slice none 0 0, .slice none 0 0] 25)) (w.heap.size + 1 + 1 + 1 + 1) (by simp) (.cells #[.int .i64 3, .string ⟨#[]⟩, .string ⟨#[97, 98]⟩, .slice none 0 0, .slice none 0 0,
      .int .i64 4, .string ⟨#[]⟩, .string ⟨#[97, 98]⟩, .slice none 0 0, .slice none 0 0,
      .int .i64 2, .string ⟨#[97, 98]⟩, .string ⟨#[]⟩, .slice none 0 0, .slice none 0 0,
      .int .i64 5, .string ⟨#[97, 98]⟩, .string ⟨#[]⟩, .slice none 0 0, .slice none 0 0,
      .int .i64 2, .string ⟨#[97, 98]⟩, .string ⟨#[]⟩, .slice (some ⟨w.heap.size, 0, none⟩) 1 1, .slice none 0 0,
      .int .i64 2, .string ⟨#[97, 98]⟩, .string ⟨#[]⟩, .slice (some ⟨w.heap.size + 1, 0, none⟩) 1 1, .slice none 0 0,
      .int .i64 2, .string ⟨#[97, 98]⟩, .string ⟨#[]⟩, .slice none 0 0, .slice (some ⟨w.heap.size + 1 + 1, 0, none⟩) 2 2,
      .int .i64 2, .string ⟨#[97, 98]⟩, .string ⟨#[]⟩, .slice none 0 0, .slice (some ⟨w.heap.size + 1 + 1 + 1, 0, none⟩) 2 2,
      .int .i64 3, .string ⟨#[]⟩, .string ⟨#[97, 98, 0]⟩, .slice none 0 0, .slice none 0 0] 52)
  have hbel : Below w.heap.size w (nineW w) := by
    unfold nineW
    exact (((((Below.refl _ w).alloc (Nat.le_refl _) _).alloc (by simp) _).alloc (by simp; omega) _).alloc (by simp; omega) _).alloc (by simp; omega) _
  have lf : ∀ (k : Int) (n s : ByteArray), (Lit.int .i64 k).wf = true → n.size ≤ maxLen → s.size ≤ maxLen → IsTree (nineW w) (nineW w).heap.size (leafOf k n s) (.int .i64 k) (.string n) (.string s) (.slice none 0 0) (.slice none 0 0) := fun k n s a b c => isTree_leaf a b c
  have h4' : (nineW w).heap[w.heap.size + 1 + 1 + 1 + 1]? = _ := h4
  clear h4
  refine ⟨?_, by omega, hbel⟩
  have g0 : w.heap.size < (nineW w).heap.size := by omega
  have g1 : w.heap.size + 1 < (nineW w).heap.size := by omega
  have g2 : w.heap.size + 1 + 1 < (nineW w).heap.size := by omega
  have g3 : w.heap.size + 1 + 1 + 1 < (nineW w).heap.size := by omega
  generalize nineW w = w5 at *
  unfold nine
  unfold IsKids IsKids IsKids IsKids IsKids IsKids IsKids IsKids IsKids IsKids
  refine ⟨⟨_, _, _, _, _, ?_, ?_, ?_, ?_, ?_, lf 3 _ _ (by decide) (by decide) (by decide)⟩, ⟨_, _, _, _, _, ?_, ?_, ?_, ?_, ?_, lf 4 _ _ (by decide) (by decide) (by decide)⟩, ⟨_, _, _, _, _, ?_, ?_, ?_, ?_, ?_, lf 2 _ _ (by decide) (by decide) (by decide)⟩, ⟨_, _, _, _, _, ?_, ?_, ?_, ?_, ?_, lf 5 _ _ (by decide) (by decide) (by decide)⟩,
    ⟨_, _, _, _, _, ?_, ?_, ?_, ?_, ?_, isTree_attr (by decide) (by decide) (by decide) (by decide) (by decide) g0 h0⟩, ⟨_, _, _, _, _, ?_, ?_, ?_, ?_, ?_, isTree_attr (by decide) (by decide) (by decide) (by decide) (by decide) g1 h1⟩,
    ⟨_, _, _, _, _, ?_, ?_, ?_, ?_, ?_, isTree_two (by decide) (by decide) (by decide) g2 (lf 3 _ _ (by decide) (by decide) (by decide)) (lf 3 _ _ (by decide) (by decide) (by decide)) h2⟩, ⟨_, _, _, _, _, ?_, ?_, ?_, ?_, ?_, isTree_two (by decide) (by decide) (by decide) g3 (lf 3 _ _ (by decide) (by decide) (by decide)) (lf 3 _ _ (by decide) (by decide) (by decide)) h3⟩,
    ⟨_, _, _, _, _, ?_, ?_, ?_, ?_, ?_, lf 3 _ _ (by decide) (by decide) (by decide)⟩, trivial⟩ <;> (rw [block_cell h4']; rfl)
end Go.Proofs.Ytcacgbdnegmfnaa.Ha
