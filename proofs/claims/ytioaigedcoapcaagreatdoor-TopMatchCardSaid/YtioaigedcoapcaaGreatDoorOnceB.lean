/- strings.Replacer: built once. -/
import Derived.Test.YtioaigedcoapcaaGreatDoorBuild
namespace Go.Proofs.YtioaigedcoapcaaGreatDoor.Gr
open Go Go.RowKit Go.Proofs.YtioaigedcoapcaaGreatDoor.Tr Go.Proofs.YtioaigedcoapcaaGreatDoor.On
set_option linter.unusedVariables false
set_option maxRecDepth 100000

def OnceP (n : Nat) (M : List Int) (N : Nat) (K : Prs) (r : Nat) (sm : Value) (g tb : Nat) (w w' : World) : Prop :=
  w'.heap[r]? = some (.cells #[.int .u32 0, .int .i32 1, sm, .iface 416 (.pointer (some ⟨g, 0, none⟩)), .slice none 0 0] 363 (0, 0)) ∧ Built w' g tb n M N K ∧ w.heap.size ≤ g ∧ Fr (· = r) w.heap.size w w'
def OnceEnd (n : Nat) (M : List Int) (N : Nat) (K : Prs) (r : Nat) (sm : Value) (w : World) (e : Ending) (w' : World) : Prop := e = .returned (.tuple #[]) ∧ ∃ g tb, OnceP n M N K r sm g tb w w'
theorem built_setCell {w : World} {g tb n N : Nat} {M : List Int} {K : Prs} (h : Built w g tb n M N K) {p : Addr} (hp : p.block < g) (x : Value) : Built (w.setCell p x) g tb n M N K := by
  obtain ⟨hg, ⟨Tb, h1, h2, h3, h4⟩, h5⟩ := h
  refine ⟨hg.old (heap_setCell_other _ _ _ _ (by omega)), ⟨Tb, h1, ⟨(heap_setCell_other _ _ _ _ (by omega)).trans h2.blk⟩, fun k q hq => ?_, h4⟩, h5⟩
  obtain ⟨nb, m, q1, q2, q3, q4, q5⟩ := h3 k q hq
  refine ⟨nb, m, q1, q2, q3, q4, ?_⟩
  rcases q5 with ⟨u1, u2⟩ | ⟨u1, b2, u2, u3, u4⟩
  · exact .inl ⟨u1, u2.old (heap_setCell_other _ _ _ _ (by omega))⟩
  · exact .inr ⟨u1, b2, u2.old (heap_setCell_other _ _ _ _ (by omega)), u3.old (heap_setCell_other _ _ _ _ (by omega)), u4⟩
theorem once_calls {K : Prs} {n N : Nat} {M : List Int} (hG : GoodK K n M N) (r sb cap : Nat) (sm : Value) (w : World) (hK : Olds w sb K)
    (hr : w.heap[r]? = some (.cells #[.int .u32 0, .int .i32 1, sm, .nilIface, .slice (some ⟨sb, 0, none⟩) N cap] 363 (0, 0))) :
    Calls Tryz.prog 322 #[.pointer (some ⟨r, 0, none⟩)] w (OnceEnd n M N K r sm w) := by
  have C := Lib.hid (build_calls hG r sb cap _ _ _ _ w hK hr)
  have HR := Lib.hid hr
  have hrl := lt_of_block hr
  clear hK hr hG
  go_enter Tryz.func322, Tryz.ntmps322
  go_wp2_with fail
  refine C.out.mono ?_
  rintro e w1 ⟨g, tb, rfl, h1, h2, h3⟩
  have hb := (h3.block _ hrl).trans HR.out
  have c3 : w1.cell? ⟨r, 3, none⟩ = some .nilIface := by rw [block_cell hb]; rfl
  have c4 : w1.cell? ⟨r, 4, none⟩ = some (.slice (some ⟨sb, 0, none⟩) N cap) := by rw [block_cell hb]; rfl
  have f3 : w1.frozen? ⟨r, 3, none⟩ = false := frozen_of_row w1 r 3 _ _ hb
  have f4 : w1.frozen? ⟨r, 4, none⟩ = false := frozen_of_row w1 r 4 _ _ hb
  have HB := Lib.hid hb
  have H2 := Lib.hid h2
  have H3 := Lib.hid h3
  clear hb h2 h3
  go_wp2_with fail
  go_end0
  have b1 := heap_setCell_same w1 r 3 _ _ (.iface 416 (.pointer (some ⟨g, 0, none⟩))) HB.out
  have b2 := heap_setCell_same _ r 4 _ _ (.slice none 0 0) b1
  exact ⟨rfl, g, tb, b2, built_setCell (built_setCell H2.out (p := ⟨r, 3, none⟩) (by show r < g; omega) _) (p := ⟨r, 4, none⟩) (by show r < g; omega) _, h1, ((Fr.of_below (R := (· = r)) H3.out).setCell (p := ⟨r, 3, none⟩) (.inr rfl) _).setCell (p := ⟨r, 4, none⟩) (.inr rfl) _⟩
end Go.Proofs.YtioaigedcoapcaaGreatDoor.Gr
