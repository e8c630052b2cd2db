/- strings' generic replacer: a text replaced. -/
import Derived.Test.YtioaigedcoapcaaGreatDoorGws
import Derived.Laws.IdiomStrings
namespace Go.Proofs.YtioaigedcoapcaaGreatDoor.Gr
open Go Go.RowKit Go.Proofs.YtioaigedcoapcaaGreatDoor.Tr Go.Proofs.YtioaigedcoapcaaGreatDoor.Sr
set_option linter.unusedVariables false
set_option maxRecDepth 100000

theorem buf_text {w : World} {B b : Nat} {v : Value} {l : List UInt8} (h : Buf w B b v l) : (convert 510 9 v).run Tryz.prog w = .ok (.string ⟨l.toArray⟩) w := by
  have hr := h.row
  rcases hr.2 with ⟨hv, h0⟩ | ⟨g, cap, cur, hv, h5, h6, h7⟩
  · obtain rfl : l = [] := List.eq_nil_of_length_eq_zero h0
    rw [hv]
    exact run_convert_bytes_nil w _ 5 Tryz.underlying510 Tryz.underlying5 0 0 _ Tryz.underlying9
  · rw [hv]
    refine run_convert_bytes_back w _ _ 5 ⟨g, 0, none⟩ cap l Tryz.underlying510 Tryz.underlying5 Tryz.underlying9 fun j hj => ?_
    have hc := hr.cells (g := g) (by rw [hv]; rfl)
    exact hc j _ (by unfold Lib.byteCells; rw [List.getElem?_map, List.getElem?_eq_getElem hj]; rfl)
def zcells (n : Nat) : Array Value := madeCells (Value.int .u8 0).cells (n * 1)
theorem run_mkb (n : Nat) (hn : n ≤ 1000000000) (w : World) :
    (Instr.makeSlice 510 (.int .i64 0) (.int .i64 n)).run Tryz.prog w = .ok (.slice (some ⟨w.heap.size, 0, none⟩) 0 n) (w.alloc (.cells (zcells n) 5)) := by
  obtain ⟨i, hi, hz0, hz, hb⟩ := info_parts u8_info
  rw [run_make (w := w) 510 5 i (.int .u8 0) Tryz.underlying510 hi hz0 .i64 .i64 0 n (by omega) (by omega) (by rw [hb]; omega) (by omega)]
  rw [hz]
  rfl
theorem zcells_size (n : Nat) : (zcells n).size = n * 1 := by simp [zcells, madeCells, Value.cells]
attribute [irreducible] zcells
def RplEnd (K : Prs) (s : ByteArray) (w : World) (e : Ending) (w' : World) : Prop := ∃ out, e = .returned (.string ⟨out.toArray⟩) ∧ Rep K s.data.toList out ∧ Below w.heap.size w w'
theorem greplace_calls {K : Prs} {n N : Nat} {M : List Int} (hG : GoodK K n M N) (g tb : Nat) (s : ByteArray) (w : World) (hB : Built w g tb n M N K) (hs : s.size ≤ 1000000) :
    Calls Tryz.prog 484 #[.pointer (some ⟨g, 0, none⟩), .string s] w (RplEnd K s w) := by
  have HG := Lib.hid hG
  have HB := Lib.hid hB
  have hmk := run_mkb s.size (by omega)
  clear hG hB
  go_enter Tryz.func484, Tryz.ntmps484
  go_wp2_with fail
  have hbf : Buf ((w.alloc (.cells (zcells s.size) 5)).alloc (.cells #[.slice (some ⟨w.heap.size, 0, none⟩) 0 s.size] 510)) w.heap.size (w.heap.size + 1) (.slice (some ⟨w.heap.size, 0, none⟩) 0 s.size) [] :=
    ⟨alloc_at (by simp) _, (World.ownsRow_made w _ _ (Nat.le_refl _) (by unfold maxLen; omega) (zcells_size _)).alloc _, by simp [Value.ownBlock]⟩
  have hbl : Below w.heap.size w ((w.alloc (.cells (zcells s.size) 5)).alloc (.cells #[.slice (some ⟨w.heap.size, 0, none⟩) 0 s.size] 510)) :=
    ((Below.refl _ _).alloc (Nat.le_refl _) _).alloc (by simp) _
  refine (gws_calls HG.out g tb (w.heap.size + 1) _ s w _ HB.out hbl hbf (by omega) hs).mono ?_
  rintro e w2 ⟨v', out, nn, rfl, hx⟩
  have c0 : w2.cell? ⟨w.heap.size + 1, 0, none⟩ = some v' := by rw [block_cell hx.buf.blk]; rfl
  have hcv := buf_text hx.buf
  have HX := Lib.hid hx
  clear hbf hbl hmk hx
  go_wp2_with fail
  go_ret
  exact ⟨out, rfl, HX.out.rep, HX.out.bel⟩
end Go.Proofs.YtioaigedcoapcaaGreatDoor.Gr
