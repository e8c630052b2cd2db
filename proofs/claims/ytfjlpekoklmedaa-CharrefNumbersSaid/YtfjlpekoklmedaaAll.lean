/- The document's table of names. -/
import Derived.Test.YtfjlpekoklmedaaCode
import Derived.Test.YtfjlpekoklmedaaRun
namespace Go.Proofs.Ytfjlpekoklmedaa.Ct
open Go Go.RowKit

/-! ### All -/
def ents : List (ByteArray × Int × Bool) := [
  (⟨#[97, 109, 112]⟩, 38, true),
  (⟨#[108, 116]⟩, 60, true),
  (⟨#[103, 116]⟩, 62, true),
  (⟨#[113, 117, 111, 116]⟩, 34, true),
  (⟨#[65, 77, 80]⟩, 38, true),
  (⟨#[76, 84]⟩, 60, true),
  (⟨#[71, 84]⟩, 62, true),
  (⟨#[110, 98, 115, 112]⟩, 160, true),
  (⟨#[99, 101, 110, 116]⟩, 162, true),
  (⟨#[112, 111, 117, 110, 100]⟩, 163, true),
  (⟨#[121, 101, 110]⟩, 165, true),
  (⟨#[115, 101, 99, 116]⟩, 167, true),
  (⟨#[99, 111, 112, 121]⟩, 169, true),
  (⟨#[110, 111, 116]⟩, 172, true),
  (⟨#[114, 101, 103]⟩, 174, true),
  (⟨#[100, 101, 103]⟩, 176, true),
  (⟨#[112, 108, 117, 115, 109, 110]⟩, 177, true),
  (⟨#[112, 97, 114, 97]⟩, 182, true),
  (⟨#[109, 105, 100, 100, 111, 116]⟩, 183, true),
  (⟨#[102, 114, 97, 99, 49, 50]⟩, 189, true),
  (⟨#[65, 117, 109, 108]⟩, 196, true),
  (⟨#[116, 105, 109, 101, 115]⟩, 215, true),
  (⟨#[79, 117, 109, 108]⟩, 214, true),
  (⟨#[85, 117, 109, 108]⟩, 220, true),
  (⟨#[115, 122, 108, 105, 103]⟩, 223, true),
  (⟨#[97, 97, 99, 117, 116, 101]⟩, 225, true),
  (⟨#[97, 117, 109, 108]⟩, 228, true),
  (⟨#[101, 103, 114, 97, 118, 101]⟩, 232, true),
  (⟨#[101, 97, 99, 117, 116, 101]⟩, 233, true),
  (⟨#[111, 117, 109, 108]⟩, 246, true),
  (⟨#[100, 105, 118, 105, 100, 101]⟩, 247, true),
  (⟨#[117, 117, 109, 108]⟩, 252, true),
  (⟨#[97, 112, 111, 115]⟩, 39, false),
  (⟨#[116, 114, 97, 100, 101]⟩, 8482, false),
  (⟨#[104, 101, 108, 108, 105, 112]⟩, 8230, false),
  (⟨#[109, 100, 97, 115, 104]⟩, 8212, false),
  (⟨#[110, 100, 97, 115, 104]⟩, 8211, false),
  (⟨#[108, 115, 113, 117, 111]⟩, 8216, false),
  (⟨#[114, 115, 113, 117, 111]⟩, 8217, false),
  (⟨#[108, 100, 113, 117, 111]⟩, 8220, false),
  (⟨#[114, 100, 113, 117, 111]⟩, 8221, false),
  (⟨#[98, 117, 108, 108]⟩, 8226, false),
  (⟨#[101, 117, 114, 111]⟩, 8364, false),
  (⟨#[97, 108, 112, 104, 97]⟩, 945, false),
  (⟨#[98, 101, 116, 97]⟩, 946, false),
  (⟨#[112, 105]⟩, 960, false),
  (⟨#[105, 110, 102, 105, 110]⟩, 8734, false),
  (⟨#[110, 111, 116, 105, 110]⟩, 8713, false),
  (⟨#[110, 111, 116, 110, 105]⟩, 8716, false),
  (⟨#[110, 101]⟩, 8800, false),
  (⟨#[108, 101]⟩, 8804, false),
  (⟨#[103, 101]⟩, 8805, false)]
def entN (k : Nat) : ByteArray := (ents.getD k (ByteArray.empty, 0, false)).1
def entS (k : Nat) : Int := (ents.getD k (ByteArray.empty, 0, false)).2.1
def entB (k : Nat) : Bool := (ents.getD k (ByteArray.empty, 0, false)).2.2
def entCells : Array Value := #[.string ⟨#[97, 109, 112]⟩, .int .i32 38, .bool true, .string ⟨#[108, 116]⟩, .int .i32 60, .bool true, .string ⟨#[103, 116]⟩, .int .i32 62, .bool true, .string ⟨#[113, 117, 111, 116]⟩, .int .i32 34, .bool true, .string ⟨#[65, 77, 80]⟩, .int .i32 38, .bool true, .string ⟨#[76, 84]⟩, .int .i32 60, .bool true, .string ⟨#[71, 84]⟩, .int .i32 62, .bool true, .string ⟨#[110, 98, 115, 112]⟩, .int .i32 160, .bool true, .string ⟨#[99, 101, 110, 116]⟩, .int .i32 162, .bool true, .string ⟨#[112, 111, 117, 110, 100]⟩, .int .i32 163, .bool true, .string ⟨#[121, 101, 110]⟩, .int .i32 165, .bool true, .string ⟨#[115, 101, 99, 116]⟩, .int .i32 167, .bool true, .string ⟨#[99, 111, 112, 121]⟩, .int .i32 169, .bool true, .string ⟨#[110, 111, 116]⟩, .int .i32 172, .bool true, .string ⟨#[114, 101, 103]⟩, .int .i32 174, .bool true, .string ⟨#[100, 101, 103]⟩, .int .i32 176, .bool true, .string ⟨#[112, 108, 117, 115, 109, 110]⟩, .int .i32 177, .bool true, .string ⟨#[112, 97, 114, 97]⟩, .int .i32 182, .bool true, .string ⟨#[109, 105, 100, 100, 111, 116]⟩, .int .i32 183, .bool true, .string ⟨#[102, 114, 97, 99, 49, 50]⟩, .int .i32 189, .bool true, .string ⟨#[65, 117, 109, 108]⟩, .int .i32 196, .bool true, .string ⟨#[116, 105, 109, 101, 115]⟩, .int .i32 215, .bool true, .string ⟨#[79, 117, 109, 108]⟩, .int .i32 214, .bool true, .string ⟨#[85, 117, 109, 108]⟩, .int .i32 220, .bool true, .string ⟨#[115, 122, 108, 105, 103]⟩, .int .i32 223, .bool true, .string ⟨#[97, 97, 99, 117, 116, 101]⟩, .int .i32 225, .bool true, .string ⟨#[97, 117, 109, 108]⟩, .int .i32 228, .bool true, .string ⟨#[101, 103, 114, 97, 118, 101]⟩, .int .i32 232, .bool true, .string ⟨#[101, 97, 99, 117, 116, 101]⟩, .int .i32 233, .bool true, .string ⟨#[111, 117, 109, 108]⟩, .int .i32 246, .bool true, .string ⟨#[100, 105, 118, 105, 100, 101]⟩, .int .i32 247, .bool true, .string ⟨#[117, 117, 109, 108]⟩, .int .i32 252, .bool true, .string ⟨#[97, 112, 111, 115]⟩, .int .i32 39, .bool false, .string ⟨#[116, 114, 97, 100, 101]⟩, .int .i32 8482, .bool false, .string ⟨#[104, 101, 108, 108, 105, 112]⟩, .int .i32 8230, .bool false, .string ⟨#[109, 100, 97, 115, 104]⟩, .int .i32 8212, .bool false, .string ⟨#[110, 100, 97, 115, 104]⟩, .int .i32 8211, .bool false, .string ⟨#[108, 115, 113, 117, 111]⟩, .int .i32 8216, .bool false, .string ⟨#[114, 115, 113, 117, 111]⟩, .int .i32 8217, .bool false, .string ⟨#[108, 100, 113, 117, 111]⟩, .int .i32 8220, .bool false, .string ⟨#[114, 100, 113, 117, 111]⟩, .int .i32 8221, .bool false, .string ⟨#[98, 117, 108, 108]⟩, .int .i32 8226, .bool false, .string ⟨#[101, 117, 114, 111]⟩, .int .i32 8364, .bool false, .string ⟨#[97, 108, 112, 104, 97]⟩, .int .i32 945, .bool false, .string ⟨#[98, 101, 116, 97]⟩, .int .i32 946, .bool false, .string ⟨#[112, 105]⟩, .int .i32 960, .bool false, .string ⟨#[105, 110, 102, 105, 110]⟩, .int .i32 8734, .bool false, .string ⟨#[110, 111, 116, 105, 110]⟩, .int .i32 8713, .bool false, .string ⟨#[110, 111, 116, 110, 105]⟩, .int .i32 8716, .bool false, .string ⟨#[110, 101]⟩, .int .i32 8800, .bool false, .string ⟨#[108, 101]⟩, .int .i32 8804, .bool false, .string ⟨#[103, 101]⟩, .int .i32 8805, .bool false]
theorem ents_small : ∀ p ∈ ents, p.1.size ≤ 6 ∧ 34 ≤ p.2.1 ∧ p.2.1 ≤ 9000 := by decide
theorem ent_small (k : Nat) (hk : k < 52) : (entN k).size ≤ 6 ∧ 34 ≤ entS k ∧ entS k ≤ 9000 := by
  have h : k < ents.length := hk
  have e : ents.getD k (ByteArray.empty, 0, false) = ents[k] := by simp [List.getD, h]
  unfold entN entS
  rw [e]; exact ents_small _ (List.getElem_mem h)
theorem flat3 {α : Type} (f g h : α → Value) : ∀ (l : List α) (k : Nat) (a : α), l[k]? = some a →
    (l.flatMap fun a => [f a, g a, h a])[3 * k]? = some (f a) ∧ (l.flatMap fun a => [f a, g a, h a])[3 * k + 1]? = some (g a) ∧ (l.flatMap fun a => [f a, g a, h a])[3 * k + 2]? = some (h a)
  | [], k, a, e => by simp at e
  | b :: r, 0, a, e => by
    simp at e; subst e; simp [List.flatMap_cons]
  | b :: r, k + 1, a, e => by
    have ih := flat3 f g h r k a (by simpa using e)
    rw [List.flatMap_cons]
    refine ⟨?_, ?_, ?_⟩
    · rw [show 3 * (k + 1) = 3 * k + 3 by omega]; exact ih.1
    · rw [show 3 * (k + 1) + 1 = 3 * k + 1 + 3 by omega]; exact ih.2.1
    · rw [show 3 * (k + 1) + 2 = 3 * k + 2 + 3 by omega]; exact ih.2.2
theorem entCells_flat : entCells = (ents.flatMap fun p => [Value.string p.1, Value.int .i32 p.2.1, Value.bool p.2.2]).toArray := by kernel_rfl
theorem entCells_at (k : Fin 52) : entCells[3 * k.val]? = some (.string (entN k.val)) ∧ entCells[3 * k.val + 1]? = some (.int .i32 (entS k.val)) ∧ entCells[3 * k.val + 2]? = some (.bool (entB k.val)) := by
  rw [entCells_flat]
  have hl : k.val < ents.length := k.isLt
  have h := flat3 (fun p => Value.string p.1) (fun p => Value.int .i32 p.2.1) (fun p => Value.bool p.2.2) ents k.val _ (List.getElem?_eq_getElem hl)
  have e : ents.getD k.val (ByteArray.empty, 0, false) = ents[k.val] := by simp [List.getD, hl]
  unfold entN entS entB
  rw [e]
  simpa using h
/-- The table's cells lie in a world. -/
structure Table (w : World) (b : Nat) : Prop where
  name : ∀ k, k < 52 → w.cell? ⟨b, 3 * k, none⟩ = some (.string (entN k))
  sign : ∀ k, k < 52 → w.cell? ⟨b, 3 * k + 1, none⟩ = some (.int .i32 (entS k))
  both : ∀ k, k < 52 → w.cell? ⟨b, 3 * k + 2, none⟩ = some (.bool (entB k))
theorem table_new (w : World) : Table (w.alloc (.cells entCells 34)) w.heap.size :=
  ⟨fun k hk => (cell_new ..).trans (entCells_at ⟨k, hk⟩).1, fun k hk => (cell_new ..).trans (entCells_at ⟨k, hk⟩).2.1, fun k hk => (cell_new ..).trans (entCells_at ⟨k, hk⟩).2.2⟩
theorem Table.below {w w' : World} {b B : Nat} (h : Table w b) (hb : Below B w w') (hB : b < B) : Table w' b :=
  ⟨fun k hk => (hb.cell (p := ⟨b, _, none⟩) hB).trans (h.name k hk), fun k hk => (hb.cell (p := ⟨b, _, none⟩) hB).trans (h.sign k hk), fun k hk => (hb.cell (p := ⟨b, _, none⟩) hB).trans (h.both k hk)⟩
attribute [irreducible] entN entS entB entCells
theorem all_steps (cs : List Frame) (w : World) : runN Try.prog (nRet Try.prog 19 #[] w) (lone (Frame.enter Try.prog 19 #[] .normal) cs w) = .next (lone (frRet Try.prog 19 #[] w) cs (w.alloc (.cells entCells 34))) := by kernel_rfl
theorem all_fn (w : World) : (frRet Try.prog 19 #[] w).fn = 19 := by kernel_rfl
theorem all_mode (w : World) : (frRet Try.prog 19 #[] w).mode = .returning := by kernel_rfl
theorem all_defers (w : World) : (frRet Try.prog 19 #[] w).defers = [] := by kernel_rfl
theorem all_kind (w : World) : (frRet Try.prog 19 #[] w).kind = .normal := by kernel_rfl
theorem all_results (w : World) : (results Try.f19 (frRet Try.prog 19 #[] w).tmps).run Try.prog (w.alloc (.cells entCells 34)) = .ok (.slice (some ⟨w.heap.size, 0, none⟩) 52 52) (w.alloc (.cells entCells 34)) := by kernel_rfl
theorem all_calls (w : World) :
    Calls Try.prog 19 #[] w fun e w' => e = .returned (.slice (some ⟨w.heap.size, 0, none⟩) 52 52) ∧ w' = w.alloc (.cells entCells 34) :=
  calls_run (fn := Try.f19) Try.func19 (fun cs => all_steps cs w) (all_fn w) (all_mode w) (all_defers w) (all_kind w) (all_results w)
end Go.Proofs.Ytfjlpekoklmedaa.Ct
