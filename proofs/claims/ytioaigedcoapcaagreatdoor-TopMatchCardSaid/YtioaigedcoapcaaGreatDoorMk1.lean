/- strings' makeGenericReplacer: the bytes that occur are marked. -/
import Derived.Test.YtioaigedcoapcaaGreatDoorRoot
import Derived.Deep.MidRow
namespace Go.Proofs.YtioaigedcoapcaaGreatDoor.Gr
open Go Go.RowKit Go.Proofs.YtioaigedcoapcaaGreatDoor.Tr
set_option linter.unusedVariables false
set_option maxRecDepth 100000

/-- The marks. -/
def mk1 (M : List Int) (bs : List UInt8) : List Int := bs.foldl (fun m b => m.set b.toNat 1) M
theorem mk1_len (M : List Int) (bs : List UInt8) : (mk1 M bs).length = M.length := by
  unfold mk1
  induction bs generalizing M with
  | nil => rfl
  | cons b r ih => rw [List.foldl_cons, ih, List.length_set]
theorem mk1_snoc (M : List Int) (bs : List UInt8) (b : UInt8) : mk1 M (bs ++ [b]) = (mk1 M bs).set b.toNat 1 := by simp [mk1, List.foldl_append]
theorem mk1_append (M : List Int) (l bs : List UInt8) : mk1 M (l ++ bs) = mk1 (mk1 M l) bs := by simp [mk1, List.foldl_append]
abbrev Prs := List (ByteArray × ByteArray)
def keysOf (K : Prs) : List UInt8 := K.flatMap fun p => p.1.data.toList
theorem take_snoc (s : ByteArray) (k : Nat) (h : k < s.size) : s.data.toList.take (k + 1) = s.data.toList.take k ++ [s[k]] := by
  rw [List.take_succ_eq_append_getElem (by simpa using h)]; rfl
/-- Pairs of texts in a row. -/
structure Olds (w : World) (sb : Nat) (K : Prs) : Prop where
  key : ∀ k p, K[k]? = some p → w.cell? ⟨sb, 2 * k, none⟩ = some (.string p.1)
  val : ∀ k p, K[k]? = some p → w.cell? ⟨sb, 2 * k + 1, none⟩ = some (.string p.2)
  lt : sb < w.heap.size
theorem Olds.below {w w' : World} {B sb : Nat} {K : Prs} (h : Olds w sb K) (hb : Below B w w') (hs : sb < B) : Olds w' sb K :=
  ⟨fun k p hp => (hb.cell (p := ⟨sb, 2 * k, none⟩) hs).trans (h.key k p hp), fun k p hp => (hb.cell (p := ⟨sb, 2 * k + 1, none⟩) hs).trans (h.val k p hp), Nat.lt_of_lt_of_le h.lt hb.size⟩
def zeros256 : List Int := List.replicate 256 0
theorem gen_new (w : World) : Gen (w.alloc (.cells Tryz.zeroCells453 453)) w.heap.size (.slice none 0 0) 0 zeros256 :=
  ⟨by
    rw [alloc_new]
    have e : Tryz.zeroCells453 = gcells (.slice none 0 0) 0 zeros256 := by kernel_rfl
    rw [e], by decide⟩
theorem Gen.mark {w : World} {g : Nat} {tb : Value} {ts : Int} {M : List Int} (h : Gen w g tb ts M) (c : Nat) (m : Int) : Gen (w.setCell ⟨g, 6 + c, none⟩ (.int .u8 m)) g tb ts (M.set c m) := by
  refine ⟨?_, by rw [List.length_set]; exact h.len⟩
  rw [heap_setCell_same w g (6 + c) _ _ _ h.blk]
  congr 2
  unfold gcells
  rw [Array.setIfInBounds_append_right (by simp)]
  congr 1
  simp [List.map_set]
theorem Gen.sum {w : World} {g : Nat} {tb : Value} {ts : Int} {M : List Int} (h : Gen w g tb ts M) (ts' : Int) : Gen (w.setCell ⟨g, 5, none⟩ (.int .i64 ts')) g tb ts' M := by
  refine ⟨?_, h.len⟩
  rw [heap_setCell_same w g 5 _ _ _ h.blk]
  unfold gcells
  rw [Array.setIfInBounds_append_left (by simp)]
  rfl
theorem Gen.table {w : World} {g : Nat} {tb : Value} {ts : Int} {M : List Int} (h : Gen w g tb ts M) (tb' : Value) : Gen (w.setCell ⟨g, 4, none⟩ tb') g tb' ts M := by
  refine ⟨?_, h.len⟩
  rw [heap_setCell_same w g 4 _ _ _ h.blk]
  unfold gcells
  rw [Array.setIfInBounds_append_left (by simp)]
  rfl
/-- The sum of the first marks. -/
def sumT (M : List Int) (k : Nat) : Int := (M.take k).sum
theorem sumT_zero (M : List Int) : sumT M 0 = 0 := by simp [sumT]
theorem sumT_succ (M : List Int) (k : Nat) {m : Int} (h : M[k]? = some m) : sumT M (k + 1) = sumT M k + m := by
  obtain ⟨hk, rfl⟩ := List.getElem?_eq_some_iff.1 h
  unfold sumT
  rw [List.take_succ_eq_append_getElem hk, List.sum_append]; simp
def Bits (M : List Int) : Prop := ∀ (c : Nat) (m : Int), M[c]? = some m → m = 0 ∨ m = 1
theorem Bits.mk1 {M : List Int} (h : Bits M) (bs : List UInt8) : Bits (mk1 M bs) := by
  induction bs generalizing M with
  | nil => exact h
  | cons b r ih =>
    refine ih (M := M.set b.toNat 1) fun c m hm => ?_
    rw [List.getElem?_set] at hm
    split at hm
    · split at hm
      · injection hm with hm; exact .inr hm.symm
      · cases hm
    · exact h c m hm
theorem bits_zeros : Bits zeros256 := fun c m hm => .inl (by
  unfold zeros256 at hm
  rw [List.getElem?_replicate] at hm
  split at hm
  · injection hm with hm; exact hm.symm
  · cases hm)
theorem sumT_bd {M : List Int} (h : Bits M) (k : Nat) : 0 ≤ sumT M k ∧ sumT M k ≤ k := by
  induction k with
  | zero => rw [sumT_zero]; omega
  | succ k ih =>
    cases hm : M[k]? with
    | some m =>
      have := h k m hm
      rw [sumT_succ M k hm]; omega
    | none =>
      have : sumT M (k + 1) = sumT M k := by
        unfold sumT
        rw [List.getElem?_eq_none_iff] at hm
        rw [List.take_of_length_le (by omega), List.take_of_length_le hm]
      omega
theorem sumT_mono {M : List Int} (h : Bits M) {a b : Nat} (hab : a ≤ b) : sumT M a ≤ sumT M b := by
  induction hab with
  | refl => exact Int.le_refl _
  | @step k _ ih =>
    cases hm : M[k]? with
    | some m =>
      have := h k m hm
      rw [Nat.succ_eq_add_one, sumT_succ M k hm]; omega
    | none =>
      have : sumT M (k + 1) = sumT M k := by
        unfold sumT
        rw [List.getElem?_eq_none_iff] at hm
        rw [List.take_of_length_le (by omega), List.take_of_length_le hm]
      rw [Nat.succ_eq_add_one]; omega
/-- The mapping: a byte's place in the table; n, if it has none. -/
def finOf (M : List Int) (n : Nat) (c : Nat) : Int := if M.getD c 0 = 0 then n else sumT M c
def mixL (M : List Int) (n k : Nat) : List Int := (List.range 256).map fun c => if c < k then finOf M n c else M.getD c 0
theorem mixL_zero {M : List Int} (n : Nat) (h : M.length = 256) : mixL M n 0 = M := by
  refine List.ext_getElem (by simp [mixL, h]) fun i h1 h2 => ?_
  simp [mixL, List.getD, List.getElem?_eq_getElem h2]
theorem mixL_len (M : List Int) (n k : Nat) : (mixL M n k).length = 256 := by simp [mixL]
theorem mixL_succ (M : List Int) (n k : Nat) : (mixL M n k).set k (finOf M n k) = mixL M n (k + 1) := by
  refine List.ext_getElem (by simp [mixL]) fun i h1 h2 => ?_
  rw [List.getElem_set]
  simp only [mixL, List.getElem_map, List.getElem_range]
  split
  · rename_i e; subst e; rw [if_pos (by omega)]
  · rename_i e
    by_cases hi : i < k
    · rw [if_pos hi, if_pos (by omega)]
    · rw [if_neg hi, if_neg (by omega)]
/-- The whole array, read. -/
def rowv (M : List Int) : Value := .agg (M.map (Value.int .u8)).toArray
theorem rowv_eq (M : List Int) : rowv M = .agg (M.map (Value.int .u8)).toArray := rfl
theorem Gen.range {w : World} {g : Nat} {tb : Value} {ts : Int} {M : List Int} (h : Gen w g tb ts M) : w.rangeAt g 6 (M.map (Value.int .u8)) := by
  intro j v hv
  rw [List.getElem?_map] at hv
  obtain ⟨m, hm, rfl⟩ := Option.map_eq_some_iff.1 hv
  exact h.at j hm
theorem run_idx {M : List Int} (hl : M.length = 256) {k : Nat} (hk : k < 256) {m : Int} (hm : M[k]? = some m) (w : World) :
    (Instr.index 341 (rowv M) (.int .i64 k)).run Tryz.prog w = .ok (.int .u8 m) w := by
  have hp : (part 5 (M.map (Value.int .u8)).toArray k).run Tryz.prog w = .ok (.int .u8 m) w :=
    run_part_plain w (by kernel_rfl) (by simp [hm])
  obtain ⟨i, hi, _, hz, _⟩ := info_parts (show (Tryz.prog.info? 5).map (fun i => (i.zero, i.size, i.bytes)) = some (some (.int .u8 0), 1, 1) by kernel_rfl)
  have hs : (sizeOf 5).run Tryz.prog w = .ok 1 w := by
    rw [run_sizeOf w hi]
    simp [Program.cellsOf, hi, hz]
  unfold Instr.index rowv
  simp only [Sem.run_bind, asIntOf, Sem.run_pure, Result.andThen_ok, run_underlying Tryz.underlying341]
  rw [if_pos (by omega)]
  simp only [Sem.run_bind, hs, Result.andThen_ok, Int.toNat_natCast, Nat.mul_one, hp]
def tcells (n : Nat) : List Value := List.replicate n (.pointer none)
theorem run_mk (n : Nat) (hn : n ≤ 1000) (w : World) :
    (Instr.makeSlice 449 (.int .i64 n) (.int .i64 n)).run Tryz.prog w = .ok (.slice (some ⟨w.heap.size, 0, none⟩) n n) (w.alloc (.cells (tcells n).toArray 448)) := by
  obtain ⟨i, hi, hz0, hz, hb⟩ := info_parts (show (Tryz.prog.info? 448).map (fun i => (i.zero, i.size, i.bytes)) = some (some (.pointer none), 1, 8) by kernel_rfl)
  rw [run_make (w := w) 449 448 i (.pointer none) Tryz.underlying449 hi hz0 .i64 .i64 n n (by omega) (by omega) (by rw [hb]; omega) (by omega)]
  rw [hz]
  have e : madeCells (Value.pointer none).cells (n * 1) = (tcells n).toArray := by
    refine Array.ext (by simp [madeCells, tcells]) fun j h1 h2 => ?_
    simp [madeCells, tcells, Value.cells, Nat.mod_one]
  simp only [Int.toNat_natCast, e]
attribute [irreducible] rowv tcells sumT finOf mixL
end Go.Proofs.YtioaigedcoapcaaGreatDoor.Gr
