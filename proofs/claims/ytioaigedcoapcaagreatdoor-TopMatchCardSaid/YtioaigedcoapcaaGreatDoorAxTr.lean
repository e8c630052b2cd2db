/- strings' byteReplacer: bytes turned by a table. -/
import Derived.Test.YtioaigedcoapcaaGreatDoorAxTa
import Derived.Test.YtioaigedcoapcaaGreatDoorDo
import Derived.Test.YtioaigedcoapcaaGreatDoorMk1
import Derived.Lib.MapLaws
import Derived.Laws.Runes
import Derived.Lib.RuneBytes
import Derived.BigCall
import Derived.Lib.ConvBytes
import Derived.Deep.QuietTactic
import Derived.RegionTactic
import Derived.Deep.Draws
import Derived.Deep.CutRange
namespace Go.Proofs.YtioaigedcoapcaaGreatDoor.Br
open Go Go.RowKit Go.Lib Go.Proofs.YtioaigedcoapcaaGreatDoor.Tr
set_option linter.unusedVariables false
set_option maxRecDepth 100000

/-- The byte that stands at a place when i of them are done. -/
def mid (f : UInt8 → UInt8) (s : ByteArray) (i j : Nat) : UInt8 := if j < i then f (s.data.toList.getD j 0) else s.data.toList.getD j 0
structure MapRel (f : UInt8 → UInt8) (s : ByteArray) (B i : Nat) (w wr : World) : Prop where
  bel : Below B w wr
  size : B < wr.heap.size
  cell : ∀ j, j < s.size → wr.cell? ⟨B, j, none⟩ = some (.int .u8 ((mid f s i j).toNat : Int))
  free : ∀ j, j < s.size → wr.frozen? ⟨B, j, none⟩ = false
theorem mapRel_zero (f : UInt8 → UInt8) (s : ByteArray) (w : World) (e : TypeId) : MapRel f s w.heap.size 0 w (bytesWorld w e s) := by
  have hz := bytesWorld_at_new w e s
  refine ⟨⟨?_, ?_, ?_, ?_, fun k hk => bytesWorld_at_old w e s k hk⟩, by rw [bytesWorld_size]; omega, fun j hj => ?_, fun j hj => ?_⟩
  · simp [bytesWorld, World.freeze, World.alloc, World.drew, -World.alloc_eq, -World.drew_eq]
  · simp [bytesWorld, World.freeze, World.alloc, World.drew, -World.alloc_eq, -World.drew_eq]
  · simp [bytesWorld, World.freeze, World.alloc, World.drew, -World.alloc_eq, -World.drew_eq]
  · rw [bytesWorld_size]; omega
  · rw [bytesWorld_cell w e s j hj]; rfl
  · show (match (bytesWorld w e s).heap[w.heap.size]? with | some (.cells _ _ (lo, hi)) => decide (lo ≤ j) && decide (j < hi) | _ => false) = false
    rw [hz]
    have : ¬ (bytesCells w e s).size ≤ j := by
      have : s.size ≤ (bytesCells w e s).size := by simp [bytesCells]
      omega
    simp [this]
theorem MapRel.step {f : UInt8 → UInt8} {s : ByteArray} {B i : Nat} {w wr : World} (h : MapRel f s B i w wr) (hi : i < s.size) : MapRel f s B (i + 1) w (wr.setCell ⟨B, i, none⟩ (.int .u8 ((f (s.data.toList.getD i 0)).toNat : Int))) := by
  refine ⟨h.bel.setCell (Nat.le_refl _) _, by simpa using h.size, fun j hj => ?_, fun j hj => ?_⟩
  · by_cases hji : j = i
    · subst hji
      rw [World.cell?_setCell_same _ _ _ (h.cell j hj)]
      unfold mid; rw [if_pos (by omega)]
    · rw [World.cell?_setCell_other _ _ _ _ (show (⟨B, i, none⟩ : Addr) ≠ ⟨B, j, none⟩ by intro h; injection h with _ h2; exact hji h2.symm), h.cell j hj]
      unfold mid
      by_cases hlt : j < i
      · rw [if_pos hlt, if_pos (by omega)]
      · rw [if_neg hlt, if_neg (by omega)]
  · rw [World.frozen?_setCell]; exact h.free j hj
theorem MapRel.keep {f : UInt8 → UInt8} {s : ByteArray} {B i : Nat} {w wr : World} (h : MapRel f s B i w wr) (he : f (s.data.toList.getD i 0) = s.data.toList.getD i 0) : MapRel f s B (i + 1) w wr := by
  refine ⟨h.bel, h.size, fun j hj => ?_, h.free⟩
  rw [h.cell j hj]
  unfold mid
  by_cases hji : j = i
  · subst hji; rw [if_neg (by omega), if_pos (by omega), he]
  · by_cases hlt : j < i
    · rw [if_pos hlt, if_pos (by omega)]
    · rw [if_neg hlt, if_neg (by omega)]
theorem MapRel.drew {f : UInt8 → UInt8} {s : ByteArray} {B i : Nat} {w wr : World} (h : MapRel f s B i w wr) (n : Nat) : MapRel f s B i w (wr.drewN n) :=
  ⟨⟨h.bel.os, h.bel.tape, h.bel.output, h.bel.size, h.bel.block⟩, h.size, h.cell, h.free⟩
theorem MapRel.string {f : UInt8 → UInt8} {s : ByteArray} {B : Nat} {w wr : World} (h : MapRel f s B s.size w wr) (cap : Nat) :
    (convert 65 9 (.slice (some ⟨B, 0, none⟩) s.size cap)).run Tryz.prog wr = .ok (.string ⟨(s.data.toList.map f).toArray⟩) wr := by
  have hl : (s.data.toList.map f).length = s.size := by rw [List.length_map, ← Lib.size_eq]
  rw [← hl]
  refine run_convert_bytes_back wr _ _ 5 _ _ _ Tryz.underlying65 Tryz.underlying5 Tryz.underlying9 fun j hj => ?_
  have e := h.cell j (by omega)
  rw [show (⟨B, 0, none⟩ : Addr).add j = ⟨B, j, none⟩ by unfold Addr.add; split <;> simp_all, e]
  unfold mid
  rw [if_pos (by omega)]
  have hj' : j < s.data.toList.length := by rw [← Lib.size_eq]; omega
  simp only [List.getElem_map, List.getD, List.getElem?_eq_getElem hj', Option.getD_some]

set_option maxHeartbeats 4000000 in
/-- What is held when i bytes are done: nothing, as long as none has turned. -/
def BRel (f : UInt8 → UInt8) (s : ByteArray) (i : Nat) (w wr : World) (v : Value) : Prop :=
  (v = .slice none 0 0 ∧ wr = w ∧ ∀ j, j < i → f (s.data.toList.getD j 0) = s.data.toList.getD j 0) ∨ (∃ cap, v = .slice (some ⟨w.heap.size, 0, none⟩) s.size cap ∧ MapRel f s w.heap.size i w wr)
theorem map_same (f : UInt8 → UInt8) (s : ByteArray) (h : ∀ j, j < s.size → f (s.data.toList.getD j 0) = s.data.toList.getD j 0) : (⟨(s.data.toList.map f).toArray⟩ : ByteArray) = s := by
  have : s.data.toList.map f = s.data.toList := by
    refine List.ext_getElem (by simp) fun i h1 h2 => ?_
    have := h i (by rw [Lib.size_eq]; exact h2)
    rw [List.getElem_map]
    rw [List.getD, List.getElem?_eq_getElem h2] at this
    exact this
  rw [this]
def ByTable (f : UInt8 → UInt8) (tb : Nat) (w : World) : Prop := tb < w.heap.size ∧ ∀ x : UInt8, w.cell? ⟨tb, x.toNat, none⟩ = some (.int .u8 ((f x).toNat : Int))
theorem MapRel.keeps {f : UInt8 → UInt8} {s : ByteArray} {B : Nat} {w wr : World} (h : MapRel f s B 0 w wr) : ∀ k, (∀ j, j < k → f (s.data.toList.getD j 0) = s.data.toList.getD j 0) → MapRel f s B k w wr
  | 0, _ => h
  | k + 1, hk => (MapRel.keeps h k fun j hj => hk j (by omega)).keep (hk k (by omega))
theorem ByTable.below {f : UInt8 → UInt8} {tb : Nat} {w w' : World} (h : ByTable f tb w) {B : Nat} (hB : w.heap.size ≤ B) (hb : Below B w w') : ByTable f tb w' :=
  ⟨Nat.lt_of_lt_of_le h.1 hb.size, fun x => (World.cell?_of_block (hb.block tb (Nat.lt_of_lt_of_le h.1 hB))).trans (h.2 x)⟩
theorem byte_at {s : ByteArray} {k : Nat} (h : k < s.size) : s.data.toList.getD k 0 = s[k] := by
  have : k < s.data.toList.length := by rw [← Lib.size_eq]; exact h
  rw [List.getD, List.getElem?_eq_getElem this]; rfl
theorem nil_eq (w : World) : (binOp .eql 65 (.slice none 0 0) (.slice none 0 0)).run Tryz.prog w = .ok (.bool true) w := by kernel_rfl
theorem own_eq (b n c : Nat) (w : World) : (binOp .eql 65 (.slice (some ⟨b, 0, none⟩) n c) (.slice none 0 0)).run Tryz.prog w = .ok (.bool false) w := by kernel_rfl
set_option maxHeartbeats 4000000 in
theorem brep_calls (f : UInt8 → UInt8) (tb : Nat) (s : ByteArray) (hs : s.size ≤ 1000000000) (w : World) (hT : ByTable f tb w) :
    Calls Tryz.prog 488 #[.pointer (some ⟨tb, 0, none⟩), .string s] w fun e w' => e = .returned (.string ⟨(s.data.toList.map f).toArray⟩) ∧ Below w.heap.size w w' := by
  have hcv := Lib.run_convert_string_bytes (P := Tryz.prog) w 9 65 5 s Tryz.underlying9 Tryz.underlying65 Tryz.underlying5
  have H0 := mapRel_zero f s w 5
  generalize bytesWorld w 5 s = w1 at hcv H0
  generalize grownCap w s.size 0 5 = cap at hcv
  have HT := Lib.hid hT
  have HS := Lib.hid hs
  have HCV := Lib.hid hcv
  clear hT hs hcv
  have hq1 := nil_eq
  have hq2 := own_eq
  go_enter Tryz.func488, Tryz.ntmps488
  go_wp2
  go_loopw [5, 6] (fun v i wr => ∃ k : Nat, Hid (k ≤ s.size) ∧ i = .int .i64 k ∧ BRel f s k w wr v) (fun v i _ => s.size - (RowKit.intOf i).toNat)
  case atStart => exact ⟨0, Lib.hid (Nat.zero_le _), rfl, .inl ⟨rfl, rfl, fun j hj => by omega⟩⟩
  case round =>
    obtain ⟨k, HK, rfl, hR⟩ := hrel
    by_cases hlt : k < s.size
    · have hz : (k : Int) < (s.size : Int) := by omega
      have HLT := Lib.hid hlt
      have hwk : IntKind.i64.wrap ((k : Int) + 1) = (k : Int) + 1 := IntWalk.i64_in _ (by have := HS.out; omega)
      have hx1 := s[k].toNat_lt
      have hx2 : ((s[k].toNat : Nat) : Int) < 256 := by omega
      have HBY := Lib.hid (byte_at hlt)
      have HW := Lib.hid (show (k : Int) + 1 = ((k + 1 : Nat) : Int) by omega)
      have HK2 : Hid (k + 1 ≤ s.size) := Lib.hid hlt
      rcases hR with ⟨rfl, rfl, hsame⟩ | ⟨cap, rfl, hM⟩
      · have HSM := Lib.hid hsame
        have ct := HT.out.2 s[k]
        clear hsame
        by_cases he : f s[k] = s[k]
        · have hne : (((f s[k]).toNat : Int) != (s[k].toNat : Int)) = false := by rw [he]; simp
          have HNX : Hid (∀ j, j < k + 1 → f (s.data.toList.getD j 0) = s.data.toList.getD j 0) := Lib.hid (fun j hj => by
            rcases Nat.lt_succ_iff_lt_or_eq.1 hj with h | rfl
            · exact HSM.out j h
            · rw [HBY.out]; exact he)
          clear he
          go_upto_region 6 with (fail)
          generalize s[k] = x at *
          go_wp2_with fail
          go_roundw
          case rel => exact ⟨k + 1, HK2, by rw [HW.out], .inl ⟨rfl, rfl, HNX.out⟩⟩
          case measure => simp [RowKit.intOf]; have := HLT.out; omega
        · have hne : (((f s[k]).toNat : Int) != (s[k].toNat : Int)) = true := by
            rw [bne, Bool.not_eq_true', beq_eq_false_iff_ne]; intro h; exact he (UInt8.toNat_inj.1 (by omega))
          have hM := H0.keeps k HSM.out
          have cM := hM.cell k hlt
          have fM := hM.free k hlt
          have ct1 := (HT.out.below (Nat.le_refl _) H0.bel).2 s[k]
          have HST := Lib.hid (HBY.out ▸ hM.step hlt)
          have hcv := HCV.out
          clear he hM H0
          go_upto_region 6 with (fail)
          generalize s[k] = x at *
          go_wp2_with fail
          go_roundw
          case rel => exact ⟨k + 1, HK2, by rw [HW.out], .inr ⟨cap, rfl, HST.out⟩⟩
          case measure => simp [RowKit.intOf]; have := HLT.out; omega
      · clear HCV H0
        have ct := (HT.out.below (Nat.le_refl _) hM.bel).2 s[k]
        have cM := hM.cell k hlt
        have fM := hM.free k hlt
        by_cases he : f s[k] = s[k]
        · have hne : (((f s[k]).toNat : Int) != (s[k].toNat : Int)) = false := by rw [he]; simp
          have HST := Lib.hid (hM.keep (i := k) (by rw [HBY.out]; exact he))
          clear he hM
          go_upto_region 6 with (fail)
          generalize s[k] = x at *
          go_wp2_with fail
          go_roundw
          case rel => exact ⟨k + 1, HK2, by rw [HW.out], .inr ⟨cap, rfl, HST.out⟩⟩
          case measure => simp [RowKit.intOf]; have := HLT.out; omega
        · have hne : (((f s[k]).toNat : Int) != (s[k].toNat : Int)) = true := by
            rw [bne, Bool.not_eq_true', beq_eq_false_iff_ne]; intro h; exact he (UInt8.toNat_inj.1 (by omega))
          have HST := Lib.hid (HBY.out ▸ hM.step hlt)
          clear he hM
          go_upto_region 6 with (fail)
          generalize s[k] = x at *
          go_wp2_with fail
          go_roundw
          case rel => exact ⟨k + 1, HK2, by rw [HW.out], .inr ⟨cap, rfl, HST.out⟩⟩
          case measure => simp [RowKit.intOf]; have := HLT.out; omega
    · obtain rfl : k = s.size := by have := HK.out; omega
      rcases hR with ⟨rfl, rfl, hsame⟩ | ⟨cap, rfl, hM⟩
      · have HV := Lib.hid (map_same f s hsame)
        clear hsame
        go_wp2_with fail
        go_ret
        exact ⟨by rw [HV.out]; rfl, Below.refl _ _⟩
      · have hcs := hM.string cap
        have HB := Lib.hid hM.bel
        clear hM HCV H0
        go_wp2_with fail
        go_ret
        exact ⟨rfl, HB.out⟩
end Go.Proofs.YtioaigedcoapcaaGreatDoor.Br
