/- Small letters; runes.Lower (by gen_tk.py, out of the runes templates). -/
import Derived.Lib.MapLaws
import Derived.Laws.Runes
import Derived.Lib.RuneBytes
import Derived.Test.YtioaigedcoapcaaGreatDoorProg
import Derived.WalkKit
import Derived.BigCall
import Derived.Lib.Hide
import Derived.Lib.ConvBytes
import Derived.Below
import Derived.BigQuiet
import Derived.Deep.QuietTactic
import Derived.RegionTactic
import Derived.Deep.Draws
namespace Go.Proofs.YtioaigedcoapcaaGreatDoor.Ru
open Go Go.RowKit Go.Lib
/-! ### Small letters -/
def lowB (c : UInt8) : UInt8 := if 65 ≤ c ∧ c ≤ 90 then c + 32 else c
def lower (l : List UInt8) : List UInt8 := l.map lowB
theorem lowB_nat (c : UInt8) : (lowB c).toNat = if 65 ≤ c.toNat ∧ c.toNat ≤ 90 then c.toNat + 32 else c.toNat := by
  unfold lowB
  simp only [UInt8.le_iff_toNat_le]
  have := c.toNat_lt
  split
  · rename_i h; simp at h; rw [if_pos h]; simp; omega
  · rename_i h; simp at h; rw [if_neg (by omega)]
theorem lowB_lowB (c : UInt8) : lowB (lowB c) = lowB c := by
  rw [← UInt8.toNat_inj, lowB_nat, lowB_nat]
  repeat' split
  all_goals omega
theorem lower_lower (l : List UInt8) : lower (lower l) = lower l := by simp [lower, lowB_lowB]
theorem lower_length (l : List UInt8) : (lower l).length = l.length := by simp [lower]
theorem lower_append (a b : List UInt8) : lower (a ++ b) = lower a ++ lower b := by simp [lower]
theorem lower_drop (k : Nat) (l : List UInt8) : lower (l.drop k) = (lower l).drop k := by simp [lower, List.map_drop]
theorem lower_getD (l : List UInt8) (i : Nat) : ((lower l).getD i 0).toNat = if 65 ≤ (l.getD i 0).toNat ∧ (l.getD i 0).toNat ≤ 90 then (l.getD i 0).toNat + 32 else (l.getD i 0).toNat := by
  have : (lower l).getD i 0 = lowB (l.getD i 0) := by
    simp only [lower, List.getD, List.getElem?_map]
    cases l[i]? <;> rfl
  rw [this, lowB_nat]
set_option linter.unusedVariables false

/-- The byte that stands at a place when i of them are done. -/
def mid (s : ByteArray) (i j : Nat) : UInt8 := if j < i then lowB (s.data.toList.getD j 0) else s.data.toList.getD j 0
structure LowRel (s : ByteArray) (B i : Nat) (w wr : World) : Prop where
  bel : Below B w wr
  size : B < wr.heap.size
  cell : ∀ j, j < s.size → wr.cell? ⟨B, j, none⟩ = some (.int .u8 ((mid s i j).toNat : Int))
  free : ∀ j, j < s.size → wr.frozen? ⟨B, j, none⟩ = false
theorem lowRel_zero (s : ByteArray) (w : World) (e : TypeId) : LowRel s w.heap.size 0 w (bytesWorld w e s) := by
  have hz := bytesWorld_at_new w e s
  refine ⟨⟨?_, ?_, ?_, ?_, fun k hk => bytesWorld_at_old w e s k hk⟩, by rw [bytesWorld_size]; omega, fun j hj => ?_, fun j hj => ?_⟩
  · simp [bytesWorld, World.freeze, World.alloc, World.drew, -World.alloc_eq, -World.drew_eq]
  · simp [bytesWorld, World.freeze, World.alloc, World.drew, -World.alloc_eq, -World.drew_eq]
  · simp [bytesWorld, World.freeze, World.alloc, World.drew, -World.alloc_eq, -World.drew_eq]
  · rw [bytesWorld_size]; omega
  · rw [bytesWorld_cell w e s j hj]; rfl
  · show (match (bytesWorld w e s).heap[w.heap.size]? with | some (.cells _ _ (lo, hi)) => decide (lo ≤ j) && decide (j < hi) | _ => false) = false
    rw [hz]
    have : ¬ (bytesCells w e s).size ≤ j := by
      have : s.size ≤ (bytesCells w e s).size := by simp [bytesCells]
      omega
    simp [this]
theorem LowRel.step {s : ByteArray} {B i : Nat} {w wr : World} (h : LowRel s B i w wr) (hi : i < s.size) : LowRel s B (i + 1) w (wr.setCell ⟨B, i, none⟩ (.int .u8 ((lowB (s.data.toList.getD i 0)).toNat : Int))) := by
  refine ⟨h.bel.setCell (Nat.le_refl _) _, by simpa using h.size, fun j hj => ?_, fun j hj => ?_⟩
  · by_cases hji : j = i
    · subst hji
      rw [World.cell?_setCell_same _ _ _ (h.cell j hj)]
      unfold mid; rw [if_pos (by omega)]
    · rw [World.cell?_setCell_other _ _ _ _ (show (⟨B, i, none⟩ : Addr) ≠ ⟨B, j, none⟩ by intro h; injection h with _ h2; exact hji h2.symm), h.cell j hj]
      unfold mid
      by_cases hlt : j < i
      · rw [if_pos hlt, if_pos (by omega)]
      · rw [if_neg hlt, if_neg (by omega)]
  · rw [World.frozen?_setCell]; exact h.free j hj
theorem LowRel.keep {s : ByteArray} {B i : Nat} {w wr : World} (h : LowRel s B i w wr) (he : lowB (s.data.toList.getD i 0) = s.data.toList.getD i 0) : LowRel s B (i + 1) w wr := by
  refine ⟨h.bel, h.size, fun j hj => ?_, h.free⟩
  rw [h.cell j hj]
  unfold mid
  by_cases hji : j = i
  · subst hji; rw [if_neg (by omega), if_pos (by omega), he]
  · by_cases hlt : j < i
    · rw [if_pos hlt, if_pos (by omega)]
    · rw [if_neg hlt, if_neg (by omega)]
theorem LowRel.drew {s : ByteArray} {B i : Nat} {w wr : World} (h : LowRel s B i w wr) (n : Nat) : LowRel s B i w (wr.drewN n) :=
  ⟨⟨h.bel.os, h.bel.tape, h.bel.output, h.bel.size, h.bel.block⟩, h.size, h.cell, h.free⟩
theorem lowB_low (x : UInt8) (h0 : 65 ≤ (x.toNat : Int)) (h1 : (x.toNat : Int) ≤ 90) : ((lowB x).toNat : Int) = (x.toNat : Int) + 32 := by
  rw [lowB_nat, if_pos (by omega)]; rfl
theorem lowB_not (x : UInt8) (h : ¬ (65 ≤ (x.toNat : Int) ∧ (x.toNat : Int) ≤ 90)) : lowB x = x := by
  rw [← UInt8.toNat_inj, lowB_nat, if_neg (by omega)]
theorem LowRel.string {s : ByteArray} {B : Nat} {w wr : World} (h : LowRel s B s.size w wr) (cap : Nat) :
    (convert 65 9 (.slice (some ⟨B, 0, none⟩) s.size cap)).run Tryz.prog wr = .ok (.string ⟨(lower s.data.toList).toArray⟩) wr := by
  have hl : (lower s.data.toList).length = s.size := by rw [lower_length, ← Lib.size_eq]
  rw [← hl]
  refine run_convert_bytes_back wr _ _ 5 _ _ _ Tryz.underlying65 Tryz.underlying5 Tryz.underlying9 fun j hj => ?_
  have e := h.cell j (by omega)
  rw [show (⟨B, 0, none⟩ : Addr).add j = ⟨B, j, none⟩ by unfold Addr.add; split <;> simp_all, e]
  unfold mid
  rw [if_pos (by omega)]
  have hj' : j < s.data.toList.length := by rw [← Lib.size_eq]; omega
  simp only [lower, List.getElem_map, List.getD, List.getElem?_eq_getElem hj', Option.getD_some]

set_option maxHeartbeats 4000000 in
set_option maxRecDepth 100000 in
theorem lower_calls (s : ByteArray) (w : World) (hs : s.size ≤ maxLen) :
    Calls Tryz.prog 246 #[.string s] w fun e w' => e = .returned (.string ⟨(lower s.data.toList).toArray⟩) ∧ Below w.heap.size w w' := by
  unfold maxLen at hs
  have hcv := Lib.run_convert_string_bytes (P := Tryz.prog) w 9 65 5 s Tryz.underlying9 Tryz.underlying65 Tryz.underlying5
  have H0 := lowRel_zero s w 5
  generalize bytesWorld w 5 s = w1 at hcv H0
  generalize grownCap w s.size 0 5 = cap at hcv
  go_enter Tryz.func246, Tryz.ntmps246
  go_wp2
  go_loopw [10] (fun i wr => ∃ k : Nat, k ≤ s.size ∧ i = .int .i64 k ∧ LowRel s w.heap.size k w wr) (fun i _ => s.size - (intOf i).toNat)
  case atStart => exact ⟨0, by omega, rfl, H0⟩
  case round =>
    obtain ⟨k, hk, rfl, hR⟩ := hrel
    by_cases hlt : k < s.size
    · have hc := hR.cell k hlt
      have hf := hR.free k hlt
      have hN : Hid _ := Lib.hid (lowB_not (s.data.toList.getD k 0))
      have hL : Hid _ := Lib.hid (lowB_low (s.data.toList.getD k 0))
      have HS : Hid _ := Lib.hid (hR.step hlt)
      have HK : Hid _ := Lib.hid (hR.keep (i := k))
      rw [show mid s k k = s.data.toList.getD k 0 by unfold mid; rw [if_neg (by omega)]] at hc
      generalize hx : s.data.toList.getD k 0 = x at hc hN hL HS HK
      have hx1 := x.toNat_lt
      have hlt' : (k : Int) < (s.size : Int) := by omega
      clear hx
      by_cases c0 : (65 : Int) ≤ (x.toNat : Int)
      · by_cases c1 : (x.toNat : Int) ≤ 90
        · go_wp2_with fail
          go_roundw
          case rel => exact ⟨k + 1, by omega, by go_num, by rw [show (x.toNat : Int) - 65 + 97 = ((lowB x).toNat : Int) by rw [hL.out c0 c1]; omega]; exact HS.out⟩
          case measure => simp [intOf]; omega
        · have hd : decide ((x.toNat : Int) ≤ 90) = false := by simpa using c1
          go_wp2_with fail
          go_roundw
          case rel => exact ⟨k + 1, by omega, by go_num, HK.out (hN.out (by omega))⟩
          case measure => simp [intOf]; omega
      · have hd : decide ((65 : Int) ≤ (x.toNat : Int)) = false := by simpa using c0
        go_wp2_with fail
        go_roundw
        case rel => exact ⟨k + 1, by omega, by go_num, HK.out (hN.out (by omega))⟩
        case measure => simp [intOf]; omega
    · obtain rfl : k = s.size := by omega
      have hb := hR.string cap
      go_wp2_with fail
      go_ret
      exact ⟨rfl, hR.bel⟩
end Go.Proofs.YtioaigedcoapcaaGreatDoor.Ru
