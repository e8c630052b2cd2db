/- Small letters; runes.Lower (by gen_tk.py, out of the runes templates). -/
import Derived.Lib.MapLaws
import Derived.Laws.Runes
import Derived.Lib.RuneBytes
import Derived.Test.YtbdgoffbkenofaaGreatProg
import Derived.WalkKit
import Derived.BigCall
import Derived.Lib.Hide
import Derived.Lib.ConvBytes
import Derived.Below
import Derived.BigQuiet
import Derived.Deep.QuietTactic
import Derived.RegionTactic
import Derived.Deep.Draws
namespace Go.Proofs.YtbdgoffbkenofaaGreat.Ru
open Go Go.RowKit Go.Lib
/-! ### Small letters -/
def lowB (c : UInt8) : UInt8 := if 65 ≤ c ∧ c ≤ 90 then c + 32 else c
def lower (l : List UInt8) : List UInt8 := l.map lowB
theorem lowB_nat (c : UInt8) : (lowB c).toNat = if 65 ≤ c.toNat ∧ c.toNat ≤ 90 then c.toNat + 32 else c.toNat := by
  unfold lowB
  simp only [UInt8.le_iff_toNat_le]
  have := c.toNat_lt
  split
  · rename_i h; simp at h; rw [if_pos h]; simp; omega
  · rename_i h; simp at h; rw [if_neg (by omega)]
theorem lowB_lowB (c : UInt8) : lowB (lowB c) = lowB c := by
  rw [← UInt8.toNat_inj, lowB_nat, lowB_nat]
  repeat' split
  all_goals omega
theorem lower_lower (l : List UInt8) : lower (lower l) = lower l := by simp [lower, lowB_lowB]
theorem lower_length (l : List UInt8) : (lower l).length = l.length := by simp [lower]
theorem lower_append (a b : List UInt8) : lower (a ++ b) = lower a ++ lower b := by simp [lower]
theorem lower_drop (k : Nat) (l : List UInt8) : lower (l.drop k) = (lower l).drop k := by simp [lower, List.map_drop]
theorem lower_getD (l : List UInt8) (i : Nat) : ((lower l).getD i 0).toNat = if 65 ≤ (l.getD i 0).toNat ∧ (l.getD i 0).toNat ≤ 90 then (l.getD i 0).toNat + 32 else (l.getD i 0).toNat := by
  have : (lower l).getD i 0 = lowB (l.getD i 0) := by
    simp only [lower, List.getD, List.getElem?_map]
    cases l[i]? <;> rfl
  rw [this, lowB_nat]
set_option linter.unusedVariables false

/-- The byte that stands at a place when i of them are done. -/
def mid (s : ByteArray) (i j : Nat) : UInt8 := if j < i then lowB (s.data.toList.getD j 0) else s.data.toList.getD j 0
structure LowRel (s : ByteArray) (B i : Nat) (w wr : World) : Prop where
  bel : Below B w wr
  size : B < wr.heap.size
  cell : ∀ j, j < s.size → wr.cell? ⟨B, j, none⟩ = some (.int .u8 ((mid s i j).toNat : Int))
  free : ∀ j, j < s.size → wr.frozen? ⟨B, j, none⟩ = false
theorem lowRel_zero (s : ByteArray) (w : World) (e : TypeId) : LowRel s w.heap.size 0 w (bytesWorld w e s) := by
  have hz := bytesWorld_at_new w e s
  refine ⟨⟨?_, ?_, ?_, ?_, fun k hk => bytesWorld_at_old w e s k hk⟩, by rw [bytesWorld_size]; omega, fun j hj => ?_, fun j hj => ?_⟩
  · simp [bytesWorld, World.freeze, World.alloc, World.drew, -World.alloc_eq, -World.drew_eq]
  · simp [bytesWorld, World.freeze, World.alloc, World.drew, -World.alloc_eq, -World.drew_eq]
  · simp [bytesWorld, World.freeze, World.alloc, World.drew, -World.alloc_eq, -World.drew_eq]
  · rw [bytesWorld_size]; omega
  · rw [bytesWorld_cell w e s j hj]; rfl
  · show (match (bytesWorld w e s).heap[w.heap.size]? with | some (.cells _ _ (lo, hi)) => decide (lo ≤ j) && decide (j < hi) | _ => false) = false
    rw [hz]
    have : ¬ (bytesCells w e s).size ≤ j := by
      have : s.size ≤ (bytesCells w e s).size := by simp [bytesCells]
      omega
    simp [this]
theorem LowRel.step {s : ByteArray} {B i : Nat} {w wr : World} (h : LowRel s B i w wr) (hi : i < s.size) : LowRel s B (i + 1) w (wr.setCell ⟨B, i, none⟩ (.int .u8 ((lowB (s.data.toList.getD i 0)).toNat : Int))) := by
  refine ⟨h.bel.setCell (Nat.le_refl _) _, by simpa using h.size, fun j hj => ?_, fun j hj => ?_⟩
  · by_cases hji : j = i
    · subst hji
      rw [World.cell?_setCell_same _ _ _ (h.cell j hj)]
      unfold mid; rw [if_pos (by omega)]
    · rw [World.cell?_setCell_other _ _ _ _ (show (⟨B, i, none⟩ : Addr) ≠ ⟨B, j, none⟩ by intro h; injection h with _ h2; exact hji h2.symm), h.cell j hj]
      unfold mid
      by_cases hlt : j < i
      · rw [if_pos hlt, if_pos (by omega)]
      · rw [if_neg hlt, if_neg (by omega)]
  · rw [World.frozen?_setCell]; exact h.free j hj
theorem LowRel.keep {s : ByteArray} {B i : Nat} {w wr : World} (h : LowRel s B i w wr) (he : lowB (s.data.toList.getD i 0) = s.data.toList.getD i 0) : LowRel s B (i + 1) w wr := by
  refine ⟨h.bel, h.size, fun j hj => ?_, h.free⟩
  rw [h.cell j hj]
  unfold mid
  by_cases hji : j = i
  · subst hji; rw [if_neg (by omega), if_pos (by omega), he]
  · by_cases hlt : j < i
    · rw [if_pos hlt, if_pos (by omega)]
    · rw [if_neg hlt, if_neg (by omega)]
theorem LowRel.drew {s : ByteArray} {B i : Nat} {w wr : World} (h : LowRel s B i w wr) (n : Nat) : LowRel s B i w (wr.drewN n) :=
  ⟨⟨h.bel.os, h.bel.tape, h.bel.output, h.bel.size, h.bel.block⟩, h.size, h.cell, h.free⟩
theorem lowB_low (x : UInt8) (h0 : 65 ≤ (x.toNat : Int)) (h1 : (x.toNat : Int) ≤ 90) : ((lowB x).toNat : Int) = (x.toNat : Int) + 32 := by
  rw [lowB_nat, if_pos (by omega)]; rfl
theorem lowB_not (x : UInt8) (h : ¬ (65 ≤ (x.toNat : Int) ∧ (x.toNat : Int) ≤ 90)) : lowB x = x := by
  rw [← UInt8.toNat_inj, lowB_nat, if_neg (by omega)]
theorem LowRel.string {s : ByteArray} {B : Nat} {w wr : World} (h : LowRel s B s.size w wr) (cap : Nat) :
    (convert 49 9 (.slice (some ⟨B, 0, none⟩) s.size cap)).run Tryz.prog wr = .ok (.string ⟨(lower s.data.toList).toArray⟩) wr := by
  have hl : (lower s.data.toList).length = s.size := by rw [lower_length, ← Lib.size_eq]
  rw [← hl]
  refine run_convert_bytes_back wr _ _ 5 _ _ _ Tryz.underlying49 Tryz.underlying5 Tryz.underlying9 fun j hj => ?_
  have e := h.cell j (by omega)
  rw [show (⟨B, 0, none⟩ : Addr).add j = ⟨B, j, none⟩ by unfold Addr.add; split <;> simp_all, e]
  unfold mid
  rw [if_pos (by omega)]
  have hj' : j < s.data.toList.length := by rw [← Lib.size_eq]; omega
  simp only [lower, List.getElem_map, List.getD, List.getElem?_eq_getElem hj', Option.getD_some]

set_option maxHeartbeats 4000000 in
set_option maxRecDepth 100000 in
theorem lower_calls (s : ByteArray) (w : World) (hs : s.size ≤ maxLen) :
    Calls Tryz.prog 57 #[.string s] w fun e w' => e = .returned (.string ⟨(lower s.data.toList).toArray⟩) ∧ Below w.heap.size w w' := by
  unfold maxLen at hs
  have hcv := Lib.run_convert_string_bytes (P := Tryz.prog) w 9 49 5 s Tryz.underlying9 Tryz.underlying49 Tryz.underlying5
  have H0 := lowRel_zero s w 5
  generalize bytesWorld w 5 s = w1 at hcv H0
  generalize grownCap w s.size 0 5 = cap at hcv
  go_enter Tryz.func57, Tryz.ntmps57
  go_wp2
  go_loopw [10] (fun i wr => ∃ k : Nat, k ≤ s.size ∧ i = .int .i64 k ∧ LowRel s w.heap.size k w wr) (fun i _ => s.size - (intOf i).toNat)
  case atStart => exact ⟨0, by omega, rfl, H0⟩
  case round =>
    obtain ⟨k, hk, rfl, hR⟩ := hrel
    by_cases hlt : k < s.size
    · have hc := hR.cell k hlt
      have hf := hR.free k hlt
      have hN : Hid _ := Lib.hid (lowB_not (s.data.toList.getD k 0))
      have hL : Hid _ := Lib.hid (lowB_low (s.data.toList.getD k 0))
      have HS : Hid _ := Lib.hid (hR.step hlt)
      have HK : Hid _ := Lib.hid (hR.keep (i := k))
      rw [show mid s k k = s.data.toList.getD k 0 by unfold mid; rw [if_neg (by omega)]] at hc
      generalize hx : s.data.toList.getD k 0 = x at hc hN hL HS HK
      have hx1 := x.toNat_lt
      have hlt' : (k : Int) < (s.size : Int) := by omega
      clear hx
      by_cases c0 : (65 : Int) ≤ (x.toNat : Int)
      · by_cases c1 : (x.toNat : Int) ≤ 90
        · go_wp2_with fail
          go_roundw
          case rel => exact ⟨k + 1, by omega, by go_num, by rw [show (x.toNat : Int) - 65 + 97 = ((lowB x).toNat : Int) by rw [hL.out c0 c1]; omega]; exact HS.out⟩
          case measure => simp [intOf]; omega
        · have hd : decide ((x.toNat : Int) ≤ 90) = false := by simpa using c1
          go_wp2_with fail
          go_roundw
          case rel => exact ⟨k + 1, by omega, by go_num, HK.out (hN.out (by omega))⟩
          case measure => simp [intOf]; omega
      · have hd : decide ((65 : Int) ≤ (x.toNat : Int)) = false := by simpa using c0
        go_wp2_with fail
        go_roundw
        case rel => exact ⟨k + 1, by omega, by go_num, HK.out (hN.out (by omega))⟩
        case measure => simp [intOf]; omega
    · obtain rfl : k = s.size := by omega
      have hb := hR.string cap
      go_wp2_with fail
      go_ret
      exact ⟨rfl, hR.bel⟩
end Go.Proofs.YtbdgoffbkenofaaGreat.Ru
namespace Go.Proofs.YtbdgoffbkenofaaGreat.Ru
open Go Go.RowKit Go.Lib
set_option linter.unusedVariables false
def blankB (c : Int) : Bool := decide (c = 9 ∨ c = 10 ∨ c = 12 ∨ c = 32)
def letterB (c : Int) : Bool := decide ((97 ≤ c ∧ c ≤ 122) ∨ (65 ≤ c ∧ c ≤ 90))
def BoolEnd (b : Bool) (w : World) (e : Ending) (w' : World) : Prop := e = .returned (.bool b) ∧ w = w'
theorem boolEnd {a b : Bool} {w : World} (h : b = a) : BoolEnd b w (.returned (.bool a)) w := ⟨by rw [h], rfl⟩
theorem blank_eq (c : Int) : (c == 9 || c == 10 || c == 12 || c == 32) = blankB c := by
  rw [Bool.eq_iff_iff]
  simp [blankB, or_assoc]
def rangeB (c lo hi : Int) : Bool := decide (lo ≤ c ∧ c ≤ hi)
theorem letter_up (c : Int) (h : 97 ≤ c ∧ c ≤ 122) : letterB c = true := by unfold letterB; exact decide_eq_true (.inl h)
theorem letter_lo (c : Int) (h : 65 ≤ c ∧ c ≤ 90) : letterB c = true := by unfold letterB; exact decide_eq_true (.inr h)
theorem letter_no (c : Int) (h : ¬ (97 ≤ c ∧ c ≤ 122)) (h2 : ¬ (65 ≤ c ∧ c ≤ 90)) : letterB c = false := by unfold letterB; exact decide_eq_false (by omega)
theorem blank_true (c : Int) (h : c = 9 ∨ c = 10 ∨ c = 12 ∨ c = 32) : blankB c = true := decide_eq_true h
theorem blank_false (c : Int) (h : ¬ (c = 9 ∨ c = 10 ∨ c = 12 ∨ c = 32)) : blankB c = false := decide_eq_false h
set_option maxHeartbeats 1000000 in
theorem blank_calls (c : Int) (w : World) : Calls Tryz.prog 59 #[.int .u8 c] w (BoolEnd (blankB c) w) := by
  rcases (show c = 9 ∨ c = 10 ∨ c = 12 ∨ c = 32 ∨ ¬ (c = 9 ∨ c = 10 ∨ c = 12 ∨ c = 32) by omega) with rfl | rfl | rfl | rfl | h
  case inr.inr.inr.inr =>
    have t0 : (c == 9) = false := beq_eq_false_iff_ne.2 (by omega)
    have t1 : (c == 10) = false := beq_eq_false_iff_ne.2 (by omega)
    have t2 : (c == 12) = false := beq_eq_false_iff_ne.2 (by omega)
    have t3 : (c == 32) = false := beq_eq_false_iff_ne.2 (by omega)
    have H := Lib.hid (blank_false c h)
    clear h
    go_enter Tryz.func59, Tryz.ntmps59
    go_wp2_with fail
    go_ret
    exact boolEnd H.out
  all_goals
    go_enter Tryz.func59, Tryz.ntmps59
    go_wp2_with fail
    go_ret
    exact boolEnd (by decide)
set_option maxHeartbeats 1000000 in
theorem letter_calls (c : Int) (w : World) : Calls Tryz.prog 63 #[.int .u8 c] w (BoolEnd (letterB c) w) := by
  by_cases h : 97 ≤ c ∧ c ≤ 122
  · obtain ⟨h1, h2⟩ := h
    have H := Lib.hid (letter_up c ⟨h1, h2⟩)
    go_enter Tryz.func63, Tryz.ntmps63
    go_wp2_with fail
    go_ret
    exact boolEnd H.out
  by_cases h' : 65 ≤ c ∧ c ≤ 90
  · obtain ⟨h1, h2⟩ := h'
    have H := Lib.hid (letter_lo c ⟨h1, h2⟩)
    have t0 : decide (97 ≤ c) = false := decide_eq_false (by omega)
    go_enter Tryz.func63, Tryz.ntmps63
    go_wp2_with fail
    go_ret
    exact boolEnd H.out
  have H := Lib.hid (letter_no c h h')
  rcases (show (97 ≤ c ∧ 122 < c) ∨ (c < 97 ∧ 65 ≤ c ∧ 90 < c) ∨ c < 65 by omega) with ⟨a, b⟩ | ⟨a, b, d⟩ | a
  · have t0 : decide (c ≤ 122) = false := decide_eq_false (by omega)
    have t1 : (65 : Int) ≤ c := by omega
    have t2 : decide (c ≤ 90) = false := decide_eq_false (by omega)
    go_enter Tryz.func63, Tryz.ntmps63
    go_wp2_with fail
    go_ret
    exact boolEnd H.out
  · have t0 : decide (97 ≤ c) = false := decide_eq_false (by omega)
    have t2 : decide (c ≤ 90) = false := decide_eq_false (by omega)
    go_enter Tryz.func63, Tryz.ntmps63
    go_wp2_with fail
    go_ret
    exact boolEnd H.out
  · have t0 : decide (97 ≤ c) = false := decide_eq_false (by omega)
    have t2 : decide (65 ≤ c) = false := decide_eq_false (by omega)
    go_enter Tryz.func63, Tryz.ntmps63
    go_wp2_with fail
    go_ret
    exact boolEnd H.out
end Go.Proofs.YtbdgoffbkenofaaGreat.Ru
namespace Go.Proofs.YtbdgoffbkenofaaGreat.Ru
open Go Go.RowKit Go.Lib
set_option linter.unusedVariables false
set_option maxHeartbeats 4000000 in
set_option maxRecDepth 100000 in
theorem rlower_calls (s : ByteArray) (w : World) (hs : s.size ≤ maxLen) :
    Calls Tryz.prog 11 #[.string s] w fun e w' => e = .returned (.string ⟨(lower s.data.toList).toArray⟩) ∧ Below w.heap.size w w' := by
  unfold maxLen at hs
  have hcv := Lib.run_convert_string_bytes (P := Tryz.prog) w 9 49 5 s Tryz.underlying9 Tryz.underlying49 Tryz.underlying5
  have H0 := lowRel_zero s w 5
  generalize bytesWorld w 5 s = w1 at hcv H0
  generalize grownCap w s.size 0 5 = cap at hcv
  go_enter Tryz.func11, Tryz.ntmps11
  go_wp2
  go_loopw [4] (fun i wr => ∃ k : Nat, k ≤ s.size ∧ i = .int .i64 k ∧ LowRel s w.heap.size k w wr) (fun i _ => s.size - (intOf i).toNat)
  case atStart => exact ⟨0, by omega, rfl, H0⟩
  case round =>
    obtain ⟨k, hk, rfl, hR⟩ := hrel
    by_cases hlt : k < s.size
    · have hc := hR.cell k hlt
      have hf := hR.free k hlt
      have hN : Hid _ := Lib.hid (lowB_not (s.data.toList.getD k 0))
      have hL : Hid _ := Lib.hid (lowB_low (s.data.toList.getD k 0))
      have HS : Hid _ := Lib.hid (hR.step hlt)
      have HK : Hid _ := Lib.hid (hR.keep (i := k))
      rw [show mid s k k = s.data.toList.getD k 0 by unfold mid; rw [if_neg (by omega)]] at hc
      generalize hx : s.data.toList.getD k 0 = x at hc hN hL HS HK
      have hx1 := x.toNat_lt
      have hlt' : (k : Int) < (s.size : Int) := by omega
      clear hx
      by_cases c0 : (65 : Int) ≤ (x.toNat : Int)
      · by_cases c1 : (x.toNat : Int) ≤ 90
        · go_wp2_with fail
          go_roundw
          case rel => exact ⟨k + 1, by omega, by go_num, by rw [show (x.toNat : Int) + 32 = ((lowB x).toNat : Int) from (hL.out c0 c1).symm]; exact HS.out⟩
          case measure => simp [intOf]; omega
        · have hd : decide ((x.toNat : Int) ≤ 90) = false := by simpa using c1
          go_wp2_with fail
          go_roundw
          case rel => exact ⟨k + 1, by omega, by go_num, HK.out (hN.out (by omega))⟩
          case measure => simp [intOf]; omega
      · have hd : decide ((65 : Int) ≤ (x.toNat : Int)) = false := by simpa using c0
        go_wp2_with fail
        go_roundw
        case rel => exact ⟨k + 1, by omega, by go_num, HK.out (hN.out (by omega))⟩
        case measure => simp [intOf]; omega
    · obtain rfl : k = s.size := by omega
      have hb := hR.string cap
      go_wp2_with fail
      go_ret
      exact ⟨rfl, hR.bel⟩
end Go.Proofs.YtbdgoffbkenofaaGreat.Ru
