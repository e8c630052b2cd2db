/- The document's Lower (by gen_low.py, out of the runes template). -/
import Derived.Test.YtbdgoffbkenofaaGreatTkLow
namespace Go.Proofs.YtbdgoffbkenofaaGreat.Ru
open Go Go.RowKit Go.Lib
set_option linter.unusedVariables false
set_option maxHeartbeats 4000000 in
set_option maxRecDepth 100000 in
theorem rlower_calls (s : ByteArray) (w : World) (hs : s.size ≤ maxLen) :
    Calls Tryz.prog 11 #[.string s] w fun e w' => e = .returned (.string ⟨(lower s.data.toList).toArray⟩) ∧ Below w.heap.size w w' := by
  unfold maxLen at hs
  have hcv := Lib.run_convert_string_bytes (P := Tryz.prog) w 9 49 5 s Tryz.underlying9 Tryz.underlying49 Tryz.underlying5
  have H0 := lowRel_zero s w 5
  generalize bytesWorld w 5 s = w1 at hcv H0
  generalize grownCap w s.size 0 5 = cap at hcv
  go_enter Tryz.func11, Tryz.ntmps11
  go_wp2
  go_loopw [4] (fun i wr => ∃ k : Nat, k ≤ s.size ∧ i = .int .i64 k ∧ LowRel s w.heap.size k w wr) (fun i _ => s.size - (intOf i).toNat)
  case atStart => exact ⟨0, by omega, rfl, H0⟩
  case round =>
    obtain ⟨k, hk, rfl, hR⟩ := hrel
    by_cases hlt : k < s.size
    · have hc := hR.cell k hlt
      have hf := hR.free k hlt
      have hN : Hid _ := Lib.hid (lowB_not (s.data.toList.getD k 0))
      have hL : Hid _ := Lib.hid (lowB_low (s.data.toList.getD k 0))
      have HS : Hid _ := Lib.hid (hR.step hlt)
      have HK : Hid _ := Lib.hid (hR.keep (i := k))
      rw [show mid s k k = s.data.toList.getD k 0 by unfold mid; rw [if_neg (by omega)]] at hc
      generalize hx : s.data.toList.getD k 0 = x at hc hN hL HS HK
      have hx1 := x.toNat_lt
      have hlt' : (k : Int) < (s.size : Int) := by omega
      clear hx
      by_cases c0 : (65 : Int) ≤ (x.toNat : Int)
      · by_cases c1 : (x.toNat : Int) ≤ 90
        · go_wp2_with fail
          go_roundw
          case rel => exact ⟨k + 1, by omega, by go_num, by rw [show (x.toNat : Int) + 32 = ((lowB x).toNat : Int) from (hL.out c0 c1).symm]; exact HS.out⟩
          case measure => simp [intOf]; omega
        · have hd : decide ((x.toNat : Int) ≤ 90) = false := by simpa using c1
          go_wp2_with fail
          go_roundw
          case rel => exact ⟨k + 1, by omega, by go_num, HK.out (hN.out (by omega))⟩
          case measure => simp [intOf]; omega
      · have hd : decide ((65 : Int) ≤ (x.toNat : Int)) = false := by simpa using c0
        go_wp2_with fail
        go_roundw
        case rel => exact ⟨k + 1, by omega, by go_num, HK.out (hN.out (by omega))⟩
        case measure => simp [intOf]; omega
    · obtain rfl : k = s.size := by omega
      have hb := hR.string cap
      go_wp2_with fail
      go_ret
      exact ⟨rfl, hR.bel⟩
end Go.Proofs.YtbdgoffbkenofaaGreat.Ru
