/- The document's Of: bytes as a number. -/
import Derived.Test.YtcacgbdnegmfnaaHashT
import Derived.Test.YtcacgbdnegmfnaaBitR
namespace Go.Proofs.Ytcacgbdnegmfnaa.Ha
open Go Go.RowKit Go.Proofs.Ytcacgbdnegmfnaa.Pl Go.Proofs.Ytcacgbdnegmfnaa.Tr
set_option linter.unusedVariables false
/-- The first i bytes' number. -/
def partB (f : Nat → Int) : Nat → Int | 0 => 0 | i + 1 => partB f i + f i * 2 ^ (8 * i)
theorem partB_lt (f : Nat → Int) (hf : ∀ i, 0 ≤ f i ∧ f i ≤ 255) : ∀ i, 0 ≤ partB f i ∧ partB f i < 2 ^ (8 * i)
  | 0 => by unfold partB; simp
  | i + 1 => by
    have h := partB_lt f hf i
    have h2 := hf i
    unfold partB
    have e : (2 : Int) ^ (8 * (i + 1)) = 256 * 2 ^ (8 * i) := by rw [show 8 * (i + 1) = 8 * i + 8 by omega, Int.pow_add]; omega
    rw [e]
    have hp : (0 : Int) < 2 ^ (8 * i) := Int.pow_pos (by decide)
    generalize (2 : Int) ^ (8 * i) = p at *
    have h3 : f i * p ≤ 255 * p := Int.mul_le_mul_of_nonneg_right h2.2 (by omega)
    have h4 : 0 ≤ f i * p := Int.mul_nonneg h2.1 (by omega)
    omega
theorem partB_8 (f : Nat → Int) : partB f 8 = ofS (f 0) (f 1) (f 2) (f 3) (f 4) (f 5) (f 6) (f 7) := by
  unfold partB partB partB partB partB partB partB partB partB ofS
  omega
set_option maxHeartbeats 1000000 in
set_option maxRecDepth 100000 in
theorem rof_calls (f : Nat → Int) (hf : ∀ i, 0 ≤ f i ∧ f i ≤ 255) (m : Nat) (hm : m ≤ 8) (A : Option Addr) (cap : Nat) (w : World) (hc : ∀ i, i < m → ∃ g, A = some ⟨g, 0, none⟩ ∧ w.cell? ⟨g, i, none⟩ = some (.int .u8 (f i))) :
    Calls Try.prog 57 #[.slice A m cap] w fun e w' => e = .returned (.int .u64 (partB f m)) ∧ w' = w := by
  have HC := Lib.hid hc
  have HF := Lib.hid hf
  clear hc hf
  go_enter Try.func57, Try.ntmps57
  go_wp2_with fail
  go_loopw [3, 4] (fun v i wr => ∃ j : Nat, j ≤ m ∧ v = .int .u64 (partB f j) ∧ i = .int .i64 (j : Int) ∧ wr = w) (fun _ i _ => m - (intOf i).toNat)
  case atStart => exact ⟨0, Nat.zero_le _, rfl, rfl, by first | rfl | trivial⟩
  case round =>
    obtain ⟨j, hj, rfl, rfl, rfl⟩ := hrel
    rcases Nat.lt_or_ge j m with hl | hl
    · obtain ⟨g, rfl, hg⟩ := HC.out j hl
      have h8 : (j : Int) < 8 := by omega
      have hjm : (j : Int) < (m : Int) := by omega
      have hfj := HF.out j
      have HV : Hid (bits .or .u64 (partB f j) (IntKind.u64.wrap (f j * 2 ^ (8 * j))) = partB f (j + 1)) := Lib.hid (by
        have hp := partB_lt f HF.out j
        have hq : (2 : Int) ^ (8 * j) ≤ 2 ^ 56 := by
          have h : (2 : Nat) ^ (8 * j) ≤ 2 ^ 56 := Nat.pow_le_pow_right (by decide) (by omega)
          have h2 : ((2 ^ (8 * j) : Nat) : Int) ≤ ((2 ^ 56 : Nat) : Int) := Int.ofNat_le.2 h
          simpa using h2
        have hw : IntKind.u64.wrap (f j * 2 ^ (8 * j)) = f j * 2 ^ (8 * j) := by
          have h0 : (0 : Int) < 2 ^ (8 * j) := Int.pow_pos (by decide)
          generalize (2 : Int) ^ (8 * j) = p at *
          have h3 : f j * p ≤ 255 * p := Int.mul_le_mul_of_nonneg_right hfj.2 (by omega)
          have h4 : 0 ≤ f j * p := Int.mul_nonneg hfj.1 (by omega)
          have h5 := un_bv (a := f j * p) h4 (by omega)
          rw [wrap_un]; exact h5
        rw [hw, or_step (8 * j) (by omega) _ _ hp.1 hp.2 hfj.1 hfj.2]; rfl)
      go_wp2_with fail
      rw [HV.out]
      go_roundw
      case rel => exact ⟨j + 1, by omega, rfl, by go_num, by first | rfl | trivial⟩
      case measure => simp [intOf]; omega
    · obtain rfl : j = m := by omega
      go_wp2_with fail
      go_ret
      exact ⟨rfl, by first | rfl | trivial⟩
end Go.Proofs.Ytcacgbdnegmfnaa.Ha
