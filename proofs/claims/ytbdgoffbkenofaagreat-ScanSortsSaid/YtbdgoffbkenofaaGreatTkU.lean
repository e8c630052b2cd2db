/- token: upTo over a closure; the closures; past, closes, closed. -/
import Derived.Test.YtbdgoffbkenofaaGreatTkp
import Derived.Test.YtbdgoffbkenofaaGreatTkLow
import Derived.Test.YtbdgoffbkenofaaGreatKr
import Derived.WalkKit
import Derived.WalkLawsBesides
import Derived.WalkSpells
import Derived.IntWalk
import Derived.RangeFuncCalls
import Derived.RangeFuncLeaves
import Derived.Lib.QuietBelow
import Derived.BigQuiet
namespace Go.Proofs.YtbdgoffbkenofaaGreat.Tk
open Go Go.RowKit
set_option linter.unusedVariables false
set_option maxRecDepth 100000

theorem blankN_eq (c : Nat) : Ru.blankB (c : Int) = blankN c := by
  unfold Ru.blankB blankN
  rw [decide_eq_decide]
  omega
theorem letterN_eq (c : Nat) : Ru.letterB (c : Int) = letterN c := by
  unfold Ru.letterB letterN
  rw [decide_eq_decide]
  omega
theorem tblank (c : Nat) (w : World) : Calls Tryz.prog 59 #[.int .u8 (c : Int)] w fun e w' => e = .returned (.bool (blankN c)) ∧ w = w' := by
  rw [← blankN_eq]; exact Ru.blank_calls c w
theorem tletter (c : Nat) (w : World) : Calls Tryz.prog 63 #[.int .u8 (c : Int)] w fun e w' => e = .returned (.bool (letterN c)) ∧ w = w' := by
  rw [← letterN_eq]; exact Ru.letter_calls c w
/-- A question on bytes. -/
def PredC (F : FuncId) (cap : Array Value) (p : Nat → Bool) (w : World) : Prop := ∀ (c : Nat) (W : World), c < 256 → Below w.heap.size w W → Calls Tryz.prog F (#[.int .u8 (c : Int)] ++ cap) W fun e w' => e = .returned (.bool (p c)) ∧ Below W.heap.size W w'
set_option maxHeartbeats 2000000 in
theorem upTo_calls (F : FuncId) (cap : Array Value) (hent : ∀ args w, (callFunc F args).run Tryz.prog w = .ok (.enter F args) w) (p : Nat → Bool) (s : ByteArray) (hs : s.size ≤ 1000000000) (a : Nat) (ha : a ≤ 2000000000) (w : World) (hp : PredC F cap p w) :
    Calls Tryz.prog 60 #[.string s, .int .i64 (a : Int), .func (.func F) #[] cap] w fun e w' => e = .returned (.int .i64 (upT p s a : Nat)) ∧ Below w.heap.size w w' := by
  have HP := Lib.hid hp
  have HS := Lib.hid hs
  have HA := Lib.hid ha
  clear hp hs ha
  go_enter Tryz.func60, Tryz.ntmps60
  go_wp2_with fail
  go_loopw [1] (fun i wr => ∃ k : Nat, Hid (a ≤ k) ∧ Hid (k ≤ 2000000000) ∧ i = .int .i64 (k : Int) ∧ Hid (upT p s a = upT p s k) ∧ Hid (Below w.heap.size w wr)) (fun i _ => s.size - (intOf i).toNat)
  case atStart => exact ⟨a, Lib.hid (Nat.le_refl _), HA, rfl, Lib.hid rfl, Lib.hid (Below.refl _ _)⟩
  case round =>
    obtain ⟨k, HK1, HK2, rfl, HE, HB⟩ := hrel
    by_cases hlt : k < s.size
    · have hz : (k : Int) < (s.size : Int) := by omega
      have HX := Lib.hid (HP.out (bAt s k) wr (bAt_lt s k) HB.out)
      have hbk := bAt_in hlt
      have HN := Lib.hid (upT_next (p := p) hlt)
      have HH := Lib.hid (upT_here (p := p) hlt)
      have HLT := Lib.hid hlt
      cases hpc : p (bAt s k) with
      | true =>
        have HR := Lib.hid (HE.out.trans (HH.out hpc))
        rw [hpc, hbk] at HX
        clear hpc hbk HN HH
        go_wp2_with fail
        refine HX.out.mono ?_
        rintro e w2 ⟨rfl, hb2⟩
        have HB2 := Lib.hid (HB.out.trans (hb2.mono HB.out.size))
        clear hb2
        go_wp2_with fail
        go_ret
        exact ⟨by rw [HR.out]; rfl, HB2.out⟩
      | false =>
        have HR := Lib.hid (HE.out.trans (HN.out hpc))
        rw [hpc, hbk] at HX
        have hw : IntKind.i64.wrap ((k : Int) + 1) = (k : Int) + 1 := IntWalk.i64_in _ (by have := HK2.out; omega)
        have HW := Lib.hid (show (k : Int) + 1 = ((k + 1 : Nat) : Int) by omega)
        have HK3 : Hid (a ≤ k + 1) := Lib.hid (by have := HK1.out; omega)
        have HK4 : Hid (k + 1 ≤ 2000000000) := Lib.hid (by have := HS.out; have := HLT.out; omega)
        clear hpc hbk HN HH
        go_wp2_with fail
        refine HX.out.mono ?_
        rintro e w2 ⟨rfl, hb2⟩
        have HB2 := Lib.hid (HB.out.trans (hb2.mono HB.out.size))
        clear hb2
        go_wp2_with fail
        go_roundw
        case rel => exact ⟨k + 1, HK3, HK4, by rw [HW.out], HR, HB2⟩
        case measure => simp [intOf]; have := HLT.out; omega
    · have hz : ¬ ((k : Int) < (s.size : Int)) := by omega
      have HR := Lib.hid (HE.out.trans (upT_end (by omega)))
      go_wp2_with fail
      go_ret
      exact ⟨by rw [HR.out]; rfl, HB.out⟩
theorem past1 (w : World) : PredC 115 #[] (fun c => !blankN c) w := by
  intro c W hc hb
  show Calls Tryz.prog 115 #[.int .u8 (c : Int)] W _
  go_enter Tryz.func115, Tryz.ntmps115
  go_wp2_with fail
  refine (tblank c _).mono ?_
  rintro e w2 ⟨rfl, rfl⟩
  go_wp2_with fail
  go_ret
  exact ⟨rfl, Below.refl _ _⟩
theorem closed1 (w : World) : PredC 116 #[] (fun c => decide (c = 62)) w := by
  intro c W hc hb
  show Calls Tryz.prog 116 #[.int .u8 (c : Int)] W _
  have q : ((c : Int) == 62) = decide (c = 62) := by rw [Bool.eq_iff_iff]; simp; omega
  go_enter Tryz.func116, Tryz.ntmps116
  go_wp2_with fail
  go_ret
  exact ⟨rfl, Below.refl _ _⟩
theorem eq_nat (c n : Nat) : ((c : Int) == (n : Int)) = decide (c = n) := by rw [Bool.eq_iff_iff]; simp; omega
theorem closes_calls (c : Nat) (w : World) : Calls Tryz.prog 84 #[.int .u8 (c : Int)] w fun e w' => e = .returned (.bool (closesN c)) ∧ w = w' := by
  have q1 : ((c : Int) == 47) = decide (c = 47) := eq_nat c 47
  have q2 : ((c : Int) == 62) = decide (c = 62) := eq_nat c 62
  unfold closesN
  have HB := Lib.hid (tblank c)
  generalize blankN c = b0 at *
  generalize decide (c = 47) = b1 at *
  generalize decide (c = 62) = b2 at *
  go_enter Tryz.func84, Tryz.ntmps84
  cases b0 <;> cases b1 <;> cases b2 <;> (
    go_wp2_with fail
    refine (HB.out _).mono ?_
    rintro e w2 ⟨rfl, rfl⟩
    go_wp2_with fail
    go_ret
    exact ⟨rfl, rfl⟩)
theorem closesC (w : World) : PredC 84 #[] closesN w := fun c W hc hb => (closes_calls c W).mono fun e w' ⟨h1, h2⟩ => ⟨h1, by rw [h2]; exact Below.refl _ _⟩
theorem past_calls (s : ByteArray) (hs : s.size ≤ 1000000000) (a : Nat) (ha : a ≤ 2000000000) (w : World) :
    Calls Tryz.prog 95 #[.string s, .int .i64 (a : Int)] w fun e w' => e = .returned (.int .i64 (pastP s a : Nat)) ∧ Below w.heap.size w w' := by
  have HU := Lib.hid (upTo_calls 115 #[] (enters_of Tryz.func115 (by kernel_rfl) rfl) _ s hs a ha w (past1 w))
  unfold pastP
  clear hs ha
  go_enter Tryz.func95, Tryz.ntmps95
  go_wp2_with fail
  refine HU.out.mono ?_
  rintro e w2 ⟨rfl, hb⟩
  have HB := Lib.hid hb
  clear hb
  go_wp2_with fail
  go_ret
  exact ⟨rfl, HB.out⟩
end Go.Proofs.YtbdgoffbkenofaaGreat.Tk
