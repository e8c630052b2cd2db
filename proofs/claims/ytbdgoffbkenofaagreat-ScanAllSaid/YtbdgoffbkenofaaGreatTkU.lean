/- token: upTo over a closure; the closures; past, closes, closed. -/
import Derived.Test.YtbdgoffbkenofaaGreatTkp
import Derived.Test.YtbdgoffbkenofaaGreatTkLow
import Derived.Test.YtbdgoffbkenofaaGreatKr
import Derived.WalkKit
import Derived.WalkLawsBesides
import Derived.WalkSpells
import Derived.IntWalk
import Derived.RangeFuncCalls
import Derived.RangeFuncLeaves
import Derived.Lib.QuietBelow
import Derived.BigQuiet
namespace Go.Proofs.YtbdgoffbkenofaaGreat.Tk
open Go Go.RowKit
set_option linter.unusedVariables false
set_option maxRecDepth 100000

theorem blankN_eq (c : Nat) : Ru.blankB (c : Int) = blankN c := by
  unfold Ru.blankB blankN
  rw [decide_eq_decide]
  omega
theorem letterN_eq (c : Nat) : Ru.letterB (c : Int) = letterN c := by
  unfold Ru.letterB letterN
  rw [decide_eq_decide]
  omega
theorem tblank (c : Nat) (w : World) : Calls Tryz.prog 59 #[.int .u8 (c : Int)] w fun e w' => e = .returned (.bool (blankN c)) ∧ w = w' := by
  rw [← blankN_eq]; exact Ru.blank_calls c w
theorem tletter (c : Nat) (w : World) : Calls Tryz.prog 63 #[.int .u8 (c : Int)] w fun e w' => e = .returned (.bool (letterN c)) ∧ w = w' := by
  rw [← letterN_eq]; exact Ru.letter_calls c w
/-- A question on bytes. -/
def PredC (F : FuncId) (cap : Array Value) (p : Nat → Bool) (w : World) : Prop := ∀ (c : Nat) (W : World), c < 256 → Below w.heap.size w W → Calls Tryz.prog F (#[.int .u8 (c : Int)] ++ cap) W fun e w' => e = .returned (.bool (p c)) ∧ Below W.heap.size W w'
set_option maxHeartbeats 2000000 in
theorem upTo_calls (F : FuncId) (cap : Array Value) (hent : ∀ args w, (callFunc F args).run Tryz.prog w = .ok (.enter F args) w) (p : Nat → Bool) (s : ByteArray) (hs : s.size ≤ 1000000000) (a : Nat) (ha : a ≤ 2000000000) (w : World) (hp : PredC F cap p w) :
    Calls Tryz.prog 60 #[.string s, .int .i64 (a : Int), .func (.func F) #[] cap] w fun e w' => e = .returned (.int .i64 (upT p s a : Nat)) ∧ Below w.heap.size w w' := by
  have HP := Lib.hid hp
  have HS := Lib.hid hs
  have HA := Lib.hid ha
  clear hp hs ha
  go_enter Tryz.func60, Tryz.ntmps60
  go_wp2_with fail
  go_loopw [1] (fun i wr => ∃ k : Nat, Hid (a ≤ k) ∧ Hid (k ≤ 2000000000) ∧ i = .int .i64 (k : Int) ∧ Hid (upT p s a = upT p s k) ∧ Hid (Below w.heap.size w wr)) (fun i _ => s.size - (intOf i).toNat)
  case atStart => exact ⟨a, Lib.hid (Nat.le_refl _), HA, rfl, Lib.hid rfl, Lib.hid (Below.refl _ _)⟩
  case round =>
    obtain ⟨k, HK1, HK2, rfl, HE, HB⟩ := hrel
    by_cases hlt : k < s.size
    · have hz : (k : Int) < (s.size : Int) := by omega
      have HX := Lib.hid (HP.out (bAt s k) wr (bAt_lt s k) HB.out)
      have hbk := bAt_in hlt
      have HN := Lib.hid (upT_next (p := p) hlt)
      have HH := Lib.hid (upT_here (p := p) hlt)
      have HLT := Lib.hid hlt
      cases hpc : p (bAt s k) with
      | true =>
        have HR := Lib.hid (HE.out.trans (HH.out hpc))
        rw [hpc, hbk] at HX
        clear hpc hbk HN HH
        go_wp2_with fail
        refine HX.out.mono ?_
        rintro e w2 ⟨rfl, hb2⟩
        have HB2 := Lib.hid (HB.out.trans (hb2.mono HB.out.size))
        clear hb2
        go_wp2_with fail
        go_ret
        exact ⟨by rw [HR.out]; rfl, HB2.out⟩
      | false =>
        have HR := Lib.hid (HE.out.trans (HN.out hpc))
        rw [hpc, hbk] at HX
        have hw : IntKind.i64.wrap ((k : Int) + 1) = (k : Int) + 1 := IntWalk.i64_in _ (by have := HK2.out; omega)
        have HW := Lib.hid (show (k : Int) + 1 = ((k + 1 : Nat) : Int) by omega)
        have HK3 : Hid (a ≤ k + 1) := Lib.hid (by have := HK1.out; omega)
        have HK4 : Hid (k + 1 ≤ 2000000000) := Lib.hid (by have := HS.out; have := HLT.out; omega)
        clear hpc hbk HN HH
        go_wp2_with fail
        refine HX.out.mono ?_
        rintro e w2 ⟨rfl, hb2⟩
        have HB2 := Lib.hid (HB.out.trans (hb2.mono HB.out.size))
        clear hb2
        go_wp2_with fail
        go_roundw
        case rel => exact ⟨k + 1, HK3, HK4, by rw [HW.out], HR, HB2⟩
        case measure => simp [intOf]; have := HLT.out; omega
    · have hz : ¬ ((k : Int) < (s.size : Int)) := by omega
      have HR := Lib.hid (HE.out.trans (upT_end (by omega)))
      go_wp2_with fail
      go_ret
      exact ⟨by rw [HR.out]; rfl, HB.out⟩
theorem past1 (w : World) : PredC 115 #[] (fun c => !blankN c) w := by
  intro c W hc hb
  show Calls Tryz.prog 115 #[.int .u8 (c : Int)] W _
  go_enter Tryz.func115, Tryz.ntmps115
  go_wp2_with fail
  refine (tblank c _).mono ?_
  rintro e w2 ⟨rfl, rfl⟩
  go_wp2_with fail
  go_ret
  exact ⟨rfl, Below.refl _ _⟩
theorem closed1 (w : World) : PredC 116 #[] (fun c => decide (c = 62)) w := by
  intro c W hc hb
  show Calls Tryz.prog 116 #[.int .u8 (c : Int)] W _
  have q : ((c : Int) == 62) = decide (c = 62) := by rw [Bool.eq_iff_iff]; simp; omega
  go_enter Tryz.func116, Tryz.ntmps116
  go_wp2_with fail
  go_ret
  exact ⟨rfl, Below.refl _ _⟩
theorem eq_nat (c n : Nat) : ((c : Int) == (n : Int)) = decide (c = n) := by rw [Bool.eq_iff_iff]; simp; omega
theorem closes_calls (c : Nat) (w : World) : Calls Tryz.prog 84 #[.int .u8 (c : Int)] w fun e w' => e = .returned (.bool (closesN c)) ∧ w = w' := by
  have q1 : ((c : Int) == 47) = decide (c = 47) := eq_nat c 47
  have q2 : ((c : Int) == 62) = decide (c = 62) := eq_nat c 62
  unfold closesN
  have HB := Lib.hid (tblank c)
  generalize blankN c = b0 at *
  generalize decide (c = 47) = b1 at *
  generalize decide (c = 62) = b2 at *
  go_enter Tryz.func84, Tryz.ntmps84
  cases b0 <;> cases b1 <;> cases b2 <;> (
    go_wp2_with fail
    refine (HB.out _).mono ?_
    rintro e w2 ⟨rfl, rfl⟩
    go_wp2_with fail
    go_ret
    exact ⟨rfl, rfl⟩)
theorem closesC (w : World) : PredC 84 #[] closesN w := fun c W hc hb => (closes_calls c W).mono fun e w' ⟨h1, h2⟩ => ⟨h1, by rw [h2]; exact Below.refl _ _⟩
theorem past_calls (s : ByteArray) (hs : s.size ≤ 1000000000) (a : Nat) (ha : a ≤ 2000000000) (w : World) :
    Calls Tryz.prog 95 #[.string s, .int .i64 (a : Int)] w fun e w' => e = .returned (.int .i64 (pastP s a : Nat)) ∧ Below w.heap.size w w' := by
  have HU := Lib.hid (upTo_calls 115 #[] (enters_of Tryz.func115 (by kernel_rfl) rfl) _ s hs a ha w (past1 w))
  unfold pastP
  clear hs ha
  go_enter Tryz.func95, Tryz.ntmps95
  go_wp2_with fail
  refine HU.out.mono ?_
  rintro e w2 ⟨rfl, hb⟩
  have HB := Lib.hid hb
  clear hb
  go_wp2_with fail
  go_ret
  exact ⟨rfl, HB.out⟩
end Go.Proofs.YtbdgoffbkenofaaGreat.Tk
namespace Go.Proofs.YtbdgoffbkenofaaGreat.Tk
open Go Go.RowKit
set_option linter.unusedVariables false
/-- token.Raw by its chain of questions. -/
def rawC (n : ByteArray) : Int :=
  if n = ⟨#[116, 105, 116, 108, 101]⟩ then 1 else
  if n = ⟨#[116, 101, 120, 116, 97, 114, 101, 97]⟩ then 1 else
  if n = ⟨#[115, 116, 121, 108, 101]⟩ then 2 else
  if n = ⟨#[115, 99, 114, 105, 112, 116]⟩ then 2 else
  if n = ⟨#[120, 109, 112]⟩ then 2 else
  if n = ⟨#[105, 102, 114, 97, 109, 101]⟩ then 2 else
  if n = ⟨#[110, 111, 101, 109, 98, 101, 100]⟩ then 2 else
  if n = ⟨#[110, 111, 102, 114, 97, 109, 101, 115]⟩ then 2 else
  0
theorem rawC_eq (n : ByteArray) : rawC n = rawP n := by
  unfold rawC rawP titN rawN
  simp only [List.any_cons, List.any_nil, Bool.or_false, Bool.or_eq_true, decide_eq_true_eq]
  repeat' split
  all_goals simp_all
attribute [irreducible] rawC
theorem lit_eq (n : ByteArray) (l : List UInt8) (x : ByteArray) (h : x.toList = l) : (n.toList == l) = decide (n = x) := h ▸ Sr.str_eq n x
set_option maxHeartbeats 4000000 in
set_option maxRecDepth 100000 in
theorem raw_calls (n : ByteArray) (w : World) : Calls Tryz.prog 38 #[.string n] w fun e w' => e = .returned (.int .i64 (rawP n)) ∧ w' = w := by
  rw [← rawC_eq]
  have q0 := lit_eq n [116, 105, 116, 108, 101] ⟨#[116, 105, 116, 108, 101]⟩ (by decide +kernel)
  have q1 := lit_eq n [116, 101, 120, 116, 97, 114, 101, 97] ⟨#[116, 101, 120, 116, 97, 114, 101, 97]⟩ (by decide +kernel)
  have q2 := lit_eq n [115, 116, 121, 108, 101] ⟨#[115, 116, 121, 108, 101]⟩ (by decide +kernel)
  have q3 := lit_eq n [115, 99, 114, 105, 112, 116] ⟨#[115, 99, 114, 105, 112, 116]⟩ (by decide +kernel)
  have q4 := lit_eq n [120, 109, 112] ⟨#[120, 109, 112]⟩ (by decide +kernel)
  have q5 := lit_eq n [105, 102, 114, 97, 109, 101] ⟨#[105, 102, 114, 97, 109, 101]⟩ (by decide +kernel)
  have q6 := lit_eq n [110, 111, 101, 109, 98, 101, 100] ⟨#[110, 111, 101, 109, 98, 101, 100]⟩ (by decide +kernel)
  have q7 := lit_eq n [110, 111, 102, 114, 97, 109, 101, 115] ⟨#[110, 111, 102, 114, 97, 109, 101, 115]⟩ (by decide +kernel)
  go_enter Tryz.func38, Tryz.ntmps38
  by_cases d0 : n = ⟨#[116, 105, 116, 108, 101]⟩
  · rw [decide_eq_true d0] at q0
    have HV : Hid (rawC n = 1) := Lib.hid (by unfold rawC; rw [if_pos d0])
    clear d0
    go_wp2_with fail
    go_ret
    exact ⟨by rw [HV.out]; rfl, rfl⟩
  rw [decide_eq_false d0] at q0
  by_cases d1 : n = ⟨#[116, 101, 120, 116, 97, 114, 101, 97]⟩
  · rw [decide_eq_true d1] at q1
    have HV : Hid (rawC n = 1) := Lib.hid (by unfold rawC; rw [if_neg d0, if_pos d1])
    clear d0 d1
    go_wp2_with fail
    go_ret
    exact ⟨by rw [HV.out]; rfl, rfl⟩
  rw [decide_eq_false d1] at q1
  by_cases d2 : n = ⟨#[115, 116, 121, 108, 101]⟩
  · rw [decide_eq_true d2] at q2
    have HV : Hid (rawC n = 2) := Lib.hid (by unfold rawC; rw [if_neg d0, if_neg d1, if_pos d2])
    clear d0 d1 d2
    go_wp2_with fail
    go_ret
    exact ⟨by rw [HV.out]; rfl, rfl⟩
  rw [decide_eq_false d2] at q2
  by_cases d3 : n = ⟨#[115, 99, 114, 105, 112, 116]⟩
  · rw [decide_eq_true d3] at q3
    have HV : Hid (rawC n = 2) := Lib.hid (by unfold rawC; rw [if_neg d0, if_neg d1, if_neg d2, if_pos d3])
    clear d0 d1 d2 d3
    go_wp2_with fail
    go_ret
    exact ⟨by rw [HV.out]; rfl, rfl⟩
  rw [decide_eq_false d3] at q3
  by_cases d4 : n = ⟨#[120, 109, 112]⟩
  · rw [decide_eq_true d4] at q4
    have HV : Hid (rawC n = 2) := Lib.hid (by unfold rawC; rw [if_neg d0, if_neg d1, if_neg d2, if_neg d3, if_pos d4])
    clear d0 d1 d2 d3 d4
    go_wp2_with fail
    go_ret
    exact ⟨by rw [HV.out]; rfl, rfl⟩
  rw [decide_eq_false d4] at q4
  by_cases d5 : n = ⟨#[105, 102, 114, 97, 109, 101]⟩
  · rw [decide_eq_true d5] at q5
    have HV : Hid (rawC n = 2) := Lib.hid (by unfold rawC; rw [if_neg d0, if_neg d1, if_neg d2, if_neg d3, if_neg d4, if_pos d5])
    clear d0 d1 d2 d3 d4 d5
    go_wp2_with fail
    go_ret
    exact ⟨by rw [HV.out]; rfl, rfl⟩
  rw [decide_eq_false d5] at q5
  by_cases d6 : n = ⟨#[110, 111, 101, 109, 98, 101, 100]⟩
  · rw [decide_eq_true d6] at q6
    have HV : Hid (rawC n = 2) := Lib.hid (by unfold rawC; rw [if_neg d0, if_neg d1, if_neg d2, if_neg d3, if_neg d4, if_neg d5, if_pos d6])
    clear d0 d1 d2 d3 d4 d5 d6
    go_wp2_with fail
    go_ret
    exact ⟨by rw [HV.out]; rfl, rfl⟩
  rw [decide_eq_false d6] at q6
  by_cases d7 : n = ⟨#[110, 111, 102, 114, 97, 109, 101, 115]⟩
  · rw [decide_eq_true d7] at q7
    have HV : Hid (rawC n = 2) := Lib.hid (by unfold rawC; rw [if_neg d0, if_neg d1, if_neg d2, if_neg d3, if_neg d4, if_neg d5, if_neg d6, if_pos d7])
    clear d0 d1 d2 d3 d4 d5 d6 d7
    go_wp2_with fail
    go_ret
    exact ⟨by rw [HV.out]; rfl, rfl⟩
  rw [decide_eq_false d7] at q7
  have HV : Hid (rawC n = 0) := Lib.hid (by unfold rawC; rw [if_neg d0, if_neg d1, if_neg d2, if_neg d3, if_neg d4, if_neg d5, if_neg d6, if_neg d7])
  clear d0 d1 d2 d3 d4 d5 d6 d7
  go_wp2_with fail
  go_ret
  exact ⟨by rw [HV.out]; rfl, rfl⟩
end Go.Proofs.YtbdgoffbkenofaaGreat.Tk
namespace Go.Proofs.YtbdgoffbkenofaaGreat.Tk
open Go Go.RowKit
set_option linter.unusedVariables false
set_option maxHeartbeats 4000000 in
set_option maxRecDepth 100000 in
theorem rraw_calls (n : ByteArray) (w : World) : Calls Tryz.prog 25 #[.string n] w fun e w' => e = .returned (.int .i64 (rawP n)) ∧ w' = w := by
  rw [← rawC_eq]
  have q0 := lit_eq n [116, 105, 116, 108, 101] ⟨#[116, 105, 116, 108, 101]⟩ (by decide +kernel)
  have q1 := lit_eq n [116, 101, 120, 116, 97, 114, 101, 97] ⟨#[116, 101, 120, 116, 97, 114, 101, 97]⟩ (by decide +kernel)
  have q2 := lit_eq n [115, 116, 121, 108, 101] ⟨#[115, 116, 121, 108, 101]⟩ (by decide +kernel)
  have q3 := lit_eq n [115, 99, 114, 105, 112, 116] ⟨#[115, 99, 114, 105, 112, 116]⟩ (by decide +kernel)
  have q4 := lit_eq n [120, 109, 112] ⟨#[120, 109, 112]⟩ (by decide +kernel)
  have q5 := lit_eq n [105, 102, 114, 97, 109, 101] ⟨#[105, 102, 114, 97, 109, 101]⟩ (by decide +kernel)
  have q6 := lit_eq n [110, 111, 101, 109, 98, 101, 100] ⟨#[110, 111, 101, 109, 98, 101, 100]⟩ (by decide +kernel)
  have q7 := lit_eq n [110, 111, 102, 114, 97, 109, 101, 115] ⟨#[110, 111, 102, 114, 97, 109, 101, 115]⟩ (by decide +kernel)
  go_enter Tryz.func25, Tryz.ntmps25
  by_cases d0 : n = ⟨#[116, 105, 116, 108, 101]⟩
  · rw [decide_eq_true d0] at q0
    have HV : Hid (rawC n = 1) := Lib.hid (by unfold rawC; rw [if_pos d0])
    clear d0
    go_wp2_with fail
    go_ret
    exact ⟨by rw [HV.out]; rfl, rfl⟩
  rw [decide_eq_false d0] at q0
  by_cases d1 : n = ⟨#[116, 101, 120, 116, 97, 114, 101, 97]⟩
  · rw [decide_eq_true d1] at q1
    have HV : Hid (rawC n = 1) := Lib.hid (by unfold rawC; rw [if_neg d0, if_pos d1])
    clear d0 d1
    go_wp2_with fail
    go_ret
    exact ⟨by rw [HV.out]; rfl, rfl⟩
  rw [decide_eq_false d1] at q1
  by_cases d2 : n = ⟨#[115, 116, 121, 108, 101]⟩
  · rw [decide_eq_true d2] at q2
    have HV : Hid (rawC n = 2) := Lib.hid (by unfold rawC; rw [if_neg d0, if_neg d1, if_pos d2])
    clear d0 d1 d2
    go_wp2_with fail
    go_ret
    exact ⟨by rw [HV.out]; rfl, rfl⟩
  rw [decide_eq_false d2] at q2
  by_cases d3 : n = ⟨#[115, 99, 114, 105, 112, 116]⟩
  · rw [decide_eq_true d3] at q3
    have HV : Hid (rawC n = 2) := Lib.hid (by unfold rawC; rw [if_neg d0, if_neg d1, if_neg d2, if_pos d3])
    clear d0 d1 d2 d3
    go_wp2_with fail
    go_ret
    exact ⟨by rw [HV.out]; rfl, rfl⟩
  rw [decide_eq_false d3] at q3
  by_cases d4 : n = ⟨#[120, 109, 112]⟩
  · rw [decide_eq_true d4] at q4
    have HV : Hid (rawC n = 2) := Lib.hid (by unfold rawC; rw [if_neg d0, if_neg d1, if_neg d2, if_neg d3, if_pos d4])
    clear d0 d1 d2 d3 d4
    go_wp2_with fail
    go_ret
    exact ⟨by rw [HV.out]; rfl, rfl⟩
  rw [decide_eq_false d4] at q4
  by_cases d5 : n = ⟨#[105, 102, 114, 97, 109, 101]⟩
  · rw [decide_eq_true d5] at q5
    have HV : Hid (rawC n = 2) := Lib.hid (by unfold rawC; rw [if_neg d0, if_neg d1, if_neg d2, if_neg d3, if_neg d4, if_pos d5])
    clear d0 d1 d2 d3 d4 d5
    go_wp2_with fail
    go_ret
    exact ⟨by rw [HV.out]; rfl, rfl⟩
  rw [decide_eq_false d5] at q5
  by_cases d6 : n = ⟨#[110, 111, 101, 109, 98, 101, 100]⟩
  · rw [decide_eq_true d6] at q6
    have HV : Hid (rawC n = 2) := Lib.hid (by unfold rawC; rw [if_neg d0, if_neg d1, if_neg d2, if_neg d3, if_neg d4, if_neg d5, if_pos d6])
    clear d0 d1 d2 d3 d4 d5 d6
    go_wp2_with fail
    go_ret
    exact ⟨by rw [HV.out]; rfl, rfl⟩
  rw [decide_eq_false d6] at q6
  by_cases d7 : n = ⟨#[110, 111, 102, 114, 97, 109, 101, 115]⟩
  · rw [decide_eq_true d7] at q7
    have HV : Hid (rawC n = 2) := Lib.hid (by unfold rawC; rw [if_neg d0, if_neg d1, if_neg d2, if_neg d3, if_neg d4, if_neg d5, if_neg d6, if_pos d7])
    clear d0 d1 d2 d3 d4 d5 d6 d7
    go_wp2_with fail
    go_ret
    exact ⟨by rw [HV.out]; rfl, rfl⟩
  rw [decide_eq_false d7] at q7
  have HV : Hid (rawC n = 0) := Lib.hid (by unfold rawC; rw [if_neg d0, if_neg d1, if_neg d2, if_neg d3, if_neg d4, if_neg d5, if_neg d6, if_neg d7])
  clear d0 d1 d2 d3 d4 d5 d6 d7
  go_wp2_with fail
  go_ret
  exact ⟨by rw [HV.out]; rfl, rfl⟩
end Go.Proofs.YtbdgoffbkenofaaGreat.Tk
