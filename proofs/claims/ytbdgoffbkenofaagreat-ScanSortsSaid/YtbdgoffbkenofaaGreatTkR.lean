/- token.Raw. -/
import Derived.Test.YtbdgoffbkenofaaGreatTkp
import Derived.WalkKit
namespace Go.Proofs.YtbdgoffbkenofaaGreat.Tk
open Go Go.RowKit
set_option linter.unusedVariables false
/-- token.Raw by its chain of questions. -/
def rawC (n : ByteArray) : Int :=
  if n = ⟨#[116, 105, 116, 108, 101]⟩ then 1 else
  if n = ⟨#[116, 101, 120, 116, 97, 114, 101, 97]⟩ then 1 else
  if n = ⟨#[115, 116, 121, 108, 101]⟩ then 2 else
  if n = ⟨#[115, 99, 114, 105, 112, 116]⟩ then 2 else
  if n = ⟨#[120, 109, 112]⟩ then 2 else
  if n = ⟨#[105, 102, 114, 97, 109, 101]⟩ then 2 else
  if n = ⟨#[110, 111, 101, 109, 98, 101, 100]⟩ then 2 else
  if n = ⟨#[110, 111, 102, 114, 97, 109, 101, 115]⟩ then 2 else
  0
theorem rawC_eq (n : ByteArray) : rawC n = rawP n := by
  unfold rawC rawP titN rawN
  simp only [List.any_cons, List.any_nil, Bool.or_false, Bool.or_eq_true, decide_eq_true_eq]
  repeat' split
  all_goals simp_all
attribute [irreducible] rawC
theorem lit_eq (n : ByteArray) (l : List UInt8) (x : ByteArray) (h : x.toList = l) : (n.toList == l) = decide (n = x) := h ▸ Sr.str_eq n x
set_option maxHeartbeats 4000000 in
set_option maxRecDepth 100000 in
theorem raw_calls (n : ByteArray) (w : World) : Calls Tryz.prog 38 #[.string n] w fun e w' => e = .returned (.int .i64 (rawP n)) ∧ w' = w := by
  rw [← rawC_eq]
  have q0 := lit_eq n [116, 105, 116, 108, 101] ⟨#[116, 105, 116, 108, 101]⟩ (by decide +kernel)
  have q1 := lit_eq n [116, 101, 120, 116, 97, 114, 101, 97] ⟨#[116, 101, 120, 116, 97, 114, 101, 97]⟩ (by decide +kernel)
  have q2 := lit_eq n [115, 116, 121, 108, 101] ⟨#[115, 116, 121, 108, 101]⟩ (by decide +kernel)
  have q3 := lit_eq n [115, 99, 114, 105, 112, 116] ⟨#[115, 99, 114, 105, 112, 116]⟩ (by decide +kernel)
  have q4 := lit_eq n [120, 109, 112] ⟨#[120, 109, 112]⟩ (by decide +kernel)
  have q5 := lit_eq n [105, 102, 114, 97, 109, 101] ⟨#[105, 102, 114, 97, 109, 101]⟩ (by decide +kernel)
  have q6 := lit_eq n [110, 111, 101, 109, 98, 101, 100] ⟨#[110, 111, 101, 109, 98, 101, 100]⟩ (by decide +kernel)
  have q7 := lit_eq n [110, 111, 102, 114, 97, 109, 101, 115] ⟨#[110, 111, 102, 114, 97, 109, 101, 115]⟩ (by decide +kernel)
  go_enter Tryz.func38, Tryz.ntmps38
  by_cases d0 : n = ⟨#[116, 105, 116, 108, 101]⟩
  · rw [decide_eq_true d0] at q0
    have HV : Hid (rawC n = 1) := Lib.hid (by unfold rawC; rw [if_pos d0])
    clear d0
    go_wp2_with fail
    go_ret
    exact ⟨by rw [HV.out]; rfl, rfl⟩
  rw [decide_eq_false d0] at q0
  by_cases d1 : n = ⟨#[116, 101, 120, 116, 97, 114, 101, 97]⟩
  · rw [decide_eq_true d1] at q1
    have HV : Hid (rawC n = 1) := Lib.hid (by unfold rawC; rw [if_neg d0, if_pos d1])
    clear d0 d1
    go_wp2_with fail
    go_ret
    exact ⟨by rw [HV.out]; rfl, rfl⟩
  rw [decide_eq_false d1] at q1
  by_cases d2 : n = ⟨#[115, 116, 121, 108, 101]⟩
  · rw [decide_eq_true d2] at q2
    have HV : Hid (rawC n = 2) := Lib.hid (by unfold rawC; rw [if_neg d0, if_neg d1, if_pos d2])
    clear d0 d1 d2
    go_wp2_with fail
    go_ret
    exact ⟨by rw [HV.out]; rfl, rfl⟩
  rw [decide_eq_false d2] at q2
  by_cases d3 : n = ⟨#[115, 99, 114, 105, 112, 116]⟩
  · rw [decide_eq_true d3] at q3
    have HV : Hid (rawC n = 2) := Lib.hid (by unfold rawC; rw [if_neg d0, if_neg d1, if_neg d2, if_pos d3])
    clear d0 d1 d2 d3
    go_wp2_with fail
    go_ret
    exact ⟨by rw [HV.out]; rfl, rfl⟩
  rw [decide_eq_false d3] at q3
  by_cases d4 : n = ⟨#[120, 109, 112]⟩
  · rw [decide_eq_true d4] at q4
    have HV : Hid (rawC n = 2) := Lib.hid (by unfold rawC; rw [if_neg d0, if_neg d1, if_neg d2, if_neg d3, if_pos d4])
    clear d0 d1 d2 d3 d4
    go_wp2_with fail
    go_ret
    exact ⟨by rw [HV.out]; rfl, rfl⟩
  rw [decide_eq_false d4] at q4
  by_cases d5 : n = ⟨#[105, 102, 114, 97, 109, 101]⟩
  · rw [decide_eq_true d5] at q5
    have HV : Hid (rawC n = 2) := Lib.hid (by unfold rawC; rw [if_neg d0, if_neg d1, if_neg d2, if_neg d3, if_neg d4, if_pos d5])
    clear d0 d1 d2 d3 d4 d5
    go_wp2_with fail
    go_ret
    exact ⟨by rw [HV.out]; rfl, rfl⟩
  rw [decide_eq_false d5] at q5
  by_cases d6 : n = ⟨#[110, 111, 101, 109, 98, 101, 100]⟩
  · rw [decide_eq_true d6] at q6
    have HV : Hid (rawC n = 2) := Lib.hid (by unfold rawC; rw [if_neg d0, if_neg d1, if_neg d2, if_neg d3, if_neg d4, if_neg d5, if_pos d6])
    clear d0 d1 d2 d3 d4 d5 d6
    go_wp2_with fail
    go_ret
    exact ⟨by rw [HV.out]; rfl, rfl⟩
  rw [decide_eq_false d6] at q6
  by_cases d7 : n = ⟨#[110, 111, 102, 114, 97, 109, 101, 115]⟩
  · rw [decide_eq_true d7] at q7
    have HV : Hid (rawC n = 2) := Lib.hid (by unfold rawC; rw [if_neg d0, if_neg d1, if_neg d2, if_neg d3, if_neg d4, if_neg d5, if_neg d6, if_pos d7])
    clear d0 d1 d2 d3 d4 d5 d6 d7
    go_wp2_with fail
    go_ret
    exact ⟨by rw [HV.out]; rfl, rfl⟩
  rw [decide_eq_false d7] at q7
  have HV : Hid (rawC n = 0) := Lib.hid (by unfold rawC; rw [if_neg d0, if_neg d1, if_neg d2, if_neg d3, if_neg d4, if_neg d5, if_neg d6, if_neg d7])
  clear d0 d1 d2 d3 d4 d5 d6 d7
  go_wp2_with fail
  go_ret
  exact ⟨by rw [HV.out]; rfl, rfl⟩
end Go.Proofs.YtbdgoffbkenofaaGreat.Tk
