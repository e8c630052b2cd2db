/- Digits and numbers, by the program and by the document. -/
import Derived.Test.YtfjlpekoklmedaaStr
import Derived.IntWalk
namespace Go.Proofs.Ytfjlpekoklmedaa.Ch
open Go Go.RowKit Go.Proofs.Ytfjlpekoklmedaa.Sr
set_option linter.unusedVariables false

/-- A digit's number; below 0: it is none. -/
def digI (c : Nat) (hex : Bool) : Int :=
  if 48 ≤ c ∧ c ≤ 57 then (c : Int) - 48 else if hex = true ∧ 97 ≤ c ∧ c ≤ 102 then (c : Int) - 87 else if hex = true ∧ 65 ≤ c ∧ c ≤ 70 then (c : Int) - 55 else -1
def baseI (hex : Bool) : Int := cond hex 16 10
theorem dig_1 {c : Nat} (hex : Bool) (h : 48 ≤ c) (h2 : c ≤ 57) : digI c hex = (c : Int) - 48 := if_pos ⟨h, h2⟩
theorem dig_2 {c : Nat} (h : 97 ≤ c) (h2 : c ≤ 102) : digI c true = (c : Int) - 87 := by unfold digI; rw [if_neg (by omega), if_pos ⟨rfl, h, h2⟩]
theorem dig_3 {c : Nat} (h : 65 ≤ c) (h2 : c ≤ 70) : digI c true = (c : Int) - 55 := by unfold digI; rw [if_neg (by omega), if_neg (by omega), if_pos ⟨rfl, h, h2⟩]
theorem dig_no {c : Nat} (hex : Bool) (h : c < 48 ∨ 57 < c) (h2 : hex = false ∨ ((c < 97 ∨ 102 < c) ∧ (c < 65 ∨ 70 < c))) : digI c hex = -1 := by
  unfold digI
  rw [if_neg (by omega), if_neg, if_neg]
  · rintro ⟨rfl, _⟩; rcases h2 with h2 | h2
    · cases h2
    · omega
  · rintro ⟨rfl, _⟩; rcases h2 with h2 | h2
    · cases h2
    · omega
theorem dig_bd (c : Nat) (hex : Bool) : -1 ≤ digI c hex ∧ digI c hex ≤ 15 := by
  unfold digI
  repeat' split
  all_goals omega
theorem dig_cases (c : Nat) (hex : Bool) : (48 ≤ c ∧ c ≤ 57) ∨ (hex = true ∧ 97 ≤ c ∧ c ≤ 102) ∨ (hex = true ∧ 65 ≤ c ∧ c ≤ 70) ∨ ((c < 48 ∨ 57 < c) ∧ hex = false) ∨ ((c < 48 ∨ 57 < c) ∧ hex = true ∧ (c < 97 ∨ 102 < c) ∧ (c < 65 ∨ 70 < c)) := by
  cases hex <;> simp <;> omega
attribute [irreducible] digI
theorem digit_calls (c : Nat) (hc : c < 256) (hex : Bool) (w : World) :
    Calls Try.prog 44 #[.int .u8 c, .int .i64 (baseI hex)] w fun e w' => e = .returned (.int .i64 (digI c hex)) ∧ w = w' := by
  rcases dig_cases c hex with ⟨h1, h2⟩ | ⟨rfl, h1, h2⟩ | ⟨rfl, h1, h2⟩ | ⟨h1, rfl⟩ | ⟨h1, rfl, h2, h3⟩
  · have H := Lib.hid (dig_1 hex h1 h2)
    generalize baseI hex = b
    go_enter Try.func44, Try.ntmps44
    go_wp2_with fail
    go_ret
    exact ⟨ret_int (by rw [H.out]), rfl⟩
  · have H := Lib.hid (dig_2 h1 h2)
    unfold baseI
    go_enter Try.func44, Try.ntmps44
    go_wp2_with fail
    go_ret
    exact ⟨ret_int (by rw [H.out]; omega), rfl⟩
  · have H := Lib.hid (dig_3 h1 h2)
    unfold baseI
    go_enter Try.func44, Try.ntmps44
    go_wp2_with fail
    go_ret
    exact ⟨ret_int (by rw [H.out]; omega), rfl⟩
  · have H := Lib.hid (dig_no false h1 (.inl rfl))
    unfold baseI
    rcases h1 with h1 | h1
    all_goals
      go_enter Try.func44, Try.ntmps44
      go_wp2_with fail
      go_ret
      exact ⟨ret_int (by rw [H.out]), rfl⟩
  · have H := Lib.hid (dig_no true h1 (.inr ⟨h2, h3⟩))
    unfold baseI
    go_enter Try.func44, Try.ntmps44
    go_wp2_with fail
    all_goals first | (go_ret; exact ⟨ret_int (by rw [H.out]), rfl⟩) | (exfalso; omega)
theorem rdigit_calls (c : Nat) (hc : c < 256) (hex : Bool) (w : World) :
    Calls Try.prog 35 #[.int .u8 c, .bool hex] w fun e w' => e = .returned (.int .i64 (digI c hex)) ∧ w = w' := by
  rcases dig_cases c hex with ⟨h1, h2⟩ | ⟨rfl, h1, h2⟩ | ⟨rfl, h1, h2⟩ | ⟨h1, rfl⟩ | ⟨h1, rfl, h2, h3⟩
  · have H := Lib.hid (dig_1 hex h1 h2)
    go_enter Try.func35, Try.ntmps35
    go_wp2_with fail
    go_ret
    exact ⟨ret_int (by rw [H.out]), rfl⟩
  · have H := Lib.hid (dig_2 h1 h2)
    go_enter Try.func35, Try.ntmps35
    go_wp2_with fail
    go_ret
    exact ⟨ret_int (by rw [H.out]; omega), rfl⟩
  · have H := Lib.hid (dig_3 h1 h2)
    go_enter Try.func35, Try.ntmps35
    go_wp2_with fail
    go_ret
    exact ⟨ret_int (by rw [H.out]; omega), rfl⟩
  · have H := Lib.hid (dig_no false h1 (.inl rfl))
    rcases h1 with h1 | h1
    all_goals
      go_enter Try.func35, Try.ntmps35
      go_wp2_with fail
      go_ret
      exact ⟨ret_int (by rw [H.out]), rfl⟩
  · have H := Lib.hid (dig_no true h1 (.inr ⟨h2, h3⟩))
    go_enter Try.func35, Try.ntmps35
    go_wp2_with fail
    all_goals first | (go_ret; exact ⟨ret_int (by rw [H.out]), rfl⟩) | (exfalso; omega)
end Go.Proofs.Ytfjlpekoklmedaa.Ch
