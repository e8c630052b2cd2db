/- The laws' own example (charref). -/
import Derived.Test.YtfjlpekoklmedaaDecW
import Derived.Test.YtfjlpekoklmedaaRdec
namespace Go.Proofs.Ytfjlpekoklmedaa.Ch
open Go Go.RowKit Go.Proofs.Ytfjlpekoklmedaa.Sr Go.Proofs.Ytfjlpekoklmedaa.Ct Go.Proofs.Ytfjlpekoklmedaa.Gr
set_option linter.unusedVariables false
set_option maxRecDepth 100000

theorem aw_1 : refI ⟨#[38, 110, 111, 116, 105, 116]⟩ ((0 : Nat) : Int) false = (⟨#[194, 172]⟩, 4) := by decide +kernel
theorem aw_2 : refI ⟨#[38, 110, 111, 116, 105, 116]⟩ ((0 : Nat) : Int) true = (⟨#[38]⟩, 1) := by decide +kernel
theorem aw_3 : escB false ⟨#[60]⟩ = ⟨#[38, 108, 116, 59]⟩ := by decide +kernel
theorem cawake_calls (w : World) : Calls Try.prog 23 #[] w fun e w' => e = .returned (.bool true) ∧ Below w.heap.size w w' := by
  have R1 := Lib.hid (ref_as _ ref_all ⟨#[38, 110, 111, 116, 105, 116]⟩ (by decide) 0 (by decide) false _ _ aw_1)
  have R2 := Lib.hid (ref_as _ ref_all ⟨#[38, 110, 111, 116, 105, 116]⟩ (by decide) 0 (by decide) true _ _ aw_2)
  go_enter Try.func23, Try.ntmps23
  go_wp2_with fail
  refine (R1.out _).mono ?_
  rintro e w1 ⟨rfl, hb⟩
  have HB1 := Lib.hid hb
  clear hb
  go_wp2_with fail
  refine (R2.out _).mono ?_
  rintro e w2 ⟨rfl, hb⟩
  have HB2 := Lib.hid (HB1.out.trans (hb.mono HB1.out.size))
  clear hb
  go_wp2_with fail
  refine (escape_calls ⟨#[60]⟩ false (by decide) _).mono ?_
  rintro e w3 ⟨rfl, hb⟩
  have HB3 := Lib.hid (HB2.out.trans (hb.mono HB2.out.size))
  rw [aw_3]
  clear hb
  go_wp2_with fail
  go_ret
  exact ⟨rfl, HB3.out⟩
end Go.Proofs.Ytfjlpekoklmedaa.Ch
