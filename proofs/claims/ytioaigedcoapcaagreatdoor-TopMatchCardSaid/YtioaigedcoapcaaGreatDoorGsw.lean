/- strings' getStringWriter, of an appendSliceWriter: that itself. -/
import Derived.Test.YtioaigedcoapcaaGreatDoorBuf
namespace Go.Proofs.YtioaigedcoapcaaGreatDoor.Gr
open Go Go.RowKit Go.Proofs.YtioaigedcoapcaaGreatDoor.Tr
set_option linter.unusedVariables false

theorem run_ta (p : Value) (w : World) : (Instr.typeAssert (.iface 511 p) 513 515 true).run Tryz.prog w = .ok (.tuple #[.iface 511 p, .bool true]) w := by kernel_rfl
theorem gsw_calls (b : Nat) (w : World) :
    Calls Tryz.prog 486 #[.iface 511 (.pointer (some ⟨b, 0, none⟩))] w fun e w' => e = .returned (.iface 511 (.pointer (some ⟨b, 0, none⟩))) ∧ w = w' := by
  have h1 := run_ta
  go_enter Tryz.func486, Tryz.ntmps486
  go_wp2_with fail
  go_ret
  exact ⟨rfl, rfl⟩
end Go.Proofs.YtioaigedcoapcaaGreatDoor.Gr
