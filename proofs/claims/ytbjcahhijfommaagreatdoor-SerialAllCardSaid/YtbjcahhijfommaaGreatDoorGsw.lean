/- strings' getStringWriter, of an appendSliceWriter: that itself. -/
import Derived.Test.YtbjcahhijfommaaGreatDoorBuf
namespace Go.Proofs.YtbjcahhijfommaaGreatDoor.Gr
open Go Go.RowKit Go.Proofs.YtbjcahhijfommaaGreatDoor.Tr
set_option linter.unusedVariables false

theorem run_ta (p : Value) (w : World) : (Instr.typeAssert (.iface 173 p) 175 177 true).run Tryz.prog w = .ok (.tuple #[.iface 173 p, .bool true]) w := by kernel_rfl
theorem gsw_calls (b : Nat) (w : World) :
    Calls Tryz.prog 109 #[.iface 173 (.pointer (some ⟨b, 0, none⟩))] w fun e w' => e = .returned (.iface 173 (.pointer (some ⟨b, 0, none⟩))) ∧ w = w' := by
  have h1 := run_ta
  go_enter Tryz.func109, Tryz.ntmps109
  go_wp2_with fail
  go_ret
  exact ⟨rfl, rfl⟩
end Go.Proofs.YtbjcahhijfommaaGreatDoor.Gr
