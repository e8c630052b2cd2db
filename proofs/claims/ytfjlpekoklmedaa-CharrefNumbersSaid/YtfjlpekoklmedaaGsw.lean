/- strings' getStringWriter, of an appendSliceWriter: that itself. -/
import Derived.Test.YtfjlpekoklmedaaBuf
namespace Go.Proofs.Ytfjlpekoklmedaa.Gr
open Go Go.RowKit Go.Proofs.Ytfjlpekoklmedaa.Tr
set_option linter.unusedVariables false

theorem run_ta (p : Value) (w : World) : (Instr.typeAssert (.iface 154 p) 156 158 true).run Try.prog w = .ok (.tuple #[.iface 154 p, .bool true]) w := by kernel_rfl
theorem gsw_calls (b : Nat) (w : World) :
    Calls Try.prog 104 #[.iface 154 (.pointer (some ⟨b, 0, none⟩))] w fun e w' => e = .returned (.iface 154 (.pointer (some ⟨b, 0, none⟩))) ∧ w = w' := by
  have h1 := run_ta
  go_enter Try.func104, Try.ntmps104
  go_wp2_with fail
  go_ret
  exact ⟨rfl, rfl⟩
end Go.Proofs.Ytfjlpekoklmedaa.Gr
