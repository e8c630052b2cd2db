/- strings' getStringWriter, of an appendSliceWriter: that itself. -/
import Derived.Test.YtbjcahhijfommaaDoorBuf
namespace Go.Proofs.YtbjcahhijfommaaDoor.Gr
open Go Go.RowKit Go.Proofs.YtbjcahhijfommaaDoor.Tr
set_option linter.unusedVariables false

theorem run_ta (p : Value) (w : World) : (Instr.typeAssert (.iface 178 p) 180 182 true).run Tryd.prog w = .ok (.tuple #[.iface 178 p, .bool true]) w := by kernel_rfl
theorem gsw_calls (b : Nat) (w : World) :
    Calls Tryd.prog 106 #[.iface 178 (.pointer (some ⟨b, 0, none⟩))] w fun e w' => e = .returned (.iface 178 (.pointer (some ⟨b, 0, none⟩))) ∧ w = w' := by
  have h1 := run_ta
  go_enter Tryd.func106, Tryd.ntmps106
  go_wp2_with fail
  go_ret
  exact ⟨rfl, rfl⟩
end Go.Proofs.YtbjcahhijfommaaDoor.Gr
