/- The table of blanks, off the row's condition. -/
import Derived.Lib.LaidTab
import Derived.Lib.LaidU8
import Derived.Test.YtbjcahhijfommaaDoorStk
namespace Go.Proofs.YtbjcahhijfommaaDoor.Tr
open Go Go.RowKit
set_option maxRecDepth 100000
theorem spTab_of {W : World} (h : Lib.VarReads Tryd.prog W "strings.asciiSpace" (Lib.tabData .u8 Lib.asciiSpaceTab)) : SpTab W := by
  obtain ⟨g, t, cs, fuel, p, h1, h2, h3, h4⟩ := h
  have hg : Tryd.prog.globalNamed "strings.asciiSpace" = some 0 := by kernel_rfl
  obtain rfl := Option.some.inj (hg.symm.trans h1)
  have ht : (Tryd.prog.globals[0]?).map (·.type) = some 105 := by kernel_rfl
  obtain rfl := Option.some.inj (ht.symm.trans h2)
  have ti : Lib.TabIs Tryd.prog W "strings.asciiSpace" .u8 Lib.asciiSpaceTab := by
    unfold Lib.TabIs
    rw [h3, ← Lib.cells_of_tab Tryd.underlying105 Tryd.underlying5 (by kernel_rfl) (by kernel_rfl) h4]
  intro c hc
  have := ti.cell hg c (by rw [Lib.asciiSpaceTab_length]; exact hc)
  rwa [Lib.asciiSpaceTab_at c hc] at this
end Go.Proofs.YtbjcahhijfommaaDoor.Tr
