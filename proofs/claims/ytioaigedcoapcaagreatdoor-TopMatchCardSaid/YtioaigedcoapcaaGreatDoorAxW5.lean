/- topiarytop.TopMatch: cases of it, by the kernel. -/
import Derived.Test.YtioaigedcoapcaaGreatDoorAxGl
namespace Go.Ax
open Go Go.Proofs
set_option maxRecDepth 1000000
theorem case_4_3 (n g : Int) : isT (endT (stage3 3 (stage2 n g 4))) = true := by kernel_rfl
theorem case_4_4 (n g : Int) : isT (endT (stage3 4 (stage2 n g 4))) = true := by kernel_rfl
theorem case_4_5 (n g : Int) : isT (endT (stage3 5 (stage2 n g 4))) = true := by kernel_rfl
end Go.Ax
