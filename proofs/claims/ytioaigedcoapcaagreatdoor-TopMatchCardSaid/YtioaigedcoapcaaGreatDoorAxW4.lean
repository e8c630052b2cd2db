/- topiarytop.TopMatch: cases of it, by the kernel. -/
import Derived.Test.YtioaigedcoapcaaGreatDoorAxGl
namespace Go.Ax
open Go Go.Proofs
set_option maxRecDepth 1000000
theorem s1_4 (n g : Int) : slotR 1 (stage2 n g 4) = .int .i64 g := by kernel_rfl
theorem s5_4 (n g : Int) : slotR 5 (stage2 n g 4) = .int .i64 6 := by kernel_rfl
theorem case_4_0 (n g : Int) : isT (endT (stage3 0 (stage2 n g 4))) = true := by kernel_rfl
theorem case_4_1 (n g : Int) : isT (endT (stage3 1 (stage2 n g 4))) = true := by kernel_rfl
theorem case_4_2 (n g : Int) : isT (endT (stage3 2 (stage2 n g 4))) = true := by kernel_rfl
end Go.Ax
