/- topiarytop.TopMatch: cases of it, by the kernel. -/
import Derived.Test.YtioaigedcoapcaaGreatDoorAxGl
namespace Go.Ax
open Go Go.Proofs
set_option maxRecDepth 1000000
theorem s1_3 (n g : Int) : slotR 1 (stage2 n g 3) = .int .i64 g := by kernel_rfl
theorem s5_3 (n g : Int) : slotR 5 (stage2 n g 3) = .int .i64 5 := by kernel_rfl
theorem case_3_0 (n g : Int) : isT (endT (stage3 0 (stage2 n g 3))) = true := by kernel_rfl
theorem case_3_1 (n g : Int) : isT (endT (stage3 1 (stage2 n g 3))) = true := by kernel_rfl
theorem case_3_2 (n g : Int) : isT (endT (stage3 2 (stage2 n g 3))) = true := by kernel_rfl
theorem case_3_3 (n g : Int) : isT (endT (stage3 3 (stage2 n g 3))) = true := by kernel_rfl
theorem case_3_4 (n g : Int) : isT (endT (stage3 4 (stage2 n g 3))) = true := by kernel_rfl
end Go.Ax
