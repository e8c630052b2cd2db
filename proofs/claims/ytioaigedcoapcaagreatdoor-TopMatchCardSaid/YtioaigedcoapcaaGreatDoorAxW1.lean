/- topiarytop.TopMatch: cases of it, by the kernel. -/
import Derived.Test.YtioaigedcoapcaaGreatDoorAxGl
namespace Go.Ax
open Go Go.Proofs
set_option maxRecDepth 1000000
theorem s1_0 (n g : Int) : slotR 1 (stage2 n g 0) = .int .i64 g := by kernel_rfl
theorem s5_0 (n g : Int) : slotR 5 (stage2 n g 0) = .int .i64 2 := by kernel_rfl
theorem case_0_0 (n g : Int) : isT (endT (stage3 0 (stage2 n g 0))) = true := by kernel_rfl
theorem case_0_1 (n g : Int) : isT (endT (stage3 1 (stage2 n g 0))) = true := by kernel_rfl
theorem s1_1 (n g : Int) : slotR 1 (stage2 n g 1) = .int .i64 g := by kernel_rfl
theorem s5_1 (n g : Int) : slotR 5 (stage2 n g 1) = .int .i64 3 := by kernel_rfl
theorem case_1_0 (n g : Int) : isT (endT (stage3 0 (stage2 n g 1))) = true := by kernel_rfl
theorem case_1_1 (n g : Int) : isT (endT (stage3 1 (stage2 n g 1))) = true := by kernel_rfl
theorem case_1_2 (n g : Int) : isT (endT (stage3 2 (stage2 n g 1))) = true := by kernel_rfl
end Go.Ax
