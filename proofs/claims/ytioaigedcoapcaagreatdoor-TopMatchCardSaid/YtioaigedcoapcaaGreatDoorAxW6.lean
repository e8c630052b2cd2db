/- topiarytop.TopMatch: cases of it, by the kernel. -/
import Derived.Test.YtioaigedcoapcaaGreatDoorAxGl
namespace Go.Ax
open Go Go.Proofs
set_option maxRecDepth 1000000
theorem s1_5 (n g : Int) : slotR 1 (stage2 n g 5) = .int .i64 g := by kernel_rfl
theorem s5_5 (n g : Int) : slotR 5 (stage2 n g 5) = .int .i64 7 := by kernel_rfl
theorem case_5_0 (n g : Int) : isT (endT (stage3 0 (stage2 n g 5))) = true := by kernel_rfl
theorem case_5_1 (n g : Int) : isT (endT (stage3 1 (stage2 n g 5))) = true := by kernel_rfl
theorem case_5_2 (n g : Int) : isT (endT (stage3 2 (stage2 n g 5))) = true := by kernel_rfl
theorem case_5_3 (n g : Int) : isT (endT (stage3 3 (stage2 n g 5))) = true := by kernel_rfl
end Go.Ax
