/- topiarytop.TopMatch: cases of it, by the kernel. -/
import Derived.Test.YtioaigedcoapcaaGreatDoorAxGl
namespace Go.Ax
open Go Go.Proofs
set_option maxRecDepth 1000000
theorem case_5_4 (n g : Int) : isT (endT (stage3 4 (stage2 n g 5))) = true := by kernel_rfl
theorem case_5_5 (n g : Int) : isT (endT (stage3 5 (stage2 n g 5))) = true := by kernel_rfl
theorem case_5_6 (n g : Int) : isT (endT (stage3 6 (stage2 n g 5))) = true := by kernel_rfl
end Go.Ax
