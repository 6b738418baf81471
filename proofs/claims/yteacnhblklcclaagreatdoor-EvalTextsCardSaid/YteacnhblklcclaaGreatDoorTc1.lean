/-
  EvalTexts: the kernel runs the calls of the tables, part 1. No condition.
-/
import Derived.Test.YteacnhblklcclaaGreatDoorProg
import Derived.Test.YteacnhblklcclaaGreatDoorTa
import Derived.Test.YteacnhblklcclaaGreatDoorTb
import Derived.KernelRfl
namespace Go.Ab
open Go.Proofs
set_option maxRecDepth 1000000
theorem r_t3 (num : Num) (txt : Txt) : comes Tryz.prog (gl gtab num txt) [t2] t3 = true := by kernel_rfl
theorem r_t4 (num : Num) (txt : Txt) : comes Tryz.prog (gl gtab num txt) [t1, t3] t4 = true := by kernel_rfl
theorem r_t5 (num : Num) (txt : Txt) : comes Tryz.prog (gl gtab num txt) [t4] t5 = true := by kernel_rfl
theorem r_t6 (num : Num) (txt : Txt) : comes Tryz.prog (gl gtab num txt) [] t6 = true := by kernel_rfl
end Go.Ab
