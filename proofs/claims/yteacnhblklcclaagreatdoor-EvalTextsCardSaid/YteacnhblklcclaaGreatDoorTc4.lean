/-
  EvalTexts: the kernel runs the calls of the tables, part 4. No condition.
-/
import Derived.Test.YteacnhblklcclaaGreatDoorProg
import Derived.Test.YteacnhblklcclaaGreatDoorTa
import Derived.Test.YteacnhblklcclaaGreatDoorTb
import Derived.KernelRfl
namespace Go.Ab
open Go.Proofs
set_option maxRecDepth 1000000
theorem r_t11 (num : Num) (txt : Txt) : comes Tryz.prog (gl gtab num txt) [t6, t7, t10] t11 = true := by kernel_rfl
theorem r_t12 (num : Num) (txt : Txt) : comes Tryz.prog (gl gtab num txt) [t11] t12 = true := by kernel_rfl
theorem r_t13m : comes Tryz.prog (gl gtab (numT false true false true false true) (txtT false true false true false true)) [] t13m = true := by kernel_rfl
end Go.Ab
