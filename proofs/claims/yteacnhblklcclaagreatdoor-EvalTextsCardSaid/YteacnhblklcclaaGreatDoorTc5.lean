/-
  EvalTexts: the kernel runs the calls of the tables, part 5. No condition.
-/
import Derived.Test.YteacnhblklcclaaGreatDoorProg
import Derived.Test.YteacnhblklcclaaGreatDoorTa
import Derived.Test.YteacnhblklcclaaGreatDoorTb
import Derived.KernelRfl
namespace Go.Ab
open Go.Proofs
set_option maxRecDepth 1000000
theorem r_t14m : comes Tryz.prog (gl gtab (numT false true false true false true) (txtT false true false true false true)) [t13m] t14m = true := by kernel_rfl
theorem r_t15 (num : Num) (txt : Txt) : comes Tryz.prog (gl gtab num txt) [] t15 = true := by kernel_rfl
theorem r_t16 (num : Num) (txt : Txt) : comes Tryz.prog (gl gtab num txt) [t15] t16 = true := by kernel_rfl
theorem r_t17 (num : Num) (txt : Txt) : comes Tryz.prog (gl gtab num txt) [] t17 = true := by kernel_rfl
theorem r_t18 (num : Num) (txt : Txt) : comes Tryz.prog (gl gtab num txt) [t17] t18 = true := by kernel_rfl
end Go.Ab
