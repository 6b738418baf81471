/-
  EvalTexts: the kernel runs the calls of the tables, part 6. No condition.
-/
import Derived.Test.YteacnhblklcclaaGreatDoorProg
import Derived.Test.YteacnhblklcclaaGreatDoorTa
import Derived.Test.YteacnhblklcclaaGreatDoorTb
import Derived.KernelRfl
namespace Go.Ab
open Go.Proofs
set_option maxRecDepth 1000000
theorem r_t19 (num : Num) (txt : Txt) : comes Tryz.prog (gl gtab num txt) [] t19 = true := by kernel_rfl
theorem r_t20 (num : Num) (txt : Txt) : comes Tryz.prog (gl gtab num txt) [t19] t20 = true := by kernel_rfl
theorem r_t21 (num : Num) (txt : Txt) : comes Tryz.prog (gl gtab num txt) [t16, t18, t20] t21 = true := by kernel_rfl
theorem r_t22l : comes Tryz.prog (gl gtab (numT false true true false false false) (txtT false true true false false false)) [] t22l = true := by kernel_rfl
theorem r_t23l : comes Tryz.prog (gl gtab (numT false true true false false false) (txtT false true true false false false)) [t22l] t23l = true := by kernel_rfl
end Go.Ab
