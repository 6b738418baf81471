/-
  EvalTexts: the kernel runs the calls of the tables, part 9. No condition.
-/
import Derived.Test.YteacnhblklcclaaGreatDoorProg
import Derived.Test.YteacnhblklcclaaGreatDoorTa
import Derived.Test.YteacnhblklcclaaGreatDoorTb
import Derived.KernelRfl
namespace Go.Ab
open Go.Proofs
set_option maxRecDepth 1000000
theorem r_t30c : comes Tryz.prog (gl gtab (numT true false false true true false) (txtT true false false true true false)) [] t30c = true := by kernel_rfl
theorem r_t31c : comes Tryz.prog (gl gtab (numT true false false true true false) (txtT true false false true true false)) [t30c] t31c = true := by kernel_rfl
end Go.Ab
