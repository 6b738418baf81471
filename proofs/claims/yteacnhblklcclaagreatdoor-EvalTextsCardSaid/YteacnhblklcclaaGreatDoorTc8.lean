/-
  EvalTexts: the kernel runs the calls of the tables, part 8. No condition.
-/
import Derived.Test.YteacnhblklcclaaGreatDoorProg
import Derived.Test.YteacnhblklcclaaGreatDoorTa
import Derived.Test.YteacnhblklcclaaGreatDoorTb
import Derived.KernelRfl
namespace Go.Ab
open Go.Proofs
set_option maxRecDepth 1000000
theorem r_t27a : comes Tryz.prog (gl gtab (numT true true true false false false) (txtT true true true false false false)) [t26a] t27a = true := by kernel_rfl
theorem r_t28b : comes Tryz.prog (gl gtab (numT true false true false true false) (txtT true false true false true false)) [] t28b = true := by kernel_rfl
theorem r_t29b : comes Tryz.prog (gl gtab (numT true false true false true false) (txtT true false true false true false)) [t28b] t29b = true := by kernel_rfl
end Go.Ab
