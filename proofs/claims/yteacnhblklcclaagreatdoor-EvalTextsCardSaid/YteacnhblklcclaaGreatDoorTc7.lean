/-
  EvalTexts: the kernel runs the calls of the tables, part 7. No condition.
-/
import Derived.Test.YteacnhblklcclaaGreatDoorProg
import Derived.Test.YteacnhblklcclaaGreatDoorTa
import Derived.Test.YteacnhblklcclaaGreatDoorTb
import Derived.KernelRfl
namespace Go.Ab
open Go.Proofs
set_option maxRecDepth 1000000
theorem r_t24h : comes Tryz.prog (gl gtab (numT false false false true true false) (txtT false false false true true false)) [] t24h = true := by kernel_rfl
theorem r_t25h : comes Tryz.prog (gl gtab (numT false false false true true false) (txtT false false false true true false)) [t24h] t25h = true := by kernel_rfl
theorem r_t26a : comes Tryz.prog (gl gtab (numT true true true false false false) (txtT true true true false false false)) [] t26a = true := by kernel_rfl
end Go.Ab
