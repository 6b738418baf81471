/-
  EvalTexts: the kernel runs the calls of the tables, part 0. No condition.
-/
import Derived.Test.YteacnhblklcclaaGreatDoorProg
import Derived.Test.YteacnhblklcclaaGreatDoorTa
import Derived.Test.YteacnhblklcclaaGreatDoorTb
import Derived.KernelRfl
namespace Go.Ab
open Go.Proofs
set_option maxRecDepth 1000000
theorem r_t0 (num : Num) (txt : Txt) : comes Tryz.prog (gl gtab num txt) [] t0 = true := by kernel_rfl
theorem r_t1 (num : Num) (txt : Txt) : comes Tryz.prog (gl gtab num txt) [] t1 = true := by kernel_rfl
theorem r_t2 (num : Num) (txt : Txt) : comes Tryz.prog (gl gtab num txt) [] t2 = true := by kernel_rfl
end Go.Ab
