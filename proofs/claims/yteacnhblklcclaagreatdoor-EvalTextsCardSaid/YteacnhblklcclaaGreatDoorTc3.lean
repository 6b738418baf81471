/-
  EvalTexts: the kernel runs the calls of the tables, part 3. No condition.
-/
import Derived.Test.YteacnhblklcclaaGreatDoorProg
import Derived.Test.YteacnhblklcclaaGreatDoorTa
import Derived.Test.YteacnhblklcclaaGreatDoorTb
import Derived.KernelRfl
namespace Go.Ab
open Go.Proofs
set_option maxRecDepth 1000000
theorem r_t9 (num : Num) (txt : Txt) : comes Tryz.prog (gl gtab num txt) [] t9 = true := by kernel_rfl
theorem r_t10 (num : Num) (txt : Txt) : comes Tryz.prog (gl gtab num txt) [t8, t9] t10 = true := by kernel_rfl
end Go.Ab
