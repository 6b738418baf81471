/-
  EvalOrders: the kernel runs the calls of the tables, part 6. No condition.
-/
import Derived.Test.YteacnhblklcclaaGreatDoorProg
import Derived.Test.YteacnhblklcclaaGreatDoorOa
import Derived.KernelRfl
namespace Go.Ab
open Go.Proofs
set_option maxRecDepth 1000000
theorem r_o15 (tab : Tabs) (num : Num) (txt : Txt) : comes Tryz.prog (gl tab num txt) [] o15 = true := by kernel_rfl
theorem r_o16 (tab : Tabs) (num : Num) (txt : Txt) : comes Tryz.prog (gl tab num txt) [] o16 = true := by kernel_rfl
theorem r_o17 (tab : Tabs) (num : Num) (txt : Txt) : comes Tryz.prog (gl tab num txt) [o16] o17 = true := by kernel_rfl
end Go.Ab
