/-
  EvalOrders: the kernel runs the calls of the tables, part 9. No condition.
-/
import Derived.Test.YteacnhblklcclaaGreatDoorProg
import Derived.Test.YteacnhblklcclaaGreatDoorOa
import Derived.KernelRfl
namespace Go.Ab
open Go.Proofs
set_option maxRecDepth 1000000
theorem r_o22e (tab : Tabs) (num : Num) (txt : Txt) : comes Tryz.prog (gl tab (numO false true false num) txt) [] o22e = true := by kernel_rfl
theorem r_o23 (tab : Tabs) (num : Num) (txt : Txt) : comes Tryz.prog (gl tab num txt) [] o23 = true := by kernel_rfl
theorem r_o24 (tab : Tabs) (num : Num) (txt : Txt) : comes Tryz.prog (gl tab num txt) [] o24 = true := by kernel_rfl
end Go.Ab
