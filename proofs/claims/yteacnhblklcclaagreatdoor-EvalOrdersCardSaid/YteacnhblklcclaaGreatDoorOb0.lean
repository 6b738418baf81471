/-
  EvalOrders: the kernel runs the calls of the tables, part 0. No condition.
-/
import Derived.Test.YteacnhblklcclaaGreatDoorProg
import Derived.Test.YteacnhblklcclaaGreatDoorOa
import Derived.KernelRfl
namespace Go.Ab
open Go.Proofs
set_option maxRecDepth 1000000
theorem r_o0 (tab : Tabs) (num : Num) (txt : Txt) : comes Tryz.prog (gl tab num txt) [] o0 = true := by kernel_rfl
theorem r_o1 (tab : Tabs) (num : Num) (txt : Txt) : comes Tryz.prog (gl tab num txt) [] o1 = true := by kernel_rfl
theorem r_o2 (tab : Tabs) (num : Num) (txt : Txt) : comes Tryz.prog (gl tab num txt) [] o2 = true := by kernel_rfl
theorem r_o3e (tab : Tabs) (num : Num) (txt : Txt) : comes Tryz.prog (gl tab (numO false true false num) txt) [] o3e = true := by kernel_rfl
end Go.Ab
