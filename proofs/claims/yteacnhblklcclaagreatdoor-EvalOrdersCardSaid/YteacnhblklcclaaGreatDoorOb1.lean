/-
  EvalOrders: the kernel runs the calls of the tables, part 1. No condition.
-/
import Derived.Test.YteacnhblklcclaaGreatDoorProg
import Derived.Test.YteacnhblklcclaaGreatDoorOa
import Derived.KernelRfl
namespace Go.Ab
open Go.Proofs
set_option maxRecDepth 1000000
theorem r_o3g (tab : Tabs) (num : Num) (txt : Txt) : comes Tryz.prog (gl tab (numO false false true num) txt) [] o3g = true := by kernel_rfl
theorem r_o3l (tab : Tabs) (num : Num) (txt : Txt) : comes Tryz.prog (gl tab (numO true false false num) txt) [] o3l = true := by kernel_rfl
theorem r_o4 (tab : Tabs) (num : Num) (txt : Txt) : comes Tryz.prog (gl tab num txt) [] o4 = true := by kernel_rfl
theorem r_o5 (tab : Tabs) (num : Num) (txt : Txt) : comes Tryz.prog (gl tab num txt) [] o5 = true := by kernel_rfl
end Go.Ab
