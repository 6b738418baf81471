/-
  EvalOrders: the kernel runs the calls of the tables, part 2. No condition.
-/
import Derived.Test.YteacnhblklcclaaGreatDoorProg
import Derived.Test.YteacnhblklcclaaGreatDoorOa
import Derived.KernelRfl
namespace Go.Ab
open Go.Proofs
set_option maxRecDepth 1000000
theorem r_o6g (tab : Tabs) (num : Num) (txt : Txt) : comes Tryz.prog (gl tab (numO false false true num) txt) [] o6g = true := by kernel_rfl
theorem r_o6l (tab : Tabs) (num : Num) (txt : Txt) : comes Tryz.prog (gl tab (numO true false false num) txt) [] o6l = true := by kernel_rfl
theorem r_o6e (tab : Tabs) (num : Num) (txt : Txt) : comes Tryz.prog (gl tab (numO false true false num) txt) [] o6e = true := by kernel_rfl
theorem r_o7 (tab : Tabs) (num : Num) (txt : Txt) : comes Tryz.prog (gl tab num txt) [] o7 = true := by kernel_rfl
end Go.Ab
