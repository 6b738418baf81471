/-
  EvalOrders: the kernel runs the calls of the tables, part 8. No condition.
-/
import Derived.Test.YteacnhblklcclaaGreatDoorProg
import Derived.Test.YteacnhblklcclaaGreatDoorOa
import Derived.KernelRfl
namespace Go.Ab
open Go.Proofs
set_option maxRecDepth 1000000
theorem r_o20 (tab : Tabs) (num : Num) (txt : Txt) : comes Tryz.prog (gl tab num txt) [] o20 = true := by kernel_rfl
theorem r_o21 (tab : Tabs) (num : Num) (txt : Txt) : comes Tryz.prog (gl tab num txt) [] o21 = true := by kernel_rfl
theorem r_o22g (tab : Tabs) (num : Num) (txt : Txt) : comes Tryz.prog (gl tab (numO false false true num) txt) [] o22g = true := by kernel_rfl
theorem r_o22l (tab : Tabs) (num : Num) (txt : Txt) : comes Tryz.prog (gl tab (numO true false false num) txt) [] o22l = true := by kernel_rfl
end Go.Ab
