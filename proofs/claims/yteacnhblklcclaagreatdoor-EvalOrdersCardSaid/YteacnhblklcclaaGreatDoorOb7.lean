/-
  EvalOrders: the kernel runs the calls of the tables, part 7. No condition.
-/
import Derived.Test.YteacnhblklcclaaGreatDoorProg
import Derived.Test.YteacnhblklcclaaGreatDoorOa
import Derived.KernelRfl
namespace Go.Ab
open Go.Proofs
set_option maxRecDepth 1000000
theorem r_o18 (tab : Tabs) (num : Num) (txt : Txt) : comes Tryz.prog (gl tab num txt) [o17] o18 = true := by kernel_rfl
theorem r_o19e (tab : Tabs) (num : Num) (txt : Txt) : comes Tryz.prog (gl tab (numO false true false num) txt) [] o19e = true := by kernel_rfl
theorem r_o19g (tab : Tabs) (num : Num) (txt : Txt) : comes Tryz.prog (gl tab (numO false false true num) txt) [] o19g = true := by kernel_rfl
theorem r_o19l (tab : Tabs) (num : Num) (txt : Txt) : comes Tryz.prog (gl tab (numO true false false num) txt) [] o19l = true := by kernel_rfl
end Go.Ab
