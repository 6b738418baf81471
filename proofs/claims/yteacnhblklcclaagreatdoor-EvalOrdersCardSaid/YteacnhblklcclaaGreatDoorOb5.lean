/-
  EvalOrders: the kernel runs the calls of the tables, part 5. No condition.
-/
import Derived.Test.YteacnhblklcclaaGreatDoorProg
import Derived.Test.YteacnhblklcclaaGreatDoorOa
import Derived.KernelRfl
namespace Go.Ab
open Go.Proofs
set_option maxRecDepth 1000000
theorem r_o13 (tab : Tabs) (num : Num) (txt : Txt) : comes Tryz.prog (gl tab num txt) [o12] o13 = true := by kernel_rfl
theorem r_o14g (tab : Tabs) (num : Num) (txt : Txt) : comes Tryz.prog (gl tab (numO false false true num) txt) [] o14g = true := by kernel_rfl
theorem r_o14l (tab : Tabs) (num : Num) (txt : Txt) : comes Tryz.prog (gl tab (numO true false false num) txt) [] o14l = true := by kernel_rfl
theorem r_o14e (tab : Tabs) (num : Num) (txt : Txt) : comes Tryz.prog (gl tab (numO false true false num) txt) [] o14e = true := by kernel_rfl
end Go.Ab
