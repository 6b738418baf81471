/-
  EvalOrders: the kernel runs the calls of the tables, part 10. No condition.
-/
import Derived.Test.YteacnhblklcclaaGreatDoorProg
import Derived.Test.YteacnhblklcclaaGreatDoorOa
import Derived.KernelRfl
namespace Go.Ab
open Go.Proofs
set_option maxRecDepth 1000000
theorem r_o25 (tab : Tabs) (num : Num) (txt : Txt) : comes Tryz.prog (gl tab num txt) [o24] o25 = true := by kernel_rfl
theorem r_o26 (tab : Tabs) (num : Num) (txt : Txt) : comes Tryz.prog (gl tab num txt) [o25] o26 = true := by kernel_rfl
theorem r_o27e (tab : Tabs) (num : Num) (txt : Txt) : comes Tryz.prog (gl tab (numO false true false num) txt) [] o27e = true := by kernel_rfl
end Go.Ab
