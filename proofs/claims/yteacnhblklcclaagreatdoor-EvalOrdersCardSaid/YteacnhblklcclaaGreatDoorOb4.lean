/-
  EvalOrders: the kernel runs the calls of the tables, part 4. No condition.
-/
import Derived.Test.YteacnhblklcclaaGreatDoorProg
import Derived.Test.YteacnhblklcclaaGreatDoorOa
import Derived.KernelRfl
namespace Go.Ab
open Go.Proofs
set_option maxRecDepth 1000000
theorem r_o10 (tab : Tabs) (num : Num) (txt : Txt) : comes Tryz.prog (gl tab num txt) [] o10 = true := by kernel_rfl
theorem r_o11 (tab : Tabs) (num : Num) (txt : Txt) : comes Tryz.prog (gl tab num txt) [] o11 = true := by kernel_rfl
theorem r_o12 (tab : Tabs) (num : Num) (txt : Txt) : comes Tryz.prog (gl tab num txt) [o11] o12 = true := by kernel_rfl
end Go.Ab
