/-
  EvalInts: the kernel runs the calls of the tables, part 2. No condition.
-/
import Derived.Test.YteacnhblklcclaaGreatDoorProg
import Derived.Test.YteacnhblklcclaaGreatDoorIa
import Derived.KernelRfl
namespace Go.Ab
open Go.Proofs
set_option maxRecDepth 1000000
theorem r_i8 (tab : Tabs) (num : Num) (txt : Txt) : comes Tryz.prog (gl tab num txt) [] i8 = true := by kernel_rfl
theorem r_i9 (tab : Tabs) (num : Num) (txt : Txt) : comes Tryz.prog (gl tab num txt) [] i9 = true := by kernel_rfl
theorem r_i10 (tab : Tabs) (num : Num) (txt : Txt) : comes Tryz.prog (gl tab num txt) [] i10 = true := by kernel_rfl
end Go.Ab
