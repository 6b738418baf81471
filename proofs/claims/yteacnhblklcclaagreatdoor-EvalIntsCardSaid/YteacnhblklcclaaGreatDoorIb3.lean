/-
  EvalInts: the kernel runs the calls of the tables, part 3. No condition.
-/
import Derived.Test.YteacnhblklcclaaGreatDoorProg
import Derived.Test.YteacnhblklcclaaGreatDoorIa
import Derived.KernelRfl
namespace Go.Ab
open Go.Proofs
set_option maxRecDepth 1000000
theorem r_i11 (tab : Tabs) (num : Num) (txt : Txt) : comes Tryz.prog (gl tab num txt) [] i11 = true := by kernel_rfl
theorem r_i12 (tab : Tabs) (num : Num) (txt : Txt) : comes Tryz.prog (gl tab num txt) [] i12 = true := by kernel_rfl
theorem r_i13 (tab : Tabs) (num : Num) (txt : Txt) : comes Tryz.prog (gl tab num txt) [] i13 = true := by kernel_rfl
end Go.Ab
