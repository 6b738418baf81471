/-
  EvalInts: the kernel runs the calls of the tables, part 4. No condition.
-/
import Derived.Test.YteacnhblklcclaaGreatDoorProg
import Derived.Test.YteacnhblklcclaaGreatDoorIa
import Derived.KernelRfl
namespace Go.Ab
open Go.Proofs
set_option maxRecDepth 1000000
theorem r_i14 (tab : Tabs) (num : Num) (txt : Txt) : comes Tryz.prog (gl tab num txt) [] i14 = true := by kernel_rfl
theorem r_i15n (tab : Tabs) (num : Num) (txt : Txt) : comes Tryz.prog (gl tab (numZ false num) txt) [] i15n = true := by kernel_rfl
theorem r_i15z (tab : Tabs) (num : Num) (txt : Txt) : comes Tryz.prog (gl tab (numZ true num) txt) [] i15z = true := by kernel_rfl
theorem r_i16 (tab : Tabs) (num : Num) (txt : Txt) : comes Tryz.prog (gl tab num txt) [] i16 = true := by kernel_rfl
end Go.Ab
