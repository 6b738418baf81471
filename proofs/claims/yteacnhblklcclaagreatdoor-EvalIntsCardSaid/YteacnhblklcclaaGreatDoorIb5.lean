/-
  EvalInts: the kernel runs the calls of the tables, part 5. No condition.
-/
import Derived.Test.YteacnhblklcclaaGreatDoorProg
import Derived.Test.YteacnhblklcclaaGreatDoorIa
import Derived.KernelRfl
namespace Go.Ab
open Go.Proofs
set_option maxRecDepth 1000000
theorem r_i17 (tab : Tabs) (num : Num) (txt : Txt) : comes Tryz.prog (gl tab num txt) [] i17 = true := by kernel_rfl
theorem r_i18n (tab : Tabs) (num : Num) (txt : Txt) : comes Tryz.prog (gl tab (numZ false num) txt) [] i18n = true := by kernel_rfl
theorem r_i18z (tab : Tabs) (num : Num) (txt : Txt) : comes Tryz.prog (gl tab (numZ true num) txt) [] i18z = true := by kernel_rfl
theorem r_i19 (tab : Tabs) (num : Num) (txt : Txt) : comes Tryz.prog (gl tab num txt) [] i19 = true := by kernel_rfl
end Go.Ab
