/-
  EvalInts: the kernel runs the calls of the tables, part 1. No condition.
-/
import Derived.Test.YteacnhblklcclaaGreatDoorProg
import Derived.Test.YteacnhblklcclaaGreatDoorIa
import Derived.KernelRfl
namespace Go.Ab
open Go.Proofs
set_option maxRecDepth 1000000
theorem r_i4 (tab : Tabs) (num : Num) (txt : Txt) : comes Tryz.prog (gl tab num txt) [] i4 = true := by kernel_rfl
theorem r_i5 (tab : Tabs) (num : Num) (txt : Txt) : comes Tryz.prog (gl tab num txt) [] i5 = true := by kernel_rfl
theorem r_i6 (tab : Tabs) (num : Num) (txt : Txt) : comes Tryz.prog (gl tab num txt) [] i6 = true := by kernel_rfl
theorem r_i7 (tab : Tabs) (num : Num) (txt : Txt) : comes Tryz.prog (gl tab num txt) [] i7 = true := by kernel_rfl
end Go.Ab
