/-
  EvalOrders: the law itself, run by the kernel in each case. No condition.
-/
import Derived.Test.YteacnhblklcclaaGreatDoorOb0
import Derived.Test.YteacnhblklcclaaGreatDoorOb1
import Derived.Test.YteacnhblklcclaaGreatDoorOb2
import Derived.Test.YteacnhblklcclaaGreatDoorOb3
import Derived.Test.YteacnhblklcclaaGreatDoorOb4
import Derived.Test.YteacnhblklcclaaGreatDoorOb5
import Derived.Test.YteacnhblklcclaaGreatDoorOb6
import Derived.Test.YteacnhblklcclaaGreatDoorOb7
import Derived.Test.YteacnhblklcclaaGreatDoorOb8
import Derived.Test.YteacnhblklcclaaGreatDoorOb9
import Derived.Test.YteacnhblklcclaaGreatDoorOb10
import Derived.Test.YteacnhblklcclaaGreatDoorOb11
import Derived.Test.YteacnhblklcclaaGreatDoorOb12
namespace Go.Ab
open Go.Proofs
set_option maxRecDepth 1000000
def noNum : Num := fun _ _ _ => none
def noTxtO : Txt := fun _ _ _ => none
def lawO : Entry := ⟨4, [(.p (.i (.var 0))), (.p (.i (.var 1)))], [], ⟨(.p (pb true)), [], [], true⟩⟩
theorem r_awakeO (tab : Tabs) (num : Num) (txt : Txt) : comes Tryz.prog (gl tab num txt) tabOc o31 = true := by kernel_rfl
theorem r_lawOl (tab : Tabs) (txt : Txt) : comes Tryz.prog (gl tab (numO true false false noNum) txt) (o31 :: (tabOl ++ tabOc)) lawO = true := by kernel_rfl
theorem r_lawOe (tab : Tabs) (txt : Txt) : comes Tryz.prog (gl tab (numO false true false noNum) txt) (o31 :: (tabOe ++ tabOc)) lawO = true := by kernel_rfl
theorem r_lawOg (tab : Tabs) (txt : Txt) : comes Tryz.prog (gl tab (numO false false true noNum) txt) (o31 :: (tabOg ++ tabOc)) lawO = true := by kernel_rfl
end Go.Ab
