/-
  EvalTexts: the law itself, run by the kernel in each case. No condition.
-/
import Derived.Test.YteacnhblklcclaaGreatDoorProg
import Derived.Test.YteacnhblklcclaaGreatDoorTa
import Derived.Test.YteacnhblklcclaaGreatDoorTb
import Derived.KernelRfl
namespace Go.Ab
open Go.Proofs
set_option maxRecDepth 1000000
def lawT : Entry := ⟨5, [(.p (.t (.var 0))), (.p (.i (.var 1)))], [], ⟨(.p (pb true)), [], [], true⟩⟩
theorem r_lawTm : comes Tryz.prog (gl gtab (numT false true false true false true) (txtT false true false true false true)) tabTm lawT = true := by kernel_rfl
theorem r_lawTl : comes Tryz.prog (gl gtab (numT false true true false false false) (txtT false true true false false false)) tabTl lawT = true := by kernel_rfl
theorem r_lawTh : comes Tryz.prog (gl gtab (numT false false false true true false) (txtT false false false true true false)) tabTh lawT = true := by kernel_rfl
theorem r_lawTa : comes Tryz.prog (gl gtab (numT true true true false false false) (txtT true true true false false false)) tabTa lawT = true := by kernel_rfl
theorem r_lawTb : comes Tryz.prog (gl gtab (numT true false true false true false) (txtT true false true false true false)) tabTb lawT = true := by kernel_rfl
theorem r_lawTc : comes Tryz.prog (gl gtab (numT true false false true true false) (txtT true false false true true false)) tabTc lawT = true := by kernel_rfl
theorem r_lawTx : comes Tryz.prog (gl gtab numLong noTxtT) tabTx lawT = true := by kernel_rfl
end Go.Ab
