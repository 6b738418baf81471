/-
  EvalInts: the law itself, run by the kernel in each case. No condition.
-/
import Derived.Test.YteacnhblklcclaaGreatDoorIb0
import Derived.Test.YteacnhblklcclaaGreatDoorIb1
import Derived.Test.YteacnhblklcclaaGreatDoorIb2
import Derived.Test.YteacnhblklcclaaGreatDoorIb3
import Derived.Test.YteacnhblklcclaaGreatDoorIb4
import Derived.Test.YteacnhblklcclaaGreatDoorIb5
import Derived.Test.YteacnhblklcclaaGreatDoorIb6
namespace Go.Ab
open Go.Proofs
set_option maxRecDepth 1000000

abbrev va : SE := .var 0
abbrev vb : SE := .var 1
abbrev vr : SE := .bin .rem (.var 0) (.var 1)
/-- What the law asks: (mz: the rest is not 0; ml: it is below 0; al: the first number is; mg: the rest is above 0; bg: the second number is). -/
def numR (z mz ml al mg bg : Bool) : Num := fun op a b => match op, a, b with
  | .neq, .bin .add (.var 0) (.var 1), .bin .add (.var 0) (.var 1) => some false
  | .neq, .bin .sub (.var 0) (.var 1), .bin .sub (.var 0) (.var 1) => some false
  | .neq, .bin .mul (.var 0) (.var 1), .bin .mul (.var 0) (.var 1) => some false
  | .neq, .neg (.var 0), .neg (.var 0) => some false
  | .neq, .bin .add (.bin .mul (.bin .quo (.var 0) (.var 1)) (.var 1)) (.bin .rem (.var 0) (.var 1)), .var 0 => some false
  | .neq, .bin .rem (.var 0) (.var 1), .lit (.ofNat 0) => some mz
  | .lss, .bin .rem (.var 0) (.var 1), .lit (.ofNat 0) => some ml
  | .lss, .var 0, .lit (.ofNat 0) => some al
  | .gtr, .bin .rem (.var 0) (.var 1), .lit (.ofNat 0) => some mg
  | .gtr, .var 1, .lit (.ofNat 0) => some bg
  | .gtr, .neg (.bin .rem (.var 0) (.var 1)), .neg (.var 1) => bif mg && bg && !z then some true else none
  | .gtr, .neg (.bin .rem (.var 0) (.var 1)), .var 1 => bif mg && !bg && !z then some true else none
  | .gtr, .bin .rem (.var 0) (.var 1), .neg (.var 1) => bif !mg && bg && !z then some true else none
  | .gtr, .bin .rem (.var 0) (.var 1), .var 1 => bif !mg && !bg && !z then some true else none
  | _, _, _ => none
def noTxt : Txt := fun _ _ _ => none

def lawI : Entry := ⟨3, [(.p (.i (.var 0))), (.p (.i (.var 1)))], [], ⟨(.p (pb true)), [], [], true⟩⟩

theorem r_awake (tab : Tabs) (num : Num) (txt : Txt) : comes Tryz.prog (gl tab num txt) tabI i22 = true := by kernel_rfl
theorem r_lawZ (mz ml al mg bg : Bool) : comes Tryz.prog (gl noTab (numZ true (numR true mz ml al mg bg)) noTxt) (i22 :: (tabIz ++ tabI)) lawI = true := by kernel_rfl
theorem r_law0 (bg : Bool) (h : bg = true ∨ bg = false) (al : Bool) : comes Tryz.prog (gl noTab (numZ false (numR false false false al false bg)) noTxt) (i22 :: (tabIn ++ tabI)) lawI = true := by
  rcases h with rfl | rfl
  · kernel_rfl
  · kernel_rfl
theorem r_lawL (bg : Bool) (h : bg = true ∨ bg = false) : comes Tryz.prog (gl noTab (numZ false (numR false true true true false bg)) noTxt) (i22 :: (tabIn ++ tabI)) lawI = true := by
  rcases h with rfl | rfl
  · kernel_rfl
  · kernel_rfl
theorem r_lawG (bg : Bool) (h : bg = true ∨ bg = false) : comes Tryz.prog (gl noTab (numZ false (numR false true false false true bg)) noTxt) (i22 :: (tabIn ++ tabI)) lawI = true := by
  rcases h with rfl | rfl
  · kernel_rfl
  · kernel_rfl
end Go.Ab
