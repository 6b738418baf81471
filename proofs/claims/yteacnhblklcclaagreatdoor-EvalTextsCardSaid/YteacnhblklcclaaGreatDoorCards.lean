/-
  DERIVED. GIVEN WITH THE SEED: THE CARDS: each row of YteacnhblklcclaaGreatDoorRows.lean that lists a variable, with what it lists TIED to the program's text (the seventh form; the later family's looks); each row that meets fmt, with fmt's text TOLD by the authors' own Lean function (tested against real Go, not proved from fmt's source: count such statements apart). THE CARD IS WHAT COUNTS. Prove the row's statement (the work); the ties are given (YteacnhblklcclaaGreatDoorTie.lean); close each card by the builder's one call (the guide's Derived/Test/ToyasCard.lean, 'card_holds'). Laid BY PROGRAM, IN A SANDBOX (cutbox-door.mjs). By AI agents, Wed Nov 11 2026. No macro, syntax, notation, axiom, sorry.
-/
import Derived.Test.YteacnhblklcclaaGreatDoorRows
import GoSem.ClaimSeven
namespace Go.Proofs.YteacnhblklcclaaGreatDoor
namespace Rows

/-- THE TIED CARD OF 'watershedlaw06.EvalInts'. -/
def evalIntsCard : Claim7 := { stood := { row := evalIntsRow, standIns := [], harness := (true, "7e13f9c6e4a8553e7fa1b1edc20a18fc5659fee0410b051155481781cd5f4271"), looks := false }, kinds := [], alts := [], laidByText := true, laidKinds := [.data, .data, .data], laidTests := true, laidLooks := .later }
def EvalIntsCardSaid : Prop := Claim7.holds Tryz.pinned (.plain (OpenSpec.ofChange evalIntsSpec)) evalIntsCard

/-- THE TIED CARD OF 'watershedlaw06.EvalOrders'. -/
def evalOrdersCard : Claim7 := { stood := { row := evalOrdersRow, standIns := [], harness := (true, "7e13f9c6e4a8553e7fa1b1edc20a18fc5659fee0410b051155481781cd5f4271"), looks := false }, kinds := [], alts := [], laidByText := true, laidKinds := [.data, .data, .data], laidTests := true, laidLooks := .later }
def EvalOrdersCardSaid : Prop := Claim7.holds Tryz.pinned (.plain (OpenSpec.ofChange evalOrdersSpec)) evalOrdersCard

/-- THE TIED CARD OF 'watershedlaw06.EvalTexts'. -/
def evalTextsCard : Claim7 := { stood := { row := evalTextsRow, standIns := [], harness := (true, "7e13f9c6e4a8553e7fa1b1edc20a18fc5659fee0410b051155481781cd5f4271"), looks := false }, kinds := [], alts := [], laidByText := true, laidKinds := [.data, .data, .data], laidTests := true, laidLooks := .later }
def EvalTextsCardSaid : Prop := Claim7.holds Tryz.pinned (.plain (OpenSpec.ofChange evalTextsSpec)) evalTextsCard

/-- THE TIED CARD OF 'watershedlaw06.EvalFolds'. -/
def evalFoldsCard : Claim7 := { stood := { row := evalFoldsRow, standIns := [], harness := (true, "7e13f9c6e4a8553e7fa1b1edc20a18fc5659fee0410b051155481781cd5f4271"), looks := false }, kinds := [], alts := [], laidByText := true, laidKinds := [.data, .data, .data], laidTests := true, laidLooks := .later }
def EvalFoldsCardSaid : Prop := Claim7.holds Tryz.pinned (.plain (OpenSpec.ofChange evalFoldsSpec)) evalFoldsCard

/-- THE SECOND FORM's CARD OF 'watershedlaw06.EvalInts'. -/
def evalIntsUptoCard : Claim7 := { stood := { row := evalIntsUptoRow, standIns := [], harness := (true, "7e13f9c6e4a8553e7fa1b1edc20a18fc5659fee0410b051155481781cd5f4271"), looks := false }, kinds := [], alts := [], laidByText := true, laidKinds := [.data, .data, .data], laidTests := true, laidLooks := .later }
def EvalIntsUptoCardSaid : Prop := Claim7.holds Tryz.pinned (.plain (OpenSpec.upto evalIntsSpec)) evalIntsUptoCard

/-- THE SECOND FORM's CARD OF 'watershedlaw06.EvalOrders'. -/
def evalOrdersUptoCard : Claim7 := { stood := { row := evalOrdersUptoRow, standIns := [], harness := (true, "7e13f9c6e4a8553e7fa1b1edc20a18fc5659fee0410b051155481781cd5f4271"), looks := false }, kinds := [], alts := [], laidByText := true, laidKinds := [.data, .data, .data], laidTests := true, laidLooks := .later }
def EvalOrdersUptoCardSaid : Prop := Claim7.holds Tryz.pinned (.plain (OpenSpec.upto evalOrdersSpec)) evalOrdersUptoCard

/-- THE SECOND FORM's CARD OF 'watershedlaw06.EvalTexts'. -/
def evalTextsUptoCard : Claim7 := { stood := { row := evalTextsUptoRow, standIns := [], harness := (true, "7e13f9c6e4a8553e7fa1b1edc20a18fc5659fee0410b051155481781cd5f4271"), looks := false }, kinds := [], alts := [], laidByText := true, laidKinds := [.data, .data, .data], laidTests := true, laidLooks := .later }
def EvalTextsUptoCardSaid : Prop := Claim7.holds Tryz.pinned (.plain (OpenSpec.upto evalTextsSpec)) evalTextsUptoCard

/-- THE SECOND FORM's CARD OF 'watershedlaw06.EvalFolds'. -/
def evalFoldsUptoCard : Claim7 := { stood := { row := evalFoldsUptoRow, standIns := [], harness := (true, "7e13f9c6e4a8553e7fa1b1edc20a18fc5659fee0410b051155481781cd5f4271"), looks := false }, kinds := [], alts := [], laidByText := true, laidKinds := [.data, .data, .data], laidTests := true, laidLooks := .later }
def EvalFoldsUptoCardSaid : Prop := Claim7.holds Tryz.pinned (.plain (OpenSpec.upto evalFoldsSpec)) evalFoldsUptoCard
end Rows
end Go.Proofs.YteacnhblklcclaaGreatDoor
