/-
  EvalOrders: the plain law on two whole numbers, and the call at any two of them. No condition.
-/
import Derived.Test.YteacnhblklcclaaGreatDoorOc
import Derived.Test.YteacnhblklcclaaGreatDoorEh
import Derived.Test.YteacnhblklcclaaGreatDoorEg
namespace Go.Ab
open Go.Proofs

@[reducible] def envO (a b : Int) : Env := ⟨fun n => match n with | 0 => a | _ => b, fun _ => ⟨#[]⟩⟩

/-- The decisions are right. -/
theorem decO (a b : Int) (tab : Tabs) {lt eq gt : Bool} (hl : lt = decide (a < b)) (he : eq = (a == b)) (hg : gt = decide (a > b)) : @DecOk (envO a b) (gl tab (numO lt eq gt noNum) noTxtO) := by
  letI : Env := envO a b
  refine ⟨?_, fun op x y r h => by cases h⟩
  intro op x y r h
  simp only [gl] at h
  unfold numO at h
  split at h
  · cases h; simp [binI]
  · cases h; simp [binI]
  · cases h
    show some (Value.bool (decide (a < b)), true) = _
    rw [hl]
  · cases h
    show some (Value.bool (decide (a > b)), true) = _
    rw [hg]
  · cases h
    show some (Value.bool (decide (b < a)), true) = _
    rw [hg]
  · cases h
    show some (Value.bool (decide (b > a)), true) = _
    rw [hl]
  · cases h
    show some (Value.bool (a == b), true) = _
    rw [he]
  · cases h; simp [binI]
  · cases h; simp [binI]
  · cases h

section
variable [Env] {tab : Tabs} {num : Num} {txt : Txt} [DecOk (gl tab num txt)]
theorem known1 {l : List Entry} (hl : Known Tryz.prog (gl tab num txt) l) {k : List Entry} (hk : Known Tryz.prog (gl tab num txt) k) {e : Entry} (h : comes Tryz.prog (gl tab num txt) k e = true) :
    Known Tryz.prog (gl tab num txt) (e :: l) := Known.cons (kept_of_comes sane hk h) hl
theorem known0 {l : List Entry} (hl : Known Tryz.prog (gl tab num txt) l) {e : Entry} (h : comes Tryz.prog (gl tab num txt) [] e = true) :
    Known Tryz.prog (gl tab num txt) (e :: l) := known1 hl Known.nil h
end
end Go.Ab

namespace Go.Ab
open Go.Proofs
section
variable [Env] {tab : Tabs} {num : Num} {txt : Txt}
theorem known_tabOc [DecOk (gl tab num txt)] : Known Tryz.prog (gl tab num txt) tabOc :=
  
    (known0 (known0 (known0 (known0 (known0 (known0 (known0 (known0 (known1 (known0 (known1 (known0 (known0 (known0 (known1 (known0 (known0 (known0 Known.nil (r_o30 _ _ _)) (r_o29 _ _ _)) (r_o28 _ _ _)) (known1 Known.nil (known0 Known.nil (r_o24 _ _ _)) (r_o25 _ _ _)) (r_o26 _ _ _)) (r_o23 _ _ _)) (r_o21 _ _ _)) (r_o20 _ _ _)) (known1 Known.nil (known0 Known.nil (r_o16 _ _ _)) (r_o17 _ _ _)) (r_o18 _ _ _)) (r_o15 _ _ _)) (known1 Known.nil (known0 Known.nil (r_o11 _ _ _)) (r_o12 _ _ _)) (r_o13 _ _ _)) (r_o10 _ _ _)) (r_o8 _ _ _)) (r_o7 _ _ _)) (r_o5 _ _ _)) (r_o4 _ _ _)) (r_o2 _ _ _)) (r_o1 _ _ _)) (r_o0 _ _ _))
theorem known_tabOl [DecOk (gl tab (numO true false false num) txt)] : Known Tryz.prog (gl tab (numO true false false num) txt) tabOl :=
  (known0 (known0 (known0 (known0 (known0 (known0 (known0 Known.nil (r_o27l _ _ _)) (r_o22l _ _ _)) (r_o19l _ _ _)) (r_o14l _ _ _)) (r_o9l _ _ _)) (r_o6l _ _ _)) (r_o3l _ _ _))
theorem known_tabOe [DecOk (gl tab (numO false true false num) txt)] : Known Tryz.prog (gl tab (numO false true false num) txt) tabOe :=
  (known0 (known0 (known0 (known0 (known0 (known0 (known0 Known.nil (r_o27e _ _ _)) (r_o22e _ _ _)) (r_o19e _ _ _)) (r_o14e _ _ _)) (r_o9e _ _ _)) (r_o6e _ _ _)) (r_o3e _ _ _))
theorem known_tabOg [DecOk (gl tab (numO false false true num) txt)] : Known Tryz.prog (gl tab (numO false false true num) txt) tabOg :=
  (known0 (known0 (known0 (known0 (known0 (known0 (known0 Known.nil (r_o27g _ _ _)) (r_o22g _ _ _)) (r_o19g _ _ _)) (r_o14g _ _ _)) (r_o9g _ _ _)) (r_o6g _ _ _)) (r_o3g _ _ _))
theorem known_awakeO [DecOk (gl tab num txt)] {l : List Entry} (hl : Known Tryz.prog (gl tab num txt) l) : Known Tryz.prog (gl tab num txt) (o31 :: l) := known1 hl known_tabOc (r_awakeO _ _ _)
end
end Go.Ab

namespace Go.Ab
open Go.Proofs Go.RowKit

theorem lawO_kept (a b : Int) : ∃ num, @Kept (envO a b) Tryz.prog (gl noTab num noTxtO) 4 [(.p (.i (.var 0))), (.p (.i (.var 1)))] [] ⟨(.p (pb true)), [], [], true⟩ := by
  letI : Env := envO a b
  have hd := decO a b noTab (lt := decide (a < b)) (eq := (a == b)) (gt := decide (a > b)) rfl rfl rfl
  rcases Int.lt_trichotomy a b with h | h | h
  · have e1 : decide (a < b) = true := by simpa using h
    have e2 : (a == b) = false := by simp; omega
    have e3 : decide (a > b) = false := by simp; omega
    rw [e1, e2, e3] at hd
    haveI := hd
    exact ⟨_, kept_of_comes sane (known_awakeO (Known.append known_tabOl known_tabOc)) (r_lawOl _ _)⟩
  · have e1 : decide (a < b) = false := by simp; omega
    have e2 : (a == b) = true := by simpa using h
    have e3 : decide (a > b) = false := by simp; omega
    rw [e1, e2, e3] at hd
    haveI := hd
    exact ⟨_, kept_of_comes sane (known_awakeO (Known.append known_tabOe known_tabOc)) (r_lawOe _ _)⟩
  · have e1 : decide (a < b) = false := by simp; omega
    have e2 : (a == b) = false := by simp; omega
    have e3 : decide (a > b) = true := by simpa using h
    rw [e1, e2, e3] at hd
    haveI := hd
    exact ⟨_, kept_of_comes sane (known_awakeO (Known.append known_tabOg known_tabOc)) (r_lawOg _ _)⟩

theorem callO (a b : Int) (w : World) :
    Calls Tryz.prog 4 #[.int .i64 a, .int .i64 b] w fun e w' => e = .returned (.bool true) ∧ Below w.heap.size w w' := by
  obtain ⟨num, hk⟩ := lawO_kept a b
  letI : Env := envO a b
  exact call_of_kept sane Tryz.func4 rfl hk w _ (rl_two (RA.i (.var 0)) (RA.i (.var 1))) (globs_none w) rfl
end Go.Ab
