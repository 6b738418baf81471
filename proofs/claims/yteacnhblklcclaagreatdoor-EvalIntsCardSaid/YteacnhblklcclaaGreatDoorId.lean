/-
  EvalInts: the plain law on two whole numbers, and the call at any two of them. Condition: both numbers fit an int.
-/
import Derived.Test.YteacnhblklcclaaGreatDoorIc
import Derived.Laws.BitsLemmas
import Derived.Test.YteacnhblklcclaaGreatDoorEh
import Derived.Test.YteacnhblklcclaaGreatDoorEg
namespace Go.Ab
open Go.Proofs

@[reducible] def envI (a b : Int) : Env := ⟨fun n => match n with | 0 => a | _ => b, fun _ => ⟨#[]⟩⟩

theorem tmod_abs (a b : Int) (hb : b ≠ 0) : (a.tmod b).natAbs < b.natAbs := by
  rw [Int.natAbs_tmod]
  exact Nat.mod_lt _ (by omega)
theorem tmod_pos {a b : Int} (ha : 0 ≤ a) : 0 ≤ a.tmod b := Int.tmod_nonneg b ha
theorem tmod_neg {a b : Int} (ha : a ≤ 0) : a.tmod b ≤ 0 := by
  have := Int.tmod_nonneg (a := -a) b (by omega)
  rw [Int.neg_tmod] at this
  omega

theorem whole_again (a b : Int) (h1 : -9223372036854775808 ≤ a) (h2 : a ≤ 9223372036854775807) :
    IntKind.i64.wrap (IntKind.i64.wrap (IntKind.i64.wrap (a.tdiv b) * b) + a.tmod b) = a := by
  have e := Int.mul_tdiv_add_tmod a b
  simp only [IntKind.wrap_i64]
  generalize hq : a.tdiv b = q at *
  generalize a.tmod b = m at *
  obtain ⟨k, hk⟩ : ∃ k, (q + 9223372036854775808) % 18446744073709551616 - 9223372036854775808 = q + 18446744073709551616 * k :=
    ⟨-((q + 9223372036854775808) / 18446744073709551616), by omega⟩
  rw [hk, Int.add_mul, Int.mul_assoc]
  generalize k * b = K
  rw [Int.mul_comm] at e
  generalize q * b = X at *
  omega

/-- The decisions are right. -/
theorem decI (a b : Int) (h1 : -9223372036854775808 ≤ a) (h2 : a ≤ 9223372036854775807) (h3 : -9223372036854775808 ≤ b) (h4 : b ≤ 9223372036854775807)
    {z mz ml al mg bg : Bool} (hz : z = (b == 0)) (hmz : mz = (a.tmod b != 0)) (hml : ml = decide (a.tmod b < 0)) (hal : z = false → mz = true → al = decide (a < 0))
    (hmg : mg = decide (a.tmod b > 0)) (hbg : bg = decide (b > 0)) (hal' : al = decide (a < 0)) : @DecOk (envI a b) (gl noTab (numZ z (numR z mz ml al mg bg)) noTxt) := by
  letI : Env := envI a b
  have habs : b ≠ 0 → (a.tmod b).natAbs < b.natAbs := tmod_abs a b
  refine ⟨?_, fun op x y r h => by cases h⟩
  intro op x y r h
  simp only [gl] at h
  unfold numZ at h
  split at h
  · cases h
    show some (Value.bool (b == 0), true) = _
    rw [hz]
  · cases h
    show some (Value.bool (b != 0), true) = _
    rw [hz]; rfl
  · unfold numR at h
    split at h
    · cases h; simp [binI]
    · cases h; simp [binI]
    · cases h; simp [binI]
    · cases h; simp [binI]
    · cases h
      have : (SE.bin .add (.bin .mul (.bin .quo (.var 0) (.var 1)) (.var 1)) (.bin .rem (.var 0) (.var 1))).val = a := whole_again a b h1 h2
      have e2 : (SE.var 0).val = a := rfl
      rw [this, e2]
      simp [binI]
    · cases h
      show some (Value.bool (a.tmod b != 0), true) = _
      rw [hmz]
    · cases h
      show some (Value.bool (decide (a.tmod b < 0)), true) = _
      rw [hml]
    · cases h
      show some (Value.bool (decide (a < 0)), true) = _
      rw [hal']
    · cases h
      show some (Value.bool (decide (a.tmod b > 0)), true) = _
      rw [hmg]
    · cases h
      show some (Value.bool (decide (b > 0)), true) = _
      rw [hbg]
    · cases hc : (mg && bg && !z) with
      | false => rw [hc] at h; cases h
      | true =>
        rw [hc] at h; cases h
        subst hz; subst hmg; subst hbg
        simp only [Bool.and_eq_true, decide_eq_true_eq, Bool.not_eq_true', beq_eq_false_iff_ne] at hc
        obtain ⟨⟨c1, c2⟩, c3⟩ := hc
        show some (Value.bool (decide (IntKind.i64.wrap (0 - a.tmod b) > IntKind.i64.wrap (0 - b))), true) = _
        have := habs c3
        simp only [IntKind.wrap_i64]
        rw [decide_eq_true (by omega)]
    · cases hc : (mg && !bg && !z) with
      | false => rw [hc] at h; cases h
      | true =>
        rw [hc] at h; cases h
        subst hz; subst hmg; subst hbg
        simp only [Bool.and_eq_true, decide_eq_true_eq, Bool.not_eq_true', decide_eq_false_iff_not, beq_eq_false_iff_ne] at hc
        obtain ⟨⟨c1, c2⟩, c3⟩ := hc
        show some (Value.bool (decide (IntKind.i64.wrap (0 - a.tmod b) > b)), true) = _
        have := habs c3
        simp only [IntKind.wrap_i64]
        rw [decide_eq_true (by omega)]
    · cases hc : (!mg && bg && !z) with
      | false => rw [hc] at h; cases h
      | true =>
        rw [hc] at h; cases h
        subst hz; subst hmg; subst hbg
        simp only [Bool.and_eq_true, decide_eq_true_eq, Bool.not_eq_true', decide_eq_false_iff_not, beq_eq_false_iff_ne] at hc
        obtain ⟨⟨c1, c2⟩, c3⟩ := hc
        show some (Value.bool (decide (a.tmod b > IntKind.i64.wrap (0 - b))), true) = _
        have := habs c3
        simp only [IntKind.wrap_i64]
        rw [decide_eq_true (by omega)]
    · cases hc : (!mg && !bg && !z) with
      | false => rw [hc] at h; cases h
      | true =>
        rw [hc] at h; cases h
        subst hz; subst hmg; subst hbg
        simp only [Bool.and_eq_true, Bool.not_eq_true', decide_eq_false_iff_not, beq_eq_false_iff_ne] at hc
        obtain ⟨⟨c1, c2⟩, c3⟩ := hc
        show some (Value.bool (decide (a.tmod b > b)), true) = _
        have := habs c3
        rw [decide_eq_true (by omega)]
    · cases h

section
variable [Env] {tab : Tabs} {num : Num} {txt : Txt} [DecOk (gl tab num txt)]
theorem known1 {l : List Entry} (hl : Known Tryz.prog (gl tab num txt) l) {k : List Entry} (hk : Known Tryz.prog (gl tab num txt) k) {e : Entry} (h : comes Tryz.prog (gl tab num txt) k e = true) :
    Known Tryz.prog (gl tab num txt) (e :: l) := Known.cons (kept_of_comes sane hk h) hl
theorem known0 {l : List Entry} (hl : Known Tryz.prog (gl tab num txt) l) {e : Entry} (h : comes Tryz.prog (gl tab num txt) [] e = true) :
    Known Tryz.prog (gl tab num txt) (e :: l) := known1 hl Known.nil h
end
end Go.Ab

namespace Go.Ab
open Go.Proofs
section
variable [Env] {tab : Tabs} {num : Num} {txt : Txt}
theorem known_tabI [DecOk (gl tab num txt)] : Known Tryz.prog (gl tab num txt) tabI :=
  (known0 (known0 (known0 (known0 (known0 (known0 (known0 (known0 (known0 (known0 (known0 (known0 (known0 (known0 (known0 (known0 (known0 (known0 (known0 (known0 Known.nil (r_i21 _ _ _)) (r_i20 _ _ _)) (r_i19 _ _ _)) (r_i17 _ _ _)) (r_i16 _ _ _)) (r_i14 _ _ _)) (r_i13 _ _ _)) (r_i12 _ _ _)) (r_i11 _ _ _)) (r_i10 _ _ _)) (r_i9 _ _ _)) (r_i8 _ _ _)) (r_i7 _ _ _)) (r_i6 _ _ _)) (r_i5 _ _ _)) (r_i4 _ _ _)) (r_i3 _ _ _)) (r_i2 _ _ _)) (r_i1 _ _ _)) (r_i0 _ _ _))
theorem known_tabIz [DecOk (gl tab (numZ true num) txt)] : Known Tryz.prog (gl tab (numZ true num) txt) tabIz :=
  (known0 (known0 Known.nil (r_i18z _ _ _)) (r_i15z _ _ _))
theorem known_tabIn [DecOk (gl tab (numZ false num) txt)] : Known Tryz.prog (gl tab (numZ false num) txt) tabIn :=
  (known0 (known0 Known.nil (r_i18n _ _ _)) (r_i15n _ _ _))
theorem known_awake [DecOk (gl tab num txt)] {l : List Entry} (hl : Known Tryz.prog (gl tab num txt) l) : Known Tryz.prog (gl tab num txt) (i22 :: l) := known1 hl known_tabI (r_awake _ _ _)
end
end Go.Ab

namespace Go.Ab
open Go.Proofs Go.RowKit

theorem lawI_kept (a b : Int) (h1 : -9223372036854775808 ≤ a) (h2 : a ≤ 9223372036854775807) (h3 : -9223372036854775808 ≤ b) (h4 : b ≤ 9223372036854775807) :
    ∃ num, @Kept (envI a b) Tryz.prog (gl noTab num noTxt) 3 [(.p (.i (.var 0))), (.p (.i (.var 1)))] [] ⟨(.p (pb true)), [], [], true⟩ := by
  letI : Env := envI a b
  refine ⟨numZ (b == 0) (numR (b == 0) (a.tmod b != 0) (decide (a.tmod b < 0)) (decide (a < 0)) (decide (a.tmod b > 0)) (decide (b > 0))), ?_⟩
  have hd := decI a b h1 h2 h3 h4 (z := b == 0) (mz := a.tmod b != 0) (ml := decide (a.tmod b < 0)) (al := decide (a < 0)) (mg := decide (a.tmod b > 0)) (bg := decide (b > 0)) rfl rfl rfl (fun _ _ => rfl) rfl rfl rfl
  cases hz : (b == 0) with
  | true =>
    rw [hz] at hd
    haveI := hd
    exact kept_of_comes sane (known_awake (Known.append known_tabIz known_tabI)) (r_lawZ _ _ _ _ _)
  | false =>
    rw [hz] at hd
    have bool : ∀ x : Bool, x = true ∨ x = false := fun x => by cases x <;> simp
    rcases Int.lt_trichotomy (a.tmod b) 0 with h | h | h
    · have ha : a < 0 := by
        rcases Int.lt_or_le a 0 with h5 | h5
        · exact h5
        · have := tmod_pos (b := b) h5; omega
      have e1 : (a.tmod b != 0) = true := by simp; omega
      have e2 : decide (a.tmod b < 0) = true := by simpa using h
      have e3 : decide (a < 0) = true := by simpa using ha
      have e4 : decide (a.tmod b > 0) = false := by simp; omega
      rw [e1, e2, e3, e4] at hd ⊢
      haveI := hd
      exact kept_of_comes sane (known_awake (Known.append known_tabIn known_tabI)) (r_lawL _ (bool _))
    · have e1 : (a.tmod b != 0) = false := by simp; exact h
      have e2 : decide (a.tmod b < 0) = false := by simp; omega
      have e4 : decide (a.tmod b > 0) = false := by simp; omega
      rw [e1, e2, e4] at hd ⊢
      haveI := hd
      exact kept_of_comes sane (known_awake (Known.append known_tabIn known_tabI)) (r_law0 _ (bool _) _)
    · have ha : ¬ a < 0 := by
        intro h5
        have := tmod_neg (b := b) (Int.le_of_lt h5); omega
      have e1 : (a.tmod b != 0) = true := by simp; omega
      have e2 : decide (a.tmod b < 0) = false := by simp; omega
      have e3 : decide (a < 0) = false := by simpa using ha
      have e4 : decide (a.tmod b > 0) = true := by simpa using h
      rw [e1, e2, e3, e4] at hd ⊢
      haveI := hd
      exact kept_of_comes sane (known_awake (Known.append known_tabIn known_tabI)) (r_lawG _ (bool _))

theorem callI (a b : Int) (w0 : (Lit.int .i64 a).wf = true) (w1 : (Lit.int .i64 b).wf = true) (w : World) :
    Calls Tryz.prog 3 #[.int .i64 a, .int .i64 b] w fun e w' => e = .returned (.bool true) ∧ Below w.heap.size w w' := by
  simp only [Lit.wf, Bool.and_eq_true, decide_eq_true_eq] at w0 w1
  have m1 : IntKind.i64.min = -9223372036854775808 := rfl
  have m2 : IntKind.i64.max = 9223372036854775807 := rfl
  rw [m1, m2] at w0 w1
  obtain ⟨num, hk⟩ := lawI_kept a b w0.1 w0.2 w1.1 w1.2
  letI : Env := envI a b
  exact call_of_kept sane Tryz.func3 rfl hk w _ (rl_two (RA.i (.var 0)) (RA.i (.var 1))) (globs_none w) rfl
end Go.Ab
