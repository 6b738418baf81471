/-
  EvalTexts: the tables are kept, the listed variables are read, and the call at any text and place. Condition: the listed variables hold what the row lists.
-/
import Derived.Test.YteacnhblklcclaaGreatDoorTc0
import Derived.Test.YteacnhblklcclaaGreatDoorTc1
import Derived.Test.YteacnhblklcclaaGreatDoorTc2
import Derived.Test.YteacnhblklcclaaGreatDoorTc3
import Derived.Test.YteacnhblklcclaaGreatDoorTc4
import Derived.Test.YteacnhblklcclaaGreatDoorTc5
import Derived.Test.YteacnhblklcclaaGreatDoorTc6
import Derived.Test.YteacnhblklcclaaGreatDoorTc7
import Derived.Test.YteacnhblklcclaaGreatDoorTc8
import Derived.Test.YteacnhblklcclaaGreatDoorTc9
import Derived.Test.YteacnhblklcclaaGreatDoorEh
import Derived.Test.YteacnhblklcclaaGreatDoorRows
import Derived.Test.YteacnhblklcclaaGreatDoorEg
import Derived.ProofKit
import Derived.LaidMore
import Derived.OpenShut
import Derived.MakeChecks
import Derived.Test.YteacnhblklcclaaGreatDoorTd
namespace Go.Ab
open Go.Proofs
section
variable [Env]
theorem keepOne {num : Num} {txt : Txt} [DecOk (gl gtab num txt)] {k : List Entry} (hk : Known Tryz.prog (gl gtab num txt) k) {e : Entry} (h : comes Tryz.prog (gl gtab num txt) k e = true) :
    Kept Tryz.prog (gl gtab num txt) e.f e.args e.H e.ans := kept_of_comes sane hk h
theorem k_t0 {num : Num} {txt : Txt} [DecOk (gl gtab num txt)] : Kept Tryz.prog (gl gtab num txt) t0.f t0.args t0.H t0.ans := keepOne Known.nil (r_t0 _ _)
theorem k_t1 {num : Num} {txt : Txt} [DecOk (gl gtab num txt)] : Kept Tryz.prog (gl gtab num txt) t1.f t1.args t1.H t1.ans := keepOne Known.nil (r_t1 _ _)
theorem k_t2 {num : Num} {txt : Txt} [DecOk (gl gtab num txt)] : Kept Tryz.prog (gl gtab num txt) t2.f t2.args t2.H t2.ans := keepOne Known.nil (r_t2 _ _)
theorem k_t3 {num : Num} {txt : Txt} [DecOk (gl gtab num txt)] : Kept Tryz.prog (gl gtab num txt) t3.f t3.args t3.H t3.ans := keepOne (Known.cons k_t2 Known.nil) (r_t3 _ _)
theorem k_t4 {num : Num} {txt : Txt} [DecOk (gl gtab num txt)] : Kept Tryz.prog (gl gtab num txt) t4.f t4.args t4.H t4.ans := keepOne (Known.cons k_t1 (Known.cons k_t3 Known.nil)) (r_t4 _ _)
theorem k_t5 {num : Num} {txt : Txt} [DecOk (gl gtab num txt)] : Kept Tryz.prog (gl gtab num txt) t5.f t5.args t5.H t5.ans := keepOne (Known.cons k_t4 Known.nil) (r_t5 _ _)
theorem k_t6 {num : Num} {txt : Txt} [DecOk (gl gtab num txt)] : Kept Tryz.prog (gl gtab num txt) t6.f t6.args t6.H t6.ans := keepOne Known.nil (r_t6 _ _)
theorem k_t7 {num : Num} {txt : Txt} [DecOk (gl gtab num txt)] : Kept Tryz.prog (gl gtab num txt) t7.f t7.args t7.H t7.ans := keepOne Known.nil (r_t7 _ _)
theorem k_t8 {num : Num} {txt : Txt} [DecOk (gl gtab num txt)] : Kept Tryz.prog (gl gtab num txt) t8.f t8.args t8.H t8.ans := keepOne Known.nil (r_t8 _ _)
theorem k_t9 {num : Num} {txt : Txt} [DecOk (gl gtab num txt)] : Kept Tryz.prog (gl gtab num txt) t9.f t9.args t9.H t9.ans := keepOne Known.nil (r_t9 _ _)
theorem k_t10 {num : Num} {txt : Txt} [DecOk (gl gtab num txt)] : Kept Tryz.prog (gl gtab num txt) t10.f t10.args t10.H t10.ans := keepOne (Known.cons k_t8 (Known.cons k_t9 Known.nil)) (r_t10 _ _)
theorem k_t11 {num : Num} {txt : Txt} [DecOk (gl gtab num txt)] : Kept Tryz.prog (gl gtab num txt) t11.f t11.args t11.H t11.ans := keepOne (Known.cons k_t6 (Known.cons k_t7 (Known.cons k_t10 Known.nil))) (r_t11 _ _)
theorem k_t12 {num : Num} {txt : Txt} [DecOk (gl gtab num txt)] : Kept Tryz.prog (gl gtab num txt) t12.f t12.args t12.H t12.ans := keepOne (Known.cons k_t11 Known.nil) (r_t12 _ _)
theorem k_t13m [DecOk (gl gtab (numT false true false true false true) (txtT false true false true false true))] : Kept Tryz.prog (gl gtab (numT false true false true false true) (txtT false true false true false true)) t13m.f t13m.args t13m.H t13m.ans := keepOne Known.nil r_t13m
theorem k_t14m [DecOk (gl gtab (numT false true false true false true) (txtT false true false true false true))] : Kept Tryz.prog (gl gtab (numT false true false true false true) (txtT false true false true false true)) t14m.f t14m.args t14m.H t14m.ans := keepOne (Known.cons k_t13m Known.nil) r_t14m
theorem k_t15 {num : Num} {txt : Txt} [DecOk (gl gtab num txt)] : Kept Tryz.prog (gl gtab num txt) t15.f t15.args t15.H t15.ans := keepOne Known.nil (r_t15 _ _)
theorem k_t16 {num : Num} {txt : Txt} [DecOk (gl gtab num txt)] : Kept Tryz.prog (gl gtab num txt) t16.f t16.args t16.H t16.ans := keepOne (Known.cons k_t15 Known.nil) (r_t16 _ _)
theorem k_t17 {num : Num} {txt : Txt} [DecOk (gl gtab num txt)] : Kept Tryz.prog (gl gtab num txt) t17.f t17.args t17.H t17.ans := keepOne Known.nil (r_t17 _ _)
theorem k_t18 {num : Num} {txt : Txt} [DecOk (gl gtab num txt)] : Kept Tryz.prog (gl gtab num txt) t18.f t18.args t18.H t18.ans := keepOne (Known.cons k_t17 Known.nil) (r_t18 _ _)
theorem k_t19 {num : Num} {txt : Txt} [DecOk (gl gtab num txt)] : Kept Tryz.prog (gl gtab num txt) t19.f t19.args t19.H t19.ans := keepOne Known.nil (r_t19 _ _)
theorem k_t20 {num : Num} {txt : Txt} [DecOk (gl gtab num txt)] : Kept Tryz.prog (gl gtab num txt) t20.f t20.args t20.H t20.ans := keepOne (Known.cons k_t19 Known.nil) (r_t20 _ _)
theorem k_t21 {num : Num} {txt : Txt} [DecOk (gl gtab num txt)] : Kept Tryz.prog (gl gtab num txt) t21.f t21.args t21.H t21.ans := keepOne (Known.cons k_t16 (Known.cons k_t18 (Known.cons k_t20 Known.nil))) (r_t21 _ _)
theorem k_t22l [DecOk (gl gtab (numT false true true false false false) (txtT false true true false false false))] : Kept Tryz.prog (gl gtab (numT false true true false false false) (txtT false true true false false false)) t22l.f t22l.args t22l.H t22l.ans := keepOne Known.nil r_t22l
theorem k_t23l [DecOk (gl gtab (numT false true true false false false) (txtT false true true false false false))] : Kept Tryz.prog (gl gtab (numT false true true false false false) (txtT false true true false false false)) t23l.f t23l.args t23l.H t23l.ans := keepOne (Known.cons k_t22l Known.nil) r_t23l
theorem k_t24h [DecOk (gl gtab (numT false false false true true false) (txtT false false false true true false))] : Kept Tryz.prog (gl gtab (numT false false false true true false) (txtT false false false true true false)) t24h.f t24h.args t24h.H t24h.ans := keepOne Known.nil r_t24h
theorem k_t25h [DecOk (gl gtab (numT false false false true true false) (txtT false false false true true false))] : Kept Tryz.prog (gl gtab (numT false false false true true false) (txtT false false false true true false)) t25h.f t25h.args t25h.H t25h.ans := keepOne (Known.cons k_t24h Known.nil) r_t25h
theorem k_t26a [DecOk (gl gtab (numT true true true false false false) (txtT true true true false false false))] : Kept Tryz.prog (gl gtab (numT true true true false false false) (txtT true true true false false false)) t26a.f t26a.args t26a.H t26a.ans := keepOne Known.nil r_t26a
theorem k_t27a [DecOk (gl gtab (numT true true true false false false) (txtT true true true false false false))] : Kept Tryz.prog (gl gtab (numT true true true false false false) (txtT true true true false false false)) t27a.f t27a.args t27a.H t27a.ans := keepOne (Known.cons k_t26a Known.nil) r_t27a
theorem k_t28b [DecOk (gl gtab (numT true false true false true false) (txtT true false true false true false))] : Kept Tryz.prog (gl gtab (numT true false true false true false) (txtT true false true false true false)) t28b.f t28b.args t28b.H t28b.ans := keepOne Known.nil r_t28b
theorem k_t29b [DecOk (gl gtab (numT true false true false true false) (txtT true false true false true false))] : Kept Tryz.prog (gl gtab (numT true false true false true false) (txtT true false true false true false)) t29b.f t29b.args t29b.H t29b.ans := keepOne (Known.cons k_t28b Known.nil) r_t29b
theorem k_t30c [DecOk (gl gtab (numT true false false true true false) (txtT true false false true true false))] : Kept Tryz.prog (gl gtab (numT true false false true true false) (txtT true false false true true false)) t30c.f t30c.args t30c.H t30c.ans := keepOne Known.nil r_t30c
theorem k_t31c [DecOk (gl gtab (numT true false false true true false) (txtT true false false true true false))] : Kept Tryz.prog (gl gtab (numT true false false true true false) (txtT true false false true true false)) t31c.f t31c.args t31c.H t31c.ans := keepOne (Known.cons k_t30c Known.nil) r_t31c
theorem known_tabTm [DecOk (gl gtab (numT false true false true false true) (txtT false true false true false true))] : Known Tryz.prog (gl gtab (numT false true false true false true) (txtT false true false true false true)) tabTm := (Known.cons k_t0 (Known.cons k_t5 (Known.cons k_t12 (Known.cons k_t14m (Known.cons k_t21 Known.nil)))))
theorem known_tabTl [DecOk (gl gtab (numT false true true false false false) (txtT false true true false false false))] : Known Tryz.prog (gl gtab (numT false true true false false false) (txtT false true true false false false)) tabTl := (Known.cons k_t0 (Known.cons k_t5 (Known.cons k_t12 (Known.cons k_t23l (Known.cons k_t21 Known.nil)))))
theorem known_tabTh [DecOk (gl gtab (numT false false false true true false) (txtT false false false true true false))] : Known Tryz.prog (gl gtab (numT false false false true true false) (txtT false false false true true false)) tabTh := (Known.cons k_t0 (Known.cons k_t5 (Known.cons k_t12 (Known.cons k_t25h (Known.cons k_t21 Known.nil)))))
theorem known_tabTa [DecOk (gl gtab (numT true true true false false false) (txtT true true true false false false))] : Known Tryz.prog (gl gtab (numT true true true false false false) (txtT true true true false false false)) tabTa := (Known.cons k_t0 (Known.cons k_t5 (Known.cons k_t12 (Known.cons k_t27a (Known.cons k_t21 Known.nil)))))
theorem known_tabTb [DecOk (gl gtab (numT true false true false true false) (txtT true false true false true false))] : Known Tryz.prog (gl gtab (numT true false true false true false) (txtT true false true false true false)) tabTb := (Known.cons k_t0 (Known.cons k_t5 (Known.cons k_t12 (Known.cons k_t29b (Known.cons k_t21 Known.nil)))))
theorem known_tabTc [DecOk (gl gtab (numT true false false true true false) (txtT true false false true true false))] : Known Tryz.prog (gl gtab (numT true false false true true false) (txtT true false false true true false)) tabTc := (Known.cons k_t0 (Known.cons k_t5 (Known.cons k_t12 (Known.cons k_t31c (Known.cons k_t21 Known.nil)))))
theorem known_tabTx {num : Num} {txt : Txt} [DecOk (gl gtab num txt)] : Known Tryz.prog (gl gtab num txt) tabTx := (Known.cons k_t21 Known.nil)
end
end Go.Ab

namespace Go.Ab
set_option linter.unusedSectionVars false
open Go.Proofs

theorem table_cells {H : Type} {enc : TypeId × Value → H} {P : Program} {W : World} {base : Nat} {spare : Nat → Bool} {held : Bool} {fuel t e n : Nat} {cs : List Value} {k : IntKind} {l : List Nat} {q : List MemPlace}
    (ht : P.underlying t = some (.array n e)) (he : P.underlying e = some (.int k)) (hc : P.cellsOf e = 1) (hl : l.length = n)
    (h : DataW.trod enc P W base spare held fuel t cs = some (.agg (l.map fun x => .lit (.int k (Int.ofNat x))), q)) (i x : Nat) (hx : l[i]? = some x) : cs[i]? = some (.int k (Int.ofNat x)) := by
  obtain ⟨xs, m, rfl, hd, hlen, hn, hel⟩ := DataW.trod_array ht h
  have hi : i < n := by rw [← hl]; exact (List.getElem?_eq_some_iff.1 hx).1
  have h1 := hel i hi
  rw [hc, Nat.mul_one] at h1
  have hxi : i < xs.length := by omega
  have e1 : xs[i]? = some xs[i] := by simp
  rw [e1] at h1
  obtain ⟨z, h2, h3, _⟩ := DataW.trod_int he h1
  simp only [Prod.mk.injEq, DataW.agg.injEq] at hd
  have h4 := congrArg (fun l => l[i]?) hd.1
  simp only [List.getElem?_map, hx, e1, Option.map_some, h3, Option.some.injEq, DataW.lit.injEq, Lit.int.injEq, true_and] at h4
  have h5 := congrArg (fun l => l[0]?) h2
  simp only [List.getElem?_take_of_lt (show 0 < 1 by omega), List.getElem?_drop, Nat.add_zero, List.getElem?_cons_zero] at h5
  rw [h5, ← h4]

section
variable [Env]
theorem table_ra {W : World} {g : Nat} {k : IntKind} {l : List Nat} {x0 : Nat} (hc : ∀ i x, l[i]? = some x → W.cell? ⟨g, i, none⟩ = some (.int k (Int.ofNat x))) (h0 : l[0]? = some x0) :
    RA phi0 (wr phi0 blk0) W (.ep (l.map fun n => .v (.int k (Int.ofNat n))) 0) (.pointer (some ⟨g, 0, none⟩)) := by
  have hg : g < W.heap.size := by
    have := hc 0 x0 h0
    rcases Nat.lt_or_ge g W.heap.size with h | h
    · exact h
    · simp [World.cell?, Array.getElem?_eq_none h] at this
  have := RA.ep (φ := phi0) (W := wr phi0 blk0) (w := W) (l.map fun n => PV.v (.int k (Int.ofNat n))) 0 g 0 (fun j => .int k (Int.ofNat (l.getD j 0))) (fun j c hj => ?_) (fun j c hj => ?_) (wr0 g) hg
  · simpa using this
  · simp only [List.getElem?_map] at hj
    cases hl : l[j]? with
    | none => rw [hl] at hj; cases hj
    | some x =>
      rw [Nat.zero_add, hc j x hl]
      simp [List.getD, hl]
  · simp only [List.getElem?_map] at hj
    cases hl : l[j]? with
    | none => rw [hl] at hj; cases hj
    | some x =>
      rw [hl] at hj
      simp only [Option.map_some, Option.some.injEq] at hj
      subst hj
      simp only [List.getD, hl, Option.getD_some]
      exact .v _

abbrev laid3 : List (String × DataW Unit) := [("math/bits.deBruijn32tab", Go.Proofs.YteacnhblklcclaaGreatDoor.Rows.laid_math_bits_deBruijn32tab), ("math/bits.deBruijn64tab", Go.Proofs.YteacnhblklcclaaGreatDoor.Rows.laid_math_bits_deBruijn64tab),
  ("internal/strconv.uint64pow10", Go.Proofs.YteacnhblklcclaaGreatDoor.Rows.laid_internal_strconv_uint64pow10)]

theorem g1 : Tryz.prog.globalNamed "internal/strconv.uint64pow10" = some 1 := by kernel_rfl
theorem g2 : Tryz.prog.globalNamed "math/bits.deBruijn32tab" = some 2 := by kernel_rfl
theorem g3 : Tryz.prog.globalNamed "math/bits.deBruijn64tab" = some 3 := by kernel_rfl
theorem ty1 : (Tryz.prog.globals[1]?).map (·.type) = some 225 := by kernel_rfl
theorem ty2 : (Tryz.prog.globals[2]?).map (·.type) = some 230 := by kernel_rfl
theorem ty3 : (Tryz.prog.globals[3]?).map (·.type) = some 231 := by kernel_rfl
theorem c5 : Tryz.prog.cellsOf 5 = 1 := by kernel_rfl
theorem c120 : Tryz.prog.cellsOf 120 = 1 := by kernel_rfl

theorem globs_of_laid {num : Num} {txt : Txt} {W : World} (h : laidMetH Tryz.prog laid3 W) : Globs (gl gtab num txt) phi0 blk0 W := by
  rw [MakeChecks.laidMetH_plain _ _ _ (by kernel_rfl)] at h
  obtain ⟨ps, ⟨n2, t2, cs2, f2, p2, q2, hg2, ht2, hv2, hd2, ⟨n3, t3, cs3, f3, p3, q3, hg3, ht3, hv3, hd3, ⟨n1, t1, cs1, f1, p1, q1, hg1, ht1, hv1, hd1, _, _⟩, _⟩, _⟩, _, _⟩ := h
  obtain rfl := Option.some.inj (g1.symm.trans hg1)
  obtain rfl := Option.some.inj (g2.symm.trans hg2)
  obtain rfl := Option.some.inj (g3.symm.trans hg3)
  obtain rfl := Option.some.inj (ty1.symm.trans ht1)
  obtain rfl := Option.some.inj (ty2.symm.trans ht2)
  obtain rfl := Option.some.inj (ty3.symm.trans ht3)
  intro g row hrow
  simp only [gl] at hrow
  unfold gtab at hrow
  split at hrow
  · cases hrow
    refine table_ra (x0 := 1) (fun i x hx => ?_) rfl
    rw [World.var?_cell hg1 hv1 i, ← Array.getElem?_toList]
    exact table_cells Tryz.underlying225 Tryz.underlying120 c120 rfl hd1 i x hx
  · cases hrow
    refine table_ra (x0 := 0) (fun i x hx => ?_) rfl
    rw [World.var?_cell hg2 hv2 i, ← Array.getElem?_toList]
    exact table_cells Tryz.underlying230 Tryz.underlying5 c5 rfl hd2 i x hx
  · cases hrow
    refine table_ra (x0 := 0) (fun i x hx => ?_) rfl
    rw [World.var?_cell hg3 hv3 i, ← Array.getElem?_toList]
    exact table_cells Tryz.underlying231 Tryz.underlying5 c5 rfl hd3 i x hx
  · cases hrow
end
end Go.Ab

namespace Go.Ab
open Go.Proofs Go.RowKit

theorem decLong (s : ByteArray) (q : Int) (h : 256 < s.data.toList.length) : @DecOk (envT s q) (gl gtab numLong noTxtT) := by
  letI : Env := envT s q
  refine ⟨fun op a b r e => ?_, fun op x y r e => by cases e⟩
  simp only [gl] at e
  unfold numLong at e
  split at e
  · cases e
    have h1 : (SE.len (.var 0)).val = (s.data.toList.length : Int) := by
      simp only [SE.val, TE.val]
      rfl
    have h2 : (SE.lit (.ofNat 256)).val = 256 := rfl
    rw [h1, h2]
    show some (Value.bool (decide ((s.data.toList.length : Int) > 256)), true) = _
    rw [decide_eq_true (by omega)]
  · cases e

theorem lawT_kept (s : ByteArray) (q : Int) : ∃ num txt, @Kept (envT s q) Tryz.prog (gl gtab num txt) 5 [(.p (.t (.var 0))), (.p (.i (.var 1)))] [] ⟨(.p (pb true)), [], [], true⟩ := by
  letI : Env := envT s q
  have T : ∀ {p : Prop} [Decidable p], p → true = decide p := fun h => (decide_eq_true h).symm
  have F : ∀ {p : Prop} [Decidable p], ¬ p → false = decide p := fun h => (decide_eq_false h).symm
  rcases Nat.lt_or_ge 256 s.data.toList.length with hl | hl
  · haveI := decLong s q hl
    exact ⟨_, _, kept_of_comes sane known_tabTx r_lawTx⟩
  · have n0 : (0 : Int) ≤ s.data.toList.length := by omega
    have hm : false = true → 0 ≤ q ∧ q ≤ s.data.toList.length := fun h => by cases h
    by_cases hz : s.data.toList.length = 0
    · rcases Int.lt_trichotomy q 0 with h | h | h
      · haveI := decT s q gtab (z := true) (lt := true) (np := true) (pos := false) (ge := false) (mid := false) hl (T (by omega)) (T (by omega)) (T (by omega)) (F (by omega)) (F (by omega)) hm
        exact ⟨_, _, kept_of_comes sane known_tabTa r_lawTa⟩
      · haveI := decT s q gtab (z := true) (lt := false) (np := true) (pos := false) (ge := true) (mid := false) hl (T (by omega)) (F (by omega)) (T (by omega)) (F (by omega)) (T (by omega)) hm
        exact ⟨_, _, kept_of_comes sane known_tabTb r_lawTb⟩
      · haveI := decT s q gtab (z := true) (lt := false) (np := false) (pos := true) (ge := true) (mid := false) hl (T (by omega)) (F (by omega)) (F (by omega)) (T (by omega)) (T (by omega)) hm
        exact ⟨_, _, kept_of_comes sane known_tabTc r_lawTc⟩
    · by_cases h : q ≤ 0
      · haveI := decT s q gtab (z := false) (lt := true) (np := true) (pos := false) (ge := false) (mid := false) hl (F (by omega)) (T (by omega)) (T (by omega)) (F (by omega)) (F (by omega)) hm
        exact ⟨_, _, kept_of_comes sane known_tabTl r_lawTl⟩
      · by_cases h2 : q < s.data.toList.length
        · haveI := decT s q gtab (z := false) (lt := true) (np := false) (pos := true) (ge := false) (mid := true) hl (F (by omega)) (T (by omega)) (F (by omega)) (T (by omega)) (F (by omega)) (fun _ => by omega)
          exact ⟨_, _, kept_of_comes sane known_tabTm r_lawTm⟩
        · haveI := decT s q gtab (z := false) (lt := false) (np := false) (pos := true) (ge := true) (mid := false) hl (F (by omega)) (F (by omega)) (F (by omega)) (T (by omega)) (T (by omega)) hm
          exact ⟨_, _, kept_of_comes sane known_tabTh r_lawTh⟩

theorem callT (s : ByteArray) (q : Int) (w : World) (hL : laidMetH Tryz.prog laid3 w) :
    Calls Tryz.prog 5 #[.string s, .int .i64 q] w fun e w' => e = .returned (.bool true) ∧ Below w.heap.size w w' := by
  obtain ⟨num, txt, hk⟩ := lawT_kept s q
  letI : Env := envT s q
  exact call_of_kept sane Tryz.func5 rfl hk w _ (rl_two (RA.t (.var 0)) (RA.i (.var 1))) (globs_of_laid hL) rfl
end Go.Ab
