/-
  EvalTexts: the decisions on the parts of a text, and that they are so. Condition: the text has at most 256 bytes.
-/
import Derived.Test.YteacnhblklcclaaGreatDoorEg
import Derived.Laws.BitsLemmas
namespace Go.Ab

@[reducible] def envT (s : ByteArray) (q : Int) : Env := ⟨fun _ => q, fun _ => s⟩

/-- Parts of the text: 1 the whole, 2 its head, 3 its tail, 4 nothing. -/
def sameK (a b : Nat) : Nat := bif Nat.beq a b then a else 0
def headK (mid : Bool) (a : Nat) : Nat := bif mid && Nat.beq a 1 then 2 else 0
def tailK (mid : Bool) (a b : Nat) : Nat := bif mid && (Nat.beq a 1 && Nat.beq b 1) then 3 else 0
def catK : Nat → Nat → Nat
  | 4, k => k
  | k, 4 => k
  | 2, 3 => 1
  | _, _ => 0
def kd (mid : Bool) : Nat → TE → Nat
  | 0, _ => 0
  | _ + 1, .var 0 => 1
  | _ + 1, .lit b => match b.data.toList with
    | [] => 4
    | _ => 0
  | f + 1, .cut t (.lit (.ofNat 0)) (.len u) => sameK (kd mid f t) (kd mid f u)
  | f + 1, .cut t (.lit (.ofNat 0)) (.var 1) => headK mid (kd mid f t)
  | f + 1, .cut t (.var 1) (.len u) => tailK mid (kd mid f t) (kd mid f u)
  | f + 1, .cat a b => catK (kd mid f a) (kd mid f b)
  | _, _ => 0
def kl (s : List UInt8) (q : Int) : Nat → List UInt8
  | 1 => s
  | 2 => s.take q.toNat
  | 3 => s.drop q.toNat
  | _ => []

theorem kd_ok {s : ByteArray} {q : Int} {mid : Bool} (_hmid : mid = true → 0 ≤ q ∧ q ≤ s.data.toList.length) :
    ∀ (f : Nat) (t : TE), kd mid f t ≠ 0 → (@TE.val (envT s q) t).data.toList = kl s.data.toList q (kd mid f t) := by
  letI : Env := envT s q
  intro f
  induction f with
  | zero => intro t h; exact absurd rfl h
  | succ f ih =>
    intro t h
    generalize hk : kd mid (f + 1) t = k at h ⊢
    unfold kd at hk
    split at hk
    · cases ‹f + 1 = 0›
    · subst hk; rfl
    · rename_i b
      split at hk
      · rename_i hb
        subst hk
        simpa [TE.val, kl] using hb
      · exact absurd hk.symm h
    · rename_i f' t u hf
      cases hf
      unfold sameK at hk
      cases hb : Nat.beq (kd mid f t) (kd mid f u) with
      | false => rw [hb] at hk; exact absurd hk.symm h
      | true =>
        rw [hb] at hk
        have he := Nat.eq_of_beq_eq_true hb
        simp only [cond_true] at hk
        have h1 := ih t (by rw [hk]; exact h)
        have h2 := ih u (by rw [← he, hk]; exact h)
        rw [← he, hk] at h2
        rw [hk] at h1
        have hv : (TE.cut t (.lit (.ofNat 0)) (.len u)).val.data.toList = ((TE.val t).data.toList.take (TE.val u).data.toList.length).drop 0 := by simp [TE.val, SE.val]
        rw [hv, h1, h2]
        simp
    · rename_i f' t hf
      cases hf
      unfold headK at hk
      cases hb : (mid && Nat.beq (kd mid f t) 1) with
      | false => rw [hb] at hk; exact absurd hk.symm h
      | true =>
        rw [hb] at hk
        simp only [Bool.and_eq_true] at hb
        have he := Nat.eq_of_beq_eq_true hb.2
        have h1 := ih t (by rw [he]; decide)
        rw [he] at h1
        have hv : (TE.cut t (.lit (.ofNat 0)) (.var 1)).val.data.toList = ((TE.val t).data.toList.take q.toNat).drop 0 := by
          have hq : (SE.var 1).val = q := rfl
          have h0 : (SE.lit (.ofNat 0)).val = 0 := rfl
          simp only [TE.val, hq, h0, Int.toNat_zero]
        rw [hv, h1]
        subst hk
        simp [kl]
    · rename_i f' t u hf
      cases hf
      unfold tailK at hk
      cases hb : (mid && (Nat.beq (kd mid f t) 1 && Nat.beq (kd mid f u) 1)) with
      | false => rw [hb] at hk; exact absurd hk.symm h
      | true =>
        rw [hb] at hk
        simp only [Bool.and_eq_true] at hb
        have he := Nat.eq_of_beq_eq_true hb.2.1
        have he2 := Nat.eq_of_beq_eq_true hb.2.2
        have h1 := ih t (by rw [he]; decide)
        have h2 := ih u (by rw [he2]; decide)
        rw [he] at h1
        rw [he2] at h2
        have hv : (TE.cut t (.var 1) (.len u)).val.data.toList = ((TE.val t).data.toList.take (TE.val u).data.toList.length).drop q.toNat := by
          have hq : (SE.var 1).val = q := rfl
          have hu : (SE.len u).val = ((TE.val u).data.toList.length : Int) := by simp only [SE.val]
          simp only [TE.val, hq, hu, Int.toNat_natCast]
        rw [hv, h1, h2]
        subst hk
        simp only [kl]
        rw [List.take_of_length_le (Nat.le_refl _)]
        rfl
    · rename_i f' a b hf
      cases hf
      have hv : (TE.cat a b).val.data.toList = a.val.data.toList ++ b.val.data.toList := by simp [TE.val]
      rw [hv]
      have ha := ih a
      have hb := ih b
      generalize kd mid f a = x at *
      generalize kd mid f b = y at *
      unfold catK at hk
      split at hk
      · subst hk
        rw [ha (by decide), hb h]
        simp [kl]
      · subst hk
        rw [ha h, hb (by decide)]
        simp [kl]
      · subst hk
        rw [ha (by decide), hb (by decide)]
        simp [kl]
      · exact absurd hk.symm h
    · exact absurd hk.symm h

/-- Numbers: 1 to 4 those that the law names, 5 the place, 11 to 14 the parts' sizes, 20 the text's size as a sum. -/
def lenK : Nat → Nat
  | 1 => 11
  | 2 => 12
  | 3 => 13
  | 4 => 14
  | _ => 0
def sumK (mid : Bool) : Nat → Nat → Nat
  | 2, 3 => bif mid then 20 else 0
  | _, _ => 0
def wholeK : Nat → Nat
  | 1 => 20
  | _ => 0
def litK (n : Nat) : Nat := bif Nat.beq n 0 then 1 else bif Nat.beq n 256 then 2 else bif Nat.beq n 1000 then 3 else bif Nat.beq n 9223372036854775807 then 4 else 0
def vc (mid : Bool) : SE → Nat
  | .lit (.ofNat n) => litK n
  | .var 1 => 5
  | .len t => lenK (kd mid 12 t)
  | .bin .add (.len t) (.len u) => sumK mid (kd mid 12 t) (kd mid 12 u)
  | .bin .add (.lit (.ofNat 0)) (.len u) => wholeK (kd mid 12 u)
  | .bin .add (.len t) (.lit (.ofNat 0)) => wholeK (kd mid 12 t)
  | _ => 0
def cv (n q : Int) : Nat → Int
  | 2 => 256
  | 3 => 1000
  | 4 => 9223372036854775807
  | 5 => q
  | 11 => n
  | 12 => if 0 ≤ q ∧ q ≤ n then q else 0
  | 13 => if 0 ≤ q ∧ q ≤ n then n - q else 0
  | 20 => n
  | _ => 0

theorem vc_ok {s : ByteArray} {q : Int} {mid : Bool} (hmid : mid = true → 0 ≤ q ∧ q ≤ s.data.toList.length) (hn : s.data.toList.length ≤ 256)
    (hkm : ∀ f t, kd mid f t = 2 ∨ kd mid f t = 3 → mid = true) (a : SE) (h : vc mid a ≠ 0) :
    @SE.val (envT s q) a = cv s.data.toList.length q (vc mid a) := by
  letI : Env := envT s q
  have size : ∀ t k, kd mid 12 t = k → k ≠ 0 → (SE.val (.len t)) = ((kl s.data.toList q k).length : Int) := fun t k h1 h2 => by
    have := kd_ok hmid 12 t (by rw [h1]; exact h2)
    rw [h1] at this
    rw [← this]
    simp [SE.val]
  generalize hk : vc mid a = k at h ⊢
  unfold vc at hk
  split at hk
  · rename_i n
    unfold litK at hk
    have hv : (SE.lit (.ofNat n)).val = (n : Int) := rfl
    rw [hv]
    cases h0 : Nat.beq n 0 with
    | true => rw [h0] at hk; subst hk; rw [Nat.eq_of_beq_eq_true h0]; rfl
    | false =>
      rw [h0] at hk
      cases h1 : Nat.beq n 256 with
      | true => rw [h1] at hk; subst hk; rw [Nat.eq_of_beq_eq_true h1]; rfl
      | false =>
        rw [h1] at hk
        cases h2 : Nat.beq n 1000 with
        | true => rw [h2] at hk; subst hk; rw [Nat.eq_of_beq_eq_true h2]; rfl
        | false =>
          rw [h2] at hk
          cases h3 : Nat.beq n 9223372036854775807 with
          | true => rw [h3] at hk; subst hk; rw [Nat.eq_of_beq_eq_true h3]; rfl
          | false => rw [h3] at hk; exact absurd hk.symm h
  · subst hk; rfl
  · rename_i t
    unfold lenK at hk
    split at hk
    · rename_i h1; subst hk; rw [size t _ h1 (by decide)]; simp [kl, cv]
    · rename_i h1
      subst hk
      have hm := hmid (hkm _ _ (.inl h1))
      rw [size t _ h1 (by decide)]
      simp only [kl, cv, List.length_take]
      rw [if_pos hm]
      omega
    · rename_i h1
      subst hk
      have hm := hmid (hkm _ _ (.inr h1))
      rw [size t _ h1 (by decide)]
      simp only [kl, cv, List.length_drop]
      rw [if_pos hm]
      omega
    · rename_i h1; subst hk; rw [size t _ h1 (by decide)]; simp [kl, cv]
    · exact absurd hk.symm h
  · rename_i t u
    unfold sumK at hk
    split at hk
    · rename_i h1 h2
      have hm := hmid (hkm _ _ (.inl h1))
      have e1 := size t _ h1 (by decide)
      have e2 := size u _ h2 (by decide)
      have hm2 := hkm _ _ (.inl h1)
      rw [hm2] at hk
      simp only [cond_true] at hk
      subst hk
      have hv : (SE.bin .add (.len t) (.len u)).val = IntKind.i64.wrap ((SE.val (.len t)) + (SE.val (.len u))) := rfl
      rw [hv, e1, e2]
      simp only [kl, cv, List.length_take, List.length_drop, IntKind.wrap_i64]
      omega
    · exact absurd hk.symm h
  · rename_i u
    unfold wholeK at hk
    split at hk
    · rename_i h1
      subst hk
      have e1 := size u _ h1 (by decide)
      have hv : (SE.bin .add (.lit (.ofNat 0)) (.len u)).val = IntKind.i64.wrap (0 + (SE.val (.len u))) := rfl
      rw [hv, e1]
      simp only [kl, cv, IntKind.wrap_i64]
      omega
    · exact absurd hk.symm h
  · rename_i t
    unfold wholeK at hk
    split at hk
    · rename_i h1
      subst hk
      have e1 := size t _ h1 (by decide)
      have hv : (SE.bin .add (.len t) (.lit (.ofNat 0))).val = IntKind.i64.wrap ((SE.val (.len t)) + 0) := rfl
      rw [hv, e1]
      simp only [kl, cv, IntKind.wrap_i64]
      omega
    · exact absurd hk.symm h
  · exact absurd hk.symm h

theorem kd_mid {mid : Bool} : ∀ (f : Nat) (t : TE), kd mid f t = 2 ∨ kd mid f t = 3 → mid = true := by
  cases mid with
  | true => intros; rfl
  | false =>
    intro f
    induction f with
    | zero => intro t h; simp [kd] at h
    | succ f ih =>
      intro t h
      unfold kd at h
      split at h
      · cases ‹f + 1 = 0›
      · simp at h
      · split at h <;> simp at h
      · rename_i f' t u hf
        cases hf
        unfold sameK at h
        cases hb : Nat.beq (kd false f t) (kd false f u) with
        | false => rw [hb] at h; simp at h
        | true => rw [hb] at h; exact ih t h
      · simp [headK] at h
      · simp [tailK] at h
      · rename_i f' a b hf
        cases hf
        have ha := ih a
        have hb := ih b
        generalize kd false f a = x at *
        generalize kd false f b = y at *
        unfold catK at h
        split at h
        · exact hb h
        · exact ha h
        · simp at h
        · simp at h
      · simp at h

/-- The decisions on numbers: (z: the text is empty; lt: the place lies ahead of its end; np: not above 0; pos: above 0; ge: not ahead of the end; mid: from 0 to the end). -/
def nt (z lt np pos ge mid : Bool) : BinOp → Nat → Nat → Option Bool
  | .gtr, 11, 2 => some false
  | .leq, 11, 2 | .leq, 12, 2 | .leq, 13, 2 | .leq, 14, 2 => some true
  | .lss, 2, 11 | .lss, 2, 12 | .lss, 2, 13 | .lss, 2, 14 => some false
  | .leq, 11, 4 | .leq, 12, 4 | .leq, 13, 4 | .leq, 14, 4 => some true
  | .leq, 1, 1 | .leq, 1, 11 | .leq, 1, 12 | .leq, 1, 13 | .leq, 1, 14 => some true
  | .leq, 11, 11 | .leq, 12, 12 | .leq, 13, 13 | .leq, 14, 14 => some true
  | .lss, 3, 11 => some false
  | .geq, 1, 11 => some z
  | .lss, 5, 11 => some lt
  | .geq, 1, 5 => some np
  | .gtr, 5, 1 => some pos
  | .geq, 5, 11 => some ge
  | .leq, 1, 5 | .leq, 5, 11 => bif mid then some true else none
  | .eql, 20, 11 | .eql, 11, 11 => some true
  | .eql, 1, 11 => some z
  | _, _, _ => none
def tt (z : Bool) : BinOp → Nat → Nat → Option Bool
  | .eql, 1, 1 => some true
  | .eql, 4, 1 => some z
  | _, _, _ => none
def numT (z lt np pos ge mid : Bool) : Num := fun op a b => nt z lt np pos ge mid op (vc mid a) (vc mid b)
def txtT (z _lt _np _pos _ge mid : Bool) : Txt := fun op a b => tt z op (kd mid 12 a) (kd mid 12 b)
def numLong : Num := fun op a b => match op, a, b with
  | .gtr, .len (.var 0), .lit (.ofNat 256) => some true
  | _, _, _ => none
def noTxtT : Txt := fun _ _ _ => none

theorem decT (s : ByteArray) (q : Int) (tab : Tabs) {z lt np pos ge mid : Bool} (hn : s.data.toList.length ≤ 256) (hz : z = decide ((s.data.toList.length : Int) ≤ 0)) (hlt : lt = decide (q < s.data.toList.length))
    (hnp : np = decide (q ≤ 0)) (hpos : pos = decide (0 < q)) (hge : ge = decide ((s.data.toList.length : Int) ≤ q)) (hmid : mid = true → 0 ≤ q ∧ q ≤ s.data.toList.length) :
    @DecOk (envT s q) (gl tab (numT z lt np pos ge mid) (txtT z lt np pos ge mid)) := by
  letI : Env := envT s q
  refine ⟨fun op a b r h => ?_, fun op a b r h => ?_⟩
  · have ha := vc_ok hmid hn kd_mid a
    have hb := vc_ok hmid hn kd_mid b
    simp only [gl, numT] at h
    generalize vc mid a = c at *
    generalize vc mid b = d at *
    have n0 : (0 : Int) ≤ s.data.toList.length := by omega
    have hn' : (s.data.toList.length : Int) ≤ 256 := by omega
    clear hn
    generalize (s.data.toList.length : Int) = n at *
    have yes : ∀ {p : Prop} [Decidable p], p → (some (Value.bool (decide p), true) : Option (Value × Bool)) = some (.bool true, true) := fun hp => by rw [decide_eq_true hp]
    have no : ∀ {p : Prop} [Decidable p], ¬ p → (some (Value.bool (decide p), true) : Option (Value × Bool)) = some (.bool false, true) := fun hp => by rw [decide_eq_false hp]
    have as : ∀ {p p' : Prop} [Decidable p] [Decidable p'] {x : Bool}, x = decide p' → (p ↔ p') → (some (Value.bool (decide p), true) : Option (Value × Bool)) = some (.bool x, true) := fun hx hp => by
      rw [hx, decide_eq_decide.2 hp]
    unfold nt at h
    split at h
    all_goals first
      | (cases h; done)
      | rw [ha (by decide), hb (by decide)]
    all_goals simp only [cv]
    all_goals first
      | (cases h; exact yes (by omega))
      | (cases h; exact yes (by split <;> omega))
      | (cases h; exact no (by omega))
      | (cases h; exact no (by split <;> omega))
      | (cases h; exact as hz (by omega))
      | (cases h; exact as hlt (by omega))
      | (cases h; exact as hnp (by omega))
      | (cases h; exact as hpos (by omega))
      | (cases h; exact as hge (by omega))
      | (cases h
         show some (Value.bool (n == n), true) = _
         rw [beq_self_eq_true]; done)
      | (cases h
         show some (Value.bool ((0 : Int) == n), true) = some (.bool z, true)
         have e : ((0 : Int) == n) = decide (n ≤ 0) := by
           by_cases h0 : n = 0
           · rw [h0]; rfl
           · have h1 : ¬ n ≤ 0 := by omega
             rw [decide_eq_false h1]
             simp
             omega
         rw [e, hz]; done)
      | (cases mid with
         | false => cases h
         | true =>
           have hm := hmid rfl
           cases h
           exact yes (by omega))
  · have ha := kd_ok hmid 12 a
    have hb := kd_ok hmid 12 b
    simp only [gl, txtT] at h
    generalize kd mid 12 a = c at *
    generalize kd mid 12 b = d at *
    unfold tt at h
    split at h
    · cases h
      simp only [binStr]
      rw [ha (by decide), hb (by decide)]
      simp [kl]
    · cases h
      simp only [binStr]
      rw [ha (by decide), hb (by decide), hz]
      simp only [kl]
      cases hl : s.data.toList with
      | nil => rfl
      | cons x l => simp
    · cases h
end Go.Ab
