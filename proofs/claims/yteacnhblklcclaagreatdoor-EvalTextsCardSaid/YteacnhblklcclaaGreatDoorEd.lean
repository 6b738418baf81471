/-
  The evaluator is sound: calls and single steps. No condition.
-/
import Derived.Test.YteacnhblklcclaaGreatDoorEc
namespace Go.Ab
set_option linter.unusedSectionVars false
variable [Env]

/-! Letters that are the engine's own: below 'far'. -/
def far : Nat := 4095

theorem Tr.get_far {α : Type} (d : α) : ∀ (f : Nat) (t : Tr α) (k : Nat), 2 ^ f ≤ k + 1 → t.get d f k = d
  | 0, _, _, _ => rfl
  | f + 1, .lf, k, _ => by simp [Tr.get]
  | f + 1, .nd v l r, 0, h => by
    rw [Nat.pow_succ] at h
    have := Nat.two_pow_pos f
    omega
  | f + 1, .nd v l r, k + 1, h => by
    have hk : 2 ^ f ≤ k / 2 + 1 := by rw [Nat.pow_succ] at h; omega
    simp only [Tr.get]
    cases Nat.beq (k % 2) 0
    · exact Tr.get_far d f r _ hk
    · exact Tr.get_far d f l _ hk
theorem hget_far {H : Tr Blk} {b : Nat} (h : far ≤ b) : hget H b = .dead := Tr.get_far _ _ _ _ (by unfold far at h; omega)

/-- What a program needs of the blocks. -/
def Sub (h0 h : Nat → Blk) : Prop := ∀ b, (h0 b).live = true → h b = h0 b

theorem Rd.run_sub {α : Type} {t : Nat → AV} {h0 h : Nat → Blk} (hs : Sub h0 h) : ∀ (r : Rd α) {x : α}, r.run t h0 = some x → r.run t h = some x
  | .ret a, x, e => e
  | .fail, x, e => e
  | .tmp i k, x, e => Rd.run_sub hs (k (t i)) e
  | .blk b k, x, e => by
    simp only [Rd.run] at e ⊢
    cases hb : h0 b with
    | dead => rw [hb] at e; cases e
    | fx ty cs => rw [hb] at e; rw [hs b (by rw [hb]; rfl), hb]; exact Rd.run_sub hs _ e
    | vec ty w cs => rw [hb] at e; rw [hs b (by rw [hb]; rfl), hb]; exact Rd.run_sub hs _ e

theorem testBit_lor (a b i : Nat) : (Nat.lor a b).testBit i = (a.testBit i || b.testBit i) := Nat.testBit_or a b i
theorem testBit_bit (b i : Nat) : (Nat.shiftLeft 1 b).testBit i = decide (b = i) := by
  show (1 <<< b).testBit i = _
  rw [Nat.one_shiftLeft, Nat.testBit_two_pow]
theorem hasBit_eq (m b : Nat) : hasBit m b = m.testBit b := by
  unfold hasBit Nat.testBit
  show Nat.beq ((m >>> b) &&& 1) 1 = _
  rw [Nat.and_comm]
  have h : 1 &&& (m >>> b) = 0 ∨ 1 &&& (m >>> b) = 1 := by
    rw [Nat.one_and_eq_mod_two]; omega
  rcases h with h | h <;> rw [h] <;> rfl

/-- A program that tells which blocks it looked at. -/
theorem Rd.runM_spec {α : Type} {t : Nat → AV} {h0 : Nat → Blk} : ∀ (r : Rd α) (m : Nat) {x : α} {m' : Nat}, r.runM t h0 m = some (x, m') →
    (∀ b, m.testBit b = true → m'.testBit b = true) ∧ ∀ h, (∀ b, m'.testBit b = true → (h0 b).live = true → h b = h0 b) → r.run t h = some x
  | .ret a, m, x, m', e => by cases e; exact ⟨fun _ h => h, fun _ _ => rfl⟩
  | .fail, m, x, m', e => by cases e
  | .tmp i k, m, x, m', e => Rd.runM_spec (k (t i)) m e
  | .blk b k, m, x, m', e => by
    simp only [Rd.runM] at e
    cases hb : h0 b with
    | dead => rw [hb] at e; cases e
    | fx ty cs =>
      rw [hb] at e
      obtain ⟨h1, h2⟩ := Rd.runM_spec _ _ e
      refine ⟨fun i hi => h1 i (by rw [testBit_lor, hi]; rfl), fun h hh => ?_⟩
      have hm : m'.testBit b = true := h1 b (by rw [testBit_lor, testBit_bit]; simp)
      simp only [Rd.run, hh b hm (by rw [hb]; rfl), hb]
      exact h2 h hh
    | vec ty w cs =>
      rw [hb] at e
      obtain ⟨h1, h2⟩ := Rd.runM_spec _ _ e
      refine ⟨fun i hi => h1 i (by rw [testBit_lor, hi]; rfl), fun h hh => ?_⟩
      have hm : m'.testBit b = true := h1 b (by rw [testBit_lor, testBit_bit]; simp)
      simp only [Rd.run, hh b hm (by rw [hb]; rfl), hb]
      exact h2 h hh

/-! Other letters. -/
theorem renL_get (ρ : Nat → Option Nat) : ∀ (l : List AV) (i : Nat), (AV.renL ρ l)[i]? = (l[i]?).map (AV.ren ρ)
  | [], i => by simp [AV.renL, AV.ren.renL]
  | c :: cs, 0 => by simp [AV.renL, AV.ren.renL]
  | c :: cs, i + 1 => by
    have := renL_get ρ cs i
    simp only [AV.renL] at this
    simp [AV.renL, AV.ren.renL, this]
theorem renL_length (ρ : Nat → Option Nat) : ∀ (l : List AV), (AV.renL ρ l).length = l.length
  | [] => by simp [AV.renL, AV.ren.renL]
  | c :: cs => by
    have := renL_length ρ cs
    simp only [AV.renL] at this
    simp [AV.renL, AV.ren.renL, this]
theorem renL_some {ρ : Nat → Option Nat} {l : List AV} {i : Nat} {c : AV} (e : (AV.renL ρ l)[i]? = some c) : ∃ x, l[i]? = some x ∧ c = x.ren ρ := by
  rw [renL_get] at e
  cases h : l[i]? with
  | none => rw [h] at e; cases e
  | some x => rw [h] at e; exact ⟨x, rfl, by simpa using e.symm⟩

theorem RP.weak {W W' : Wr} {w : World} {x : PV} {v : Value} (h : RP W w x v) (hl : Less w.heap.size W W') : RP W' w x v := h.mono (Ext.refl _ _) hl

theorem RA.ren {φ φ' : Phi} {W W' : Wr} {w : World} {ρ : Nat → Option Nat} (hρ : ∀ b k l, ρ b = some k → φ b = some l → φ' k = some l) (hl : Less w.heap.size W W')
    {x : AV} {v : Value} (h : RA φ W w x v) : RA φ' W' w (x.ren ρ) v := by
  induction h with
  | p x v h => rw [show (AV.p x).ren ρ = .p x by simp [AV.ren]]; exact .p x v (h.weak hl)
  | ptr b off r c h =>
    rw [AV.ren]
    cases hb : ρ b with
    | none => exact .top _
    | some k => exact .ptr k off r c (hρ b k _ hb h)
  | ep row off b o vals hcell hval hW hb => rw [show (AV.ep row off).ren ρ = .ep row off by simp [AV.ren]]; exact .ep row off b o vals hcell (fun j c hj => (hval j c hj).weak hl) (fun hw => hW (hl b hb hw)) hb
  | own b n cap r h hn hr =>
    rw [AV.ren]
    cases hb : ρ b with
    | none => exact .top _
    | some k => exact .own k n cap r (hρ b k _ hb h) hn hr
  | sub b off n cap r c h hn =>
    rw [AV.ren]
    cases hb : ρ b with
    | none => exact .top _
    | some k => exact .sub k off n cap r c (hρ b k _ hb h) hn
  | clo f first caps fv cv h1 h2 h3 h4 ih1 ih2 =>
    rw [AV.ren]
    refine .clo f _ _ fv cv (by rw [h1]; exact (renL_length ρ first).symm) (by rw [h2]; exact (renL_length ρ caps).symm) (fun i c v hc hv => ?_) (fun i c v hc hv => ?_)
    · obtain ⟨x, hx, rfl⟩ := renL_some hc; exact ih1 i x v hx hv
    · obtain ⟨x, hx, rfl⟩ := renL_some hc; exact ih2 i x v hx hv
  | agg cs vs h hv ih =>
    rw [AV.ren]
    refine .agg _ vs (by rw [h]; exact (renL_length ρ cs).symm) (fun i c v hc hv => ?_)
    obtain ⟨x, hx, rfl⟩ := renL_some hc; exact ih i x v hx hv
  | tup cs vs h hv ih =>
    rw [AV.ren]
    refine .tup _ vs (by rw [h]; exact (renL_length ρ cs).symm) (fun i c v hc hv => ?_)
    obtain ⟨x, hx, rfl⟩ := renL_some hc; exact ih i x v hx hv
  | top v => rw [show AV.top.ren ρ = .top by simp [AV.ren]]; exact .top v

theorem RL.ren {φ φ' : Phi} {W W' : Wr} {w : World} {ρ : Nat → Option Nat} (hρ : ∀ b k l, ρ b = some k → φ b = some l → φ' k = some l) (hl : Less w.heap.size W W')
    {cs : List AV} {vs : Array Value} (h : RL φ W w cs vs) : RL φ' W' w (AV.renL ρ cs) vs :=
  ⟨by rw [h.size, renL_length], fun i c v hc hv => by obtain ⟨x, hx, rfl⟩ := renL_some hc; exact (h.get i x v hx hv).ren hρ hl⟩

theorem live_ren (B : Blk) (ρ : Nat → Option Nat) : (B.ren ρ).live = B.live := by cases B <;> rfl

theorem RB.ren {φ φ' : Phi} {W W' : Wr} {w : World} {ρ : Nat → Option Nat} (hρ : ∀ b k l, ρ b = some k → φ b = some l → φ' k = some l) (hl : Less w.heap.size W W')
    {B : Blk} {id id' : Nat} (h : RB φ W w id B) (hid : B.live = true → φ' id' = φ id) : RB φ' W' w id' (B.ren ρ) := by
  cases B with
  | dead => trivial
  | fx ty cs =>
    obtain ⟨r, c, vs, h1, h2, h3⟩ := h
    exact ⟨r, c, vs, (hid rfl).trans h1, h2, h3.ren hρ hl⟩
  | vec ty wd cs =>
    obtain ⟨ro, cap, h1, h2⟩ := h
    refine ⟨ro, cap, (hid rfl).trans h1, ?_⟩
    cases ro with
    | none => exact ⟨by rw [h2.1]; rfl, h2.2⟩
    | some r =>
      obtain ⟨vs, h3, h4, h5, h6⟩ := h2
      exact ⟨vs, h3, h4, by rw [renL_length]; exact h5, fun i c v hc hv => by obtain ⟨x, hx, rfl⟩ := renL_some hc; exact (h6 i x v hx hv).ren hρ hl⟩

mutual
theorem ren_back {ρ σ : Nat → Option Nat} : ∀ (x : AV), (∀ b ∈ x.ids, ∃ k, ρ b = some k ∧ σ k = some b) → (x.ren ρ).ren σ = x
  | .p x, _ => by simp [AV.ren]
  | .ptr b o, h => by
    obtain ⟨k, h1, h2⟩ := h b (by simp [AV.ids])
    simp [AV.ren, h1, h2]
  | .ep row o, _ => by simp [AV.ren]
  | .own b n, h => by
    obtain ⟨k, h1, h2⟩ := h b (by simp [AV.ids])
    simp [AV.ren, h1, h2]
  | .sub b o n, h => by
    obtain ⟨k, h1, h2⟩ := h b (by simp [AV.ids])
    simp [AV.ren, h1, h2]
  | .clo f first caps, h => by
    simp only [AV.ren]
    rw [ren_backL first fun b hb => h b (by simp [AV.ids, hb]), ren_backL caps fun b hb => h b (by simp [AV.ids, hb])]
  | .agg cs, h => by
    simp only [AV.ren]
    rw [ren_backL cs fun b hb => h b (by simpa [AV.ids] using hb)]
  | .tup cs, h => by
    simp only [AV.ren]
    rw [ren_backL cs fun b hb => h b (by simpa [AV.ids] using hb)]
  | .top, _ => by simp [AV.ren]
theorem ren_backL {ρ σ : Nat → Option Nat} : ∀ (l : List AV), (∀ b ∈ AV.ids.idsL l, ∃ k, ρ b = some k ∧ σ k = some b) → AV.ren.renL σ (AV.ren.renL ρ l) = l
  | [], _ => by simp [AV.ren.renL]
  | c :: cs, h => by
    simp only [AV.ren.renL]
    rw [ren_back c fun b hb => h b (by simp [AV.ids.idsL, hb]), ren_backL cs fun b hb => h b (by simp [AV.ids.idsL, hb])]
end

theorem blk_ren_back {ρ σ : Nat → Option Nat} (B : Blk) (h : ∀ b ∈ AV.idsL B.cells, ∃ k, ρ b = some k ∧ σ k = some b) : (B.ren ρ).ren σ = B := by
  cases B with
  | dead => rfl
  | fx ty cs => simp only [Blk.ren, AV.renL]; rw [ren_backL cs h]
  | vec ty w cs => simp only [Blk.ren, AV.renL]; rw [ren_backL cs h]

mutual
theorem ren_same {ρ : Nat → Option Nat} : ∀ (x : AV), (∀ b ∈ x.ids, ρ b = some b) → x.ren ρ = x
  | .p x, _ => by simp [AV.ren]
  | .ptr b o, h => by simp [AV.ren, h b (by simp [AV.ids])]
  | .ep row o, _ => by simp [AV.ren]
  | .own b n, h => by simp [AV.ren, h b (by simp [AV.ids])]
  | .sub b o n, h => by simp [AV.ren, h b (by simp [AV.ids])]
  | .clo f first caps, h => by
    simp only [AV.ren]
    rw [ren_sameL first fun b hb => h b (by simp [AV.ids, hb]), ren_sameL caps fun b hb => h b (by simp [AV.ids, hb])]
  | .agg cs, h => by
    simp only [AV.ren]
    rw [ren_sameL cs fun b hb => h b (by simpa [AV.ids] using hb)]
  | .tup cs, h => by
    simp only [AV.ren]
    rw [ren_sameL cs fun b hb => h b (by simpa [AV.ids] using hb)]
  | .top, _ => by simp [AV.ren]
theorem ren_sameL {ρ : Nat → Option Nat} : ∀ (l : List AV), (∀ b ∈ AV.ids.idsL l, ρ b = some b) → AV.ren.renL ρ l = l
  | [], _ => by simp [AV.ren.renL]
  | c :: cs, h => by
    simp only [AV.ren.renL]
    rw [ren_same c fun b hb => h b (by simp [AV.ids.idsL, hb]), ren_sameL cs fun b hb => h b (by simp [AV.ids.idsL, hb])]
end
theorem blk_ren_same {ρ : Nat → Option Nat} (B : Blk) (h : ∀ b ∈ AV.idsL B.cells, ρ b = some b) : B.ren ρ = B := by
  cases B with
  | dead => rfl
  | fx ty cs => simp only [Blk.ren, AV.renL]; rw [ren_sameL cs h]
  | vec ty w cs => simp only [Blk.ren, AV.renL]; rw [ren_sameL cs h]

mutual
theorem ids_ren {ρ : Nat → Option Nat} : ∀ (x : AV), ∀ k ∈ (x.ren ρ).ids, ∃ b, ρ b = some k
  | .p x, k, h => by simp [AV.ren, AV.ids] at h
  | .ptr b o, k, h => by
    simp only [AV.ren] at h
    cases hb : ρ b with
    | none => rw [hb] at h; simp [AV.ids] at h
    | some j => rw [hb] at h; simp [AV.ids] at h; exact ⟨b, by rw [hb, h]⟩
  | .ep row o, k, h => by simp [AV.ren, AV.ids] at h
  | .own b n, k, h => by
    simp only [AV.ren] at h
    cases hb : ρ b with
    | none => rw [hb] at h; simp [AV.ids] at h
    | some j => rw [hb] at h; simp [AV.ids] at h; exact ⟨b, by rw [hb, h]⟩
  | .sub b o n, k, h => by
    simp only [AV.ren] at h
    cases hb : ρ b with
    | none => rw [hb] at h; simp [AV.ids] at h
    | some j => rw [hb] at h; simp [AV.ids] at h; exact ⟨b, by rw [hb, h]⟩
  | .clo f first caps, k, h => by
    simp only [AV.ren, AV.ids, List.mem_append] at h
    rcases h with h | h
    · exact ids_renL first k h
    · exact ids_renL caps k h
  | .agg cs, k, h => by
    simp only [AV.ren, AV.ids] at h
    exact ids_renL cs k h
  | .tup cs, k, h => by
    simp only [AV.ren, AV.ids] at h
    exact ids_renL cs k h
  | .top, k, h => by simp [AV.ren, AV.ids] at h
theorem ids_renL {ρ : Nat → Option Nat} : ∀ (l : List AV), ∀ k ∈ AV.ids.idsL (AV.ren.renL ρ l), ∃ b, ρ b = some k
  | [], k, h => by simp [AV.ren.renL, AV.ids.idsL] at h
  | c :: cs, k, h => by
    simp only [AV.ren.renL, AV.ids.idsL, List.mem_append] at h
    rcases h with h | h
    · exact ids_ren c k h
    · exact ids_renL cs k h
end
theorem blk_ids_ren {ρ : Nat → Option Nat} (B : Blk) : ∀ k ∈ AV.idsL (B.ren ρ).cells, ∃ b, ρ b = some k := by
  cases B with
  | dead => intro k h; simp [Blk.ren, Blk.cells, AV.idsL, AV.ids.idsL] at h
  | fx ty cs => exact ids_renL cs
  | vec ty w cs => exact ids_renL cs
theorem ids_vals (l : List Value) : AV.idsL (l.map AV.v) = [] := by
  induction l with
  | nil => rfl
  | cons v l ih =>
    simp only [AV.idsL] at ih
    simp [AV.idsL, AV.ids.idsL, AV.v, AV.ids, ih]

/-! Letters that are reached. -/
structure Reached (h : Nat → Blk) (m0 : Nat) (l : List Nat) : Prop where
  nodup : l.Nodup
  live : ∀ b ∈ l, (h b).live = true
  new : ∀ b ∈ l, m0.testBit b = false

theorem reach_sound {h : Nat → Blk} {st : Bool} {m0 : Nat} : ∀ (f : Nat) (todo : List Nat) (m : Nat) (acc l : List Nat), reach h st f todo m acc = some l →
    Reached h m0 acc → (∀ b, m.testBit b = true ↔ m0.testBit b = true ∨ b ∈ acc) → Reached h m0 l ∧ (∀ b ∈ acc, b ∈ l) ∧
      (st = true → m0 = 0 → (∀ b ∈ todo, b ∈ l) ∧ ((∀ b ∈ acc, ∀ c ∈ AV.idsL (h b).cells, c ∈ acc ∨ c ∈ todo) → ∀ b ∈ l, ∀ c ∈ AV.idsL (h b).cells, c ∈ l))
  | 0, _, _, _, _, e, _, _ => by cases e
  | f + 1, [], m, acc, l, e, hr, hm => by
    simp only [reach, Option.some.injEq] at e
    subst e
    refine ⟨⟨(List.reverse_perm acc).nodup_iff.2 hr.nodup, fun b hb => hr.live b (by simpa using hb), fun b hb => hr.new b (by simpa using hb)⟩, fun b hb => by simpa using hb, fun _ _ => ⟨fun b hb => (by cases hb), fun hc b hb c hcm => ?_⟩⟩
    rcases hc b (by simpa using hb) c hcm with h1 | h1
    · simpa using h1
    · cases h1
  | f + 1, b :: todo, m, acc, l, e, hr, hm => by
    simp only [reach] at e
    rw [hasBit_eq] at e
    cases hb : m.testBit b with
    | true =>
      rw [hb] at e
      obtain ⟨h1, h2, h3⟩ := reach_sound f todo m acc l e hr hm
      refine ⟨h1, h2, fun hs h0 => ?_⟩
      obtain ⟨h4, h5⟩ := h3 hs h0
      have hba : b ∈ acc := by
        rcases (hm b).1 hb with h | h
        · rw [h0] at h; simp at h
        · exact h
      refine ⟨fun c hc => ?_, fun hc => h5 fun x hx c hcm => ?_⟩
      · rcases List.mem_cons.1 hc with rfl | hc
        · exact h2 _ hba
        · exact h4 c hc
      · rcases hc x hx c hcm with h | h
        · exact .inl h
        · rcases List.mem_cons.1 h with rfl | h
          · exact .inl hba
          · exact .inr h
    | false =>
      rw [hb] at e
      simp only [cond_false] at e
      have hnew : m0.testBit b = false ∧ b ∉ acc := by
        have := (hm b)
        rw [hb] at this
        simp only [Bool.false_eq_true, false_iff, not_or, Bool.not_eq_true] at this
        exact this
      have go : ∀ cs, (h b).cells = cs → (h b).live = true → reach h st f (AV.idsL cs ++ todo) (Nat.lor m (bit b)) (b :: acc) = some l → Reached h m0 l ∧ (∀ b ∈ acc, b ∈ l) ∧
          (st = true → m0 = 0 → (∀ c ∈ b :: todo, c ∈ l) ∧ ((∀ x ∈ acc, ∀ c ∈ AV.idsL (h x).cells, c ∈ acc ∨ c ∈ b :: todo) → ∀ b ∈ l, ∀ c ∈ AV.idsL (h b).cells, c ∈ l)) := by
        intro cs hcs hl e
        obtain ⟨h1, h2, h3⟩ := reach_sound f _ _ _ l e ⟨List.nodup_cons.2 ⟨hnew.2, hr.nodup⟩, fun x hx => by
            rcases List.mem_cons.1 hx with rfl | hx
            · exact hl
            · exact hr.live x hx, fun x hx => by
            rcases List.mem_cons.1 hx with rfl | hx
            · exact hnew.1
            · exact hr.new x hx⟩ (fun x => by
            rw [testBit_lor, bit, testBit_bit]
            simp only [Bool.or_eq_true, decide_eq_true_eq, hm x, List.mem_cons]
            constructor
            · rintro ((h | h) | h)
              · exact .inl h
              · exact .inr (.inr h)
              · exact .inr (.inl h.symm)
            · rintro (h | h | h)
              · exact .inl (.inl h)
              · exact .inr h.symm
              · exact .inl (.inr h))
        refine ⟨h1, fun x hx => h2 x (by simp [hx]), fun hs h0 => ?_⟩
        obtain ⟨h4, h5⟩ := h3 hs h0
        refine ⟨fun c hc => ?_, fun hc => h5 fun x hx c hcm => ?_⟩
        · rcases List.mem_cons.1 hc with rfl | hc
          · exact h2 _ (by simp)
          · exact h4 c (by simp [hc])
        · rcases List.mem_cons.1 hx with rfl | hx
          · rw [hcs] at hcm; exact .inr (by simp [hcm])
          · rcases hc x hx c hcm with h | h
            · exact .inl (by simp [h])
            · rcases List.mem_cons.1 h with rfl | h
              · exact .inl (by simp)
              · exact .inr (by simp [h])
      cases hB : h b with
      | dead =>
        rw [hB] at e
        cases st with
        | true => cases e
        | false =>
          obtain ⟨h1, h2, h3⟩ := reach_sound f todo m acc l e hr hm
          exact ⟨h1, h2, fun hs => by cases hs⟩
      | fx ty cs => rw [hB] at e; rw [hB] at go; exact go cs rfl rfl e
      | vec ty w cs => rw [hB] at e; rw [hB] at go; exact go cs rfl rfl e

theorem pos_sound {b : Nat} : ∀ (l : List Nat) (k j : Nat), pos b l k = some j → k ≤ j ∧ l[j - k]? = some b
  | [], _, _, e => by cases e
  | x :: r, k, j, e => by
    simp only [pos] at e
    cases hx : Nat.beq x b with
    | true => rw [hx] at e; cases e; exact ⟨Nat.le_refl _, by simp [Nat.eq_of_beq_eq_true hx]⟩
    | false =>
      rw [hx] at e
      obtain ⟨h1, h2⟩ := pos_sound r (k + 1) j e
      refine ⟨by omega, ?_⟩
      obtain ⟨q, hq⟩ : ∃ q, j - k = q + 1 := ⟨j - k - 1, by omega⟩
      rw [hq]
      simp only [List.getElem?_cons_succ]
      rw [← h2]; congr 1; omega
theorem pos_mem {b : Nat} : ∀ (l : List Nat) (k : Nat), b ∈ l → ∃ j, pos b l k = some j
  | [], _, h => by cases h
  | x :: r, k, h => by
    simp only [pos]
    cases hx : Nat.beq x b with
    | true => exact ⟨k, rfl⟩
    | false =>
      rcases List.mem_cons.1 h with rfl | h
      · simp at hx
      · exact pos_mem r (k + 1) h

end Go.Ab

namespace Go.Ab
set_option linter.unusedSectionVars false
variable [Env]

/-- What a call of a function comes to: by its body, or at once. -/
def Runs (P : Program) (f : FuncId) (vargs : Array Value) (w : World) (R : Value → World → Prop) : Prop :=
  ((callFunc f vargs).run P w = .ok (.enter f vargs) w ∧ Calls P f vargs w fun | .returned v, w' => R v w' | _, _ => False) ∨
  ∃ v w', (callFunc f vargs).run P w = .ok (.value v) w' ∧ R v w'

theorem Runs.mono {P : Program} {f : FuncId} {vargs : Array Value} {w : World} {R R' : Value → World → Prop} (h : Runs P f vargs w R) (hr : ∀ v w', R v w' → R' v w') : Runs P f vargs w R' := by
  rcases h with ⟨h1, h2⟩ | ⟨v, w', h1, h2⟩
  · exact .inl ⟨h1, h2.mono fun e w' he => by cases e <;> first | exact hr _ _ he | exact he⟩
  · exact .inr ⟨v, w', h1, hr _ _ h2⟩

/-- The tables that are there all along. -/
def Globs (G : Glob) (φ : Phi) (h : Nat → Blk) (w : World) : Prop := ∀ g row, G.tab g = some row → RA φ (wr φ h) w (.ep row 0) (.pointer (some ⟨g, 0, none⟩))

/-- What a call leaves behind. -/
structure Left (φ : Phi) (h : Nat → Blk) (w : World) (H : List Blk) (ans : Ans) (v : Value) (w' : World) (φ' : Phi) (h' : Nat → Blk) : Prop where
  rh : RH φ' h' w'
  res : RA φ' (wr φ' h') w' ans.res v
  ext : Ext (wr φ h) w w'
  phi : PhiExt φ φ'
  less : Less w.heap.size (wr φ h) (wr φ' h')
  far : ∀ k, far ≤ k → h' k = h k
  old : ∀ k, k < H.length → h' k = applyF (fun k => H.getD k .dead) ans.old k
  new : ∀ k, H.length ≤ k → k < Ab.far → h' k = ans.new.getD (k - H.length) .dead

/-- A call that is deferred. -/
def RunsD (P : Program) (f : FuncId) (vargs : Array Value) (w : World) (R : Value → World → Prop) : Prop :=
  (callFunc f vargs).run P w = .ok (.enter f vargs) w ∧ ∀ u, CallsD P f vargs u w fun e u' w' => u' = u ∧ match e with | .returned v => R v w' | _ => False

theorem RunsD.mono {P : Program} {f : FuncId} {vargs : Array Value} {w : World} {R R' : Value → World → Prop} (h : RunsD P f vargs w R) (hr : ∀ v w', R v w' → R' v w') : RunsD P f vargs w R' :=
  ⟨h.1, fun u => (h.2 u).mono fun e u' w' he => ⟨he.1, by
    have := he.2
    cases e <;> first | exact hr _ _ this | exact this⟩⟩

abbrev Running := FuncId → Array Value → World → (Value → World → Prop) → Prop
/-- A table of calls that keeps its word. -/
def CallOkR (Rn : Running) (G : Glob) (call : Calling) : Prop :=
  ∀ f args H ans, call f args H = some ans → (∀ p ∈ ans.old, p.1 < H.length) ∧ H.length + ans.new.length < far ∧
    ((∀ k, k < H.length → ∀ b ∈ AV.idsL (H.getD k .dead).cells, b < H.length) → ∀ (φ : Phi) (h : Nat → Blk) (w : World) (vargs : Array Value), RH φ h w →
      (∀ k, k < H.length → h k = H.getD k .dead) → (∀ k, H.length ≤ k → k < far → φ k = none) → (∀ k, far ≤ k → AV.idsL (h k).cells = []) →
      RL φ (wr φ h) w args vargs → Globs G φ h w → Rn f vargs w fun v w' => ∃ φ' h', Left φ h w H ans v w' φ' h')
def CallOk (P : Program) (G : Glob) (call : Calling) : Prop := CallOkR (Runs P) G call

theorem applyF_append (h : Nat → Blk) : ∀ (a b : List (Nat × Blk)), applyF h (a ++ b) = applyF (applyF h a) b
  | [], _ => rfl
  | (x, B) :: a, b => by
    simp only [List.cons_append, applyF]
    exact applyF_append (fup h x B) a b

theorem applyF_ne {b : Nat} : ∀ (l : List (Nat × Blk)) (h : Nat → Blk), (∀ p ∈ l, p.1 ≠ b) → applyF h l b = h b
  | [], _, _ => rfl
  | (x, B) :: l, h, hn => by
    simp only [applyF]
    rw [applyF_ne l _ fun p hp => hn p (by simp [hp]), fup_ne _ _ (fun e => hn (x, B) (by simp) e.symm)]

section
variable {φ : Phi} {h : Nat → Blk} {w : World} {l : List Nat}

theorem nodup_get {l : List Nat} (hn : l.Nodup) {i j : Nat} {b : Nat} (hi : l[i]? = some b) (hj : l[j]? = some b) : i = j := by
  obtain ⟨h1, e1⟩ := List.getElem?_eq_some_iff.1 hi
  obtain ⟨h2, e2⟩ := List.getElem?_eq_some_iff.1 hj
  have hp := List.pairwise_iff_getElem.1 hn
  rcases Nat.lt_trichotomy i j with h | h | h
  · exact absurd (e1.trans e2.symm) (hp i j h1 h2 h)
  · exact h
  · exact absurd (e2.trans e1.symm) (hp j i h2 h1 h)

theorem blt_iff {a b : Nat} : Nat.blt a b = true ↔ a < b := by unfold Nat.blt; rw [Nat.ble_eq]; rfl

/-- A block of another's, as it lies in the world. -/
def exactly (φ : Phi) (h : Nat → Blk) (w : World) (j : Nat) : Blk :=
  if (h j).live then match φ j with
    | some (some r, _) => match w.heap[r]? with
      | some (.cells vs ty (0, 0)) => .fx ty (vs.toList.map AV.v)
      | _ => .dead
    | _ => .dead
  else .dead

theorem exactly_live {j : Nat} (e : (exactly φ h w j).live = true) : (h j).live = true ∧ ∃ r c vs ty, φ j = some (some r, c) ∧ w.heap[r]? = some (.cells vs ty (0, 0)) ∧ exactly φ h w j = .fx ty (vs.toList.map AV.v) := by
  unfold exactly at e ⊢
  split at e
  · rename_i hl
    refine ⟨hl, ?_⟩
    split at e
    · rename_i r c hφ
      split at e
      · rename_i vs ty hw
        exact ⟨r, c, vs, ty, hφ, hw, by simp [*]⟩
      · cases e
    · cases e
  · cases e

theorem exactly_of (hr : RH φ h w) {j r c : Nat} (hl : (h j).live = true) (hφ : φ j = some (some r, c)) : ∃ vs ty, w.heap[r]? = some (.cells vs ty (0, 0)) ∧ exactly φ h w j = .fx ty (vs.toList.map AV.v) := by
  obtain ⟨vs, h1, _, _⟩ := hr.open hl hφ
  exact ⟨vs, _, h1, by unfold exactly; simp only [hl, if_true, hφ, h1]⟩

/-- The callee's letters: those that are reached; all others far away, as they lie. -/
def viewPhi (φ : Phi) (l : List Nat) (k : Nat) : Option Loc :=
  if k < l.length then φ (l.getD k 0) else if k < far then none else if k - far ∈ l then none else φ (k - far)
def viewH (φ : Phi) (h : Nat → Blk) (w : World) (l : List Nat) (k : Nat) : Blk :=
  if k < l.length then (h (l.getD k 0)).ren (fun b => pos b l 0) else if k < far then .dead else if k - far ∈ l then .dead else exactly φ h w (k - far)

/-- The caller's letter of a callee's. -/
def viewOf (l : List Nat) (k : Nat) : Nat := if k < l.length then l.getD k 0 else k - far

theorem getD_of_lt {l : List Nat} {k : Nat} (h : k < l.length) : l[k]? = some (l.getD k 0) := by simp [List.getD, h]

theorem view_live {k : Nat} (e : (viewH φ h w l k).live = true) : (h (viewOf l k)).live = true ∧ viewPhi φ l k = φ (viewOf l k) ∧ (k < l.length ∨ far ≤ k ∧ k - far ∉ l) := by
  unfold viewH at e
  unfold viewPhi viewOf
  by_cases h1 : k < l.length
  · simp only [h1, if_true] at e ⊢
    rw [live_ren] at e
    exact ⟨e, trivial, .inl trivial⟩
  · simp only [h1, if_false] at e ⊢
    by_cases h2 : k < far
    · simp only [h2, if_true] at e; cases e
    · simp only [h2, if_false] at e ⊢
      by_cases h3 : k - far ∈ l
      · simp only [h3, if_true] at e; cases e
      · simp only [h3, if_false] at e ⊢
        exact ⟨(exactly_live e).1, trivial, .inr ⟨by omega, not_false⟩⟩

theorem view_wr : ∀ r, wr (viewPhi φ l) (viewH φ h w l) r → wr φ h r := by
  rintro r ⟨k, c, h1, h2⟩
  obtain ⟨h3, h4, _⟩ := view_live h1
  exact ⟨viewOf l k, c, h3, by rw [← h4]; exact h2⟩

theorem view_ren (b k : Nat) (loc : Loc) (e : pos b l 0 = some k) (hφ : φ b = some loc) : viewPhi φ l k = some loc := by
  obtain ⟨_, h2⟩ := pos_sound l 0 k e
  rw [Nat.sub_zero] at h2
  obtain ⟨h3, h4⟩ := List.getElem?_eq_some_iff.1 h2
  unfold viewPhi
  rw [if_pos h3]
  have : l.getD k 0 = b := by simp [List.getD, h2]
  rw [this, hφ]

theorem view_rh (hr : RH φ h w) (hn : l.Nodup) : RH (viewPhi φ l) (viewH φ h w l) w := by
  have hls : Less w.heap.size (wr φ h) (wr (viewPhi φ l) (viewH φ h w l)) := fun r _ hr => view_wr r hr
  refine ⟨fun k => ?_, fun i j ci cj r l1 l2 p1 p2 => ?_, fun k r c hk => ?_⟩
  · by_cases h1 : k < l.length
    · have : viewH φ h w l k = (h (l.getD k 0)).ren (fun b => pos b l 0) := by unfold viewH; rw [if_pos h1]
      rw [this]
      exact (hr.blk (l.getD k 0)).ren view_ren hls fun _ => by unfold viewPhi; rw [if_pos h1]
    · cases hk : (viewH φ h w l k).live with
      | false =>
        generalize viewH φ h w l k = B at hk
        cases B with
        | dead => trivial
        | _ => cases hk
      | true =>
        obtain ⟨_, h4, h5⟩ := view_live hk
        have h5 := h5.resolve_left h1
        have e : viewH φ h w l k = exactly φ h w (k - far) := by unfold viewH; rw [if_neg h1, if_neg (by omega), if_neg h5.2]
        rw [e] at hk ⊢
        obtain ⟨_, r, c, vs, ty, p1, p2, p3⟩ := exactly_live hk
        rw [p3]
        exact ⟨r, c, vs, by rw [h4]; unfold viewOf; rw [if_neg h1]; exact p1, p2, RL.values vs⟩
  · obtain ⟨a1, a2, a3⟩ := view_live l1
    obtain ⟨b1, b2, b3⟩ := view_live l2
    rw [a2] at p1; rw [b2] at p2
    have := hr.inj _ _ ci cj r a1 b1 p1 p2
    unfold viewOf at this
    rcases a3 with a3 | ⟨a3, a4⟩ <;> rcases b3 with b3 | ⟨b3, b4⟩
    · rw [if_pos a3, if_pos b3] at this
      exact nodup_get hn (getD_of_lt a3) (by rw [this]; exact getD_of_lt b3)
    · rw [if_pos a3] at this
      by_cases hj : j < l.length
      · rw [if_pos hj] at this
        exact nodup_get hn (getD_of_lt a3) (by rw [this]; exact getD_of_lt hj)
      · rw [if_neg hj] at this
        exact absurd (this ▸ List.mem_of_getElem? (getD_of_lt a3)) b4
    · rw [if_pos b3] at this
      by_cases hi : i < l.length
      · rw [if_pos hi] at this
        exact nodup_get hn (getD_of_lt hi) (by rw [this]; exact getD_of_lt b3)
      · rw [if_neg hi] at this
        exact absurd (this ▸ List.mem_of_getElem? (getD_of_lt b3)) a4
    · by_cases hi : i < l.length <;> by_cases hj : j < l.length
      · rw [if_pos hi, if_pos hj] at this
        exact nodup_get hn (getD_of_lt hi) (by rw [this]; exact getD_of_lt hj)
      · rw [if_pos hi, if_neg hj] at this
        exact absurd (this ▸ List.mem_of_getElem? (getD_of_lt hi)) b4
      · rw [if_neg hi, if_pos hj] at this
        exact absurd (this ▸ List.mem_of_getElem? (getD_of_lt hj)) a4
      · rw [if_neg hi, if_neg hj] at this
        omega
  · unfold viewPhi at hk
    split at hk
    · exact hr.bound _ _ _ hk
    · split at hk
      · cases hk
      · split at hk
        · cases hk
        · exact hr.bound _ _ _ hk

end

theorem RB.vals {φ : Phi} {W : Wr} {w : World} {id : Nat} {ty : TypeId} {vs : Array Value} (h : RB φ W w id (.fx ty (vs.toList.map AV.v))) :
    ∃ r c, φ id = some (some r, c) ∧ w.heap[r]? = some (.cells vs ty (0, 0)) := by
  obtain ⟨r, c, vs', h1, h2, h3⟩ := h
  have : vs' = vs := by
    apply Array.ext
    · rw [h3.size]; simp
    · intro i h4 h5
      have := h3.get i (.v vs[i]) vs'[i] (by simp [h5]) (by simp [h4])
      exact RA.v_eq this
  subst this
  exact ⟨r, c, h1, h2⟩

theorem backOld_at {l : List Nat} {m nid n : Nat} (hn : l.Nodup) : ∀ (old : List (Nat × Blk)) (g G : Nat → Blk), (∀ p ∈ old, p.1 < l.length) →
    (∀ k, k < l.length → g (l.getD k 0) = (G k).ren (back l m nid n)) →
    (∀ k, k < l.length → applyF g (backOld l m nid n old) (l.getD k 0) = (applyF G old k).ren (back l m nid n)) ∧ (∀ b, b ∉ l → applyF g (backOld l m nid n old) b = g b)
  | [], g, G, _, hg => ⟨hg, fun _ _ => rfl⟩
  | (q, B) :: r, g, G, hp, hg => by
    have hq : q < l.length := hp (q, B) (by simp)
    obtain ⟨h1, h2⟩ := backOld_at (m := m) (nid := nid) (n := n) hn r (fup g (l.getD q 0) (B.ren (back l m nid n))) (fup G q B) (fun p hp' => hp p (by simp [hp'])) (fun k hk => by
      by_cases e : k = q
      · subst e; rw [fup_self, fup_self]
      · rw [fup_ne _ _ e, fup_ne, hg k hk]
        intro e2
        exact e (nodup_get hn (getD_of_lt hk) (by rw [e2]; exact getD_of_lt hq)))
    refine ⟨fun k hk => h1 k hk, fun b hb => ?_⟩
    simp only [backOld, applyF]
    rw [h2 b hb, fup_ne]
    intro e
    exact hb (e ▸ List.mem_of_getElem? (getD_of_lt hq))

theorem backNew_at {l : List Nat} {m nid n : Nat} : ∀ (new : List Blk) (i : Nat) (g : Nat → Blk),
    (∀ k, k < new.length → applyF g (backNew l m nid n i new) (nid + i + k) = (new.getD k .dead).ren (back l m nid n)) ∧
    (∀ b, b < nid + i ∨ nid + i + new.length ≤ b → applyF g (backNew l m nid n i new) b = g b)
  | [], i, g => ⟨fun k hk => by simp at hk, fun _ _ => rfl⟩
  | B :: r, i, g => by
    obtain ⟨h1, h2⟩ := backNew_at (l := l) (m := m) (nid := nid) (n := n) r (i + 1) (fup g (nid + i) (B.ren (back l m nid n)))
    refine ⟨fun k hk => ?_, fun b hb => ?_⟩
    · simp only [backNew, applyF]
      cases k with
      | zero => rw [h2 _ (by omega), Nat.add_zero, fup_self]; rfl
      | succ k =>
        have := h1 k (by simpa using hk)
        rw [show nid + i + (k + 1) = nid + (i + 1) + k by omega, this]
        rfl
    · simp only [backNew, applyF]
      rw [h2 b (by simp at hb; omega), fup_ne _ _ (by simp at hb; omega)]

/-- A call keeps its word in the caller's letters. -/
theorem callA_sound {Rn : Running} (hmono : ∀ f vargs w (R R' : Value → World → Prop), Rn f vargs w R → (∀ v w', R v w' → R' v w') → Rn f vargs w R')
    {G : Glob} {call : Calling} (hc : CallOkR Rn G call) {f : FuncId} {args : List AV} {nid : Nat} {h0 h : Nat → Blk} {x : Txn} {l : List Nat}
    (e : callA call f args nid h0 = some (x, l)) (hl : ∀ b ∈ l, h b = h0 b) {φ : Phi} {w : World} {vargs : Array Value} (hr : RH φ h w) (ha : RL φ (wr φ h) w args vargs)
    (hf : ∀ b, nid ≤ b → b < nid + x.nnew → φ b = none) (hg : Globs G φ h w) :
    Rn f vargs w fun v w' => ∃ φ', RA φ' (wr φ' (applyF h x.wr)) w' x.res v ∧ Goes φ h w nid x.nnew φ' (applyF h x.wr) w' := by
  unfold callA at e
  split at e
  · cases e
  · rename_i l' hreach
    split at e
    · cases e
    · rename_i ans hcall
      simp only [Option.some.injEq, Prod.mk.injEq] at e
      obtain ⟨rfl, rfl⟩ := e
      obtain ⟨⟨hn, hlive, _⟩, _, hcl⟩ := reach_sound (m0 := 0) 4000 (AV.idsL args) 0 [] l' hreach ⟨List.nodup_nil, fun b hb => (by cases hb), fun b hb => (by cases hb)⟩ (fun b => by simp)
      obtain ⟨_, hclose⟩ := hcl rfl rfl
      have hclose := hclose (fun b hb => by cases hb)
      obtain ⟨hold, hlen, hrun⟩ := hc _ _ _ _ hcall
      simp only [List.length_map] at hold hlen hrun
      have hls : Less w.heap.size (wr φ h) (wr (viewPhi φ l') (viewH φ h w l')) := fun r _ hr => view_wr r hr
      have hlB : ∀ k, k < l'.length → h (l'.getD k 0) = h0 (l'.getD k 0) := fun k hk => hl _ (List.mem_of_getElem? (getD_of_lt hk))
      have hrun := hrun (fun k hk b hb => by
        have e1 : (l'.map fun b => (h0 b).ren fun b => pos b l' 0).getD k .dead = (h0 (l'.getD k 0)).ren fun b => pos b l' 0 := by simp [List.getD, hk]
        rw [e1] at hb
        obtain ⟨c, hc⟩ := blk_ids_ren _ b hb
        obtain ⟨_, h2⟩ := pos_sound l' 0 b hc
        rw [Nat.sub_zero] at h2
        exact (List.getElem?_eq_some_iff.1 h2).1)
      refine hmono _ _ _ _ _ (hrun (viewPhi φ l') (viewH φ h w l') w vargs (view_rh hr hn) (fun k hk => ?_) (fun k h1 h2 => ?_) (fun k hk => ?_) (ha.ren view_ren hls) (fun g row hgr => ?_)) ?_
      · unfold viewH
        rw [if_pos hk, hlB k hk]
        simp [List.getD, hk]
      · unfold viewPhi; rw [if_neg (by omega), if_pos h2]
      · unfold viewH
        rw [if_neg (by omega), if_neg (by omega)]
        split
        · rfl
        · unfold exactly
          split
          · split
            · split
              · exact ids_vals _
              · rfl
            · rfl
          · rfl
      · have := (hg g row hgr).ren (φ' := viewPhi φ l') (ρ := fun _ => none) (fun b k l e => by cases e) hls
        rwa [show (AV.ep row 0).ren (fun _ => none) = .ep row 0 by simp [AV.ren]] at this
      · rintro v w' ⟨φ', h', L⟩
        have hW : ∀ r, wr (viewPhi φ l') (viewH φ h w l') r → wr φ h r := view_wr
        have hex : Ext (wr φ h) w w' := ⟨L.ext.os, L.ext.tape, L.ext.output, L.ext.size, fun r h1 h2 => L.ext.block r h1 fun h3 => h2 (hW r h3)⟩
        have hLold : ∀ k, k < l'.length → h' k = applyF (fun k => (l'.map fun b => (h0 b).ren fun b => pos b l' 0).getD k .dead) ans.old k := fun k hk => L.old k (by simpa using hk)
        have hLnew : ∀ i, i < ans.new.length → h' (l'.length + i) = ans.new.getD i .dead := fun i hi => by
          have := L.new (l'.length + i) (by simp) (by omega)
          rw [this]; congr 1; simp
        have hmem : ∀ b ∈ l', ∃ c, φ b = some c := fun b hb => by
          have h1 := hr.blk b
          have h2 : (h b).live = true := by rw [hl b hb]; exact hlive b hb
          generalize h b = B at h1 h2
          cases B with
          | dead => cases h2
          | fx ty cs => obtain ⟨r, c, _, h3, _⟩ := h1; exact ⟨_, h3⟩
          | vec ty wd cs => obtain ⟨ro, c, h3, _⟩ := h1; exact ⟨_, h3⟩
        have hnin : ∀ b, nid ≤ b → b < nid + ans.new.length → b ∉ l' := fun b h1 h2 hb => by
          obtain ⟨c, hc⟩ := hmem b hb
          rw [hf b h1 h2] at hc
          cases hc
        have hclosed : ∀ k, k < l'.length → h (l'.getD k 0) = ((fun k => (l'.map fun b => (h0 b).ren fun b => pos b l' 0).getD k .dead) k).ren (back l' l'.length nid ans.new.length) := by
          intro k hk
          have e1 : (l'.map fun b => (h0 b).ren fun b => pos b l' 0).getD k .dead = (h0 (l'.getD k 0)).ren fun b => pos b l' 0 := by simp [List.getD, hk]
          simp only [e1]
          rw [blk_ren_back, hlB k hk]
          intro b hb
          have hbl := hclose _ (List.mem_of_getElem? (getD_of_lt hk)) b hb
          obtain ⟨j, hj⟩ := pos_mem l' 0 hbl
          obtain ⟨_, h2⟩ := pos_sound l' 0 j hj
          rw [Nat.sub_zero] at h2
          refine ⟨j, hj, ?_⟩
          have : j < l'.length := (List.getElem?_eq_some_iff.1 h2).1
          unfold back
          rw [blt_iff.2 this]
          exact h2
        obtain ⟨bo1, bo2⟩ := backOld_at (m := l'.length) (nid := nid) (n := ans.new.length) hn ans.old h _ hold hclosed
        obtain ⟨bn1, bn2⟩ := backNew_at (l := l') (m := l'.length) (nid := nid) (n := ans.new.length) ans.new 0 (applyF h (backOld l' l'.length nid ans.new.length ans.old))
        rw [applyF_append]
        generalize hh2 : applyF (applyF h (backOld l' l'.length nid ans.new.length ans.old)) (backNew l' l'.length nid ans.new.length 0 ans.new) = h2 at *
        -- the caller's new table
        let φ2 : Phi := fun id => if nid ≤ id ∧ id < nid + ans.new.length then φ' (l'.length + (id - nid)) else φ id
        have hφn : ∀ i, i < ans.new.length → φ2 (nid + i) = φ' (l'.length + i) := fun i hi => by
          show (if _ then _ else _) = _
          rw [if_pos ⟨by omega, by omega⟩]; congr 1; omega
        have hφo : ∀ id, (id < nid ∨ nid + ans.new.length ≤ id) → φ2 id = φ id := fun id hid => by
          show (if _ then _ else _) = _
          rw [if_neg (by omega)]
        have hφl : ∀ b ∈ l', φ2 b = φ b := fun b hb => hφo b (by
          rcases Nat.lt_or_ge b nid with h1 | h1
          · exact .inl h1
          · rcases Nat.lt_or_ge b (nid + ans.new.length) with h2 | h2
            · exact absurd hb (hnin b h1 h2)
            · exact .inr h2)
        have hpe : PhiExt φ φ2 := fun i loc hi => by
          rw [hφo i ?_]; exact hi
          rcases Nat.lt_or_ge i nid with h1 | h1
          · exact .inl h1
          · rcases Nat.lt_or_ge i (nid + ans.new.length) with h2 | h2
            · rw [hf i h1 h2] at hi; cases hi
            · exact .inr h2
        have hnew : ∀ i, i < ans.new.length → h2 (nid + i) = (h' (l'.length + i)).ren (back l' l'.length nid ans.new.length) := fun i hi => by
          have := bn1 i hi
          rw [Nat.add_zero] at this
          rw [this, hLnew i hi]
        have hin : ∀ k, k < l'.length → h2 (l'.getD k 0) = (h' k).ren (back l' l'.length nid ans.new.length) := fun k hk => by
          rw [bn2 _ ?_, bo1 k hk, hLold k hk]
          have hm := List.mem_of_getElem? (getD_of_lt hk)
          rcases Nat.lt_or_ge (l'.getD k 0) nid with h1 | h1
          · exact .inl h1
          · rcases Nat.lt_or_ge (l'.getD k 0) (nid + ans.new.length) with h2 | h2
            · exact absurd hm (hnin _ h1 h2)
            · exact .inr h2
        have hout : ∀ b, b ∉ l' → (b < nid ∨ nid + ans.new.length ≤ b) → h2 b = h b := fun b h1 h3 => by
          rw [bn2 b (by omega), bo2 b h1]
        -- the callee's letter of a caller's
        let μ : Nat → Nat := fun id => if nid ≤ id ∧ id < nid + ans.new.length then l'.length + (id - nid) else match pos id l' 0 with | some k => k | none => far + id
        have hcase : ∀ id, (∃ i, i < ans.new.length ∧ id = nid + i) ∨ (∃ k, k < l'.length ∧ id = l'.getD k 0) ∨ (id ∉ l' ∧ (id < nid ∨ nid + ans.new.length ≤ id)) := by
          intro id
          by_cases h1 : nid ≤ id ∧ id < nid + ans.new.length
          · exact .inl ⟨id - nid, by omega, by omega⟩
          · by_cases h3 : id ∈ l'
            · obtain ⟨k, hk⟩ := List.getElem?_of_mem h3
              have hk' := (List.getElem?_eq_some_iff.1 hk).1
              exact .inr (.inl ⟨k, hk', by simp [List.getD, hk]⟩)
            · exact .inr (.inr ⟨h3, by omega⟩)
        have hμ : ∀ id, (h2 id).live = true → ∀ r c, φ2 id = some (some r, c) → ∃ k, (h' k).live = true ∧ φ' k = some (some r, c) ∧
            ((∃ i, i < ans.new.length ∧ id = nid + i ∧ k = l'.length + i) ∨ (k < l'.length ∧ id = l'.getD k 0) ∨ (k = far + id ∧ id ∉ l' ∧ (id < nid ∨ nid + ans.new.length ≤ id) ∧
              ∃ vs ty, w.heap[r]? = some (.cells vs ty (0, 0)) ∧ h' k = .fx ty (vs.toList.map AV.v))) := by
          intro id hlv r c hφ2
          rcases hcase id with ⟨i, hi, rfl⟩ | ⟨k, hk, rfl⟩ | ⟨h1, h3⟩
          · rw [hnew i hi, live_ren] at hlv
            rw [hφn i hi] at hφ2
            exact ⟨_, hlv, hφ2, .inl ⟨i, hi, rfl, rfl⟩⟩
          · rw [hin k hk, live_ren] at hlv
            rw [hφl _ (List.mem_of_getElem? (getD_of_lt hk))] at hφ2
            refine ⟨k, hlv, L.phi k _ ?_, .inr (.inl ⟨hk, rfl⟩)⟩
            unfold viewPhi; rw [if_pos hk]; exact hφ2
          · rw [hout id h1 h3] at hlv
            rw [hφo id h3] at hφ2
            obtain ⟨vs, ty, p1, p2⟩ := exactly_of hr hlv hφ2
            have hfar : ¬ (far + id < l'.length) := by omega
            have hsub : far + id - far = id := by omega
            have hv : h' (far + id) = .fx ty (vs.toList.map AV.v) := by
              rw [L.far _ (by omega)]
              unfold viewH
              rw [if_neg hfar, if_neg (by omega), hsub, if_neg h1, p2]
            refine ⟨far + id, by rw [hv]; rfl, L.phi _ _ ?_, .inr (.inr ⟨rfl, h1, h3, vs, ty, p1, hv⟩)⟩
            unfold viewPhi
            rw [if_neg hfar, if_neg (by omega), hsub, if_neg h1]; exact hφ2
        have hW2 : ∀ r, wr φ2 h2 r → wr φ' h' r := by
          rintro r ⟨id, c, h1, h3⟩
          obtain ⟨k, a1, a2, _⟩ := hμ id h1 r c h3
          exact ⟨k, c, a1, a2⟩
        have hls2 : Less w.heap.size (wr φ h) (wr φ2 h2) := fun r hr' h1 => hW r (L.less r hr' (hW2 r h1))
        have hls3 : Less w'.heap.size (wr φ' h') (wr φ2 h2) := fun r _ h1 => hW2 r h1
        have hback : ∀ b k loc, back l' l'.length nid ans.new.length b = some k → φ' b = some loc → φ2 k = some loc := by
          intro b k loc hb hφb
          unfold back at hb
          cases h1 : Nat.blt b l'.length with
          | true =>
            rw [h1] at hb
            simp only [cond_true] at hb
            have hb' : b < l'.length := (List.getElem?_eq_some_iff.1 hb).1
            have hm := List.mem_of_getElem? hb
            rw [hφl k hm]
            obtain ⟨loc', hloc⟩ := hmem k hm
            have : viewPhi φ l' b = some loc' := by
              unfold viewPhi; rw [if_pos hb']
              have : l'.getD b 0 = k := by simp [List.getD, hb]
              rw [this]; exact hloc
            have := L.phi _ _ this
            rw [hφb] at this
            rw [hloc, this]
          | false =>
            rw [h1] at hb
            simp only [cond_false] at hb
            have h1' : ¬ b < l'.length := fun h => by
              have := blt_iff.2 h
              rw [h1] at this; cases this
            cases h3 : Nat.blt b (l'.length + ans.new.length) with
            | false => rw [h3] at hb; cases hb
            | true =>
              rw [h3] at hb
              simp only [cond_true, Option.some.injEq] at hb
              have h3' := blt_iff.1 h3
              subst hb
              rw [hφn _ (by omega), ← hφb]; congr 1; omega
        refine ⟨φ2, L.res.ren hback hls3, ⟨⟨fun id => ?_, fun i j ci cj r l1 l2 p1 p2 => ?_, fun i r c hi => ?_⟩, hex, hpe, hls2, hφo⟩⟩
        · rcases hcase id with ⟨i, hi, rfl⟩ | ⟨k, hk, rfl⟩ | ⟨h1, h3⟩
          · rw [hnew i hi]
            exact (L.rh.blk _).ren hback hls3 fun _ => hφn i hi
          · rw [hin k hk]
            have hm := List.mem_of_getElem? (getD_of_lt hk)
            refine (L.rh.blk k).ren hback hls3 fun _ => ?_
            obtain ⟨loc, hloc⟩ := hmem _ hm
            rw [hφl _ hm, hloc]
            symm
            apply L.phi
            unfold viewPhi; rw [if_pos hk]; exact hloc
          · rw [hout id h1 h3]
            refine (hr.blk id).mono hpe hex hls2 fun r c hlv hφr => ?_
            obtain ⟨k, a1, a2, a3⟩ := hμ id (by rw [hout id h1 h3]; exact hlv) r c (by rw [hφo id h3]; exact hφr)
            rcases a3 with ⟨i, hi, e1, _⟩ | ⟨hk, e1⟩ | ⟨e1, _, _, vs, ty, b1, b2⟩
            · omega
            · exact absurd (e1 ▸ List.mem_of_getElem? (getD_of_lt hk)) h1
            · have := L.rh.blk k
              rw [b2] at this
              obtain ⟨r', c', q1, q2⟩ := this.vals
              rw [a2] at q1
              simp only [Option.some.injEq, Prod.mk.injEq] at q1
              rw [q1.1, q2, ← q1.1, b1]
        · obtain ⟨k1, a1, a2, a3⟩ := hμ i l1 r ci p1
          obtain ⟨k2, b1, b2, b3⟩ := hμ j l2 r cj p2
          have hk := L.rh.inj k1 k2 ci cj r a1 b1 a2 b2
          subst hk
          rcases a3 with ⟨i1, x1, x2, x3⟩ | ⟨x1, x2⟩ | ⟨x1, x2, x3, _⟩ <;> rcases b3 with ⟨i2, y1, y2, y3⟩ | ⟨y1, y2⟩ | ⟨y1, y2, y3, _⟩
          · omega
          · omega
          · omega
          · omega
          · rw [x2, y2]
          · omega
          · omega
          · omega
          · omega
        · by_cases h1 : nid ≤ i ∧ i < nid + ans.new.length
          · have : φ2 i = φ' (l'.length + (i - nid)) := by show (if _ then _ else _) = _; rw [if_pos h1]
            rw [this] at hi
            exact L.rh.bound _ _ _ hi
          · rw [hφo i (by omega)] at hi
            exact Nat.lt_of_lt_of_le (hr.bound _ _ _ hi) L.ext.size

end Go.Ab

namespace Go.Ab
set_option linter.unusedSectionVars false
variable [Env]

/-- Does the code keep within its frame's slots; are a drawn region's slots told apart? -/
def apartD (ops : Array Oper) (oi oj : Oper) (i : Nat) : Bool := directs oj i || oi.apart ops oj
def statOps (m : Nat) (ops : Array Oper) (draw : Bool) : Bool :=
  ops.all (fun o => match o.dst with | some d => Nat.blt d m | none => true) &&
  (!draw || ops.toList.zipIdx.all fun (oj, j) => oj.after.all (fun e => !Region.binds .any e || Nat.blt e.on j) && (match oj.op with | .select .. => false | _ => true) &&
    ops.toList.zipIdx.all fun (oi, i) => !Nat.blt i j || apartD ops oi oj i)
def statC (m : Nat) : Code → Bool
  | .region _ ops d => statOps m ops d
  | .seq a b => statC m a && statC m b
  | .cond _ a b => statC m a && statC m b
  | .block _ b => statC m b
  | .loop b => statC m b
  | .scope b => statC m b
  | _ => true

/-- What the program must be like. -/
structure Sane (P : Program) : Prop where
  mixed : P.follows .mixedOrders = true
  stat : ∀ (f : Nat) (fn : Func) c, P.funcs[f]? = some fn → fn.body = some c → fn.ntmps ≤ most ∧ (fn.name == "runtime.NumGoroutine") = false ∧ statC fn.ntmps c = true
  ext : ∀ (f : Nat) (fn : Func) args ans, P.funcs[f]? = some fn → fn.body = none → externA fn.name args = some ans → ans.old = [] ∧ ans.new = [] ∧ ans.nd = false ∧
    ∀ φ W w vargs, RL φ W w args vargs → ∃ v, (callFunc f vargs).run P w = .ok (.value v) w ∧ RA φ W w ans.res v

section
variable {P : Program} {G : Glob} [DecOk G] {m nid : Nat} {φ : Phi} {h : Nat → Blk} {t : Nat → AV} {a : Act} {w : World}

/-- The step of one operation, as the engine has told it: its own, or a call. -/
def Told (P : Program) (G : Glob) (call : Calling) (op : Op) (nid : Nat) (t : Nat → AV) (h : Nat → Blk) (x : Txn) : Prop :=
  ((opA P G nid op).run t h = some x ∧ x.chk = true) ∨
  ∃ r f as l h0, callOf G op = some r ∧ r.run t h = some (f, as) ∧ callA call f as nid h0 = some (x, l) ∧ ∀ b ∈ l, h b = h0 b

theorem putF_eval (d : Option Tmp) (t : Nat → AV) (x : AV) : (match d with | none => t | some d => fup t d x) = (match d with | none => t | some d => fup t d x) := rfl

def putF (t : Nat → AV) (d : Option Tmp) (x : AV) : Nat → AV := match d with
  | none => t
  | some d => fup t d x

theorem put_size (a : Act) (d : Option Tmp) (v : Value) : (a.put d v).tmps.size = a.tmps.size := by cases d <;> simp [Act.put]
theorem put_defers' (a : Act) (d : Option Tmp) (v : Value) : (a.put d v).defers = a.defers := by cases d <;> rfl

theorem Rel.put (hR : Rel G m φ h t a w) {d : Option Tmp} (hd : ∀ i, d = some i → i < m) {x : AV} {v : Value} {φ' : Phi} {h' : Nat → Blk} {w' : World} {nnew : Nat}
    (hg : Goes φ h w nid nnew φ' h' w') (hx : RA φ' (wr φ' h') w' x v) : Rel G m φ' h' (putF t d x) (a.put d v) w' := by
  refine ⟨hg.rh, fun i => ?_, by rw [put_size]; exact hR.size, fun g row hgr => hg.ra (hR.glob g row hgr)⟩
  cases d with
  | none => exact hg.ra (hR.ra i)
  | some j =>
    have hj := hd j rfl
    by_cases e : i = j
    · subst e
      simp only [putF, fup_self, Act.put]
      have : (a.tmps.setIfInBounds i v).getD i undef = v := by simp [Array.getD, hR.size, hj]
      rw [this]; exact hx
    · simp only [putF, fup_ne _ _ e, Act.put]
      have : (a.tmps.setIfInBounds j v).getD i undef = a.tmps.getD i undef := by
        simp only [Array.getD_eq_getD_getElem?, Array.getElem?_setIfInBounds_ne (fun e' => e e'.symm)]
      rw [this]; exact hg.ra (hR.ra i)

theorem calledA_sound (hR : Rel G m φ h t a w) {g : Operand} {args : Array Operand} {f : FuncId} {as : List AV} (e : (calledA G g args).run t h = some (f, as)) :
    ∃ fv cv, a.eval g = .func (.func f) fv cv ∧ RL φ (wr φ h) w as (fv ++ args.map a.eval ++ cv) := by
  obtain ⟨gv, hg, e1⟩ := Rd.bind_some e
  clear e
  obtain ⟨av, ha, e2⟩ := Rd.bind_some e1
  clear e1
  have hgv := opnd_sound hR hg
  have hav := opnds_arr hR ha
  split at e2
  · rename_i f' first caps
    cases e2
    generalize hv : a.eval g = v at hgv
    cases hgv with
    | clo _ _ _ fv cv h1 h2 h3 h4 =>
      refine ⟨fv, cv, rfl, by simp only [Array.size_append, List.length_append, h1, hav.size, h2], fun i c v hc hv => ?_⟩
      by_cases i1 : i < first.length
      · rw [List.append_assoc, List.getElem?_append_left i1] at hc
        rw [Array.append_assoc, Array.getElem?_append_left (by omega)] at hv
        exact h3 i c v hc hv
      · rw [List.append_assoc, List.getElem?_append_right (by omega)] at hc
        rw [Array.append_assoc, Array.getElem?_append_right (by omega), h1] at hv
        by_cases i2 : i - first.length < av.length
        · rw [List.getElem?_append_left i2] at hc
          rw [Array.getElem?_append_left (by rw [hav.size]; exact i2)] at hv
          exact hav.get _ c v hc hv
        · rw [List.getElem?_append_right (by omega)] at hc
          rw [Array.getElem?_append_right (by rw [hav.size]; omega), hav.size] at hv
          exact h4 _ c v hc hv
  · cases e2

/-- One operation. -/
theorem oper_wp {call : Calling} (hc : CallOk P G call) (hR : Rel G m φ h t a w) (o : Oper) {x : Txn} (ht : Told P G call o.op nid t h x)
    (hf : ∀ b, nid ≤ b → b < nid + x.nnew ∨ b = nid → φ b = none) {next : Act → World → Prop} {Q : Exit → Act → World → Prop}
    (K : ∀ v w' φ', RA φ' (wr φ' (applyF h x.wr)) w' x.res v → Goes φ h w nid x.nnew φ' (applyF h x.wr) w' → next (a.put o.dst v) w') : o.wp P a w next Q := by
  unfold Oper.wp
  rcases ht with ⟨e, hchk⟩ | ⟨r, f, as, l, h0, h1, h2, h3, h4⟩
  · obtain ⟨nx, v, w', φ', e1, e2, e3, e4⟩ := opA_sound hR (hf nid (Nat.le_refl _) (.inr rfl)) o e hchk
    rw [e1]
    rcases e2 with rfl | ⟨rfl, rfl⟩
    · exact K v w' φ' e3 e4
    · exact K undef w' φ' e3 e4
  · unfold callOf at h1
    split at h1
    · rename_i c g args at_ hop
      cases h1
      obtain ⟨fv, cv, hg, hl⟩ := calledA_sound hR h2
      have hrun : (execOp a.eval o).run P w = (callFunc f (fv ++ args.map a.eval ++ cv)).run P w := by
        simp [execOp, hop, resolve, hg, Deferred.ofValue, invoke]
      rw [hrun]
      rcases callA_sound (Rn := Runs P) (fun _ _ _ _ _ h hr => Runs.mono h hr) hc h3 h4 hR.rh hl (fun b h1 h2 => hf b h1 (.inl h2)) hR.glob with ⟨r1, r2⟩ | ⟨v, w', r1, φ', r2, r3⟩
      · rw [r1]
        exact r2.mono fun e w' he => by
          cases e with
          | returned v => obtain ⟨φ', p1, p2⟩ := he; exact K v w' φ' p1 p2
          | panicked c => exact he.elim
          | outgrown => exact he.elim
      · rw [r1]
        exact K v w' φ' r2 r3
    · cases h1

/-- Is the operation wanted? -/
theorem wantedA_sound (hR : Rel G m φ h t a w) {ops : Array Oper} {o : Oper} {b : Bool} (hd : ∀ d o', o' ∈ ops → o'.dst = some d → d < m) (e : wantedA ops o.guard t = some b) :
    Region.wanted o (yielded ops a.tmps) = b := by
  unfold wantedA at e
  unfold Region.wanted
  split at e
  · rename_i hg
    simp only [hg]
    cases e; rfl
  · rename_i j want hg
    simp only [hg]
    split at e
    · cases e
    · rename_i d hdst
      have hj : ∃ o', ops[j]? = some o' ∧ o'.dst = some d := by
        cases ho : ops[j]? with
        | none => rw [ho] at hdst; cases hdst
        | some o' => rw [ho] at hdst; exact ⟨o', rfl, hdst⟩
      obtain ⟨o', ho', hd'⟩ := hj
      have hdm := hd d o' (Array.mem_of_getElem? ho') hd'
      have hra := hR.ra d
      have hget : a.tmps[d]? = some (a.tmps.getD d undef) := by
        rw [Array.getD_eq_getD_getElem?]
        have : d < a.tmps.size := by rw [hR.size]; exact hdm
        simp [this]
      unfold yielded
      rw [hdst]
      simp only [Option.bind_some, hget]
      split at e
      · rename_i b' ht
        rw [ht] at hra
        rw [RA.v_eq hra]
        cases e
        cases b' <;> cases want <;> rfl
      · rename_i v hne ht
        rw [ht] at hra
        rw [RA.v_eq hra]
        cases e
        cases v <;> first | rfl | exact absurd rfl (hne _)
      · cases e

/-- The deferred calls. -/
def RDs (φ : Phi) (W : Wr) (w : World) : List (FuncId × List AV) → List Deferred → Prop
  | [], [] => True
  | p :: ps, d :: ds => (∃ cap, d.target = .fn (.func p.1) cap ∧ RL φ W w p.2 (d.args ++ cap)) ∧ RDs φ W w ps ds
  | _, _ => False
theorem RDs.mono {φ φ' : Phi} {W W' : Wr} {w w' : World} (hp : PhiExt φ φ') (he : Ext W w w') (hl : Less w.heap.size W W') : ∀ (ps : List (FuncId × List AV)) (ds : List Deferred), RDs φ W w ps ds → RDs φ' W' w' ps ds
  | [], [], _ => trivial
  | p :: ps, d :: ds, h => by
    obtain ⟨⟨cap, h1, h2⟩, h3⟩ := h
    exact ⟨⟨cap, h1, h2.mono hp he hl⟩, RDs.mono hp he hl ps ds h3⟩
  | [], _ :: _, h => h.elim
  | _ :: _, [], h => h.elim

/-- The engine's state and the world. -/
structure SR (G : Glob) (m : Nat) (φ : Phi) (h : Nat → Blk) (s : St) (a : Act) (w : World) : Prop where
  rel : Rel G m φ h (tget s.T) a w
  agree : ∀ b, b < far → h b = hget s.H b
  fresh : ∀ b, s.n ≤ b → b < far → φ b = none
  n : s.n < most
  m : m ≤ most
  defers : RDs φ (wr φ h) w s.df a.defers

/-- From a state to a state. -/
structure Trip (φ : Phi) (h : Nat → Blk) (s : St) (a : Act) (w : World) (φ' : Phi) (h' : Nat → Blk) (s' : St) (a' : Act) (w' : World) : Prop where
  ext : Ext (wr φ h) w w'
  phi : PhiExt φ φ'
  less : Less w.heap.size (wr φ h) (wr φ' h')
  far : ∀ k, far ≤ k → h' k = h k
  dirty : ∀ b, b < Ab.far → s'.d.testBit b = false → s.d.testBit b = false ∧ hget s'.H b = hget s.H b
  n : s.n ≤ s'.n

theorem Trip.refl {s : St} : Trip φ h s a w φ h s a w := ⟨Ext.refl _ _, PhiExt.refl _, Less.refl _ _, fun _ _ => rfl, fun _ _ h => ⟨h, rfl⟩, Nat.le_refl _⟩
theorem Trip.trans {s s1 s2 : St} {φ1 φ2 : Phi} {h1 h2 : Nat → Blk} {a1 a2 : Act} {w1 w2 : World} (x : Trip φ h s a w φ1 h1 s1 a1 w1) (y : Trip φ1 h1 s1 a1 w1 φ2 h2 s2 a2 w2) :
    Trip φ h s a w φ2 h2 s2 a2 w2 :=
  ⟨x.ext.trans y.ext x.less, x.phi.trans y.phi, x.less.trans y.less x.ext.size, fun k hk => (y.far k hk).trans (x.far k hk), fun b hb h => by
    obtain ⟨p1, p2⟩ := y.dirty b hb h
    obtain ⟨p3, p4⟩ := x.dirty b hb p1
    exact ⟨p3, p2.trans p4⟩, Nat.le_trans x.n y.n⟩

theorem SR.sub {s : St} (hs : SR G m φ h s a w) : Sub (hget s.H) h := fun b hb => by
  rcases Nat.lt_or_ge b far with h1 | h1
  · exact hs.agree b h1
  · rw [hget_far h1] at hb; cases hb

theorem okWr_spec {n : Nat} : ∀ (l : List (Nat × Blk)), okWr n l = true → ∀ p ∈ l, p.1 < n
  | [], _, p, hp => by cases hp
  | (b, B) :: r, e, p, hp => by
    simp only [okWr] at e
    cases hb : Nat.blt b n with
    | false => rw [hb] at e; cases e
    | true =>
      rw [hb] at e
      rcases List.mem_cons.1 hp with rfl | hp
      · exact blt_iff.1 hb
      · exact okWr_spec r e p hp

theorem hget_applyWr : ∀ (l : List (Nat × Blk)) (H : Tr Blk), (∀ p ∈ l, p.1 < far) → hget (applyWr H l) = applyF (hget H) l
  | [], _, _ => rfl
  | (b, B) :: r, H, hl => by
    simp only [applyWr, applyF]
    rw [hget_applyWr r _ fun p hp => hl p (by simp [hp])]
    have : hget (Tr.set .dead 12 H b B) = fup (hget H) b B := Tr.get_set _ _ _ _ _ (by have := hl (b, B) (by simp); unfold far at this; simp at this; omega)
    rw [this]

theorem applyF_congr {g h : Nat → Blk} {b : Nat} : ∀ (l : List (Nat × Blk)), g b = h b → applyF g l b = applyF h l b
  | [], e => e
  | (x, B) :: r, e => by
    have gen : ∀ (l : List (Nat × Blk)) (g h : Nat → Blk), g b = h b → applyF g l b = applyF h l b := by
      intro l
      induction l with
      | nil => exact fun _ _ e => e
      | cons p l ih =>
        intro g h e
        simp only [applyF]
        apply ih
        unfold fup
        split
        · rfl
        · exact e
    exact gen _ g h e

theorem dirt_spec : ∀ (l : List (Nat × Blk)) (d b : Nat), (dirt l d).testBit b = true ↔ d.testBit b = true ∨ ∃ p ∈ l, p.1 = b
  | [], d, b => by simp [dirt]
  | (x, B) :: r, d, b => by
    simp only [dirt]
    rw [dirt_spec r]
    rw [testBit_lor, bit, testBit_bit]
    simp only [Bool.or_eq_true, decide_eq_true_eq, List.mem_cons]
    constructor
    · rintro ((h | h) | ⟨p, h1, h2⟩)
      · exact .inl h
      · exact .inr ⟨(x, B), .inl rfl, h⟩
      · exact .inr ⟨p, .inr h1, h2⟩
    · rintro (h | ⟨p, rfl | h1, h2⟩)
      · exact .inl (.inl h)
      · exact .inl (.inr h2)
      · exact .inr ⟨p, h1, h2⟩

theorem tget_putA {T : Tr AV} {d : Option Tmp} {x : AV} (hd : ∀ i, d = some i → i < far) : tget (putA T d x) = putF (tget T) d x := by
  cases d with
  | none => rfl
  | some i => exact Tr.get_set _ _ _ _ _ (Nat.succ_lt_succ (show (i : Nat) < 4095 from hd i rfl))

theorem applyS_spec {s s' : St} {d : Option Tmp} {x : Txn} {k : Nat} (e : applyS s d x k = some s') :
    s.n + x.nnew + k < most ∧ (∀ p ∈ x.wr, p.1 < s.n + x.nnew) ∧ s' = ⟨putA s.T d x.res, applyWr s.H x.wr, s.n + x.nnew + k, dirt x.wr s.d, s.df⟩ := by
  unfold applyS at e
  cases h1 : Nat.blt (s.n + x.nnew + k) most with
  | false => rw [h1] at e; cases e
  | true =>
    cases h2 : okWr (s.n + x.nnew) x.wr with
    | false => rw [h1, h2] at e; cases e
    | true =>
      rw [h1, h2] at e
      cases e
      exact ⟨blt_iff.1 h1, okWr_spec _ h2, rfl⟩

theorem most_far : most < far := by decide

/-- A change, in the state. -/
theorem SR.step {s s' : St} (hs : SR G m φ h s a w) {d : Option Tmp} (hd : ∀ i, d = some i → i < m) {x : Txn} {k : Nat} (e : applyS s d x k = some s') {v : Value} {φ' : Phi} {w' : World}
    (hx : RA φ' (wr φ' (applyF h x.wr)) w' x.res v) (hg : Goes φ h w s.n x.nnew φ' (applyF h x.wr) w') :
    SR G m φ' (applyF h x.wr) s' (a.put d v) w' ∧ Trip φ h s a w φ' (applyF h x.wr) s' (a.put d v) w' := by
  obtain ⟨h1, h2, rfl⟩ := applyS_spec e
  have hmf := most_far
  have hwf : ∀ p ∈ x.wr, p.1 < far := fun p hp => by have := h2 p hp; omega
  have hdf : ∀ i, d = some i → i < far := fun i hi => Nat.lt_trans (Nat.lt_of_lt_of_le (hd i hi) hs.m) hmf
  refine ⟨⟨?_, fun b hb => ?_, fun b hb1 hb2 => ?_, h1, hs.m, ?_⟩, hg.ext, hg.phi, hg.less, fun b hb => ?_, fun b hb hdb => ?_, by show s.n ≤ s.n + x.nnew + k; omega⟩
  · show Rel G m φ' (applyF h x.wr) (tget (putA s.T d x.res)) (a.put d v) w'
    rw [tget_putA hdf]; exact hs.rel.put hd hg hx
  · show applyF h x.wr b = hget (applyWr s.H x.wr) b
    rw [hget_applyWr _ _ hwf]; exact applyF_congr _ (hs.agree b hb)
  · have hb1' : s.n + x.nnew + k ≤ b := hb1
    rw [hg.old b (.inr (by omega))]; exact hs.fresh b (by omega) hb2
  · rw [put_defers']; exact RDs.mono hg.phi hg.ext hg.less _ _ hs.defers
  · exact applyF_ne _ _ fun p hp => by have := hwf p hp; omega
  · show s.d.testBit b = false ∧ hget (applyWr s.H x.wr) b = hget s.H b
    have hn : ¬ (dirt x.wr s.d).testBit b = true := by rw [show (dirt x.wr s.d).testBit b = false from hdb]; simp
    rw [dirt_spec] at hn
    refine ⟨by cases hq : s.d.testBit b <;> simp [hq] at hn ⊢, ?_⟩
    rw [hget_applyWr _ _ hwf]
    exact applyF_ne _ _ fun p hp e => hn (.inr ⟨p, hp, e⟩)

theorem SR.skip {s : St} (hs : SR G m φ h s a w) {d : Option Tmp} (hd : ∀ i, d = some i → i < m) : SR G m φ h (skipS s d) (a.put d undef) w ∧ Trip φ h s a w φ h (skipS s d) (a.put d undef) w := by
  have hmf := most_far
  have hdf : ∀ i, d = some i → i < far := fun i hi => Nat.lt_trans (Nat.lt_of_lt_of_le (hd i hi) hs.m) hmf
  have hg : Goes φ h w s.n 0 φ h w := Goes.refl _ hs.rel.rh
  refine ⟨⟨?_, hs.agree, hs.fresh, hs.n, hs.m, by rw [put_defers']; exact hs.defers⟩, Ext.refl _ _, PhiExt.refl _, Less.refl _ _, fun _ _ => rfl, fun _ _ h => ⟨h, rfl⟩, Nat.le_refl _⟩
  show Rel G m φ h (tget (putA s.T d (.v undef))) (a.put d undef) w
  rw [tget_putA hdf]; exact hs.rel.put hd hg (RA.v _)

theorem SR.push {s : St} (hs : SR G m φ h s a w) {d : Option Tmp} (hd : ∀ i, d = some i → i < m) {p : FuncId × List AV} {df : Deferred}
    (hp : ∃ cap, df.target = .fn (.func p.1) cap ∧ RL φ (wr φ h) w p.2 (df.args ++ cap)) :
    SR G m φ h (pushS s d p) ({ a with defers := df :: a.defers }.put d undef) w ∧ Trip φ h s a w φ h (pushS s d p) ({ a with defers := df :: a.defers }.put d undef) w := by
  have hmf := most_far
  have hdf : ∀ i, d = some i → i < far := fun i hi => Nat.lt_trans (Nat.lt_of_lt_of_le (hd i hi) hs.m) hmf
  have hg : Goes φ h w s.n 0 φ h w := Goes.refl _ hs.rel.rh
  have hrel : Rel G m φ h (tget s.T) { a with defers := df :: a.defers } w := ⟨hs.rel.rh, hs.rel.ra, hs.rel.size, hs.rel.glob⟩
  refine ⟨⟨?_, hs.agree, hs.fresh, hs.n, hs.m, by rw [put_defers']; exact ⟨hp, hs.defers⟩⟩, Ext.refl _ _, PhiExt.refl _, Less.refl _ _, fun _ _ => rfl, fun _ _ h => ⟨h, rfl⟩, Nat.le_refl _⟩
  show Rel G m φ h (tget (putA s.T d (.v undef))) _ w
  rw [tget_putA hdf]; exact hrel.put hd hg (RA.v _)

theorem stepA_told {call : Calling} {op : Op} {h0 : Nat → Blk} {x : Txn} (hs : Sub h0 h) (e : stepA P G call op nid t h0 = some x) : Told P G call op nid t h x := by
  unfold stepA at e
  split at e
  · rename_i r hr
    split at e
    · rename_i f as hrun
      cases hcall : callA call f as nid h0 with
      | none => rw [hcall] at e; cases e
      | some y =>
        rw [hcall] at e
        obtain ⟨x', l⟩ := y
        cases e
        refine .inr ⟨r, f, as, l, h0, hr, Rd.run_sub hs _ hrun, hcall, fun b hb => hs b ?_⟩
        unfold callA at hcall
        split at hcall
        · cases hcall
        · rename_i l' hreach
          split at hcall
          · cases hcall
          · cases hcall
            exact ((reach_sound (m0 := 0) 4000 (AV.idsL as) 0 [] l hreach ⟨List.nodup_nil, fun b hb => (by cases hb), fun b hb => (by cases hb)⟩ (fun b => by simp)).1).live b hb
    · cases e
  · split at e
    · rename_i x' hrun
      unfold checked at e
      cases hc : x'.chk with
      | false => rw [hc] at e; cases e
      | true => rw [hc] at e; cases e; exact .inl ⟨Rd.run_sub hs _ hrun, hc⟩
    · cases e

/-- A region in the order of the text. -/
theorem opsA_wp {call : Calling} (hc : CallOk P G call) {ops : Array Oper} (hd : ∀ d o', o' ∈ ops → o'.dst = some d → d < m) {Q : Exit → Act → World → Prop} {s' : St} :
    ∀ (k i : Nat) (φ : Phi) (h : Nat → Blk) (s : St) (a : Act) (w : World), ops.size - i = k → SR G m φ h s a w → opsA P G call ops (ops.toList.drop i) s = some s' →
      (∀ φ' h' a' w', SR G m φ' h' s' a' w' → Trip φ h s a w φ' h' s' a' w' → Q .normal a' w') → wpOps P ops Q ((List.range ops.size).drop i) a w := by
  intro k
  induction k with
  | zero =>
    intro i φ h s a w hk hs e K
    rw [List.drop_eq_nil_of_le (by simp; omega)] at e ⊢
    cases e
    exact K φ h a w hs Trip.refl
  | succ k ih =>
    intro i φ h s a w hk hs e K
    have hi : i < ops.size := by omega
    have e1 : ops.toList.drop i = ops[i] :: ops.toList.drop (i + 1) := by
      rw [List.drop_eq_getElem_cons (by simpa using hi)]; simp
    have e2 : (List.range ops.size).drop i = i :: (List.range ops.size).drop (i + 1) := by
      rw [List.drop_eq_getElem_cons (by simpa using hi)]; simp
    rw [e1] at e
    rw [e2]
    have ho : ops[i]? = some ops[i] := by simp [hi]
    have hdo : ∀ j, ops[i].dst = some j → j < m := fun j hj => hd j _ (by simp) hj
    simp only [opsA] at e
    simp only [wpOps, ho]
    split at e
    · rename_i hw
      rw [wantedA_sound hs.rel hd hw]
      obtain ⟨s1, t1⟩ := hs.skip hdo
      exact ih (i + 1) _ _ _ _ _ (by omega) s1 e fun φ' h' a' w' p1 p2 => K φ' h' a' w' p1 (t1.trans p2)
    · rename_i hw
      rw [wantedA_sound hs.rel hd hw]
      simp only [if_true]
      split at e
      · rename_i rd hrd
        split at e
        · cases e
        · rename_i p hp
          unfold deferOf at hrd
          split at hrd
          · rename_i c g args at_ hop
            cases hrd
            obtain ⟨f, as⟩ := p
            obtain ⟨fv, cv, hg, hl⟩ := calledA_sound hs.rel (Rd.run_sub hs.sub _ hp)
            left
            unfold Oper.wp
            have hrun : (execOp a.eval ops[i]).run P w = .ok (.defer { target := .fn (.func f) cv, args := fv ++ args.map a.eval }) w := by
              simp [execOp, hop, resolve, hg, Deferred.ofValue]
            rw [hrun]
            obtain ⟨s1, t1⟩ := hs.push (p := (f, as)) (df := { target := .fn (.func f) cv, args := fv ++ args.map a.eval }) hdo ⟨cv, rfl, hl⟩
            exact ih (i + 1) _ _ _ _ _ (by omega) s1 e fun φ' h' a' w' p1 p2 => K φ' h' a' w' p1 (t1.trans p2)
          · cases hrd
      · split at e
        · cases e
        · rename_i x hx
          split at e
          · cases e
          rename_i s1 hs1
          refine .inl (oper_wp hc hs.rel _ (stepA_told hs.sub hx) (fun b h1 h2 => hs.fresh b h1 ?_) fun v w' φ' p1 p2 => ?_)
          · have := (applyS_spec hs1).1
            have := most_far
            omega
          · obtain ⟨q1, q2⟩ := hs.step hdo hs1 p1 p2
            exact ih (i + 1) _ _ _ _ _ (by omega) q1 e fun φ' h' a' w' p1 p2 => K φ' h' a' w' p1 (q2.trans p2)
    · cases e

end
end Go.Ab
