/-
  The evaluator is sound: code, and calls with their bodies. No condition.
-/
import Derived.Test.YteacnhblklcclaaGreatDoorEe
namespace Go.Ab
set_option linter.unusedSectionVars false
variable [Env]

section
variable {P : Program} {G : Glob} [DecOk G] {call : Calling} {m : Nat}

theorem over_none {α : Type} {D : Nat → Bool} {f : Nat → Option α} {base : α} : ∀ n, (∀ j, j < n → D j = true → f j = none) → over D f base n = base
  | 0, _ => rfl
  | n + 1, h => by
    simp only [over]
    rw [over_none n fun j hj => h j (by omega)]
    cases hD : D n with
    | false => simp
    | true => rw [h n (by omega) hD]; simp

theorem Text.dirty {ops : Array Oper} {S : Nat → St} {X : Nat → Txn} {r : Nat → Nat} {b : Nat → Bool} (q : Text P G call m ops S X r b) :
    ∀ j, j ≤ ops.size → ∀ c, c < far → (S j).d.testBit c = false → (S 0).d.testBit c = false ∧ hget (S j).H c = hget (S 0).H c
  | 0, _, c, _, h => ⟨h, rfl⟩
  | j + 1, hj, c, hc, h => by
    have ho : ops[j]? = some (ops[j]'(by omega)) := by simp
    generalize ops[j]'(by omega) = o at ho
    have st := q.step j o ho
    have key : (S j).d.testBit c = false ∧ hget (S (j + 1)).H c = hget (S j).H c := by
      cases hb : b j with
      | false =>
        rw [(st.skip hb).2] at h ⊢
        exact ⟨h, rfl⟩
      | true =>
        have hwf := q.wr_lt ho
        rw [(applyS_spec (st.run hb).2).2.2] at h ⊢
        have hn : ¬ (dirt (X j).wr (S j).d).testBit c = true := by rw [show (dirt (X j).wr (S j).d).testBit c = false from h]; simp
        rw [dirt_spec] at hn
        refine ⟨by cases hq : (S j).d.testBit c <;> simp [hq] at hn ⊢, ?_⟩
        show hget (applyWr (S j).H (X j).wr) c = _
        rw [hget_applyWr _ _ hwf]
        exact applyF_ne _ _ fun p hp e => hn (.inr ⟨p, hp, e⟩)
    obtain ⟨h1, h2⟩ := q.dirty j (by omega) c hc key.1
    exact ⟨h1, key.2.trans h2⟩

theorem Text.df {ops : Array Oper} {S : Nat → St} {X : Nat → Txn} {r : Nat → Nat} {b : Nat → Bool} (q : Text P G call m ops S X r b) : ∀ j, j ≤ ops.size → (S j).df = (S 0).df
  | 0, _ => rfl
  | j + 1, hj => by
    have ho : ops[j]? = some (ops[j]'(by omega)) := by simp
    generalize ops[j]'(by omega) = o at ho
    have st := q.step j o ho
    have key : (S (j + 1)).df = (S j).df := by
      cases hb : b j with
      | false => rw [(st.skip hb).2]; rfl
      | true => rw [(applyS_spec (st.run hb).2).2.2]
    exact key.trans (q.df j (by omega))

theorem statOps_dst {ops : Array Oper} {d : Bool} (h : statOps m ops d = true) : ∀ (j : Nat) (o : Oper) (t : Nat), ops[j]? = some o → o.dst = some t → t < m := by
  intro j o t ho ht
  simp only [statOps, Bool.and_eq_true, Array.all_eq_true_iff_forall_mem] at h
  have := h.1 o (Array.mem_of_getElem? ho)
  rw [ht] at this
  exact blt_iff.1 this

theorem opsD_text {ops : Array Oper} (hst : statOps m ops true = true) (hm : m ≤ most) {s s' : St} (hn : s.n < most) (e : opsD P G call ops ops.toList 0 [] s = some s') :
    ∃ S X r b, Text P G call m ops S X r b ∧ S 0 = s ∧ S ops.size = s' := by
  obtain ⟨S, X, r, b, h1, h2, h3⟩ := opsD_seq ops.toList 0 [] s e
  have h4 := hst
  simp only [statOps, Bool.not_true, Bool.false_or, Bool.and_eq_true] at h4
  have h5 := List.all_eq_true.1 h4.2
  have mem : ∀ (j : Nat) (o : Oper), ops[j]? = some o → (o, j) ∈ ops.toList.zipIdx := fun j o ho => by
    rw [List.mem_zipIdx_iff_getElem?]; simpa using ho
  refine ⟨S, X, r, b, ⟨fun j o ho => ?_, fun i j o ho hij hi hj => ?_, statOps_dst hst, hm, by rw [h1]; exact hn, fun j o ho ed hed hb => ?_, fun i j oi oj hi hj hij => ?_⟩, h1, by simpa using h2⟩
  · have := (h3 j o (by simpa using ho)).1
    simpa using this
  · have := (h3 j o (by simpa using ho)).2.2 i hij
    simp only [Nat.zero_add] at this
    exact this hi hj
  · have := h5 _ (mem j o ho)
    simp only [Bool.and_eq_true, Array.all_eq_true_iff_forall_mem] at this
    have := this.1.1 ed hed
    rw [hb] at this
    exact blt_iff.1 (by simpa using this)
  · have := h5 _ (mem j oj hj)
    simp only [Bool.and_eq_true] at this
    have := List.all_eq_true.1 this.2 _ (mem i oi hi)
    simp only at this
    rw [blt_iff.2 hij] at this
    simpa [apartD] using this

/-- A region, of either kind. -/
theorem regA_wp (hmix : P.follows .mixedOrders = true) (hc : CallOk P G call) {id : Nat} {ops : Array Oper} {d : Bool} (hst : statOps m ops d = true) {φ : Phi} {h : Nat → Blk} {s s' : St} {a : Act} {w : World}
    (hs : SR G m φ h s a w) (e : regA P G call ops d s = some s') {Q : Exit → Act → World → Prop}
    (K : ∀ φ' h' a' w', SR G m φ' h' s' a' w' → Trip φ h s a w φ' h' s' a' w' → Q .normal a' w') : (Code.region id ops d).wp P Q a w := by
  cases d with
  | false =>
    refine wp_region ?_
    have := opsA_wp (Q := Q) (s' := s') hc (ops := ops) (fun d o' ho' hd => by
      obtain ⟨j, hj, rfl⟩ := Array.mem_iff_getElem.1 ho'
      exact statOps_dst hst j _ d (by simp) hd) ops.size 0 φ h s a w rfl hs (show opsA P G call ops ops.toList s = some s' from e) K
    simpa using this
  | true =>
    obtain ⟨S, X, r, b, q, rfl, rfl⟩ := opsD_text hst hs.m hs.n e
    refine wp_region_any hmix ?_
    have g0 : Goes φ h w 0 0 φ h { w with drawn := w.drawn + 1 } := Goes.world hs.rel.rh rfl rfl rfl (Nat.le_refl _) fun _ _ => rfl
    have hall : ∀ j, (Array.replicate ops.size false).getD j false = false := fun j => by
      simp only [Array.getD_eq_getD_getElem?, Array.getElem?_replicate]
      split <;> rfl
    have e1 : hD ops.size X h (fun j => (Array.replicate ops.size false).getD j false) = h := funext fun i => over_none _ fun j _ hj => by rw [hall] at hj; cases hj
    have e2 : tD ops X (tget (S 0).T) (fun j => (Array.replicate ops.size false).getD j false) = tget (S 0).T := funext fun i => over_none _ fun j _ hj => by rw [hall] at hj; cases hj
    refine draw_wp (φ0 := φ) (h0 := h) (a0 := a) (w0 := w) hc q hs.agree (fun φ' a' w' hI => ?_) ops.size _ φ a _ (by simp) (Nat.le_trans (?_ : undone _ ops.size ≤ ops.size) (Nat.le_refl _)) (fun j o hj => by rw [hall] at hj; cases hj)
      ⟨?_, fun j hj _ c h1 h2 => ?_, fun c h1 h2 => ?_, g0.ext, PhiExt.refl _, ?_, rfl⟩
    · have tEq : tD ops X (tget (S 0).T) (fun _ => true) = tget (S ops.size).T := funext fun i => (q.stT i ops.size (Nat.le_refl _)).symm
      refine K φ' (hD ops.size X h fun _ => true) a' w' ⟨by rw [← tEq]; exact hI.rel, fun c hc' => ?_, hI.rest, q.n_most _ (Nat.le_refl _), hs.m, by rw [q.df _ (Nat.le_refl _), hI.defers]; exact RDs.mono hI.phi hI.ext hI.less _ _ hs.defers⟩
        ⟨hI.ext, hI.phi, hI.less, fun k hk => over_none _ fun j hj _ => ?_, q.dirty _ (Nat.le_refl _), q.n_mono 0 _ (Nat.zero_le _) (Nat.le_refl _)⟩
      · rw [q.stH c ops.size (Nat.le_refl _)]
        unfold hD
        rw [hs.agree c hc']
      · have hoj : ops[j]? = some (ops[j]'hj) := by simp
        apply Classical.byContradiction
        intro hne
        obtain ⟨p, hp, hpk⟩ := lastWr_mem _ hne
        have := q.wr_lt hoj p hp
        omega
    · have : ∀ n, undone (Array.replicate ops.size false) n ≤ n := by
        intro n
        induction n with
        | zero => exact Nat.le_refl _
        | succ n ih => simp only [undone]; rw [hall]; simp; omega
      exact this _
    · rw [e1, e2]
      exact ⟨g0.rh, fun i => g0.ra (hs.rel.ra i), hs.rel.size, fun g row hg => g0.ra (hs.rel.glob g row hg)⟩
    · have h3 := q.n_mono 0 j (Nat.zero_le _) (by omega)
      have h4 := q.n_mono (j + 1) ops.size (by omega) (Nat.le_refl _)
      have h5 := q.n_most ops.size (Nat.le_refl _)
      have := most_far
      exact hs.fresh c (by omega) (by omega)
    · have h3 := q.n_mono 0 ops.size (Nat.zero_le _) (Nat.le_refl _)
      exact hs.fresh c (by omega) h2
    · rw [e1]; exact g0.less

def XA.exit' : XA → Exit
  | .normal => .normal
  | .exit id => .exit id
  | .goto l => .goto l
  | .ret => .ret

/-- Where it comes to. -/
def Fin (G : Glob) (m : Nat) (x : XA) (s' : St) (φ : Phi) (h : Nat → Blk) (s : St) (a : Act) (w : World) : Exit → Act → World → Prop :=
  fun e a' w' => e = x.exit' ∧ ∃ φ' h', SR G m φ' h' s' a' w' ∧ Trip φ h s a w φ' h' s' a' w'

theorem Fin.trans {x : XA} {s s1 s' : St} {φ φ1 : Phi} {h h1 : Nat → Blk} {a a1 : Act} {w w1 : World} (t : Trip φ h s a w φ1 h1 s1 a1 w1) {e : Exit} {a' : Act} {w' : World}
    (f : Fin G m x s' φ1 h1 s1 a1 w1 e a' w') : Fin G m x s' φ h s a w e a' w' := by
  obtain ⟨h0, φ', h', h2, h3⟩ := f
  exact ⟨h0, φ', h', h2, t.trans h3⟩

/-- Within a loop; within a scope behind a jump. -/
def LW (P : Program) (c : Code) (Q : Exit → Act → World → Prop) (a : Act) (w : World) : Prop :=
  ∀ (b : Frame) (k : List Item) (cs : List Frame), ∃ e a' w', Q e a' w' ∧ Arrives P (lone (b.at a (.code c :: .inLoop c :: k)) cs w) b k cs e a' w'
def JW (P : Program) (c : Code) (l : Nat) (Q : Exit → Act → World → Prop) (a : Act) (w : World) : Prop :=
  ∃ rest, findLabel c l = some rest ∧ ∀ (b : Frame) (k : List Item) (cs : List Frame), ∃ e a' w', Q e a' w' ∧ Arrives P (lone (b.at a (.code rest :: .inScope c :: k)) cs w) b k cs e a' w'

theorem LW.mono {c : Code} {Q Q' : Exit → Act → World → Prop} {a : Act} {w : World} (h : LW P c Q a w) (hq : ∀ e a w, Q e a w → Q' e a w) : LW P c Q' a w :=
  fun b k cs => let ⟨e, a', w', q, r⟩ := h b k cs; ⟨e, a', w', hq _ _ _ q, r⟩
theorem JW.mono {c : Code} {l : Nat} {Q Q' : Exit → Act → World → Prop} {a : Act} {w : World} (h : JW P c l Q a w) (hq : ∀ e a w, Q e a w → Q' e a w) : JW P c l Q' a w := by
  obtain ⟨rest, h1, h2⟩ := h
  exact ⟨rest, h1, fun b k cs => let ⟨e, a', w', q, r⟩ := h2 b k cs; ⟨e, a', w', hq _ _ _ q, r⟩⟩

theorem LW.wp {c : Code} {Q : Exit → Act → World → Prop} {a : Act} {w : World} (h : LW P c Q a w) : (Code.loop c).wp P Q a w :=
  fun b k cs => let ⟨e, a', w', q, r⟩ := h b k cs; ⟨e, a', w', q, .of_steps (.one step_loop) r⟩

/-- One round of a loop. -/
theorem LW.round {c : Code} {Q : Exit → Act → World → Prop} {a : Act} {w : World} (h : c.wp P (Exit.then (LW P c Q) Q) a w) : LW P c Q a w := by
  intro b k cs
  obtain ⟨e, a₁, w₁, hq, harr⟩ := h b (.inLoop c :: k) cs
  cases e with
  | normal =>
    obtain ⟨e₂, a₂, w₂, hq₂, harr₂⟩ := hq b k cs
    exact ⟨e₂, a₂, w₂, hq₂, .of_steps (Steps.trans harr (.one step_inLoop)) harr₂⟩
  | exit id => exact ⟨_, a₁, w₁, hq, .pass (x := .inLoop c) rfl (fun _ _ => .inl (by simp)) harr⟩
  | goto l => exact ⟨_, a₁, w₁, hq, .pass (x := .inLoop c) rfl (fun _ _ => .inl (by simp)) harr⟩
  | ret => exact ⟨_, a₁, w₁, hq, .pass (x := .inLoop c) rfl (fun _ _ => .inl (by simp)) harr⟩
  | panic ch => exact ⟨_, a₁, w₁, hq, .pass (x := .inLoop c) rfl (fun _ _ => .inl (by simp)) harr⟩
  | outgrown => exact ⟨_, a₁, w₁, hq, .pass (x := .inLoop c) rfl (fun _ _ => .inl (by simp)) harr⟩

/-- Behind a goto: on in the scope. -/
def Exit.on (P : Program) (c : Code) (Q : Exit → Act → World → Prop) : Exit → Act → World → Prop
  | .goto l, a, w => JW P c l Q a w
  | e, a, w => Q e a w

theorem scope_on {c : Code} {Q : Exit → Act → World → Prop} {b : Frame} {k : List Item} {cs : List Frame} {mm : Machine} {e : Exit} {a₁ : Act} {w₁ : World}
    (hq : Exit.on P c Q e a₁ w₁) (harr : Arrives P mm b (.inScope c :: k) cs e a₁ w₁) : ∃ e a' w', Q e a' w' ∧ Arrives P mm b k cs e a' w' := by
  cases e with
  | normal => exact ⟨.normal, a₁, w₁, hq, Steps.trans harr (.one step_inScope)⟩
  | exit id => exact ⟨.exit id, a₁, w₁, hq, fun k' hk => harr k' (by simp [exitTo, hk])⟩
  | goto l =>
    obtain ⟨rest, h1, h2⟩ := hq
    obtain ⟨e₂, a₂, w₂, hq₂, harr₂⟩ := h2 b k cs
    exact ⟨e₂, a₂, w₂, hq₂, .of_steps (harr _ (by simp [gotoIn, h1])) harr₂⟩
  | ret => exact ⟨_, a₁, w₁, hq, harr⟩
  | panic ch => exact ⟨_, a₁, w₁, hq, harr⟩
  | outgrown => exact ⟨_, a₁, w₁, hq, harr⟩

theorem wp_scope_on {c : Code} {Q : Exit → Act → World → Prop} {a : Act} {w : World} (h : c.wp P (Exit.on P c Q) a w) : (Code.scope c).wp P Q a w := by
  intro b k cs
  obtain ⟨e, a₁, w₁, hq, harr⟩ := h b (.inScope c :: k) cs
  obtain ⟨e₂, a₂, w₂, hq₂, harr₂⟩ := scope_on hq harr
  exact ⟨e₂, a₂, w₂, hq₂, .of_steps (.one step_scope) harr₂⟩
theorem JW.on {c rest : Code} {l : Nat} {Q : Exit → Act → World → Prop} {a : Act} {w : World} (hf : findLabel c l = some rest) (h : rest.wp P (Exit.on P c Q) a w) : JW P c l Q a w :=
  ⟨rest, hf, fun b k cs => let ⟨_, _, _, hq, harr⟩ := h b (.inScope c :: k) cs; scope_on hq harr⟩

theorem statC_find : ∀ (c : Code) {l : Nat} {rest : Code}, statC m c = true → findLabel c l = some rest → statC m rest = true
  | .seq x y, l, rest, h, e => by
    simp only [statC, Bool.and_eq_true] at h
    simp only [findLabel] at e
    split at e
    · rename_i r hr
      cases e
      simp only [statC, Bool.and_eq_true]
      exact ⟨statC_find x h.1 hr, h.2⟩
    · exact statC_find y h.2 e
  | .label l', l, rest, h, e => by
    simp only [findLabel] at e
    split at e
    · cases e; rfl
    · cases e
  | .skip, _, _, _, e => by cases e
  | .region .., _, _, _, e => by cases e
  | .cond .., _, _, _, e => by cases e
  | .block .., _, _, _, e => by cases e
  | .loop .., _, _, _, e => by cases e
  | .exit .., _, _, _, e => by cases e
  | .goto .., _, _, _, e => by cases e
  | .ret, _, _, _, e => by cases e
  | .scope .., _, _, _, e => by cases e

def JobWp (P : Program) (Q : Exit → Act → World → Prop) (a : Act) (w : World) : Job → Prop
  | .code c => c.wp P Q a w ∧ ∀ b, c = .loop b → LW P b Q a w
  | .jump c l => JW P c l Q a w
def statJ (m : Nat) : Job → Bool
  | .code c => statC m c
  | .jump c _ => statC m c

end
end Go.Ab

namespace Go.Ab
set_option linter.unusedSectionVars false
variable [Env]

section
variable {P : Program} {G : Glob} [DecOk G] {call : Calling} {m : Nat}

theorem condA_sound {φ : Phi} {h : Nat → Blk} {s : St} {a : Act} {w : World} (hs : SR G m φ h s a w) {c : Operand} {b : Bool} (e : condA G c s = some b) : a.eval c = .bool b := by
  unfold condA at e
  split at e
  · rename_i b' hb
    cases e
    exact RA.v_eq (opnd_sound hs.rel (Rd.run_sub hs.sub _ hb))
  · cases e

theorem codeA_wp (hmix : P.follows .mixedOrders = true) (hc : CallOk P G call) : ∀ (n : Nat) (job : Job) (s : St) (x : XA) (s' : St), codeA P G call n job s = some (x, s') → statJ m job = true →
    ∀ (φ : Phi) (h : Nat → Blk) (a : Act) (w : World), SR G m φ h s a w → JobWp P (Fin G m x s' φ h s a w) a w job := by
  intro n
  induction n with
  | zero => intro job s x s' e; cases e
  | succ n ih =>
    intro job s x s' e hst φ h a w hs
    -- code whose run goes on behind it
    have here : ∀ (x : XA), Fin G m x s φ h s a w x.exit' a w := fun x => ⟨rfl, φ, h, hs, Trip.refl⟩
    cases job with
    | jump c l =>
      simp only [codeA] at e
      cases hf : findLabel c l with
      | none => rw [hf] at e; cases e
      | some rest =>
        rw [hf] at e
        simp only at e
        cases h1 : codeA P G call n (.code rest) s with
        | none => rw [h1] at e; cases e
        | some y =>
          obtain ⟨x1, s1⟩ := y
          rw [h1] at e
          have hw := (ih _ _ _ _ h1 (statC_find c hst hf) φ h a w hs).1
          refine JW.on hf (wp_mono hw ?_)
          rintro e1 a1 w1 ⟨rfl, φ1, h1', hs1, t1⟩
          cases x1 with
          | goto l' => exact (ih (.jump c l') _ _ _ e hst φ1 h1' a1 w1 hs1).mono fun _ _ _ f => f.trans t1
          | normal => cases e; exact ⟨rfl, φ1, h1', hs1, t1⟩
          | exit id => cases e; exact ⟨rfl, φ1, h1', hs1, t1⟩
          | ret => cases e; exact ⟨rfl, φ1, h1', hs1, t1⟩
    | code c =>
      cases c with
      | skip => cases e; exact ⟨wp_skip (here .normal), fun b hb => by cases hb⟩
      | label l => cases e; exact ⟨wp_label (here .normal), fun b hb => by cases hb⟩
      | exit id => cases e; exact ⟨wp_exit (here (.exit id)), fun b hb => by cases hb⟩
      | goto l => cases e; exact ⟨wp_goto (here (.goto l)), fun b hb => by cases hb⟩
      | ret => cases e; exact ⟨wp_ret (here .ret), fun b hb => by cases hb⟩
      | rangeFunc => cases e
      | refuse => cases e
      | region id ops d =>
        simp only [codeA] at e
        cases h1 : regA P G call ops d s with
        | none => rw [h1] at e; cases e
        | some s1 =>
          rw [h1] at e
          cases e
          exact ⟨regA_wp hmix hc hst hs h1 fun φ' h' a' w' p1 p2 => ⟨rfl, φ', h', p1, p2⟩, fun b hb => by cases hb⟩
      | seq c1 c2 =>
        simp only [statJ, statC, Bool.and_eq_true] at hst
        simp only [codeA] at e
        cases h1 : codeA P G call n (.code c1) s with
        | none => rw [h1] at e; cases e
        | some y =>
          obtain ⟨x1, s1⟩ := y
          rw [h1] at e
          have hw := (ih _ _ _ _ h1 hst.1 φ h a w hs).1
          refine ⟨wp_seq (wp_mono hw ?_), fun b hb => by cases hb⟩
          rintro e1 a1 w1 ⟨rfl, φ1, h1', hs1, t1⟩
          cases x1 with
          | normal => exact wp_mono (ih (.code c2) _ _ _ e hst.2 φ1 h1' a1 w1 hs1).1 fun _ _ _ f => f.trans t1
          | goto l' => cases e; exact ⟨rfl, φ1, h1', hs1, t1⟩
          | exit id => cases e; exact ⟨rfl, φ1, h1', hs1, t1⟩
          | ret => cases e; exact ⟨rfl, φ1, h1', hs1, t1⟩
      | cond c c1 c2 =>
        simp only [statJ, statC, Bool.and_eq_true] at hst
        simp only [codeA] at e
        cases hb : condA G c s with
        | none => rw [hb] at e; cases e
        | some b =>
          rw [hb] at e
          have hcond := condA_sound hs hb
          refine ⟨?_, fun b hb => by cases hb⟩
          cases b with
          | true => exact wp_cond_true hcond (ih (.code c1) _ _ _ e hst.1 φ h a w hs).1
          | false => exact wp_cond_false hcond (ih (.code c2) _ _ _ e hst.2 φ h a w hs).1
      | block id c =>
        simp only [codeA] at e
        cases h1 : codeA P G call n (.code c) s with
        | none => rw [h1] at e; cases e
        | some y =>
          obtain ⟨x1, s1⟩ := y
          rw [h1] at e
          have hw := (ih _ _ _ _ h1 hst φ h a w hs).1
          refine ⟨wp_block (wp_mono hw ?_), fun b hb => by cases hb⟩
          rintro e1 a1 w1 ⟨rfl, φ1, h1', hs1, t1⟩
          cases x1 with
          | normal => cases e; exact ⟨rfl, φ1, h1', hs1, t1⟩
          | goto l' => cases e; exact ⟨rfl, φ1, h1', hs1, t1⟩
          | exit i =>
            simp only at e
            show (if i = id then _ else _)
            cases hi : Nat.beq i id with
            | true =>
              rw [hi] at e; cases e
              rw [if_pos (Nat.eq_of_beq_eq_true hi)]; exact ⟨rfl, φ1, h1', hs1, t1⟩
            | false =>
              rw [hi] at e; cases e
              rw [if_neg (Nat.ne_of_beq_eq_false hi)]; exact ⟨rfl, φ1, h1', hs1, t1⟩
          | ret => cases e; exact ⟨rfl, φ1, h1', hs1, t1⟩
      | loop c =>
        simp only [codeA] at e
        have key : LW P c (Fin G m x s' φ h s a w) a w := by
          cases h1 : codeA P G call n (.code c) s with
          | none => rw [h1] at e; cases e
          | some y =>
            obtain ⟨x1, s1⟩ := y
            rw [h1] at e
            have hw := (ih _ _ _ _ h1 hst φ h a w hs).1
            refine LW.round (wp_mono hw ?_)
            rintro e1 a1 w1 ⟨rfl, φ1, h1', hs1, t1⟩
            cases x1 with
            | normal => exact ((ih (.code (.loop c)) _ _ _ e hst φ1 h1' a1 w1 hs1).2 c rfl).mono fun _ _ _ f => f.trans t1
            | goto l' => cases e; exact ⟨rfl, φ1, h1', hs1, t1⟩
            | exit id => cases e; exact ⟨rfl, φ1, h1', hs1, t1⟩
            | ret => cases e; exact ⟨rfl, φ1, h1', hs1, t1⟩
        exact ⟨key.wp, fun b hb => by cases hb; exact key⟩
      | scope c =>
        simp only [codeA] at e
        cases h1 : codeA P G call n (.code c) s with
        | none => rw [h1] at e; cases e
        | some y =>
          obtain ⟨x1, s1⟩ := y
          rw [h1] at e
          have hw := (ih _ _ _ _ h1 hst φ h a w hs).1
          refine ⟨wp_scope_on (wp_mono hw ?_), fun b hb => by cases hb⟩
          rintro e1 a1 w1 ⟨rfl, φ1, h1', hs1, t1⟩
          cases x1 with
          | goto l' => exact (ih (.jump c l') _ _ _ e hst φ1 h1' a1 w1 hs1).mono fun _ _ _ f => f.trans t1
          | normal => cases e; exact ⟨rfl, φ1, h1', hs1, t1⟩
          | exit id => cases e; exact ⟨rfl, φ1, h1', hs1, t1⟩
          | ret => cases e; exact ⟨rfl, φ1, h1', hs1, t1⟩

/-! Behind a call. -/
theorem resultsA_sound {φ : Phi} {h : Nat → Blk} {t : Nat → AV} {a : Act} {w : World} (hR : Rel G m φ h t a w) {h0 : Nat → Blk} (hsub : Sub h0 h) {f : ResultVar → Sem Value}
    (hf1 : ∀ t, f (.tmp t) = Pure.pure (a.tmps.getD t undef)) (hf2 : ∀ x t, f (.cell x t) = do loadVar t (← asAddr (a.tmps.getD x undef))) : ∀ (rs : List ResultVar) (l : List AV), resultsA P t h0 rs = some l →
    ∃ vs : List Value, (rs.mapM f).run P w = .ok vs w ∧ RL φ (wr φ h) w l vs.toArray
  | [], l, e => by cases e; exact ⟨[], rfl, rfl, fun i c v hc => by simp at hc⟩
  | r :: rs, l, e => by
    simp only [resultsA] at e
    split at e
    · rename_i x l' hx hl
      cases e
      obtain ⟨vs, h1, h2⟩ := resultsA_sound hR hsub hf1 hf2 rs l' hl
      have one : ∃ v, (f r).run P w = .ok v w ∧ RA φ (wr φ h) w x v := by
        cases r with
        | tmp i => cases hx; exact ⟨_, by rw [hf1]; rfl, hR.ra i⟩
        | cell b ty =>
          simp only [resultA] at hx
          have hx := Rd.run_sub hsub _ hx
          have hb := hR.ra b
          obtain ⟨u, h3, h4⟩ := loadA_sound (P := P) hR.rh hx hb
          refine ⟨u, ?_, h4⟩
          have hxs := hx
          unfold loadA at hxs
          obtain ⟨_, _, e1⟩ := Rd.bind_some hxs
          obtain ⟨_, _, e2⟩ := Rd.bind_some e1
          have hp : ∃ ad, a.tmps.getD b undef = .pointer (some ad) := by
            generalize a.tmps.getD b undef = bv at hb ⊢
            generalize t b = av at hb e2
            cases hb <;> first | (cases e2; done) | exact ⟨_, rfl⟩
          obtain ⟨ad, hp⟩ := hp
          rw [hp, loadAt_ptr] at h3
          rw [hf2, hp, ← h3]
          simp [asAddr]
      obtain ⟨v, h3, h4⟩ := one
      have hsz : vs.length = l'.length := by simpa using h2.size
      refine ⟨v :: vs, ?_, by simp [hsz], fun i c u hc hu => ?_⟩
      · rw [List.mapM_cons]
        simp only [Sem.run_bind, h3, Result.andThen_ok, h1]
        rfl
      · cases i with
        | zero => simp at hc hu; subst hc; subst hu; exact h4
        | succ i => simp at hc hu; exact h2.get i c u hc (by simpa using hu)
    · cases e

end
end Go.Ab

namespace Go.Ab
set_option linter.unusedSectionVars false
variable [Env]

theorem chunk_spec {w : Nat} : ∀ (n : Nat) (cs : List AV) (rows : List (List AV)), chunk w n cs = some rows → rows.length = n ∧
    ∀ (i : Nat) (row : List AV), rows[i]? = some row → row.length = w ∧ ∀ (j : Nat) c, row[j]? = some c → cs[i * w + j]? = some c ∧ i * w + j < n * w
  | 0, cs, rows, e => by cases e; exact ⟨rfl, fun i row h => by simp at h⟩
  | n + 1, cs, rows, e => by
    simp only [chunk] at e
    cases hb : Nat.blt cs.length w with
    | true => rw [hb] at e; cases e
    | false =>
      rw [hb] at e
      simp only [cond_false] at e
      have hlen : w ≤ cs.length := by
        rcases Nat.lt_or_ge cs.length w with h | h
        · have : Nat.blt cs.length w = true := by unfold Nat.blt; rw [Nat.ble_eq]; exact h
          rw [hb] at this; cases this
        · exact h
      cases hr : chunk w n (cs.drop w) with
      | none => rw [hr] at e; cases e
      | some r =>
        rw [hr] at e
        cases e
        obtain ⟨h1, h2⟩ := chunk_spec n _ r hr
        refine ⟨by simp [h1], fun i row hi => ?_⟩
        cases i with
        | zero =>
          simp at hi; subst hi
          refine ⟨by simp; omega, fun j c hj => ?_⟩
          have hjw : j < w := by
            have := (List.getElem?_eq_some_iff.1 hj).1
            simp at this; omega
          rw [List.getElem?_take_of_lt hjw] at hj
          refine ⟨by simpa using hj, ?_⟩
          rw [Nat.succ_mul]; omega
        | succ i =>
          simp at hi
          obtain ⟨h3, h4⟩ := h2 i row hi
          refine ⟨h3, fun j c hj => ?_⟩
          obtain ⟨h5, h6⟩ := h4 j c hj
          rw [List.getElem?_drop] at h5
          rw [Nat.succ_mul, Nat.succ_mul]
          exact ⟨by rw [← h5]; congr 1; omega, by omega⟩

theorem pvRow_spec : ∀ (l : List AV) (ps : List PV), pvRow l = some ps → ps.length = l.length ∧ ∀ (j : Nat) p, ps[j]? = some p → l[j]? = some (.p p)
  | [], ps, e => by cases e; exact ⟨rfl, fun j p h => by simp at h⟩
  | x :: l, ps, e => by
    cases x with
    | p y =>
      simp only [pvRow] at e
      split at e
      · rename_i ps' hp
        cases e
        obtain ⟨h1, h2⟩ := pvRow_spec _ ps' hp
        refine ⟨by simp [h1], fun j p hj => ?_⟩
        cases j with
        | zero => simp at hj; subst hj; rfl
        | succ j => simp at hj; simpa using h2 j p hj
      · cases e
    | _ => cases e

theorem pvRows_spec : ∀ (l : List (List AV)) (ps : List (List PV)), pvRows l = some ps → ps.length = l.length ∧ ∀ (i : Nat) (prow : List PV), ps[i]? = some prow → ∃ row, l[i]? = some row ∧ pvRow row = some prow
  | [], ps, e => by cases e; exact ⟨rfl, fun j p h => by simp at h⟩
  | x :: l, ps, e => by
    unfold pvRows at e
    split at e
    · rename_i a b h1 h2
      cases e
      obtain ⟨h3, h4⟩ := pvRows_spec l b h2
      refine ⟨by simp [h3], fun j p hj => ?_⟩
      cases j with
      | zero => simp at hj; subst hj; exact ⟨x, rfl, h1⟩
      | succ j => simp at hj; simpa using h4 j p hj
    · cases e

section
variable {P : Program} {G : Glob} [DecOk G] {m : Nat}

/-- The letters behind a call, and their blocks. -/
def endPhi (φ : Phi) (m : Nat) (live : List Nat) (k : Nat) : Option Loc :=
  if k < m then φ k else if k < m + live.length then φ (live.getD (k - m) 0) else if k < far then none else φ k
def endH (h : Nat → Blk) (m : Nat) (live : List Nat) (k : Nat) : Blk :=
  if k < m then (h k).ren (leaving m live) else if k < m + live.length then (h (live.getD (k - m) 0)).ren (leaving m live) else if k < far then .dead else h k
def endOf (m : Nat) (live : List Nat) (k : Nat) : Nat := if k < m then k else if k < m + live.length then live.getD (k - m) 0 else k

structure Live (h : Nat → Blk) (m : Nat) (live : List Nat) : Prop where
  nodup : live.Nodup
  lt : ∀ b ∈ live, b < far
  ge : ∀ b ∈ live, m ≤ b
  small : m + live.length < far
  none : ∀ k, far ≤ k → AV.idsL (h k).cells = []

variable {φ : Phi} {h : Nat → Blk} {w : World} {live : List Nat}

theorem end_live {k : Nat} (e : (endH h m live k).live = true) : (h (endOf m live k)).live = true ∧ endPhi φ m live k = φ (endOf m live k) ∧ (k < m ∨ (m ≤ k ∧ k < m + live.length) ∨ far ≤ k) := by
  unfold endH at e
  unfold endPhi endOf
  by_cases h1 : k < m
  · simp only [h1, if_true] at e ⊢
    rw [live_ren] at e
    exact ⟨e, trivial, .inl trivial⟩
  · by_cases h2 : k < m + live.length
    · simp only [h1, if_false, h2, if_true] at e ⊢
      rw [live_ren] at e
      exact ⟨e, trivial, .inr (.inl ⟨by omega, trivial⟩)⟩
    · by_cases h3 : k < far
      · simp only [h1, if_false, h2, h3, if_true] at e; cases e
      · simp only [h1, if_false, h2, h3] at e ⊢
        exact ⟨e, trivial, .inr (.inr (by omega))⟩

theorem end_wr : ∀ r, wr (endPhi φ m live) (endH h m live) r → wr φ h r := by
  rintro r ⟨k, c, h1, h2⟩
  obtain ⟨h3, h4, _⟩ := end_live (φ := φ) h1
  exact ⟨_, c, h3, by rw [← h4]; exact h2⟩

theorem end_ren (_hL : Live h m live) (b k : Nat) (loc : Loc) (e : leaving m live b = some k) (hφ : φ b = some loc) : endPhi φ m live k = some loc := by
  unfold leaving at e
  unfold endPhi
  cases hb : Nat.blt b m with
  | true =>
    rw [hb] at e
    cases e
    rw [if_pos (blt_iff.1 hb)]; exact hφ
  | false =>
    rw [hb] at e
    simp only [cond_false] at e
    cases hp : pos b live 0 with
    | none => rw [hp] at e; cases e
    | some j =>
      rw [hp] at e
      simp only [Option.map_some, Option.some.injEq] at e
      subst e
      obtain ⟨_, h2⟩ := pos_sound live 0 j hp
      rw [Nat.sub_zero] at h2
      have hj := (List.getElem?_eq_some_iff.1 h2).1
      rw [if_neg (by omega), if_pos (by omega)]
      have : live.getD (m + j - m) 0 = b := by
        rw [show m + j - m = j by omega]; simp [List.getD, h2]
      rw [this]; exact hφ

theorem end_less : Less w.heap.size (wr φ h) (wr (endPhi φ m live) (endH h m live)) := fun r _ hr => end_wr r hr

theorem end_inj (hL : Live h m live) {i j : Nat} (hi : i < m ∨ (m ≤ i ∧ i < m + live.length) ∨ far ≤ i) (hj : j < m ∨ (m ≤ j ∧ j < m + live.length) ∨ far ≤ j)
    (e : endOf m live i = endOf m live j) : i = j := by
  have hs := hL.small
  have mem : ∀ k, m ≤ k → k < m + live.length → live.getD (k - m) 0 ∈ live ∧ endOf m live k = live.getD (k - m) 0 := fun k h1 h2 =>
    ⟨List.mem_of_getElem? (getD_of_lt (by omega)), by unfold endOf; rw [if_neg (by omega), if_pos h2]⟩
  have out : ∀ k, far ≤ k → endOf m live k = k := fun k hk => by unfold endOf; rw [if_neg (by omega), if_neg (by omega)]
  have low : ∀ k, k < m → endOf m live k = k := fun k hk => by unfold endOf; rw [if_pos hk]
  rcases hi with hi | ⟨hi1, hi2⟩ | hi <;> rcases hj with hj | ⟨hj1, hj2⟩ | hj
  · rw [low i hi, low j hj] at e; exact e
  · obtain ⟨m1, m2⟩ := mem j hj1 hj2
    rw [low i hi, m2] at e
    have := hL.ge _ m1; omega
  · rw [low i hi, out j hj] at e; omega
  · obtain ⟨m1, m2⟩ := mem i hi1 hi2
    rw [low j hj, m2] at e
    have := hL.ge _ m1; omega
  · obtain ⟨m1, m2⟩ := mem i hi1 hi2
    obtain ⟨n1, n2⟩ := mem j hj1 hj2
    rw [m2, n2] at e
    have := nodup_get hL.nodup (getD_of_lt (show i - m < live.length by omega)) (by rw [e]; exact getD_of_lt (by omega))
    omega
  · obtain ⟨m1, m2⟩ := mem i hi1 hi2
    rw [out j hj, m2] at e
    have := hL.lt _ m1; omega
  · rw [out i hi, low j hj] at e; omega
  · obtain ⟨n1, n2⟩ := mem j hj1 hj2
    rw [out i hi, n2] at e
    have := hL.lt _ n1; omega
  · rw [out i hi, out j hj] at e; exact e

theorem end_rh (hr : RH φ h w) (hL : Live h m live) : RH (endPhi φ m live) (endH h m live) w := by
  refine ⟨fun k => ?_, fun i j ci cj r l1 l2 p1 p2 => ?_, fun k r c hk => ?_⟩
  · cases hk : (endH h m live k).live with
    | false =>
      generalize endH h m live k = B at hk
      cases B with
      | dead => trivial
      | _ => cases hk
    | true =>
      obtain ⟨h3, h4, h5⟩ := end_live (φ := φ) hk
      have heq : endH h m live k = (h (endOf m live k)).ren (leaving m live) := by
        unfold endH endOf
        rcases h5 with h5 | ⟨h5, h6⟩ | h5
        · rw [if_pos h5, if_pos h5]
        · rw [if_neg (by omega), if_pos h6, if_neg (by omega), if_pos h6]
        · have := hL.small
          rw [if_neg (by omega), if_neg (by omega), if_neg (by omega), if_neg (by omega), if_neg (by omega)]
          symm
          apply blk_ren_same
          rw [hL.none k h5]; intro b hb; cases hb
      rw [heq]
      exact (hr.blk _).ren (end_ren hL) end_less fun _ => h4
  · obtain ⟨a1, a2, a3⟩ := end_live (φ := φ) l1
    obtain ⟨b1, b2, b3⟩ := end_live (φ := φ) l2
    rw [a2] at p1; rw [b2] at p2
    exact end_inj hL a3 b3 (hr.inj _ _ ci cj r a1 b1 p1 p2)
  · unfold endPhi at hk
    split at hk
    · exact hr.bound _ _ _ hk
    · split at hk
      · exact hr.bound _ _ _ hk
      · split at hk
        · cases hk
        · exact hr.bound _ _ _ hk

/-- A value for good. -/
theorem frz_sound (hr : RH φ h w) (hL : Live h m live) {h0 : Nat → Blk} (hsub : Sub h0 h) (hlow : ∀ b, (h0 b).live = true → b < far) : ∀ (f : Nat) (x : AV) (v : Value), RA φ (wr φ h) w x v → frzOk h0 m live f x = true →
    RA (endPhi φ m live) (wr (endPhi φ m live) (endH h m live)) w ((frz h0 m f x).ren (leaving m live)) v := by
  intro f
  induction f with
  | zero => intro x v hx _; exact hx.ren (end_ren hL) end_less
  | succ f ih =>
    intro x v hx hok
    have keep : RA (endPhi φ m live) (wr (endPhi φ m live) (endH h m live)) w (x.ren (leaving m live)) v := hx.ren (end_ren hL) end_less
    cases x with
    | own b n =>
      simp only [frz, frzOk] at hok ⊢
      cases hb : Nat.blt b m with
      | true => exact keep
      | false =>
        rw [hb] at hok
        simp only [cond_false] at hok ⊢
        cases hB : h0 b with
        | dead => exact keep
        | fx ty cs => exact keep
        | vec ty wd cs =>
          rw [hB] at hok
          simp only at hok ⊢
          cases hch : chunk wd n cs with
          | none => exact keep
          | some rows =>
            rw [hch] at hok
            simp only at hok ⊢
            cases hpv : pvRows (rows.map fun r => r.map (frz h0 m f)) with
            | none => exact keep
            | some l =>
              rw [hpv] at hok
              simp only [Bool.and_eq_true, List.all_eq_true] at hok ⊢
              obtain ⟨hpos, hall⟩ := hok
              obtain ⟨c1, c2⟩ := chunk_spec n cs rows hch
              obtain ⟨q1, q2⟩ := pvRows_spec _ l hpv
              have hln : l.length = n := by rw [q1]; simp [c1]
              have hlive : (h0 b).live = true := by rw [hB]; rfl
              have hbl : h b = .vec ty wd cs := by rw [hsub b hlive, hB]
              rw [show (AV.p (.sl l)).ren (leaving m live) = .p (.sl l) by simp [AV.ren]]
              cases hx with
              | own _ _ cap r hφ hcap hnil =>
                cases r with
                | none =>
                  have h0' := hnil rfl
                  have : n = 0 := by omega
                  subst this
                  have : l = [] := List.eq_nil_of_length_eq_zero hln
                  subst this
                  exact .p _ _ (.sl0 none cap)
                | some r0 =>
                  have hB2 := hr.blk b
                  rw [hbl] at hB2
                  obtain ⟨ro, cap', p1, p2⟩ := hB2
                  rw [hφ] at p1; simp only [Option.some.injEq, Prod.mk.injEq] at p1; obtain ⟨rfl, rfl⟩ := p1
                  obtain ⟨vs, p3, p4, p5, p6⟩ := p2
                  have cellAt : ∀ (i j : Nat) (prow : List PV) (c : PV), l[i]? = some prow → prow[j]? = some c →
                      ∃ x, cs[i * wd + j]? = some x ∧ i * wd + j < n * wd ∧ frz h0 m f x = .p c := by
                    intro i j prow c hi hj
                    obtain ⟨row, e1, e2⟩ := q2 i prow hi
                    obtain ⟨_, e3⟩ := pvRow_spec row prow e2
                    have e4 := e3 j c hj
                    simp only [List.getElem?_map] at e1
                    cases hrow : rows[i]? with
                    | none => rw [hrow] at e1; cases e1
                    | some row0 =>
                      rw [hrow] at e1
                      simp only [Option.map_some, Option.some.injEq] at e1
                      subst e1
                      simp only [List.getElem?_map] at e4
                      cases hx0 : row0[j]? with
                      | none => rw [hx0] at e4; cases e4
                      | some x =>
                        rw [hx0] at e4
                        simp only [Option.map_some, Option.some.injEq] at e4
                        obtain ⟨_, k2⟩ := c2 i row0 hrow
                        obtain ⟨k3, k4⟩ := k2 j x hx0
                        exact ⟨x, k3, k4, e4⟩
                  have := RP.sl (W := wr (endPhi φ m live) (endH h m live)) (w := w) l r0 0 wd cap (fun i j => vs.getD (i * wd + j) undef)
                    (fun i prow hi => by
                      obtain ⟨row, e1, e2⟩ := q2 i prow hi
                      obtain ⟨e3, _⟩ := pvRow_spec row prow e2
                      simp only [List.getElem?_map] at e1
                      cases hrow : rows[i]? with
                      | none => rw [hrow] at e1; cases e1
                      | some row0 =>
                        rw [hrow] at e1
                        simp only [Option.map_some, Option.some.injEq] at e1
                        subst e1
                        rw [e3]; simp [(c2 i row0 hrow).1])
                    (fun i j prow c hi hj => by
                      obtain ⟨x, k1, _, _⟩ := cellAt i j prow c hi hj
                      have hlt : i * wd + j < vs.size := by
                        have := (List.getElem?_eq_some_iff.1 k1).1; omega
                      simp [World.cell?, p3, hlt])
                    (fun i j prow c hi hj => by
                      obtain ⟨x, k1, k2, k3⟩ := cellAt i j prow c hi hj
                      have hlt : i * wd + j < vs.size := by
                        have := (List.getElem?_eq_some_iff.1 k1).1; omega
                      have hv : vs[i * wd + j]? = some (vs.getD (i * wd + j) undef) := by simp [hlt]
                      have hmem : x ∈ cs.take (n * wd) := by
                        apply List.mem_of_getElem? (i := i * wd + j)
                        rw [List.getElem?_take_of_lt k2]; exact k1
                      have := ih x _ (p6 _ x _ k1 hv) (hall x hmem)
                      rw [k3, show (AV.p c).ren (leaving m live) = .p c by simp [AV.ren]] at this
                      cases this with
                      | p _ _ hp => exact hp)
                    (fun hW => by
                      obtain ⟨k, c, z1, z2⟩ := hW
                      obtain ⟨z3, z4, z5⟩ := end_live (φ := φ) z1
                      rw [z4] at z2
                      have := hr.inj _ _ c cap r0 z3 (by rw [hbl]; rfl) z2 hφ
                      have hbm : ¬ b < m := fun hh => by rw [blt_iff.2 hh] at hb; cases hb
                      unfold endOf at this
                      have hsm := hL.small
                      rcases z5 with z5 | ⟨z5, z6⟩ | z5
                      · rw [if_pos z5] at this; omega
                      · rw [if_neg (by omega), if_pos z6] at this
                        have hm : live.getD (k - m) 0 ∈ live := List.mem_of_getElem? (getD_of_lt (by omega))
                        rw [this] at hm
                        obtain ⟨j, hj⟩ := pos_mem live 0 hm
                        rw [hj] at hpos; cases hpos
                      · rw [if_neg (by omega), if_neg (by omega)] at this
                        have := hlow b hlive
                        omega)
                    (hr.bound _ _ _ hφ) (by rw [hln]; exact hcap)
                  rw [hln] at this
                  exact .p _ _ this
    | agg cs =>
      simp only [frz, frzOk, List.all_eq_true] at hok ⊢
      cases hx with
      | agg _ vs h1 h2 =>
        rw [show (AV.agg (cs.map (frz h0 m f))).ren (leaving m live) = .agg (AV.renL (leaving m live) (cs.map (frz h0 m f))) by simp [AV.ren, AV.renL]]
        refine .agg _ vs (by rw [renL_length]; simp [h1]) fun i c u hc hu => ?_
        obtain ⟨y, hy, rfl⟩ := renL_some hc
        simp only [List.getElem?_map] at hy
        cases hz : cs[i]? with
        | none => rw [hz] at hy; cases hy
        | some z =>
          rw [hz] at hy
          simp only [Option.map_some, Option.some.injEq] at hy
          subst hy
          exact ih z u (h2 i z u hz hu) (hok z (List.mem_of_getElem? hz))
    | tup cs =>
      simp only [frz, frzOk, List.all_eq_true] at hok ⊢
      cases hx with
      | tup _ vs h1 h2 =>
        rw [show (AV.tup (cs.map (frz h0 m f))).ren (leaving m live) = .tup (AV.renL (leaving m live) (cs.map (frz h0 m f))) by simp [AV.ren, AV.renL]]
        refine .tup _ vs (by rw [renL_length]; simp [h1]) fun i c u hc hu => ?_
        obtain ⟨y, hy, rfl⟩ := renL_some hc
        simp only [List.getElem?_map] at hy
        cases hz : cs[i]? with
        | none => rw [hz] at hy; cases hy
        | some z =>
          rw [hz] at hy
          simp only [Option.map_some, Option.some.injEq] at hy
          subst hy
          exact ih z u (h2 i z u hz hu) (hok z (List.mem_of_getElem? hz))
    | p y => exact keep
    | ptr b o => exact keep
    | ep row o => exact keep
    | sub b o n => exact keep
    | clo g first caps => exact keep
    | top => exact keep

end
end Go.Ab

namespace Go.Ab
set_option linter.unusedSectionVars false
variable [Env]

theorem loadT_get : ∀ (l : List AV) (i : Nat) (T : Tr AV) (k : Nat), i + l.length ≤ far → tget (loadT T i l) k = if i ≤ k ∧ k < i + l.length then l.getD (k - i) .top else tget T k
  | [], i, T, k, _ => by
    simp only [loadT, List.length_nil]
    rw [if_neg (by omega)]
  | x :: l, i, T, k, h => by
    simp only [loadT]
    simp only [List.length_cons] at h ⊢
    rw [loadT_get l (i + 1) _ k (by omega)]
    have hs : tget (Tr.set .top 12 T i x) = fup (tget T) i x := Tr.get_set _ _ _ _ _ (by unfold far at h; simp; omega)
    rw [hs]
    by_cases h1 : i + 1 ≤ k ∧ k < i + 1 + l.length
    · rw [if_pos h1, if_pos ⟨by omega, by omega⟩]
      obtain ⟨q, hq⟩ : ∃ q, k - i = q + 1 := ⟨k - i - 1, by omega⟩
      rw [hq, show k - (i + 1) = q by omega]; rfl
    · rw [if_neg h1]
      by_cases h2 : k = i
      · subst h2
        rw [fup_self, if_pos ⟨by omega, by omega⟩]; simp
      · rw [fup_ne _ _ h2, if_neg (by omega)]
theorem loadH_get : ∀ (l : List Blk) (i : Nat) (T : Tr Blk) (k : Nat), i + l.length ≤ far → hget (loadH T i l) k = if i ≤ k ∧ k < i + l.length then l.getD (k - i) .dead else hget T k
  | [], i, T, k, _ => by
    simp only [loadH, List.length_nil]
    rw [if_neg (by omega)]
  | x :: l, i, T, k, h => by
    simp only [loadH]
    simp only [List.length_cons] at h ⊢
    rw [loadH_get l (i + 1) _ k (by omega)]
    have hs : hget (Tr.set .dead 12 T i x) = fup (hget T) i x := Tr.get_set _ _ _ _ _ (by unfold far at h; simp; omega)
    rw [hs]
    by_cases h1 : i + 1 ≤ k ∧ k < i + 1 + l.length
    · rw [if_pos h1, if_pos ⟨by omega, by omega⟩]
      obtain ⟨q, hq⟩ : ∃ q, k - i = q + 1 := ⟨k - i - 1, by omega⟩
      rw [hq, show k - (i + 1) = q by omega]; rfl
    · rw [if_neg h1]
      by_cases h2 : k = i
      · subst h2
        rw [fup_self, if_pos ⟨by omega, by omega⟩]; simp
      · rw [fup_ne _ _ h2, if_neg (by omega)]

theorem dead_of_none {φ : Phi} {W : Wr} {w : World} {k : Nat} {B : Blk} (h : RB φ W w k B) (hn : φ k = none) : B = .dead := by
  cases B with
  | dead => rfl
  | fx ty cs => obtain ⟨r, c, _, h1, _⟩ := h; rw [hn] at h1; cases h1
  | vec ty wd cs => obtain ⟨ro, c, h1, _⟩ := h; rw [hn] at h1; cases h1

theorem applyF_map (g : Nat → Blk) : ∀ (L : List Nat) (h : Nat → Blk) (k : Nat), applyF h (L.map fun b => (b, g b)) k = if k ∈ L then g k else h k
  | [], h, k => by simp [applyF]
  | b :: L, h, k => by
    simp only [List.map_cons, applyF]
    rw [applyF_map g L]
    by_cases h1 : k ∈ L
    · rw [if_pos h1, if_pos (by simp [h1])]
    · rw [if_neg h1]
      by_cases h2 : k = b
      · subst h2; rw [fup_self, if_pos (by simp)]
      · rw [fup_ne _ _ h2, if_neg (by simp [h1, h2])]

section
variable {P : Program} {G : Glob} [DecOk G]

theorem one_sound {φ : Phi} {W : Wr} {w : World} {l : List AV} {vs : Array Value} (h : RL φ W w l vs) : RA φ W w (one l) (if h : vs.size = 1 then vs[0] else .tuple vs) := by
  unfold one
  split
  · rename_i x
    have hs : vs.size = 1 := by rw [h.size]; rfl
    rw [dif_pos hs]
    exact h.get 0 x _ rfl (by simp)
  · rename_i hne
    have hs : ¬ vs.size = 1 := by
      rw [h.size]
      intro hl
      obtain ⟨x, hx⟩ := List.length_eq_one_iff.1 hl
      exact hne x hx
    rw [dif_neg hs]
    exact .tup _ _ h.size h.get

theorem leaveA_sound {keep nd : Bool} {fn : Func} {H : List Blk} {s0 s : St} {ans : Ans} (e : leaveA P keep nd fn H.length s = some ans) (hs0 : ∀ k, k < H.length → hget s0.H k = H.getD k .dead) :
    ans.nd = nd ∧ (∀ p ∈ ans.old, p.1 < H.length) ∧ H.length + ans.new.length < far ∧
    ((∀ k, k < H.length → ∀ b ∈ AV.idsL (H.getD k .dead).cells, b < H.length) → ∀ (φ0 : Phi) (h0 : Nat → Blk) (a0 : Act) (w0 : World) (φ : Phi) (h : Nat → Blk) (a : Act) (w : World), SR G fn.ntmps φ h s a w → Trip φ0 h0 s0 a0 w0 φ h s a w →
      (∀ k, k < H.length → h0 k = H.getD k .dead) → (∀ k, H.length ≤ k → k < far → φ0 k = none) → (∀ k, far ≤ k → AV.idsL (h0 k).cells = []) →
      ∃ v, (results fn a.tmps).run P w = .ok v w ∧ ∃ φ' h', Left φ0 h0 w0 H ans v w φ' h') := by
  unfold leaveA at e
  split at e
  · cases e
  · rename_i l hl
    simp only at e
    split at e
    · cases e
    · rename_i live hlive
      cases hok : (Nat.blt (H.length + live.length) most && (keep || frzOk (hget s.H) H.length live 40 (one l))) with
      | false => rw [hok] at e; cases e
      | true =>
        rw [hok] at e
        simp only [cond_true, Option.some.injEq] at e
        subst e
        rw [Bool.and_eq_true] at hok
        obtain ⟨hok1, hok2⟩ := hok
        have hok1 := blt_iff.1 hok1
        have hmf := most_far
        refine ⟨rfl, fun p hp => ?_, by simp; omega, ?_⟩
        · simp only [List.mem_map, List.mem_filter, List.mem_range] at hp
          obtain ⟨b, ⟨hb, _⟩, rfl⟩ := hp
          exact hb
        · intro hH φ0 h0 a0 w0 φ h a w hs T hh0 hφ0 hfar0
          have hbits : ∀ b, (Nat.shiftLeft 1 H.length - 1).testBit b = decide (b < H.length) := fun b => by
            show ((1 <<< H.length) - 1).testBit b = _
            rw [Nat.one_shiftLeft, Nat.testBit_two_pow_sub_one]
          obtain ⟨⟨hn, hlv, hnew⟩, _, _⟩ := reach_sound (m0 := Nat.shiftLeft 1 H.length - 1) 4000 _ (Nat.shiftLeft 1 H.length - 1) [] live hlive
            ⟨List.nodup_nil, fun b hb => (by cases hb), fun b hb => (by cases hb)⟩ (fun b => by simp)
          have hlow : ∀ b, (hget s.H b).live = true → b < far := fun b hb => by
            rcases Nat.lt_or_ge b far with h | h
            · exact h
            · rw [hget_far h] at hb; cases hb
          have hL : Live h H.length live := ⟨hn, fun b hb => hlow b (hlv b hb), fun b hb => by
            have := hnew b hb
            rw [hbits] at this
            simpa using this, by omega, fun k hk => by rw [T.far k hk]; exact hfar0 k hk⟩
          have hrs : ∃ vs : List Value, (results fn a.tmps).run P w = .ok (if h : vs.toArray.size = 1 then vs.toArray[0] else .tuple vs.toArray) w ∧ RL φ (wr φ h) w l vs.toArray := by
            unfold results
            rw [Array.mapM_eq_mapM_toList]
            have key : ∀ f : ResultVar → Sem Value, (∀ t, f (.tmp t) = Pure.pure (a.tmps.getD t undef)) → (∀ x t, f (.cell x t) = do loadVar t (← asAddr (a.tmps.getD x undef))) →
                ∃ vs : List Value, (do
                  let vs ← List.toArray <$> fn.results.toList.mapM f
                  Pure.pure (if h : vs.size = 1 then vs[0] else .tuple vs) : Sem Value).run P w = .ok (if h : vs.toArray.size = 1 then vs.toArray[0] else .tuple vs.toArray) w ∧ RL φ (wr φ h) w l vs.toArray := by
              intro f h1 h2
              obtain ⟨vs, hrun, hvs⟩ := resultsA_sound hs.rel hs.sub h1 h2 _ l hl
              refine ⟨vs, ?_, hvs⟩
              simp only [Sem.run_bind, map_eq_pure_bind, hrun, Result.andThen_ok, Sem.run_pure]
            refine key _ ?_ ?_
            · intro _; rfl
            · intro _ _; rfl
          obtain ⟨vs, hres, hvs⟩ := hrs
          refine ⟨_, hres, endPhi φ H.length live, endH h H.length live, ?_⟩
          have hone := one_sound hvs
          have hpe : PhiExt φ0 (endPhi φ H.length live) := fun k loc hk => by
            have hk1 := T.phi k loc hk
            unfold endPhi
            by_cases h1 : k < H.length
            · rw [if_pos h1]; exact hk1
            · rcases Nat.lt_or_ge k far with h2 | h2
              · rw [hφ0 k (by omega) h2] at hk; cases hk
              · rw [if_neg h1, if_neg (by omega), if_neg (by omega)]; exact hk1
          refine ⟨end_rh hs.rel.rh hL, ?_, T.ext, hpe, T.less.trans end_less T.ext.size, fun k hk => ?_, fun k hk => ?_, fun k hk1 hk2 => ?_⟩
          · cases keep with
            | true => exact hone.ren (end_ren hL) end_less
            | false =>
              simp only [Bool.false_or] at hok2
              exact frz_sound hs.rel.rh hL hs.sub hlow 40 _ _ hone hok2
          · have := hL.small
            unfold endH
            rw [if_neg (by omega), if_neg (by omega), if_neg (by omega)]
            exact T.far k hk
          · have hkf : k < far := by omega
            have e1 : endH h H.length live k = (h k).ren (leaving H.length live) := by unfold endH; rw [if_pos hk]
            rw [e1, applyF_map, hs.agree k hkf]
            by_cases hd : k ∈ (List.range H.length).filter (hasBit s.d)
            · rw [if_pos hd]
            · rw [if_neg hd]
              have hdb : s.d.testBit k = false := by
                simp only [List.mem_filter, List.mem_range, not_and, hk, true_implies, hasBit_eq] at hd
                simpa using hd
              rw [(T.dirty k hkf hdb).2, hs0 k hk]
              apply blk_ren_same
              intro b hb
              have := hH k hk b hb
              unfold leaving
              rw [blt_iff.2 this]; rfl
          · unfold endH
            rw [if_neg (by omega)]
            by_cases h3 : k < H.length + live.length
            · rw [if_pos h3]
              have hlt : k - H.length < live.length := by omega
              have hmem := List.mem_of_getElem? (getD_of_lt hlt)
              rw [hs.agree _ (hL.lt _ hmem)]
              simp [List.getD, hlt]
            · rw [if_neg h3, if_pos hk2]
              have : ¬ (k - H.length < live.length) := by omega
              simp [List.getD, this]

/-- The deferred calls, one after the other. -/
theorem runD_leaves {call : Calling} (hc : CallOkR (RunsD P) G (onlyNd call)) {m : Nat} {fn : Func} {R : Ending → World → Prop} {a : Act} {s' : St} : ∀ (df : List (FuncId × List AV)) (s : St) (φ : Phi) (h : Nat → Blk) (w : World) (ds : List Deferred),
    SR G m φ h s a w → RDs φ (wr φ h) w df ds → runD call df s = some s' →
    (∀ φ' h' w', SR G m φ' h' s' a w' → Trip φ h s a w φ' h' s' a w' → ∃ v, (results fn a.tmps).run P w' = .ok v w' ∧ R (.returned v) w') → Leaves P fn a.tmps R ds .returning w
  | [], s, φ, h, w, [], hs, _, e, K => by
    cases e
    exact K φ h w hs Trip.refl
  | [], _, _, _, _, _ :: _, _, hd, _, _ => hd.elim
  | _ :: _, _, _, _, _, [], _, hd, _, _ => hd.elim
  | (f, as) :: df, s, φ, h, w, d :: ds, hs, hd, e, K => by
    obtain ⟨⟨cap, h1, h2⟩, h3⟩ := hd
    simp only [runD] at e
    split at e
    · cases e
    · rename_i y hy
      split at e
      · cases e
      · rename_i s1 hs1
        obtain ⟨x, l⟩ := y
        have hfr : ∀ b, s.n ≤ b → b < s.n + x.nnew → φ b = none := fun b hb1 hb2 => by
          have := (applyS_spec hs1).1
          have := most_far
          exact hs.fresh b hb1 (by simp only at *; omega)
        obtain ⟨r1, r2⟩ := callA_sound (Rn := RunsD P) (fun _ _ _ _ _ h hr => RunsD.mono h hr) hc hy (fun b hb => hs.sub b (callA_live hy b hb)) hs.rel.rh h2 hfr hs.rel.glob
        obtain ⟨tg, dargs⟩ := d
        simp only at h1 h2 r1 r2
        subst h1
        refine leaves_cons (by simp) (by simpa [invoke] using r1) ((r2 .returning).mono fun e' u' w' he => ?_)
        obtain ⟨rfl, he⟩ := he
        cases e' with
        | returned v =>
          obtain ⟨φ', p1, p2⟩ := he
          obtain ⟨q1, q2⟩ := hs.step (d := none) (fun i hi => by cases hi) hs1 p1 p2
          exact runD_leaves hc df s1 φ' _ w' ds q1 (RDs.mono p2.phi p2.ext p2.less _ _ h3) e fun φ2 h2' w2 z1 z2 => K φ2 h2' w2 z1 (q2.trans z2)
        | panicked c => exact he.elim
        | outgrown => exact he.elim

/-- What one entry of the table keeps. -/
def Kept (P : Program) (G : Glob) (f : FuncId) (args : List AV) (H : List Blk) (ans : Ans) : Prop :=
  (∀ p ∈ ans.old, p.1 < H.length) ∧ H.length + ans.new.length < far ∧
    ((∀ k, k < H.length → ∀ b ∈ AV.idsL (H.getD k .dead).cells, b < H.length) → ∀ (φ : Phi) (h : Nat → Blk) (w : World) (vargs : Array Value), RH φ h w →
      (∀ k, k < H.length → h k = H.getD k .dead) → (∀ k, H.length ≤ k → k < far → φ k = none) → (∀ k, far ≤ k → AV.idsL (h k).cells = []) →
      RL φ (wr φ h) w args vargs → Globs G φ h w → (Runs P f vargs w fun v w' => ∃ φ' h', Left φ h w H ans v w' φ' h') ∧
        (ans.nd = true → RunsD P f vargs w fun v w' => ∃ φ' h', Left φ h w H ans v w' φ' h'))

theorem kept_ok {call : Calling} (hk : ∀ f args H ans, call f args H = some ans → Kept P G f args H ans) : CallOk P G call ∧ CallOkR (RunsD P) G (onlyNd call) := by
  refine ⟨fun f args H ans e => ?_, fun f args H ans e => ?_⟩
  · obtain ⟨h1, h2, h3⟩ := hk f args H ans e
    exact ⟨h1, h2, fun hH φ h w vargs a b c d e g => (h3 hH φ h w vargs a b c d e g).1⟩
  · unfold onlyNd at e
    split at e
    · rename_i a ha
      cases hn : a.nd with
      | false => rw [hn] at e; cases e
      | true =>
        rw [hn] at e
        cases e
        obtain ⟨h1, h2, h3⟩ := hk f args H ans ha
        exact ⟨h1, h2, fun hH φ h w vargs a b c d e g => (h3 hH φ h w vargs a b c d e g).2 hn⟩
    · cases e

theorem callF_kept (hP : Sane P) (keep : Keep) {base : Calling} (hbase : ∀ f args H ans, base f args H = some ans → Kept P G f args H ans) :
    ∀ n f args H ans, callF P G keep base n f args H = some ans → Kept P G f args H ans := by
  intro n
  induction n with
  | zero => intro f args H ans e; cases e
  | succ n ih =>
    obtain ⟨ih1, ih2⟩ := kept_ok ih
    intro f args H ans e
    simp only [callF] at e
    cases hbs : base f args H with
    | some a => rw [hbs] at e; cases e; exact hbase f args H _ hbs
    | none =>
    rw [hbs] at e
    simp only at e
    cases hf : P.funcs[f]? with
    | none => rw [hf] at e; cases e
    | some fn =>
      rw [hf] at e
      simp only at e
      cases hb : fn.body with
      | none =>
        rw [hb] at e
        simp only at e
        cases hok : Nat.blt H.length most with
        | false => rw [hok] at e; cases e
        | true =>
          rw [hok] at e
          simp only [cond_true] at e
          obtain ⟨h1, h2, h4, h3⟩ := hP.ext f fn args ans hf hb e
          have hmf := most_far
          have := blt_iff.1 hok
          refine ⟨fun p hp => (by rw [h1] at hp; cases hp), (by rw [h2]; simp; omega), fun _ φ h w vargs hr hh hφ hfar ha hg => ⟨?_, fun hn => by rw [h4] at hn; cases hn⟩⟩
          obtain ⟨v, r1, r2⟩ := h3 φ _ w vargs ha
          exact .inr ⟨v, w, r1, φ, h, hr, r2, Ext.refl _ _, PhiExt.refl _, Less.refl _ _, fun _ _ => rfl, fun k hk => (by rw [hh k hk, h1]; rfl),
            fun k hk1 hk2 => by rw [h2, dead_of_none (hr.blk k) (hφ k hk1 hk2)]; simp⟩
      | some c =>
        rw [hb] at e
        simp only at e
        obtain ⟨st1, st2, st3⟩ := hP.stat f fn c hf hb
        cases hok : (Nat.ble args.length fn.ntmps && Nat.blt H.length most) with
        | false => rw [hok] at e; cases e
        | true =>
          rw [hok] at e
          simp only [cond_true] at e
          rw [Bool.and_eq_true] at hok
          have ok1 := Nat.le_of_ble_eq_true hok.1
          have ok2 := blt_iff.1 hok.2
          have hmf := most_far
          have hH0 : ∀ k, k < H.length → hget (enterA args H).H k = H.getD k .dead := fun k hk => by
            show hget (loadH .lf 0 H) k = _
            rw [loadH_get _ _ _ _ (by omega), if_pos ⟨by omega, by omega⟩]; rfl
          have main : ∀ (x : XA) (s : St), codeA P G (callF P G keep base n) 3000 (.code c) (enterA args H) = some (x, s) → (x = .normal ∨ x = .ret) →
              endA P (callF P G keep base n) (keep f) fn H.length s = some ans → Kept P G f args H ans := by
            intro x s hx hxx hend
            -- the frame behind the body
            have body : ∀ (φ : Phi) (h : Nat → Blk) (w : World) (vargs : Array Value), RH φ h w → (∀ k, k < H.length → h k = H.getD k .dead) → (∀ k, H.length ≤ k → k < far → φ k = none) →
                RL φ (wr φ h) w args vargs → Globs G φ h w →
                c.wp P (fun e' a' w' => (e' = .normal ∨ e' = .ret) ∧ ∃ φ' h', SR G fn.ntmps φ' h' s a' w' ∧
                  Trip φ h (enterA args H) { tmps := vargs ++ Array.replicate (fn.ntmps - vargs.size) undef, defers := [] } w φ' h' s a' w')
                  { tmps := vargs ++ Array.replicate (fn.ntmps - vargs.size) undef, defers := [] } w := by
              intro φ h w vargs hr hh hφ ha hg
              have hsz : vargs.size = args.length := ha.size
              have hT : ∀ k, tget (enterA args H).T k = if k < args.length then args.getD k .top else .top := fun k => by
                show tget (loadT .lf 0 args) k = _
                rw [loadT_get _ _ _ _ (by omega)]
                by_cases hk : k < args.length
                · rw [if_pos ⟨by omega, by omega⟩, if_pos hk]; rfl
                · rw [if_neg (by omega), if_neg hk]; exact Tr.get_lf _ _ _
              have hsr : SR G fn.ntmps φ h (enterA args H) { tmps := vargs ++ Array.replicate (fn.ntmps - vargs.size) undef, defers := [] } w := by
                refine ⟨⟨hr, fun i => ?_, by simp [hsz]; omega, hg⟩, fun b hb' => ?_, fun b hb1 hb2 => hφ b hb1 hb2, ok2, st1, trivial⟩
                · rw [hT]
                  by_cases hi : i < args.length
                  · rw [if_pos hi]
                    have e1 : args[i]? = some (args.getD i .top) := by simp [List.getD, hi]
                    have e2 : (vargs ++ Array.replicate (fn.ntmps - vargs.size) undef).getD i undef = vargs.getD i undef := by
                      simp only [Array.getD_eq_getD_getElem?, Array.getElem?_append_left (show i < vargs.size by omega)]
                    show RA φ (wr φ h) w _ ((vargs ++ Array.replicate (fn.ntmps - vargs.size) undef).getD i undef)
                    rw [e2]
                    have e3 : vargs[i]? = some (vargs.getD i undef) := by
                      have hlt : i < vargs.size := by omega
                      simp [Array.getD_eq_getD_getElem?, hlt]
                    exact ha.get i _ _ e1 e3
                  · rw [if_neg hi]; exact .top _
                · by_cases hk : b < H.length
                  · rw [hh b hk, hH0 b hk]
                  · rw [dead_of_none (hr.blk b) (hφ b (by omega) hb')]
                    show Blk.dead = hget (loadH .lf 0 H) b
                    rw [loadH_get _ _ _ _ (by omega), if_neg (by omega)]
                    exact (Tr.get_lf _ _ _).symm
              refine wp_mono (codeA_wp hP.mixed ih1 3000 (.code c) _ x s hx st3 φ h _ w hsr).1 ?_
              rintro e' a' w' ⟨rfl, φ', h', hs', T⟩
              exact ⟨by rcases hxx with rfl | rfl <;> simp [XA.exit'], φ', h', hs', T⟩
            have enters : ∀ (vargs : Array Value) (w : World), (callFunc f vargs).run P w = .ok (.enter f vargs) w := fun vargs w => by
              have hne : ¬ fn.name = "runtime.NumGoroutine" := by simpa using st2
              simp [callFunc, hf, hb, hne]
            unfold endA at hend
            split at hend
            · rename_i hdf
              obtain ⟨l0, l1, l2, l3⟩ := leaveA_sound (G := G) hend hH0
              refine ⟨l1, l2, fun hH φ h w vargs hr hh hφ hfar ha hg => ?_⟩
              have post : c.wp P (bodyPost P fn fun e' w' => match e' with | .returned v => ∃ φ' h', Left φ h w H ans v w' φ' h' | _ => False)
                  { tmps := vargs ++ Array.replicate (fn.ntmps - vargs.size) undef, defers := [] } w := by
                refine wp_mono (body φ h w vargs hr hh hφ ha hg) ?_
                rintro e' a' w' ⟨hee, φ', h', hs', T⟩
                obtain ⟨v, hrun, hleft⟩ := l3 hH φ h _ w φ' h' a' w' hs' T hh hφ hfar
                have hnil : a'.defers = [] := by
                  have := hs'.defers
                  rw [hdf] at this
                  cases hd : a'.defers with
                  | nil => rfl
                  | cons d ds => rw [hd] at this; exact this.elim
                rcases hee with rfl | rfl <;> exact ⟨hnil, v, hrun, hleft⟩
              refine ⟨.inl ⟨enters vargs w, (calls_of_wp hf hb post).mono fun e' w' he => by cases e' <;> exact he⟩, fun _ => ⟨enters vargs w, fun u => (callsD_of_wp hf hb post).mono fun e' u' w' he => he⟩⟩
            · rename_i df hdf
              split at hend
              · cases hend
              · rename_i s2 hs2
                obtain ⟨l0, l1, l2, l3⟩ := leaveA_sound (G := G) hend hH0
                refine ⟨l1, l2, fun hH φ h w vargs hr hh hφ hfar ha hg => ⟨.inl ⟨enters vargs w, ?_⟩, fun hn => by rw [l0] at hn; cases hn⟩⟩
                refine (calls_of_wp_defers (R := fun e' w' => match e' with | .returned v => ∃ φ' h', Left φ h w H ans v w' φ' h' | _ => False) hf hb (wp_mono (body φ h w vargs hr hh hφ ha hg) ?_)).mono
                  fun e' w' he => by cases e' <;> exact he
                rintro e' a' w' ⟨hee, φ', h', hs', T⟩
                have hleaves : Leaves P fn a'.tmps (fun e' w' => match e' with | .returned v => ∃ φ' h', Left φ h w H ans v w' φ' h' | _ => False) a'.defers .returning w' :=
                  runD_leaves ih2 s.df s φ' h' w' a'.defers hs' hs'.defers hs2 fun φ2 h2 w2 z1 z2 => l3 hH φ h _ w φ2 h2 a' w2 z1 (T.trans z2) hh hφ hfar
                rcases hee with rfl | rfl <;> exact hleaves
          split at e
          · rename_i s hcode; exact main .normal s hcode (.inl rfl) e
          · rename_i s hcode; exact main .ret s hcode (.inr rfl) e
          · cases e

/-- Nothing is known ahead. -/
def noBase : Calling := fun _ _ _ => none
theorem noBase_kept : ∀ f args H ans, noBase f args H = some ans → Kept P G f args H ans := fun _ _ _ _ e => by cases e

end
end Go.Ab
