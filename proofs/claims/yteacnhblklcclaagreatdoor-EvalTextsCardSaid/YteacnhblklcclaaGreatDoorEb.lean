/-
  The evaluator is sound: its plain operations. No condition.
-/
import Derived.Test.YteacnhblklcclaaGreatDoorEa
import Derived.Laws.Cells
import Derived.Laws.Strings
import Derived.KernelRfl
namespace Go.Ab
set_option linter.unusedSectionVars false
variable [Env]

theorem Rd.run_bind {α β : Type} (m : Rd α) (f : α → Rd β) (t : Nat → AV) (h : Nat → Blk) : (m.bind f).run t h = (m.run t h).bind fun a => (f a).run t h := by
  induction m with
  | ret a => rfl
  | fail => rfl
  | tmp i k ih => exact ih (t i)
  | blk b k ih =>
    simp only [Rd.bind, Rd.run]
    cases hb : h b with
    | dead => rfl
    | fx ty cs => exact ih _
    | vec ty w cs => exact ih _
theorem Rd.run_ret {α : Type} (a : α) (t : Nat → AV) (h : Nat → Blk) : (Rd.ret a).run t h = some a := rfl
theorem Rd.run_fail {α : Type} (t : Nat → AV) (h : Nat → Blk) : (Rd.fail : Rd α).run t h = none := rfl
theorem Rd.run_lift {α : Type} (o : Option α) (t : Nat → AV) (h : Nat → Blk) : (Rd.lift o).run t h = o := by cases o <;> rfl
theorem Rd.run_need (b : Bool) (t : Nat → AV) (h : Nat → Blk) : (Rd.need b).run t h = if b then some () else none := by cases b <;> rfl
theorem Rd.run_tmp {α : Type} (i : Nat) (k : AV → Rd α) (t : Nat → AV) (h : Nat → Blk) : (Rd.tmp i k).run t h = (k (t i)).run t h := rfl
theorem Rd.blk_some {α : Type} {b : Nat} {k : Blk → Rd α} {t : Nat → AV} {h : Nat → Blk} {y : α} (e : (Rd.blk b k).run t h = some y) : (k (h b)).run t h = some y := by
  simp only [Rd.run] at e
  cases hb : h b with
  | dead => rw [hb] at e; cases e
  | fx ty cs => rw [hb] at e; exact e
  | vec ty w cs => rw [hb] at e; exact e

/-- Two steps of a program that went through. -/
theorem Rd.bind_some {α β : Type} {m : Rd α} {f : α → Rd β} {t : Nat → AV} {h : Nat → Blk} {y : β} (e : (m.bind f).run t h = some y) :
    ∃ x, m.run t h = some x ∧ (f x).run t h = some y := by
  rw [Rd.run_bind] at e
  cases hm : m.run t h with
  | none => rw [hm] at e; cases e
  | some x => rw [hm] at e; exact ⟨x, rfl, e⟩
theorem Rd.need_some {b : Bool} {t : Nat → AV} {h : Nat → Blk} {y : Unit} (e : (Rd.need b).run t h = some y) : b = true := by
  cases b with
  | true => rfl
  | false => cases e

/-- What is decided is so. -/
class DecOk (G : Glob) : Prop where
  num : ∀ op a b r, G.num op a b = some r → binI op .i64 a.val b.val = some (.bool r, true)
  txt : ∀ op a b r, G.txt op a b = some r → binStr op a.val b.val = some (.bool r, true)

theorem isYes_some {o : Option Bool} (h : isYes o = true) : o = some true := by
  match o, h with
  | some true, _ => rfl
theorem DecOk.le {G : Glob} (d : DecOk G) {a b : SE} (h : isYes (G.num .leq a b) = true) : a.val ≤ b.val := by
  have := d.num _ _ _ _ (isYes_some h)
  simpa [binI] using this
theorem DecOk.ne {G : Glob} (d : DecOk G) {a b : SE} (h : isYes (G.num .neq a b) = true) : a.val ≠ b.val := by
  have := d.num _ _ _ _ (isYes_some h)
  simpa [binI] using this

/-- What all steps keep: the letters' blocks, the slots, the tables. -/
structure Rel (G : Glob) (m : Nat) (φ : Phi) (h : Nat → Blk) (t : Nat → AV) (a : Act) (w : World) : Prop where
  rh : RH φ h w
  ra : ∀ i, RA φ (wr φ h) w (t i) (a.tmps.getD i undef)
  size : a.tmps.size = m
  glob : ∀ g row, G.tab g = some row → RA φ (wr φ h) w (.ep row 0) (.pointer (some ⟨g, 0, none⟩))

def applyF (h : Nat → Blk) : List (Nat × Blk) → (Nat → Blk)
  | [] => h
  | (b, B) :: r => applyF (fup h b B) r

/-- How a stretch goes on from a world to a world. -/
structure Goes (φ : Phi) (h : Nat → Blk) (w : World) (nid nnew : Nat) (φ' : Phi) (h' : Nat → Blk) (w' : World) : Prop where
  rh : RH φ' h' w'
  ext : Ext (wr φ h) w w'
  phi : PhiExt φ φ'
  less : Less w.heap.size (wr φ h) (wr φ' h')
  old : ∀ id, id < nid ∨ nid + nnew ≤ id → φ' id = φ id

theorem Goes.refl {φ : Phi} {h : Nat → Blk} {w : World} (nid : Nat) (hr : RH φ h w) : Goes φ h w nid 0 φ h w :=
  ⟨hr, Ext.refl _ _, PhiExt.refl _, Less.refl _ _, fun _ _ => rfl⟩

theorem Goes.ra {φ φ' : Phi} {h h' : Nat → Blk} {w w' : World} {nid nnew : Nat} {x : AV} {v : Value} (g : Goes φ h w nid nnew φ' h' w') (hx : RA φ (wr φ h) w x v) :
    RA φ' (wr φ' h') w' x v := hx.mono g.phi g.ext g.less

/-- An operation that gives a value: it runs as the change says. -/
def Gets (P : Program) (φ : Phi) (h : Nat → Blk) (w : World) (nid : Nat) (x : Txn) (s : Sem Value) : Prop :=
  ∃ v w' φ', s.run P w = .ok v w' ∧ RA φ' (wr φ' (applyF h x.wr)) w' x.res v ∧ Goes φ h w nid x.nnew φ' (applyF h x.wr) w'

theorem Gets.pure {P : Program} {φ : Phi} {h : Nat → Blk} {w : World} {nid : Nat} {x : AV} {c : Bool} {s : Sem Value} {v : Value} (hr : RH φ h w) (hs : s.run P w = .ok v w)
    (hx : RA φ (wr φ h) w x v) : Gets P φ h w nid { res := x, chk := c } s := ⟨v, w, φ, hs, hx, Goes.refl nid hr⟩

theorem pureR_some {r : Rd AV} {t : Nat → AV} {h : Nat → Blk} {x : Txn} (e : (pureR r).run t h = some x) : ∃ y, r.run t h = some y ∧ x = { res := y } := by
  obtain ⟨y, hy, e⟩ := Rd.bind_some e
  cases e
  exact ⟨y, hy, rfl⟩

theorem RA.v {φ : Phi} {W : Wr} {w : World} (x : Value) : RA φ W w (.v x) x := .p _ _ (.v x)
theorem RA.v_eq {φ : Phi} {W : Wr} {w : World} {x y : Value} (h : RA φ W w (.p (.v x)) y) : y = x := by
  cases h with
  | p _ _ h => cases h; rfl

theorem RA.i {φ : Phi} {W : Wr} {w : World} (e : SE) : RA φ W w (.p (.i e)) (.int .i64 e.val) := .p _ _ (.i e)
theorem RA.t {φ : Phi} {W : Wr} {w : World} (e : TE) : RA φ W w (.p (.t e)) (.string e.val) := .p _ _ (.t e)
theorem RA.i_eq {φ : Phi} {W : Wr} {w : World} {e : SE} {y : Value} (h : RA φ W w (.p (.i e)) y) : y = .int .i64 e.val := by
  cases h with
  | p _ _ h => cases h; rfl
theorem RA.t_eq {φ : Phi} {W : Wr} {w : World} {e : TE} {y : Value} (h : RA φ W w (.p (.t e)) y) : y = .string e.val := by
  cases h with
  | p _ _ h => cases h; rfl
theorem symI_sound {φ : Phi} {W : Wr} {w : World} {x : AV} {e : SE} {y : Value} (hs : symI x = some e) (h : RA φ W w x y) : y = .int .i64 e.val := by
  unfold symI at hs
  split at hs
  · cases hs; exact RA.i_eq h
  · cases hs; exact RA.v_eq h
  · cases hs
theorem symT_sound {φ : Phi} {W : Wr} {w : World} {x : AV} {e : TE} {y : Value} (hs : symT x = some e) (h : RA φ W w x y) : y = .string e.val := by
  unfold symT at hs
  split at hs
  · cases hs; exact RA.t_eq h
  · cases hs; exact RA.v_eq h
  · cases hs

theorem RA.ofConst {φ : Phi} {W : Wr} {w : World} (x : Value) : RA φ W w (ofConst x) x := by
  cases x with
  | agg cs =>
    refine .agg _ _ (by simp) fun i c v hc hv => ?_
    simp only [List.getElem?_map, Array.getElem?_toList] at hc
    rw [hv] at hc
    simp only [Option.map_some, Option.some.injEq] at hc
    subst hc
    exact RA.v v
  | _ => exact RA.v _

section ops
variable {P : Program} {G : Glob} [DecOk G] {m nid : Nat} {φ : Phi} {h : Nat → Blk} {t : Nat → AV} {a : Act} {w : World}

theorem opnd_sound (hR : Rel G m φ h t a w) {x : Operand} {y : AV} (e : (opnd G x).run t h = some y) : RA φ (wr φ h) w y (a.eval x) := by
  cases x with
  | tmp i => simp only [opnd, Rd.run_tmp, Rd.run_ret, Option.some.injEq] at e; subst e; exact hR.ra i
  | const v => simp only [opnd, Rd.run_ret, Option.some.injEq] at e; subst e; exact RA.ofConst v
  | global g =>
    simp only [opnd] at e
    cases hg : G.tab g with
    | none => rw [hg] at e; cases e
    | some row => rw [hg] at e; simp only [Rd.run_ret, Option.some.injEq] at e; subst e; exact hR.glob g row hg
  | func f =>
    simp only [opnd, Rd.run_ret, Option.some.injEq] at e; subst e
    exact .clo f [] [] #[] #[] rfl rfl (fun i c v hc => by simp at hc) (fun i c v hc => by simp at hc)

theorem opnds_sound (hR : Rel G m φ h t a w) : ∀ {xs : List Operand} {ys : List AV}, (opnds G xs).run t h = some ys →
    ys.length = xs.length ∧ ∀ (i : Nat) c x, ys[i]? = some c → xs[i]? = some x → RA φ (wr φ h) w c (a.eval x)
  | [], ys, e => by cases e; exact ⟨rfl, fun i c x hc => by simp at hc⟩
  | x :: xs, ys, e => by
    obtain ⟨y, hy, e⟩ := Rd.bind_some e
    obtain ⟨l, hl, e⟩ := Rd.bind_some e
    cases e
    obtain ⟨h1, h2⟩ := opnds_sound hR hl
    refine ⟨by simp [h1], fun i c z hc hz => ?_⟩
    cases i with
    | zero => simp at hc hz; subst hc; subst hz; exact opnd_sound hR hy
    | succ i => simp at hc hz; exact h2 i c z hc hz

theorem opnds_arr (hR : Rel G m φ h t a w) {xs : Array Operand} {ys : List AV} (e : (opnds G xs.toList).run t h = some ys) :
    RL φ (wr φ h) w ys (xs.map a.eval) := by
  obtain ⟨h1, h2⟩ := opnds_sound hR e
  refine ⟨by simp [h1], fun i c v hc hv => ?_⟩
  simp only [Array.getElem?_map] at hv
  cases hx : xs[i]? with
  | none => rw [hx] at hv; cases hv
  | some x => rw [hx] at hv; simp at hv; subst hv; exact h2 i c x hc (by simpa using hx)

/-! types -/
theorem run_typeInfo {i : TypeInfo} {ty : TypeId} (e : P.info? ty = some i) : (typeInfo ty).run P w = .ok i w := by
  simp [typeInfo, e]
theorem run_sizeOf {n : Nat} {ty : TypeId} (e : tySize P ty = some n) : (sizeOf ty).run P w = .ok n w := by
  unfold tySize at e
  cases hi : P.info? ty with
  | none => rw [hi] at e; cases e
  | some i => rw [hi] at e; simp at e; subst e; simp [sizeOf, run_typeInfo hi]
theorem run_underlying {d : TypeDesc} {ty : TypeId} (e : P.underlying ty = some d) : (underlying ty).run P w = .ok d w := by
  simp [underlying, e]
theorem run_isAgg {g : Bool} {ty : TypeId} (e : tyAgg P ty = some g) : (isAgg ty).run P w = .ok g w := by
  unfold tyAgg at e
  cases hi : P.underlying ty with
  | none => rw [hi] at e; cases e
  | some d => rw [hi] at e; simp at e; subst e; simp [isAgg, run_underlying hi]; cases d <;> rfl
theorem run_zeroValue {v : Value} {ty : TypeId} (e : tyZero P ty = some v) : (zeroValue ty).run P w = .ok v w := by
  unfold tyZero at e
  cases hi : P.info? ty with
  | none => rw [hi] at e; cases e
  | some i => rw [hi] at e; simp at e; simp [zeroValue, run_typeInfo hi, e]
theorem elem_of {ty e : TypeId} (h : tyElem P ty = some e) : P.underlying ty = some (.slice e) := by
  unfold tyElem at h
  split at h
  · rename_i e' he; simp at h; subst h; exact he
  · cases h
theorem fields_of {ty : TypeId} {fs : Array Field} (h : tyFields P ty = some fs) : P.underlying ty = some (.struct fs) := by
  unfold tyFields at h
  split at h
  · rename_i e' he; simp at h; subst h; exact he
  · cases h

theorem addr_add (r o n : Nat) : (⟨r, o, none⟩ : Addr).add n = ⟨r, o + n, none⟩ := by
  unfold Addr.add
  split
  · rename_i h; subst h; rfl
  · rfl

theorem live_of_cell {b : Blk} {o : Nat} {x : AV} (e : b.cells[o]? = some x) : b.live = true := by
  cases b <;> simp [Blk.cells] at e <;> rfl

theorem run_loadVar_agg {ty : TypeId} {n : Nat} {ad : Addr} {f : Nat → Value} (h1 : tyAgg P ty = some true) (h2 : tySize P ty = some n)
    (hf : ∀ j, j < n → w.cell? (ad.add j) = some (f j)) : (loadVar ty ad).run P w = .ok (.agg ((List.range n).map f).toArray) w := by
  simp [loadVar, run_isAgg h1, run_sizeOf h2, run_loadCells w ad n f hf]
theorem run_loadVar_one {ty : TypeId} {ad : Addr} {v : Value} (h1 : tyAgg P ty = some false) (hf : w.cell? ad = some v) : (loadVar ty ad).run P w = .ok v w := by
  simp [loadVar, run_isAgg h1, hf]

theorem loadAt_ptr (ty : TypeId) (ad : Addr) : Instr.loadAt ty (.pointer (some ad)) = loadVar ty ad := rfl
theorem storeAt_ptr (ty : TypeId) (ad : Addr) (v : Value) : Instr.storeAt ty (.pointer (some ad)) v = storeVar ty ad v := rfl
/-- A load. -/
theorem loadA_sound (hr : RH φ h w) {ty : TypeId} {x y : AV} {v : Value} (e : (loadA P ty x).run t h = some y) (hx : RA φ (wr φ h) w x v) :
    ∃ u, (Instr.loadAt ty v).run P w = .ok u w ∧ RA φ (wr φ h) w y u := by
  obtain ⟨g, hg, e⟩ := Rd.bind_some e
  rw [Rd.run_lift] at hg
  obtain ⟨n, hn, e⟩ := Rd.bind_some e
  rw [Rd.run_lift] at hn
  cases hx with
  | ptr b off r c hφ =>
    replace e := Rd.blk_some e
    have hcell : ∀ o c, (h b).cells[o]? = some c → ∃ u, w.cell? ⟨r, o, none⟩ = some u ∧ RA φ (wr φ h) w c u := fun o c hc => hr.cell (live_of_cell hc) hφ hc
    cases g with
    | true =>
      obtain ⟨_, hb, e⟩ := Rd.bind_some e
      have hb := of_decide_eq_true (Rd.need_some hb)
      cases e
      have hf : ∀ j, j < n → w.cell? ((⟨r, off, none⟩ : Addr).add j) = some ((w.cell? ⟨r, off + j, none⟩).getD undef) := by
        intro j hj
        obtain ⟨u, hu, _⟩ := hcell (off + j) _ (List.getElem?_eq_getElem (by omega))
        rw [addr_add, hu]; rfl
      refine ⟨_, by rw [loadAt_ptr]; exact run_loadVar_agg hg hn hf, .agg _ _ (by simp; omega) fun i c u hc hu => ?_⟩
      have hi : i < n := by
        have := (List.getElem?_eq_some_iff.1 hc).1
        simp at this; omega
      rw [List.getElem?_take_of_lt hi, List.getElem?_drop] at hc
      obtain ⟨u', hu', hra⟩ := hcell (off + i) c hc
      simp [hi] at hu
      rw [hu'] at hu; simp at hu; subst hu
      exact hra
    | false =>
      rw [Rd.run_lift] at e
      obtain ⟨u, hu, hra⟩ := hcell off y e
      exact ⟨u, by rw [loadAt_ptr]; exact run_loadVar_one hg hu, hra⟩
  | ep row off b o vals hcell hval hW hb0 =>
    cases g with
    | true =>
      obtain ⟨_, hb, e⟩ := Rd.bind_some e
      have hb := of_decide_eq_true (Rd.need_some hb)
      cases e
      have hf : ∀ j, j < n → w.cell? ((⟨b, o + off, none⟩ : Addr).add j) = some (vals (off + j)) := by
        intro j hj
        rw [addr_add, Nat.add_assoc]
        exact hcell (off + j) _ (List.getElem?_eq_getElem (by omega))
      refine ⟨_, by rw [loadAt_ptr]; exact run_loadVar_agg hg hn hf, .agg _ _ (by simp; omega) fun i c u hc hu => ?_⟩
      have hi : i < n := by
        have := (List.getElem?_eq_some_iff.1 hc).1
        simp at this; omega
      simp only [List.getElem?_map, List.getElem?_take_of_lt hi, List.getElem?_drop] at hc
      cases hrow : row[off + i]? with
      | none => rw [hrow] at hc; cases hc
      | some z =>
        rw [hrow] at hc; simp at hc; subst hc
        simp [hi] at hu; subst hu
        exact .p _ _ (hval _ _ hrow)
    | false =>
      rw [Rd.run_lift] at e
      cases hrow : row[off]? with
      | none => rw [hrow] at e; cases e
      | some z =>
        rw [hrow] at e; simp at e; subst e
        exact ⟨_, by rw [loadAt_ptr]; exact run_loadVar_one hg (hcell off z hrow), .p _ _ (hval _ _ hrow)⟩
  | _ => cases e

theorem cells?_some {x : AV} {cs : List AV} (e : x.cells? = some cs) {v : Value} (hx : RA φ (wr φ h) w x v) : RL φ (wr φ h) w cs v.cells := by
  have single : ∀ (x : AV) (v : Value), v.cells = #[v] → RA φ (wr φ h) w x v → RL φ (wr φ h) w [x] v.cells := by
    intro x v hv hx
    refine ⟨by simp [hv], fun i c u hc hu => ?_⟩
    rw [hv] at hu
    cases i with
    | zero => simp at hc hu; subst hc; subst hu; exact hx
    | succ i => simp at hc
  cases hx with
  | agg cs' vs h1 h2 => simp [AV.cells?] at e; subst e; exact ⟨h1, h2⟩
  | p x v hp =>
    simp only [AV.cells?] at e
    split at e
    · cases e
      rename_i ho
      refine single _ _ ?_ (.p _ _ hp)
      cases hp with
      | v _ => cases v <;> simp [AV.one] at ho <;> rfl
      | _ => rfl
    · cases e
  | tup => simp [AV.cells?, AV.one] at e
  | top => simp [AV.cells?, AV.one] at e
  | ptr b off r c hφ => simp [AV.cells?, AV.one] at e; subst e; exact single _ _ rfl (.ptr b off r c hφ)
  | ep row off b o vals hcell hval hW hb => simp [AV.cells?, AV.one] at e; subst e; exact single _ _ rfl (.ep row off b o vals hcell hval hW hb)
  | own b n cap r hφ hn hr => simp [AV.cells?, AV.one] at e; subst e; exact single _ _ rfl (.own b n cap r hφ hn hr)
  | sub b off n cap r c hφ hn => simp [AV.cells?, AV.one] at e; subst e; exact single _ _ rfl (.sub b off n cap r c hφ hn)
  | clo f first caps fv cv h1 h2 h3 h4 => simp [AV.cells?, AV.one] at e; subst e; exact single _ _ rfl (.clo f first caps fv cv h1 h2 h3 h4)

theorem one_oneCell {x : AV} (e : x.one = true) {v : Value} (hx : RA φ (wr φ h) w x v) : v.oneCell' = true := by
  cases hx with
  | agg => simp [AV.one] at e
  | tup => simp [AV.one] at e
  | top => simp [AV.one] at e
  | p x v hp =>
    cases hp with
    | v _ => cases v <;> simp [AV.one] at e <;> rfl
    | _ => rfl
  | _ => rfl

theorem with_cells (b : Blk) : b.with b.cells = b := by cases b <;> rfl
theorem fup_id (h : Nat → Blk) (b : Nat) : fup h b (h b) = h := by
  funext j; unfold fup; split
  · rename_i e; rw [e]
  · rfl
theorem fup_fup {α : Type} (h : Nat → α) (b : Nat) (x y : α) : fup (fup h b x) b y = fup h b y := by
  funext j; unfold fup; split <;> rfl
theorem setR_length : ∀ (cs cells : List AV) (off : Nat), (setR cells off cs).length = cells.length
  | [], _, _ => rfl
  | c :: cs, cells, off => by rw [setR, setR_length]; simp
theorem Blk.cells_with {b : Blk} (hl : b.live = true) (cs : List AV) : (b.with cs).cells = cs := by cases b <;> first | rfl | cases hl
theorem Blk.with_with (b : Blk) (x y : List AV) : (b.with x).with y = b.with y := by cases b <;> rfl

/-- Cells are stored, one behind the other. -/
theorem storeCells_sound {b r c o : Nat} (hφ : φ b = some (some r, c)) : ∀ (cs : List AV) (vs : List Value) (i : Nat) (h : Nat → Blk) (w : World), RH φ h w → (h b).live = true →
    cs.length = vs.length → (∀ x ∈ cs, x.one = true) → (∀ (j : Nat) x v, cs[j]? = some x → vs[j]? = some v → RA φ (wr φ h) w x v) → o + i + cs.length ≤ (h b).cells.length →
    ∃ w', (storeCells ⟨r, o, none⟩ vs i).run P w = .ok () w' ∧ RH φ (fup h b ((h b).with (setR (h b).cells (o + i) cs))) w' ∧ Ext (wr φ h) w w' ∧
      Less w.heap.size (wr φ h) (wr φ (fup h b ((h b).with (setR (h b).cells (o + i) cs)))) := by
  intro cs
  induction cs with
  | nil =>
    intro vs i h w hr hl hlen _ _ _
    have : vs = [] := by cases vs <;> simp at hlen; rfl
    subst this
    refine ⟨w, rfl, ?_, Ext.refl _ _, ?_⟩ <;> simp only [setR, with_cells, fup_id]
    · exact hr
    · exact Less.refl _ _
  | cons x cs ih =>
    intro vs i h w hr hl hlen hone hra hb
    obtain ⟨v, vs, rfl⟩ : ∃ v vs', vs = v :: vs' := by cases vs with | nil => simp at hlen | cons v vs => exact ⟨v, vs, rfl⟩
    have hx : RA φ (wr φ h) w x v := hra 0 x v rfl rfl
    have hcell : ∃ z, (h b).cells[o + i]? = some z := ⟨_, List.getElem?_eq_getElem (by simp at hb; omega)⟩
    obtain ⟨z, hz⟩ := hcell
    obtain ⟨u, hu, _⟩ := hr.cell hl hφ hz
    have hnf := hr.notFrozen hl hφ (o + i)
    have hstep : (store ⟨r, o + i, none⟩ v).run P w = .ok () (w.setCell ⟨r, o + i, none⟩ v) := by
      rw [run_store _ _ _ _ _ (one_oneCell (hone x (by simp)) hx), hu, hnf]; simp
    have hr' := hr.set (o := o + i) hl hφ hx
    have hex := Ext.setCell (W := wr φ h) (w := w) (r := r) ⟨b, c, hl, hφ⟩ (o + i) v
    have hls : Less w.heap.size (wr φ h) (wr φ (fup h b ((h b).with ((h b).cells.set (o + i) x)))) := fun q _ hq => wr_same (Blk.live_with _ _) q hq
    have hl' : (fup h b ((h b).with ((h b).cells.set (o + i) x)) b).live = true := by rw [fup_self, ← Blk.live_with]; exact hl
    obtain ⟨w', h1, h2, h3, h4⟩ := ih vs (i + 1) _ _ hr' hl' (by simpa using hlen) (fun y hy => hone y (by simp [hy]))
      (fun j y q hy hq => (hra (j + 1) y q (by simpa using hy) (by simpa using hq)).mono (PhiExt.refl _) hex hls) (by rw [fup_self, Blk.cells_with hl]; simp at hb ⊢; omega)
    simp only [fup_self, Blk.cells_with hl, Blk.with_with, fup_fup] at h2 h4
    refine ⟨w', ?_, ?_, hex.trans h3 hls, ?_⟩
    · simp only [storeCells, Sem.run_bind, addr_add, hstep, Result.andThen_ok]
      exact h1
    · rw [setR, Nat.add_assoc]; exact h2
    · rw [setR, Nat.add_assoc]; exact hls.trans h4 (by rw [size_setCell]; exact Nat.le_refl _)

end ops
end Go.Ab

namespace Go.Ab
set_option linter.unusedSectionVars false
variable [Env]

/-- An operation does what its change says. -/
def Does (P : Program) (φ : Phi) (h : Nat → Blk) (w : World) (nid : Nat) (x : Txn) (s : Sem Next) : Prop :=
  ∃ nx v w' φ', s.run P w = .ok nx w' ∧ (nx = .value v ∨ nx = .skip ∧ v = undef) ∧ RA φ' (wr φ' (applyF h x.wr)) w' x.res v ∧
    Goes φ h w nid x.nnew φ' (applyF h x.wr) w'

section ops
variable {P : Program} {G : Glob} [DecOk G] {m nid : Nat} {φ : Phi} {h : Nat → Blk} {t : Nat → AV} {a : Act} {w : World}

theorem Gets.does {x : Txn} {s : Sem Value} (g : Gets P φ h w nid x s) : Does P φ h w nid x (do Pure.pure (.value (← s))) := by
  obtain ⟨v, w', φ', h1, h2, h3⟩ := g
  exact ⟨.value v, v, w', φ', by simp [h1], .inl rfl, h2, h3⟩

theorem Does.pure (hr : RH φ h w) {x : AV} {c : Bool} {v : Value} (hx : RA φ (wr φ h) w x v) : Does P φ h w nid { res := x, chk := c } (Pure.pure (.value v)) :=
  ⟨.value v, v, w, φ, rfl, .inl rfl, hx, Goes.refl nid hr⟩

theorem new_fx {cs : List AV} {vs : Array Value} {ty : TypeId} (hr : RH φ h w) (hf : φ nid = none) (hl : RL φ (wr φ h) w cs vs) :
    Goes φ h w nid 1 (upd φ nid (some w.heap.size, 0)) (fup h nid (.fx ty cs)) { w with heap := w.heap.push (.cells vs ty (0, 0)) } := by
  have hpe := PhiExt.upd (i := nid) (some w.heap.size, 0) hf
  have hex := Ext.push (wr φ h) w (.cells vs ty (0, 0))
  have hls : Less w.heap.size (wr φ h) (wr (upd φ nid (some w.heap.size, 0)) (fup h nid (.fx ty cs))) := less_new (fun r hr => by cases hr; exact Nat.le_refl _)
  refine ⟨hr.new hf ⟨w.heap.size, 0, vs, upd_self _ _ _, by simp, hl.mono hpe hex hls⟩, hex, hpe, hls, fun id hid => upd_ne _ _ (by omega)⟩

theorem new_vec {cs : List AV} {vs : Array Value} {ty wd cap : Nat} (hr : RH φ h w) (hf : φ nid = none) (h1 : vs.size = cap * wd) (h2 : cs.length ≤ vs.size)
    (h3 : ∀ (i : Nat) c v, cs[i]? = some c → vs[i]? = some v → RA φ (wr φ h) w c v) :
    Goes φ h w nid 1 (upd φ nid (some w.heap.size, cap)) (fup h nid (.vec ty wd cs)) { w with heap := w.heap.push (.cells vs ty (0, 0)) } := by
  have hpe := PhiExt.upd (i := nid) (some w.heap.size, cap) hf
  have hex := Ext.push (wr φ h) w (.cells vs ty (0, 0))
  have hls : Less w.heap.size (wr φ h) (wr (upd φ nid (some w.heap.size, cap)) (fup h nid (.vec ty wd cs))) := less_new (fun r hr => by cases hr; exact Nat.le_refl _)
  refine ⟨hr.new hf ⟨some w.heap.size, cap, upd_self _ _ _, vs, by simp, h1, h2, fun i c v hc hv => (h3 i c v hc hv).mono hpe hex hls⟩, hex, hpe, hls, fun id hid => upd_ne _ _ (by omega)⟩

theorem RL.values {φ : Phi} {W : Wr} {w : World} (vs : Array Value) : RL φ W w (vs.toList.map fun c => AV.v c) vs := by
  refine ⟨by simp, fun i c v hc hv => ?_⟩
  simp only [List.getElem?_map, Array.getElem?_toList, hv, Option.map_some, Option.some.injEq] at hc
  subst hc
  exact RA.v v

theorem oMove_sound (hR : Rel G m φ h t a w) {x : Operand} {y : Txn} (e : (oMove G x).run t h = some y) : Does P φ h w nid y (Pure.pure (.value (a.eval x))) := by
  obtain ⟨z, hz, rfl⟩ := pureR_some e
  exact Does.pure hR.rh (opnd_sound hR hz)

theorem oPick_sound (hR : Rel G m φ h t a w) {c x y : Operand} {z : Txn} (e : (oPick G c x y).run t h = some z) :
    Does P φ h w nid z (do Pure.pure (.value (if ← asBool (a.eval c) then a.eval x else a.eval y))) := by
  obtain ⟨cv, hc, e⟩ := Rd.bind_some e
  have hcv := opnd_sound hR hc
  split at e
  · rw [RA.v_eq hcv]
    obtain ⟨z, hz, rfl⟩ := pureR_some e
    exact ⟨_, _, w, φ, rfl, .inl rfl, opnd_sound hR hz, Goes.refl nid hR.rh⟩
  · rw [RA.v_eq hcv]
    obtain ⟨z, hz, rfl⟩ := pureR_some e
    exact ⟨_, _, w, φ, rfl, .inl rfl, opnd_sound hR hz, Goes.refl nid hR.rh⟩
  · cases e

theorem oAlloc_sound (hR : Rel G m φ h t a w) (hf : φ nid = none) {ty : TypeId} {x : Txn} (e : (oAlloc P nid ty).run t h = some x) :
    Gets P φ h w nid x (Instr.alloc ty true (.tuple #[])) := by
  obtain ⟨z, hz, e⟩ := Rd.bind_some e
  rw [Rd.run_lift] at hz
  cases e
  have g := new_fx (cs := z.cells.toList.map fun c => AV.v c) (vs := z.cells) (ty := ty) hR.rh hf (RL.values _)
  exact ⟨_, _, _, by simp [Instr.alloc, run_zeroValue hz, newVar, newRow], .ptr _ _ _ _ (upd_self _ _ _), g⟩

theorem oBox_sound (hR : Rel G m φ h t a w) (hf : φ nid = none) {ty : TypeId} {y : Operand} {x : Txn} (e : (oBox G nid ty y).run t h = some x) :
    Gets P φ h w nid x (Instr.box ty (a.eval y)) := by
  obtain ⟨z, hz, e⟩ := Rd.bind_some e
  obtain ⟨cs, hcs, e⟩ := Rd.bind_some e
  rw [Rd.run_lift] at hcs
  cases e
  have g := new_fx (cs := cs) (ty := ty) hR.rh hf (cells?_some hcs (opnd_sound hR hz))
  exact ⟨_, _, _, by simp [Instr.box, newVar, newRow], .ptr _ _ _ _ (upd_self _ _ _), g⟩

theorem oLoad_sound (hR : Rel G m φ h t a w) {ty : TypeId} {y : Operand} {x : Txn} (e : (oLoad P G ty y).run t h = some x) : Gets P φ h w nid x (Instr.loadAt ty (a.eval y)) := by
  obtain ⟨z, hz, e⟩ := Rd.bind_some e
  obtain ⟨r, hr, rfl⟩ := pureR_some e
  obtain ⟨u, h1, h2⟩ := loadA_sound hR.rh hr (opnd_sound hR hz)
  exact Gets.pure hR.rh h1 h2

theorem oStore_sound (hR : Rel G m φ h t a w) {ty : TypeId} {y z : Operand} {x : Txn} (e : (oStore P G ty y z).run t h = some x) :
    Does P φ h w nid x (do Instr.storeAt ty (a.eval y) (a.eval z); Pure.pure .skip) := by
  obtain ⟨ya, hy, e⟩ := Rd.bind_some e
  obtain ⟨za, hz, e⟩ := Rd.bind_some e
  have hy := opnd_sound hR hy
  have hz := opnd_sound hR hz
  cases hcs : za.cells? with
  | none => cases ya <;> simp [storeA, hcs, Rd.run_fail] at e
  | some cs =>
    have hl := cells?_some hcs hz
    generalize hv : a.eval y = yv at *
    cases hy with
    | ptr b off r c hφ =>
      simp only [storeA, hcs] at e
      replace e := Rd.blk_some e
      obtain ⟨_, hn, e⟩ := Rd.bind_some e
      have hn := Rd.need_some hn
      simp only [Bool.and_eq_true, decide_eq_true_eq, List.all_eq_true] at hn
      obtain ⟨⟨⟨h1, h2⟩, h3⟩, h4⟩ := hn
      cases e
      obtain ⟨w', e1, e2, e3, e4⟩ := storeCells_sound (P := P) (o := off) hφ cs (a.eval z).cells.toList 0 h w hR.rh h2 (by simp [hl.size]) h3
        (fun j x v hx hv => hl.get j x v hx (by simpa using hv)) (by simpa using h4)
      refine ⟨.skip, undef, w', φ, ?_, .inr ⟨rfl, rfl⟩, .top _, ⟨e2, e3, PhiExt.refl _, e4, fun _ _ => rfl⟩⟩
      simp only [Sem.run_bind, storeAt_ptr, storeVar, run_sizeOf h1, Result.andThen_ok]
      have : (a.eval z).cells.size = cs.length := hl.size
      simp only [this, ne_eq, not_true_eq_false, if_false]
      simp [e1]
    | _ => simp [storeA, Rd.run_fail] at e

theorem oNilCheck_sound (hR : Rel G m φ h t a w) {y : Operand} {x : Txn} (o : Oper) (ho : o.op = .nilCheck y) (e : (oNilCheck G y).run t h = some x) :
    Does P φ h w nid x (execOp a.eval o) := by
  obtain ⟨z, hz, e⟩ := Rd.bind_some e
  have hz := opnd_sound hR hz
  simp only [execOp, ho]
  generalize hv : a.eval y = yv at *
  cases hz with
  | ptr b off r c hφ => cases e; exact Does.pure hR.rh (.ptr b off r c hφ)
  | ep row off b o vals hcell hval hW hb => cases e; exact Does.pure hR.rh (.ep row off b o vals hcell hval hW hb)
  | clo f first caps fv cv h1 h2 h3 h4 => cases e; exact Does.pure hR.rh (.clo f first caps fv cv h1 h2 h3 h4)
  | _ => cases e

theorem oUn_sound (hR : Rel G m φ h t a w) {op : UnOp} {y : Operand} {x : Txn} (e : (oUn G op y).run t h = some x) : Gets P φ h w nid x (Op.unary op (a.eval y)) := by
  obtain ⟨z, hz, e⟩ := Rd.bind_some e
  obtain ⟨r, hr, rfl⟩ := pureR_some e
  have hz := opnd_sound hR hz
  unfold unA at hr
  split at hr
  · cases hr; rw [RA.v_eq hz]; exact Gets.pure hR.rh (by simp [Op.unary, Op.intArith]) (RA.v _)
  · cases hr; rw [RA.v_eq hz]; exact Gets.pure hR.rh (by simp [Op.unary]) (RA.v _)
  · cases hr
    rw [RA.i_eq hz]
    exact Gets.pure hR.rh (v := .int .i64 (SE.neg _).val) (by simp [Op.unary, Op.intArith, SE.val]) (RA.i _)
  · cases hr

theorem oExtract_sound (hR : Rel G m φ h t a w) {y : Operand} {i : Nat} {x : Txn} (e : (oExtract G y i).run t h = some x) : Gets P φ h w nid x (Instr.extract (a.eval y) i) := by
  obtain ⟨z, hz, e⟩ := Rd.bind_some e
  obtain ⟨r, hr, rfl⟩ := pureR_some e
  have hz := opnd_sound hR hz
  unfold extractA at hr
  split at hr
  · rename_i cs
    rw [Rd.run_lift] at hr
    generalize hv : a.eval y = yv at *
    cases hz with
    | tup _ vs h1 h2 =>
      have hi : i < vs.size := by rw [h1]; exact (List.getElem?_eq_some_iff.1 hr).1
      have hvi : vs[i]? = some vs[i] := by simp
      exact Gets.pure hR.rh (v := vs[i]) (by simp [Instr.extract, hvi]) (h2 i r _ hr hvi)
  · cases hr

theorem oFunc_sound (hR : Rel G m φ h t a w) {fn : Fn} {first caps : Array Operand} {x : Txn} (e : (oFunc G fn first caps).run t h = some x) :
    Gets P φ h w nid x (Instr.makeFunc fn (first.map a.eval) (caps.map a.eval)) := by
  unfold oFunc at e
  split at e
  · rename_i f
    obtain ⟨x1, h1, e⟩ := Rd.bind_some e
    obtain ⟨x2, h2, e⟩ := Rd.bind_some e
    cases e
    have r1 := opnds_arr hR h1
    have r2 := opnds_arr hR h2
    exact Gets.pure hR.rh rfl (.clo f x1 x2 _ _ r1.size r2.size r1.get r2.get)
  · cases e

/-- The place of a field. -/
theorem run_fieldAt {s : TypeId} {f n : Nat} {fs : Array Field} {fd : Field} {r off : Nat} (h1 : tyFields P s = some fs) (h2 : fs[f]? = some fd) (h3 : tySize P fd.type = some n) (h4 : 0 < n) :
    (Instr.fieldAt s (.pointer (some ⟨r, off, none⟩)) f).run P w = .ok (.pointer (some ⟨r, off + fd.offset, none⟩)) w := by
  simp [Instr.fieldAt, run_underlying (fields_of h1), h2, Instr.sureAddr, fieldPlace, run_sizeOf h3, Nat.ne_of_gt h4, addr_add]

theorem oField_sound (hR : Rel G m φ h t a w) {s : TypeId} {y : Operand} {f : Nat} {x : Txn} (e : (oField P G s y f).run t h = some x) : Gets P φ h w nid x (Instr.fieldAt s (a.eval y) f) := by
  obtain ⟨z, hz, e⟩ := Rd.bind_some e
  obtain ⟨r, hr, rfl⟩ := pureR_some e
  have hz := opnd_sound hR hz
  obtain ⟨fs, h1, hr⟩ := Rd.bind_some hr
  rw [Rd.run_lift] at h1
  obtain ⟨fd, h2, hr⟩ := Rd.bind_some hr
  rw [Rd.run_lift] at h2
  obtain ⟨n, h3, hr⟩ := Rd.bind_some hr
  rw [Rd.run_lift] at h3
  obtain ⟨_, h4, hr⟩ := Rd.bind_some hr
  have h4 := of_decide_eq_true (Rd.need_some h4)
  generalize hv : a.eval y = yv at *
  cases hz with
  | ptr b off r c hφ => cases hr; exact Gets.pure hR.rh (run_fieldAt h1 h2 h3 h4) (.ptr b _ r c hφ)
  | ep row off b o vals hcell hval hW hb =>
    cases hr
    refine Gets.pure hR.rh (run_fieldAt h1 h2 h3 h4) ?_
    rw [Nat.add_assoc]
    exact .ep row _ b o vals hcell hval hW hb
  | _ => cases hr

end ops
end Go.Ab

namespace Go.Ab
set_option linter.unusedSectionVars false
variable [Env]

section ops
variable {P : Program} {G : Glob} [DecOk G] {m nid : Nat} {φ : Phi} {h : Nat → Blk} {t : Nat → AV} {a : Act} {w : World}

theorem run_indexAt_slice {ty e s n cap r o : Nat} {kk : IntKind} {k : Int} (hu : P.underlying ty = some (.slice e)) (hs : tySize P e = some s) (h0 : 0 ≤ k) (h1 : k < n) :
    (Instr.indexAt ty (.slice (some ⟨r, o, none⟩) n cap) (.int kk k)).run P w = .ok (.pointer (some ⟨r, o + k.toNat * s, none⟩)) w := by
  simp [Instr.indexAt, asIntOf, run_underlying hu, run_sizeOf hs, h0, h1, addr_add]
theorem run_indexAt_array {ty e s n r o : Nat} {kk : IntKind} {k : Int} (hu : P.underlying ty = some (.array n e)) (hs : tySize P e = some s) (h0 : 0 ≤ k) (h1 : k < n) :
    (Instr.indexAt ty (.pointer (some ⟨r, o, none⟩)) (.int kk k)).run P w = .ok (.pointer (some ⟨r, o + k.toNat * s, none⟩)) w := by
  simp [Instr.indexAt, asIntOf, run_underlying hu, run_sizeOf hs, h0, h1, addr_add, Instr.sureAddr]

theorem int_of {φ : Phi} {W : Wr} {w : World} {kk : IntKind} {k : Int} {v : Value} (hx : RA φ W w (.p (.v (.int kk k))) v) : v = .int kk k := RA.v_eq hx

theorem indexAddrA_sound (hr : RH φ h w) {ty : TypeId} {x i : AV} {xv iv : Value} {y : Txn} (e : (indexAddrA P ty x i).run t h = some y) (hc : y.chk = true)
    (hx : RA φ (wr φ h) w x xv) (hi : RA φ (wr φ h) w i iv) : Gets P φ h w nid y (Instr.indexAt ty xv iv) := by
  unfold indexAddrA at e
  split at e
  · rename_i kk k
    rw [int_of hi]
    split at e
    · rename_i el b n hu
      obtain ⟨s, hs, e⟩ := Rd.bind_some e
      rw [Rd.run_lift] at hs
      cases e
      simp only [Bool.and_eq_true, decide_eq_true_eq] at hc
      cases hx with
      | own _ _ cap r hφ hn hnil =>
        cases r with
        | none => have := hnil rfl; omega
        | some r =>
          have := run_indexAt_slice (P := P) (w := w) (kk := kk) (r := r) (o := 0) (cap := cap) hu hs hc.1 hc.2
          rw [Nat.zero_add] at this
          exact Gets.pure hr this (.ptr b _ r cap hφ)
    · rename_i el b off n hu
      obtain ⟨s, hs, e⟩ := Rd.bind_some e
      rw [Rd.run_lift] at hs
      cases e
      simp only [Bool.and_eq_true, decide_eq_true_eq] at hc
      cases hx with
      | sub _ _ _ cap r c hφ hn => exact Gets.pure hr (run_indexAt_slice hu hs hc.1 hc.2) (.ptr b _ r c hφ)
    · rename_i el rows hu
      obtain ⟨s, hs, e⟩ := Rd.bind_some e
      rw [Rd.run_lift] at hs
      cases e
      simp only [Bool.and_eq_true, decide_eq_true_eq] at hc
      obtain ⟨⟨h0, h1⟩, h2⟩ := hc
      cases hx with
      | p _ _ hx =>
        cases hx with
        | sl0 => simp at h1; omega
        | sl _ b off sz cap vals hsz hcell hval hW hb hcap =>
          have hk : k.toNat < rows.length := by omega
          have hrow : rows[k.toNat]? = some (rows.getD k.toNat []) := by simp [List.getD, List.getElem?_eq_getElem hk]
          have hz := hsz _ _ hrow
          have : sz = s := by rw [← hz, h2]
          subst this
          refine Gets.pure hr (run_indexAt_slice hu hs h0 h1) ?_
          have := RA.ep (φ := φ) (W := wr φ h) (w := w) (rows.getD k.toNat []) 0 b (off + k.toNat * sz) (fun j => vals k.toNat j)
            (fun j c hj => by rw [Nat.add_assoc]; exact hcell _ _ _ _ hrow hj) (fun j c hj => hval _ _ _ _ hrow hj) hW hb
          simpa using this
    · rename_i n el b off hu
      obtain ⟨s, hs, e⟩ := Rd.bind_some e
      rw [Rd.run_lift] at hs
      cases e
      simp only [Bool.and_eq_true, decide_eq_true_eq] at hc
      cases hx with
      | ptr _ _ r c hφ => exact Gets.pure hr (run_indexAt_array hu hs hc.1 hc.2) (.ptr b _ r c hφ)
    · rename_i n el row off hu
      obtain ⟨s, hs, e⟩ := Rd.bind_some e
      rw [Rd.run_lift] at hs
      cases e
      simp only [Bool.and_eq_true, decide_eq_true_eq] at hc
      cases hx with
      | ep _ _ b o vals hcell hval hW hb =>
        refine Gets.pure hr (run_indexAt_array hu hs hc.1 hc.2) ?_
        rw [Nat.add_assoc]
        exact .ep row _ b o vals hcell hval hW hb
    · cases e
  · cases e

theorem oIndexAddr_sound (hR : Rel G m φ h t a w) {ty : TypeId} {x i : Operand} {y : Txn} (e : (oIndexAddr P G ty x i).run t h = some y) (hc : y.chk = true) :
    Gets P φ h w nid y (Instr.indexAt ty (a.eval x) (a.eval i)) := by
  obtain ⟨xv, hx, e⟩ := Rd.bind_some e
  obtain ⟨iv, hi, e⟩ := Rd.bind_some e
  exact indexAddrA_sound hR.rh e hc (opnd_sound hR hx) (opnd_sound hR hi)

theorem indexA_sound (hr : RH φ h w) {ty : TypeId} {x i : AV} {xv iv : Value} {y : Txn} (e : (indexA P ty x i).run t h = some y) (hc : y.chk = true)
    (hx : RA φ (wr φ h) w x xv) (hi : RA φ (wr φ h) w i iv) : Gets P φ h w nid y (Instr.index ty xv iv) := by
  unfold indexA at e
  split at e
  · rename_i s kk k hu
    cases e
    simp only [Bool.and_eq_true, decide_eq_true_eq] at hc
    rw [int_of hi, RA.v_eq hx]
    have hk : k.toNat < s.data.toList.length := by omega
    have hg : s[k.toNat]? = some (s.data.toList.getD k.toNat 0) := by
      have hk' : k.toNat < s.size := by simpa using hk
      rw [getElem?_pos s k.toNat hk']
      simp [List.getD, List.getElem?_eq_getElem hk]
      rfl
    refine Gets.pure hr ?_ (RA.v _)
    simp only [Instr.index, asIntOf, Sem.run_bind, Sem.run_pure, Result.andThen_ok, run_underlying hu, if_pos hc.1, hg]
  · cases e

theorem oIndex_sound (hR : Rel G m φ h t a w) {ty : TypeId} {x i : Operand} {y : Txn} (e : (oIndex P G ty x i).run t h = some y) (hc : y.chk = true) :
    Gets P φ h w nid y (Instr.index ty (a.eval x) (a.eval i)) := by
  obtain ⟨xv, hx, e⟩ := Rd.bind_some e
  obtain ⟨iv, hi, e⟩ := Rd.bind_some e
  exact indexA_sound hR.rh e hc (opnd_sound hR hx) (opnd_sound hR hi)

theorem oBin_eq {s : Sem Unit} {f : Sem Value} {v : Value} (h1 : s.run P w = .ok () w) (h2 : f.run P w = .ok v w) : (do s; f).run P w = .ok v w := by
  simp [h1, h2]

theorem run_eqGuard_flat {op : BinOp} {ty : TypeId} {x y : Operand} {u v : Value} (hu : (u matches .nilIface | .agg _) = false) : (eqGuard op ty x y u v).run P w = .ok () w := by
  unfold eqGuard
  cases op <;> cases u <;> first | rfl | (simp at hu; done)

theorem binI_sound {op : BinOp} {ty : TypeId} {k : IntKind} {u v : Int} {r : Value × Bool} (e : binI op k u v = some r) (hc : r.2 = true) :
    (binOp op ty (.int k u) (.int k v)).run P w = .ok r.1 w := by
  unfold binI at e
  cases op <;> simp only at e <;> first
    | (cases e; done)
    | (cases e; simp [binOp, Op.intArith, Op.intCmp, Op.intBits]; done)
    | (cases e; simp at hc; simp [binOp, Op.intDiv, hc]; done)

theorem binShift_sound {op : BinOp} {ty : TypeId} {k k' : IntKind} {u v : Int} {r : Value × Bool} (e : binShift op k u v = some r) (hc : r.2 = true) :
    (binOp op ty (.int k u) (.int k' v)).run P w = .ok r.1 w := by
  unfold binShift at e
  cases op <;> simp only at e <;> first
    | (cases e; done)
    | (cases e; simp at hc; simp [binOp, Op.shift, Int.not_lt.2 hc]; done)

theorem toList_data (s : ByteArray) : s.toList = s.data.toList := by
  unfold ByteArray.toList
  rw [ByteArray.toList_loop_eq s s.size 0 [] (by omega) (by omega)]; simp

theorem append_mk (u v : ByteArray) : u ++ v = ⟨(u.data.toList ++ v.data.toList).toArray⟩ := by
  apply ByteArray.ext
  rw [ByteArray.data_append]
  simp

theorem binStr_sound {op : BinOp} {ty : TypeId} {u v : ByteArray} {r : Value × Bool} (e : binStr op u v = some r) (hc : r.2 = true) :
    (binOp op ty (.string u) (.string v)).run P w = .ok r.1 w := by
  unfold binStr at e
  cases op <;> simp only at e <;> first
    | (cases e; done)
    | (cases e; simp [binOp, Op.stringOp, toList_data]; done)
    | (cases e; simp at hc; simp only [binOp, Op.stringOp]; rw [if_neg (by have : IntKind.i64.max = 9223372036854775807 := rfl; omega)]; rw [append_mk]; rfl)

end ops
end Go.Ab

namespace Go.Ab
set_option linter.unusedSectionVars false
variable [Env]

section ops
variable {P : Program} {G : Glob} [DecOk G] {m nid : Nat} {φ : Phi} {h : Nat → Blk} {t : Nat → AV} {a : Act} {w : World}

theorem run_guard {op : BinOp} {ty : TypeId} {x y : Operand} {u v : Value} (hu : u ≠ .nilIface) (hv : ∀ cs, u ≠ .agg cs) : (eqGuard op ty x y u v).run P w = .ok () w := by
  unfold eqGuard
  cases op <;> cases u <;> first | rfl | exact absurd rfl hu | exact absurd rfl (hv _)

theorem equal_succ (ty : TypeId) (u v : Value) : Op.equal ty u v = Op.equalIn (9999 + 1) ty u v := rfl

theorem run_equal_bool {ty : TypeId} {u v : Bool} (hu : P.underlying ty = some .bool) : (Op.equal ty (.bool u) (.bool v)).run P w = .ok (u == v) w := by
  rw [equal_succ, Op.equalIn]; simp [run_underlying hu]
theorem run_eql_nilptr {ty e : TypeId} {p : Option Addr} (hu : P.underlying ty = some (.pointer e)) : (Op.equal ty (.pointer p) (.pointer none)).run P w = .ok p.isNone w := by
  rw [equal_succ, Op.equalIn]; cases p <;> simp [run_underlying hu]
theorem run_eql_nilslice {ty e : TypeId} {p : Option Addr} {n c : Nat} (hu : P.underlying ty = some (.slice e)) : (Op.equal ty (.slice p n c) (.slice none 0 0)).run P w = .ok p.isNone w := by
  rw [equal_succ, Op.equalIn]; cases p <;> simp [run_underlying hu]
theorem beqN {a b : Nat} (h : ¬ a = b) : Nat.beq a b = false := by
  cases hb : Nat.beq a b with
  | false => rfl
  | true => exact absurd (Nat.eq_of_beq_eq_true hb) h
theorem run_eql_ptrs {ty e r o o' n : Nat} (hu : P.underlying ty = some (.pointer e)) (hs : tySize P e = some (n + 1)) :
    (Op.equal ty (.pointer (some ⟨r, o, none⟩)) (.pointer (some ⟨r, o', none⟩))).run P w = .ok (Nat.beq o o') w := by
  rw [equal_succ, Op.equalIn]
  simp [run_underlying hu, run_sizeOf hs, sameAddr]
  by_cases ho : o = o'
  · subst ho; simp
  · rw [beqN ho]; simp [ho]

theorem bin_eqNe {op : BinOp} {ty : TypeId} {u v : Value} {f : Bool → Bool} {b : Bool} (hf : eqNe op = some f) (h1 : (∀ k n, u ≠ .int k n) ) (h2 : ∀ k n, u ≠ .float k n)
    (h3 : ∀ k x y, u ≠ .complex k x y) (h4 : ∀ s, u ≠ .string s) (he : (Op.equal ty u v).run P w = .ok b w) : (binOp op ty u v).run P w = .ok (.bool (f b)) w := by
  have : (binOp .eql ty u v = (do Pure.pure (.bool (← Op.equal ty u v)))) ∧ binOp .neq ty u v = (do Pure.pure (.bool (!(← Op.equal ty u v)))) := by
    cases u <;> first
      | exact absurd rfl (h1 _ _)
      | exact absurd rfl (h2 _ _)
      | exact absurd rfl (h3 _ _ _)
      | exact absurd rfl (h4 _)
      | (constructor <;> rfl)
  cases op <;> simp only [eqNe] at hf <;> first
    | (cases hf; done)
    | (cases hf; rw [this.1]; simp [he]; done)
    | (cases hf; rw [this.2]; simp [he]; done)

theorem nilP_sound {x : AV} {v : Value} {b : Bool} (hx : RA φ (wr φ h) w x v) (hn : nilP x = some b) : ∃ p, v = .pointer p ∧ p.isNone = b := by
  unfold nilP at hn
  split at hn
  · cases hn; exact ⟨none, RA.v_eq hx, rfl⟩
  · cases hn; cases hx; exact ⟨_, rfl, rfl⟩
  · cases hn; cases hx; exact ⟨_, rfl, rfl⟩
  · cases hn

theorem nilS_sound {x : AV} {v : Value} {b : Bool} (hx : RA φ (wr φ h) w x v) (hn : nilS x = some b) : ∃ p n c, v = .slice p n c ∧ p.isNone = b := by
  unfold nilS at hn
  split at hn
  · cases hn; exact ⟨none, 0, 0, RA.v_eq hx, rfl⟩
  · cases hn; cases hx; exact ⟨_, _, _, rfl, rfl⟩
  · cases hn
    cases hx with
    | own b n cap r hφ hcap hr =>
      cases r with
      | none => have := hr rfl; omega
      | some r => exact ⟨_, _, _, rfl, rfl⟩
  · cases hn
    cases hx with
    | p _ _ hp => cases hp with
      | sl rows b off sz cap vals => exact ⟨_, _, _, rfl, rfl⟩
  · cases hn

/-- What a comparison or a sum of two values comes to, its guard ahead. -/
def BinGets (P : Program) (φ : Phi) (h : Nat → Blk) (w : World) (nid : Nat) (z : Txn) (op : BinOp) (ty : TypeId) (u v : Value) : Prop :=
  ∀ x y, Gets P φ h w nid z (do eqGuard op ty x y u v; binOp op ty u v)

theorem binGets {op : BinOp} {ty : TypeId} {u v r : Value} {c : Bool} (hr : RH φ h w) (e3 : u ≠ .nilIface) (e4 : ∀ cs, u ≠ .agg cs) (e5 : (binOp op ty u v).run P w = .ok r w) :
    BinGets P φ h w nid { res := .v r, chk := c } op ty u v := fun x y => Gets.pure hr (by simp [run_guard e3 e4, e5]) (RA.v r)

theorem binNil_sound (hr : RH φ h w) {op : BinOp} {ty : TypeId} {x : AV} {y u v : Value} {z : Txn} (e : (binNil P op ty x y).run t h = some z)
    (hx : RA φ (wr φ h) w x u) (hy : RA φ (wr φ h) w (.p (.v y)) v) : BinGets P φ h w nid z op ty u v := by
  rw [RA.v_eq hy]
  unfold binNil at e
  split at e
  · rename_i f hu hf
    split at e
    · rename_i b hb
      cases e
      obtain ⟨p, rfl, rfl⟩ := nilP_sound hx hb
      exact binGets hr (by simp) (by simp) (bin_eqNe hf (by simp) (by simp) (by simp) (by simp) (run_eql_nilptr hu))
    · cases e
  · rename_i f hu hf
    split at e
    · rename_i b hb
      cases e
      obtain ⟨p, n, c, rfl, rfl⟩ := nilS_sound hx hb
      exact binGets hr (by simp) (by simp) (bin_eqNe hf (by simp) (by simp) (by simp) (by simp) (run_eql_nilslice hu))
    · cases e
  · cases e

theorem binPtr_sound (hr : RH φ h w) {op : BinOp} {ty b off b' off' : Nat} {u v : Value} {z : Txn} (e : (binPtr P op ty b off b' off').run t h = some z)
    (hx : RA φ (wr φ h) w (.ptr b off) u) (hy : RA φ (wr φ h) w (.ptr b' off') v) : BinGets P φ h w nid z op ty u v := by
  unfold binPtr at e
  split at e
  · rename_i f hu hf
    split at e
    · rename_i n hs
      cases hb : Nat.beq b b' with
      | false => rw [hb] at e; cases e
      | true =>
        rw [hb] at e
        have hbb := Nat.eq_of_beq_eq_true hb
        cases e
        cases hx with
        | ptr _ _ r c hφ =>
          cases hy with
          | ptr _ _ r' c' hφ' =>
            subst hbb
            rw [hφ] at hφ'
            simp only [Option.some.injEq, Prod.mk.injEq] at hφ'
            obtain ⟨rfl, rfl⟩ := hφ'
            exact binGets hr (by simp) (by simp) (bin_eqNe hf (by simp) (by simp) (by simp) (by simp) (run_eql_ptrs hu hs))
    · cases e
  · cases e

theorem run_zero {op : BinOp} {ty : TypeId} {f : Bool → Bool} (hf : eqNe op = some f) : (binOp op ty (.complex .f64 0 0) (.complex .f64 0 0)).run P w = .ok (.bool (f true)) w := by
  cases op <;> cases hf <;> rfl

theorem run_zeroF {op : BinOp} {ty : TypeId} {r : Bool} (hf : zeroCmp op = some r) : (binOp op ty (.float .f64 0) (.float .f64 0)).run P w = .ok (.bool r) w := by
  cases op <;> cases hf <;> kernel_rfl

theorem binGetsA {op : BinOp} {ty : TypeId} {u v r : Value} {c : Bool} {y : AV} (hr : RH φ h w) (e3 : u ≠ .nilIface) (e4 : ∀ cs, u ≠ .agg cs) (e5 : (binOp op ty u v).run P w = .ok r w)
    (hy : RA φ (wr φ h) w y r) : BinGets P φ h w nid { res := y, chk := c } op ty u v := fun x y => Gets.pure hr (by simp [run_guard e3 e4, e5]) hy

theorem binSym_sound (hr : RH φ h w) (hd : DecOk G) {op : BinOp} {ty : TypeId} {x y : AV} {u v : Value} {z : Txn} (e : (binSym G op x y).run t h = some z) (hc : z.chk = true)
    (hx : RA φ (wr φ h) w x u) (hy : RA φ (wr φ h) w y v) : BinGets P φ h w nid z op ty u v := by
  unfold binSym at e
  split at e
  · rename_i a b ha hb
    rw [symI_sound ha hx, symI_sound hb hy]
    have dec : ∀ (r : Bool), G.num op a b = some r → (binOp op ty (.int .i64 a.val) (.int .i64 b.val)).run P w = .ok (.bool r) w :=
      fun r h1 => binI_sound (r := (.bool r, true)) (hd.num _ _ _ _ h1) rfl
    split at e
    · cases e
      exact binGetsA hr (by simp) (by simp) (binI_sound (r := (.int .i64 (SE.bin .add a b).val, true)) rfl rfl) (RA.i _)
    · cases e
      exact binGetsA hr (by simp) (by simp) (binI_sound (r := (.int .i64 (SE.bin .sub a b).val, true)) rfl rfl) (RA.i _)
    · cases e
      exact binGetsA hr (by simp) (by simp) (binI_sound (r := (.int .i64 (SE.bin .mul a b).val, true)) rfl rfl) (RA.i _)
    · cases e
      have hn : b.val ≠ 0 := hd.ne (b := .lit 0) hc
      exact binGetsA hr (by simp) (by simp) (binI_sound (r := (.int .i64 (SE.bin .quo a b).val, decide (b.val ≠ 0))) rfl (by simpa using hn)) (RA.i _)
    · cases e
      have hn : b.val ≠ 0 := hd.ne (b := .lit 0) hc
      exact binGetsA hr (by simp) (by simp) (binI_sound (r := (.int .i64 (SE.bin .rem a b).val, decide (b.val ≠ 0))) rfl (by simpa using hn)) (RA.i _)
    all_goals first
      | (cases e; done)
      | (split at e
         · rename_i r h1
           cases e
           exact binGets hr (by simp) (by simp) (dec r h1)
         · cases e)
  · split at e
    · rename_i a b ha hb
      rw [symT_sound ha hx, symT_sound hb hy]
      have dec : ∀ (r : Bool), G.txt op a b = some r → (binOp op ty (.string a.val) (.string b.val)).run P w = .ok (.bool r) w :=
        fun r h1 => binStr_sound (r := (.bool r, true)) (hd.txt _ _ _ _ h1) rfl
      split at e
      · cases e
        have hn := hd.le (b := .lit IntKind.i64.max) hc
        exact binGetsA hr (by simp) (by simp) (binStr_sound (r := (.string (TE.cat a b).val, _)) rfl (by
          simp only [SE.val, TE.val] at hn
          simpa using hn)) (RA.t _)
      all_goals first
        | (cases e; done)
        | (split at e
           · rename_i r h1
             cases e
             exact binGets hr (by simp) (by simp) (dec r h1)
           · cases e)
    · cases e

theorem binA_sound (hr : RH φ h w) (hd : DecOk G) {op : BinOp} {ty : TypeId} {x y : AV} {u v : Value} {z : Txn} (e : (binA P G op ty x y).run t h = some z) (hc : z.chk = true)
    (hx : RA φ (wr φ h) w x u) (hy : RA φ (wr φ h) w y v) : BinGets P φ h w nid z op ty u v := by
  unfold binA at e
  split at e
  · rw [RA.v_eq hx, RA.v_eq hy]
    unfold binInt at e
    split at e
    · rename_i r hs
      cases e
      exact binGets hr (by simp) (by simp) (binShift_sound hs hc)
    · split at e
      · rename_i hk
        subst hk
        obtain ⟨r, hs, e⟩ := Rd.bind_some e
        rw [Rd.run_lift] at hs
        cases e
        exact binGets hr (by simp) (by simp) (binI_sound hs hc)
      · cases e
  · rw [RA.v_eq hx, RA.v_eq hy]
    obtain ⟨r, hs, e⟩ := Rd.bind_some e
    rw [Rd.run_lift] at hs
    cases e
    exact binGets hr (by simp) (by simp) (binStr_sound hs hc)
  · rw [RA.v_eq hx, RA.v_eq hy]
    unfold binBool at e
    split at e
    · rename_i f hu hf
      cases e
      exact binGets hr (by simp) (by simp) (bin_eqNe hf (by simp) (by simp) (by simp) (by simp) (run_equal_bool hu))
    · cases e
  · rw [RA.v_eq hx, RA.v_eq hy]
    unfold binZero at e
    split at e
    · rename_i f hf
      cases e
      exact binGets hr (by simp) (by simp) (run_zero hf)
    · cases e
  · rw [RA.v_eq hx, RA.v_eq hy]
    unfold binZeroF at e
    split at e
    · rename_i r hf
      cases e
      exact binGets hr (by simp) (by simp) (run_zeroF hf)
    · cases e
  · exact binSym_sound hr hd e hc hx hy
  · exact binSym_sound hr hd e hc hx hy
  · exact binNil_sound hr e hx hy
  · exact binPtr_sound hr e hx hy
  · exact binSym_sound hr hd e hc hx hy
  · exact binSym_sound hr hd e hc hx hy
  · cases e

theorem oBin_sound (hR : Rel G m φ h t a w) {op : BinOp} {ty : TypeId} {x y : Operand} {z : Txn} (e : (oBin P G op ty x y).run t h = some z) (hc : z.chk = true) :
    Gets P φ h w nid z (do eqGuard op ty x y (a.eval x) (a.eval y); binOp op ty (a.eval x) (a.eval y)) := by
  obtain ⟨xv, hx, e⟩ := Rd.bind_some e
  obtain ⟨yv, hy, e⟩ := Rd.bind_some e
  exact binA_sound hR.rh (inferInstance : DecOk G) e hc (opnd_sound hR hx) (opnd_sound hR hy) x y

end ops
end Go.Ab

namespace Go.Ab
set_option linter.unusedSectionVars false
variable [Env]

section ops
variable {P : Program} {G : Glob} [DecOk G] {m nid : Nat} {φ : Phi} {h : Nat → Blk} {t : Nat → AV} {a : Act} {w : World}

theorem opt_sound (hR : Rel G m φ h t a w) {x : Option Operand} {y : Option AV} (e : (opt G x).run t h = some y) {k : Option Int} (hk : optInt y = some k) :
    (x.map a.eval = none ∧ k = none) ∨ ∃ kk i, x.map a.eval = some (.int kk i) ∧ k = some i := by
  cases x with
  | none => cases e; cases hk; exact .inl ⟨rfl, rfl⟩
  | some x =>
    obtain ⟨z, hz, e⟩ := Rd.bind_some e
    cases e
    have := opnd_sound hR hz
    unfold optInt at hk
    split at hk
    · rename_i h; cases h
    · rename_i kk i h; cases h; cases hk; exact .inr ⟨kk, i, by rw [Option.map_some, RA.v_eq this], rfl⟩
    · cases hk

theorem opt_sym (hR : Rel G m φ h t a w) {x : Option Operand} {y : Option AV} (e : (opt G x).run t h = some y) {d k : SE} (hk : symO d y = some k) :
    ∃ lo : Option Int, ((x.map a.eval = none ∧ lo = none) ∨ ∃ kk i, x.map a.eval = some (.int kk i) ∧ lo = some i) ∧ lo.getD d.val = k.val := by
  cases x with
  | none => cases e; cases hk; exact ⟨none, .inl ⟨rfl, rfl⟩, rfl⟩
  | some x =>
    obtain ⟨z, hz, e⟩ := Rd.bind_some e
    cases e
    have := opnd_sound hR hz
    exact ⟨some k.val, .inr ⟨.i64, k.val, by rw [Option.map_some, symI_sound hk this], rfl⟩, rfl⟩

/-- The bounds as the model works them out. -/
theorem run_bounds {isS : Bool} {n cap : Nat} {low high : Option Value} {lo hi : Option Int}
    (hl : (low = none ∧ lo = none) ∨ ∃ kk i, low = some (.int kk i) ∧ lo = some i) (hh : (high = none ∧ hi = none) ∨ ∃ kk i, high = some (.int kk i) ∧ hi = some i)
    (hc : n ≤ cap) (h0 : 0 ≤ lo.getD 0) (h1 : lo.getD 0 ≤ hi.getD n) (h2 : hi.getD n ≤ (n : Int)) :
    (Instr.sliceBounds isS n cap low high none).run P w = .ok ((lo.getD 0).toNat, (hi.getD n).toNat, cap) w := by
  rcases hl with ⟨rfl, rfl⟩ | ⟨kk, i, rfl, rfl⟩ <;> rcases hh with ⟨rfl, rfl⟩ | ⟨kk', j, rfl, rfl⟩ <;> simp only [Option.getD_none, Option.getD_some] at *
  · simp [Instr.sliceBounds]
  · have a1 : 0 ≤ j ∧ j ≤ (cap : Int) := by omega
    simp [Instr.sliceBounds, Instr.sliceBound, asIntOf, a1]
  · have a1 : 0 ≤ i ∧ i ≤ (n : Int) := by omega
    simp [Instr.sliceBounds, Instr.sliceBound, asIntOf, a1]
  · have a1 : 0 ≤ j ∧ j ≤ (cap : Int) := by omega
    have a2 : 0 ≤ i ∧ i ≤ ((j.toNat : Nat) : Int) := by omega
    simp [Instr.sliceBounds, Instr.sliceBound, asIntOf, a1, a2]
    intro hlt; omega

theorem sliceAt_str {ty : TypeId} {s : ByteArray} {low high : Option Value} {l h' c : Nat} (hu : P.underlying ty = some .string)
    (hb : (Instr.sliceBounds false s.size s.size low high none).run P w = .ok (l, h', c) w) : (Instr.sliceAt ty (.string s) low high none).run P w = .ok (.string (s.extract l h')) w := by
  simp [Instr.sliceAt, run_underlying hu, Instr.slice, hb]

theorem sliceAt_slice {ty e sz len cap l h' c : Nat} {ad : Option Addr} {low high : Option Value} (hu : P.underlying ty = some (.slice e)) (hs : tySize P e = some sz)
    (hb : (Instr.sliceBounds true len cap low high none).run P w = .ok (l, h', c) w) :
    (Instr.sliceAt ty (.slice ad len cap) low high none).run P w = .ok (.slice (if c = l then ad else ad.map (·.add (l * sz))) (h' - l) (c - l)) w := by
  simp [Instr.sliceAt, run_underlying hu, Instr.slice, hb, run_sizeOf hs]

theorem sliceAt_array {ty e sz n l h' c r o : Nat} {low high : Option Value} (hu : P.underlying ty = some (.array n e)) (hs : tySize P e = some sz)
    (hb : (Instr.sliceBounds false n n low high none).run P w = .ok (l, h', c) w) :
    (Instr.sliceAt ty (.pointer (some ⟨r, o, none⟩)) low high none).run P w = .ok (.slice (some (if c = l then ⟨r, o, none⟩ else ⟨r, o + l * sz, none⟩)) (h' - l) (c - l)) w := by
  simp [Instr.sliceAt, run_underlying hu, Instr.sureAddr, hb, run_sizeOf hs, addr_add]

theorem extract_take (s : ByteArray) (l h' : Nat) (_ : h' ≤ s.size) : s.extract l h' = ⟨((s.data.toList.take h').drop l).toArray⟩ := by
  apply ByteArray.ext
  apply Array.ext'
  simp [ByteArray.data_extract]
  rw [List.drop_take]

theorem sliceA_sound (hR : Rel G m φ h t a w) {ty : TypeId} {x : AV} {xv : Value} {lo hi : Option Operand} {la ha : Option AV} {z : Txn}
    (hx : RA φ (wr φ h) w x xv) (hl : (opt G lo).run t h = some la) (hh : (opt G hi).run t h = some ha) (hsz : ∀ e, P.underlying ty = some (.slice e) → ∃ n, tySize P e = some n)
    (e : (sliceA P G ty x la ha).run t h = some z) (hc : z.chk = true) : Gets P φ h w nid z (Instr.sliceAt ty xv (lo.map a.eval) (hi.map a.eval) none) := by
  unfold sliceA at e
  cases hsym : anySym x la ha with
  | true =>
    rw [hsym] at e
    simp only [cond_true] at e
    split at e
    · rename_i s hu hs
      rw [symT_sound hs hx]
      unfold sliceSym at e
      obtain ⟨l, hlo, e1⟩ := Rd.bind_some e
      clear e
      rw [Rd.run_lift] at hlo
      obtain ⟨hg, hhi, e⟩ := Rd.bind_some e1
      clear e1
      rw [Rd.run_lift] at hhi
      obtain ⟨lo', bl, kl⟩ := opt_sym hR hl hlo
      obtain ⟨hi', bh, kh⟩ := opt_sym hR hh hhi
      cases e
      simp only [Bool.and_eq_true] at hc
      obtain ⟨⟨c1, c2⟩, c3⟩ := hc
      have c1 := (inferInstance : DecOk G).le c1
      have c2 := (inferInstance : DecOk G).le c2
      have c3 := (inferInstance : DecOk G).le c3
      have hsz : ((SE.len s).val) = (s.val.size : Int) := by simp [SE.val]
      have hz : (SE.lit 0).val = 0 := by simp [SE.val]
      rw [hsz] at c3 kh
      rw [hz] at c1 kl
      rw [← kl] at c1 c2
      rw [← kh] at c2 c3
      have hb := run_bounds (P := P) (w := w) (isS := false) bl bh (Nat.le_refl s.val.size) c1 c2 c3
      refine Gets.pure hR.rh (sliceAt_str hu hb) ?_
      rw [extract_take _ _ _ (by omega), kl, kh]
      have : (⟨((s.val.data.toList.take hg.val.toNat).drop l.val.toNat).toArray⟩ : ByteArray) = (TE.cut s l hg).val := by simp [TE.val]
      rw [this]
      exact RA.t _
    · cases e
  | false =>
  rw [hsym] at e
  simp only [cond_false] at e
  obtain ⟨l, hlo, e1⟩ := Rd.bind_some e
  clear e
  rw [Rd.run_lift] at hlo
  obtain ⟨hg, hhi, e⟩ := Rd.bind_some e1
  clear e1
  rw [Rd.run_lift] at hhi
  have bl := opt_sound hR hl hlo
  have bh := opt_sound hR hh hhi
  have hr := hR.rh
  split at e
  · rename_i s hu
    rw [RA.v_eq hx]
    cases e
    simp only [Bool.and_eq_true, decide_eq_true_eq] at hc
    obtain ⟨⟨c1, c2⟩, c3⟩ := hc
    have hs : s.data.toList.length = s.size := by simp
    rw [hs] at c2 c3
    have hb := run_bounds (P := P) (w := w) (isS := false) bl bh (Nat.le_refl s.size) c1 c2 c3
    refine Gets.pure hr (sliceAt_str hu hb) ?_
    rw [extract_take _ _ _ (by omega), hs]
    exact RA.v _
  · rename_i el b n hu
    obtain ⟨sz, hsz⟩ := hsz _ hu
    cases hx with
    | own _ _ cap r hφ hn hnil =>
      unfold sliceOwn at e
      split at e
      · cases e
        simp only [Bool.and_eq_true, decide_eq_true_eq] at hc
        have hb := run_bounds (P := P) (w := w) (isS := true) bl bh hn (by simp) (by simpa using hc.1) (by simpa using hc.2)
        refine Gets.pure hr (sliceAt_slice hu hsz hb) ?_
        simp only [Option.getD_none, Int.toNat_zero, Nat.sub_zero, Nat.zero_mul]
        have : (if cap = 0 then Option.map (fun k => (⟨k, 0, none⟩ : Addr)) r else Option.map (fun x => x.add 0) (Option.map (fun k => (⟨k, 0, none⟩ : Addr)) r)) = r.map fun k => ⟨k, 0, none⟩ := by
          split
          · rfl
          · cases r <;> simp [addr_add]
        rw [this]
        exact .own b _ cap r hφ (by omega) hnil
      · rename_i l
        obtain ⟨sz', hsz', e⟩ := Rd.bind_some e
        rw [Rd.run_lift, hsz] at hsz'
        cases hsz'
        cases e
        simp only [Bool.and_eq_true, decide_eq_true_eq] at hc
        obtain ⟨⟨c1, c2⟩, c3⟩ := hc
        have hb := run_bounds (P := P) (w := w) (isS := true) bl bh hn (by simpa using c1) (by simpa using c2) c3
        refine Gets.pure hr (sliceAt_slice hu hsz hb) ?_
        simp only [Option.getD_some]
        by_cases hlt : l < hg.getD n
        · rw [if_pos hlt, if_neg (by omega)]
          cases r with
          | none => have := hnil rfl; omega
          | some r =>
            simp only [Option.map_some, addr_add, Nat.zero_add]
            rw [show (hg.getD n).toNat - l.toNat = (hg.getD n - l).toNat by omega]
            exact .sub b _ _ _ r cap hφ (by omega)
        · rw [if_neg hlt, show (hg.getD n).toNat - l.toNat = 0 by omega]
          exact .p _ _ (.sl0 _ _)
  · rename_i el rows hu
    unfold sliceRows at e
    obtain ⟨sz, hsz, e⟩ := Rd.bind_some e
    rw [Rd.run_lift] at hsz
    cases e
    simp only [Bool.and_eq_true, decide_eq_true_eq, Bool.or_eq_true] at hc
    obtain ⟨⟨⟨c1, c2⟩, c3⟩, c4⟩ := hc
    cases hx with
    | p _ _ hx =>
      cases hx with
      | sl0 ad cap =>
        have hb := run_bounds (P := P) (w := w) (n := 0) (isS := true) bl bh (Nat.zero_le cap) c1 c2 c3
        refine Gets.pure hr (sliceAt_slice hu hsz hb) ?_
        simp only [List.take_nil, List.drop_nil]
        simp only [List.length_nil] at c2 c3
        rw [show (hg.getD (0 : Nat)).toNat - (l.getD 0).toNat = 0 by omega]
        exact .p _ _ (.sl0 _ _)
      | sl _ b off sz' cap vals hw hcell hval hW hb0 hcap =>
        have hb := run_bounds (P := P) (w := w) (isS := true) bl bh hcap c1 c2 c3
        refine Gets.pure hr (sliceAt_slice hu hsz hb) ?_
        generalize hL : (l.getD 0).toNat = L at *
        generalize hH : (hg.getD (rows.length : Nat)).toNat = H at *
        have hLH : L ≤ H := by omega
        have hHn : H ≤ rows.length := by omega
        by_cases hlt : L < H
        · rw [if_neg (by omega)]
          have hrow : ∀ i row, ((rows.take H).drop L)[i]? = some row → rows[L + i]? = some row := by
            intro i row hi
            rw [List.getElem?_drop] at hi
            have hi' : L + i < H := by
              have := (List.getElem?_eq_some_iff.1 hi).1
              simp at this; omega
            rw [List.getElem?_take_of_lt hi'] at hi
            exact hi
          have hoff : L * sz = L * sz' := by
            rcases c4 with c4 | c4
            · have : L = 0 := by omega
              rw [this]; simp
            · have hk : L < rows.length := by omega
              have := hw L _ (by rw [List.getElem?_eq_getElem hk])
              simp only [List.getD, List.getElem?_eq_getElem hk, Option.getD_some] at c4
              rw [← this, c4]
          simp only [Option.map_some, addr_add]
          have hlen : H - L = ((rows.take H).drop L).length := by simp; omega
          rw [hlen]
          refine .p _ _ (.sl _ b (off + L * sz) sz' _ (fun i j => vals (L + i) j) (fun i row hi => hw _ _ (hrow i row hi)) (fun i j row c hi hj => ?_) (fun i j row c hi hj => hval _ _ _ _ (hrow i row hi) hj) hW hb0 (by simp; omega))
          have := hcell (L + i) j row c (hrow i row hi) hj
          rw [hoff, show off + L * sz' + (i * sz' + j) = off + ((L + i) * sz' + j) by rw [Nat.add_mul]; omega]
          exact this
        · rw [show H - L = 0 by omega, show (rows.take H).drop L = [] by apply List.drop_eq_nil_of_le; simp; omega]
          exact .p _ _ (.sl0 _ _)
  · rename_i el hu
    obtain ⟨sz, hsz⟩ := hsz _ hu
    rw [RA.v_eq hx]
    cases e
    simp only [Bool.and_eq_true, decide_eq_true_eq] at hc
    have hb := run_bounds (P := P) (w := w) (n := 0) (isS := true) bl bh (Nat.le_refl 0) (by omega) (by have := hc.2; simp; omega) (by have := hc.2; simp; omega)
    refine Gets.pure hr (sliceAt_slice hu hsz hb) ?_
    have : (l.getD 0).toNat = 0 := by omega
    rw [this]
    have : (hg.getD ((0 : Nat) : Int)).toNat = 0 := by have := hc.2; simp; omega
    rw [this]
    exact RA.v _
  · rename_i n el b off hu
    unfold sliceArr at e
    obtain ⟨sz, hsz, e1⟩ := Rd.bind_some e
    clear e
    rw [Rd.run_lift] at hsz
    cases e1
    simp only [Bool.and_eq_true, decide_eq_true_eq] at hc
    obtain ⟨⟨⟨c1, c2⟩, c3⟩, c4⟩ := hc
    cases hx with
    | ptr _ _ r c hφ =>
      have hb := run_bounds (P := P) (w := w) (isS := false) bl bh (Nat.le_refl n) c1 c2 c3
      refine Gets.pure hr (sliceAt_array hu hsz hb) ?_
      rw [if_neg (by omega), show (hg.getD (n : Nat)).toNat - (l.getD 0).toNat = (hg.getD (n : Nat) - l.getD 0).toNat by omega]
      exact .sub b _ _ _ r c hφ (by omega)
  · cases e

theorem lenA_sound (_hr : RH φ h w) {ty rty : TypeId} {x : AV} {xv : Value} {y : AV} (e : (lenA P ty x).run t h = some y) (hx : RA φ (wr φ h) w x xv) :
    ∃ u, (Builtin.len_ #[ty] rty #[xv]).run P w = .ok u w ∧ RA φ (wr φ h) w y u := by
  unfold lenA at e
  split at e <;> first | (cases e; done) | skip
  · rename_i s hu
    cases e
    rw [RA.v_eq hx]
    refine ⟨_, by simp [Builtin.len_, run_underlying hu]; rfl, ?_⟩
    have : (s.data.toList.length : Int) = s.size := by simp
    rw [this]
    exact RA.v _
  · rename_i s hu
    cases e
    rw [RA.t_eq hx]
    refine ⟨_, by simp [Builtin.len_, run_underlying hu]; rfl, ?_⟩
    have : ((SE.len s).val) = (s.val.size : Int) := by simp [SE.val]
    rw [← this]
    exact RA.i _
  · rename_i el b n hu
    cases e
    cases hx with
    | own => exact ⟨_, by simp [Builtin.len_, run_underlying hu]; rfl, RA.v _⟩
  · rename_i el b off n hu
    cases e
    cases hx with
    | sub => exact ⟨_, by simp [Builtin.len_, run_underlying hu]; rfl, RA.v _⟩
  · rename_i el rows hu
    cases e
    cases hx with
    | p _ _ hx => cases hx with
      | sl0 => exact ⟨_, by simp [Builtin.len_, run_underlying hu]; rfl, RA.v _⟩
      | sl => exact ⟨_, by simp [Builtin.len_, run_underlying hu]; rfl, RA.v _⟩
  · rename_i el hu
    cases e
    cases hx with
    | p _ _ hx => cases hx with
      | nl => exact ⟨_, by simp [Builtin.len_, run_underlying hu]; rfl, RA.v _⟩
  · rename_i el hu
    cases e
    rw [RA.v_eq hx]
    exact ⟨_, by simp [Builtin.len_, run_underlying hu]; rfl, RA.v _⟩

end ops
end Go.Ab

namespace Go.Ab
set_option linter.unusedSectionVars false
variable [Env]

section ops
variable {P : Program} {G : Glob} [DecOk G] {m nid : Nat} {φ : Phi} {h : Nat → Blk} {t : Nat → AV} {a : Act} {w : World}

theorem setR_RL {W : Wr} {off : Nat} : ∀ (l : List Value) (cl : List AV) (k : Nat) (cs : List AV) (vs : Array Value), RL φ W w cs vs → cl.length = l.length →
    (∀ (j : Nat) x v, cl[j]? = some x → l[j]? = some v → RA φ W w x v) →
    RL φ W w (setR cs (off + k) cl) ((l.zipIdx k).foldl (fun cs (c, j) => cs.setIfInBounds (off + j) c) vs)
  | [], cl, k, cs, vs, hr, hlen, _ => by
    have : cl = [] := by cases cl <;> simp at hlen; rfl
    subst this
    exact hr
  | v :: l, cl, k, cs, vs, hr, hlen, hra => by
    obtain ⟨x, cl, rfl⟩ : ∃ x cl', cl = x :: cl' := by cases cl with | nil => simp at hlen | cons x cl => exact ⟨x, cl, rfl⟩
    simp only [List.zipIdx_cons, List.foldl_cons, setR]
    rw [Nat.add_assoc]
    refine setR_RL l cl (k + 1) _ _ ⟨by simp [hr.size], fun i c u hc hu => ?_⟩ (by simpa using hlen) (fun j x v hx hv => hra (j + 1) x v (by simpa using hx) (by simpa using hv))
    rcases getElem?_set_some hc with ⟨rfl, rfl, _⟩ | ⟨hne, hc⟩
    · rw [Array.getElem?_setIfInBounds] at hu
      simp at hu
      obtain ⟨_, rfl⟩ := hu
      exact hra 0 _ _ rfl rfl
    · rw [Array.getElem?_setIfInBounds_ne (fun e => hne e.symm)] at hu
      exact hr.get i c u hc hu

/-- Parts, one by one, with the places that they go to. -/
def Parts (φ : Phi) (W : Wr) (w : World) : List (Nat × AV) → List (Nat × Value) → Prop
  | [], [] => True
  | (i, x) :: r, (j, v) :: s => i = j ∧ RA φ W w x v ∧ Parts φ W w r s
  | _, _ => False

theorem fillA_sound {place : Nat → Option (Nat × Nat)} : ∀ (ps : List (Nat × AV)) (qs : List (Nat × Value)) (cs cs' : List AV) (vs : Array Value), Parts φ (wr φ h) w ps qs →
    RL φ (wr φ h) w cs vs → fillA place cs ps = some cs' → ∃ vs', Instr.fill place vs qs = some vs' ∧ RL φ (wr φ h) w cs' vs'
  | [], [], cs, cs', vs, _, hr, e => by cases e; exact ⟨vs, rfl, hr⟩
  | (i, x) :: r, (j, v) :: s, cs, cs', vs, hp, hr, e => by
    obtain ⟨rfl, hx, hp⟩ := hp
    simp only [fillA] at e
    split at e
    · rename_i off size xs hpl hxs
      split at e
      · rename_i hcond
        have hl := cells?_some hxs hx
        have hsz : v.cells.size = xs.length := hl.size
        have key := setR_RL (off := off) v.cells.toList xs 0 cs vs hr (by simp [hsz]) (fun j x u hx hu => hl.get j x u hx (by simpa using hu))
        rw [Nat.add_zero] at key
        obtain ⟨vs', h1, h2⟩ := fillA_sound r s _ cs' _ hp key e
        refine ⟨vs', ?_, h2⟩
        simp only [Instr.fill, hpl]
        rw [if_neg (by have := hr.size; have := hcond.1; have := hcond.2; simp; omega), ← Array.foldl_toList, Array.toList_zipIdx]
        exact h1
      · cases e
    · cases e
  | [], _ :: _, _, _, _, hp, _, _ => hp.elim
  | _ :: _, [], _, _, _, hp, _, _ => hp.elim

theorem opndsI_sound (hR : Rel G m φ h t a w) : ∀ {xs : List (Nat × Operand)} {ys : List (Nat × AV)}, (opndsI G xs).run t h = some ys →
    Parts φ (wr φ h) w ys (xs.map fun (i, x) => (i, a.eval x))
  | [], ys, e => by cases e; trivial
  | (i, x) :: xs, ys, e => by
    obtain ⟨y, hy, e⟩ := Rd.bind_some e
    obtain ⟨l, hl, e⟩ := Rd.bind_some e
    cases e
    exact ⟨rfl, opnd_sound hR hy, opndsI_sound hR hl⟩

theorem places_run : ∀ (fs : List Field) (ps : List (Nat × Nat)), places P fs = some ps →
    (fs.mapM fun f => (do Pure.pure (f.offset, ← sizeOf f.type) : Sem (Nat × Nat))).run P w = .ok ps w
  | [], ps, e => by cases e; rfl
  | f :: fs, ps, e => by
    simp only [places] at e
    split at e
    · rename_i n l h1 h2
      cases e
      simp only [List.mapM_cons, Sem.run_bind, run_sizeOf h1, Result.andThen_ok, Sem.run_pure, places_run fs l h2]
    · cases e

theorem buildA_sound {ty : TypeId} {ps : List (Nat × AV)} {qs : List (Nat × Value)} {y : AV} (hp : Parts φ (wr φ h) w ps qs)
    (e : (buildA P ty ps).run t h = some y) : ∃ u, (Instr.build ty qs.toArray).run P w = .ok u w ∧ RA φ (wr φ h) w y u := by
  obtain ⟨fs, h1, e1⟩ := Rd.bind_some e
  clear e
  rw [Rd.run_lift] at h1
  obtain ⟨pl, h2, e2⟩ := Rd.bind_some e1
  clear e1
  rw [Rd.run_lift] at h2
  obtain ⟨z, h3, e3⟩ := Rd.bind_some e2
  clear e2
  rw [Rd.run_lift] at h3
  obtain ⟨cs, h4, e4⟩ := Rd.bind_some e3
  clear e3
  rw [Rd.run_lift] at h4
  cases e4
  obtain ⟨vs, h5, h6⟩ := fillA_sound ps qs _ cs z.cells hp (RL.values _) h4
  have hpl : (fs.mapM fun f => (do Pure.pure (f.offset, ← sizeOf f.type) : Sem (Nat × Nat))).run P w = .ok pl.toArray w := by
    rw [Array.mapM_eq_mapM_toList]
    simp only [Sem.run_map, places_run fs.toList pl h2, Result.andThen_ok]
  refine ⟨.agg vs, ?_, .agg _ _ h6.size h6.get⟩
  have h5' : Instr.fill (pl.toArray[·]?) z.cells qs = some vs := by simpa using h5
  simp only [Instr.build, Sem.run_bind, run_zeroValue h3, Result.andThen_ok, run_underlying (fields_of h1), hpl, h5', Sem.run_pure]

theorem oBuild_sound (hR : Rel G m φ h t a w) {ty : TypeId} {parts : Array (Nat × Operand)} {x : Txn} (e : (oBuild P G ty parts).run t h = some x) :
    Gets P φ h w nid x (Instr.build ty (parts.map fun (i, x) => (i, a.eval x))) := by
  obtain ⟨ps, h1, e1⟩ := Rd.bind_some e
  obtain ⟨y, hy, rfl⟩ := pureR_some e1
  obtain ⟨u, h2, h3⟩ := buildA_sound (opndsI_sound hR h1) hy
  refine Gets.pure hR.rh ?_ h3
  have : (parts.map fun (i, x) => (i, a.eval x)) = (parts.toList.map fun (i, x) => (i, a.eval x)).toArray := by apply Array.ext'; simp
  rw [this]; exact h2

theorem oBuildSlice_sound (hR : Rel G m φ h t a w) (hf : φ nid = none) {ty len : Nat} {parts : Array (Nat × Operand)} {x : Txn} (e : (oBuildSlice P G nid ty len parts).run t h = some x) :
    Gets P φ h w nid x (Instr.buildSlice ty len (parts.map fun (i, x) => (i, a.eval x))) := by
  obtain ⟨ps, h1, e1⟩ := Rd.bind_some e
  clear e
  unfold buildSliceA at e1
  obtain ⟨el, h2, e2⟩ := Rd.bind_some e1
  clear e1
  rw [Rd.run_lift] at h2
  obtain ⟨n, h3, e3⟩ := Rd.bind_some e2
  clear e2
  rw [Rd.run_lift] at h3
  obtain ⟨z, h4, e4⟩ := Rd.bind_some e3
  clear e3
  rw [Rd.run_lift] at h4
  obtain ⟨_, h5, e5⟩ := Rd.bind_some e4
  clear e4
  have h5 := of_decide_eq_true (Rd.need_some h5)
  obtain ⟨cs, h6, e6⟩ := Rd.bind_some e5
  clear e5
  rw [Rd.run_lift] at h6
  cases e6
  have hp := opndsI_sound hR h1
  generalize hz : (if len * n = 0 then (#[] : Array Value) else z.cells) = zs
  obtain ⟨vs, h7, h8⟩ := fillA_sound ps (parts.toList.map fun (i, x) => (i, a.eval x)) _ cs ((Array.range (len * n)).map (zs[· % zs.size]!)) hp
    ⟨by simp, fun i c v hc _ => by rw [List.getElem?_replicate] at hc; split at hc <;> cases hc; exact .top v⟩ h6
  have hlen : ∀ (ps : List (Nat × AV)) (cs cs' : List AV), fillA (fun i => some (i * n, n)) cs ps = some cs' → cs'.length = cs.length := by
    intro ps
    induction ps with
    | nil => intro cs cs' e; cases e; rfl
    | cons p ps ih =>
      intro cs cs' e
      simp only [fillA] at e
      split at e
      · split at e
        · rw [ih _ _ e, setR_length]
        · cases e
      · cases e
  have hcl := hlen _ _ _ h6
  simp only [List.length_replicate] at hcl
  have g := new_vec (ty := el) (wd := n) (cap := len) (cs := cs) (vs := vs) hR.rh hf (by rw [h8.size, hcl]) (by rw [h8.size]; exact Nat.le_refl _) h8.get
  refine ⟨.slice (some ⟨w.heap.size, 0, none⟩) len len, _, _, ?_, ?_, g⟩
  · have hq : (parts.map fun (i, x) => (i, a.eval x)).toList = parts.toList.map fun (i, x) => (i, a.eval x) := by simp
    simp only [Instr.buildSlice, Sem.run_bind, run_underlying (elem_of h2), Result.andThen_ok, run_sizeOf h3]
    rw [if_neg (by omega)]
    by_cases h0 : len * n = 0
    · rw [if_pos h0] at hz ⊢
      subst hz
      simp only [Sem.run_bind, Sem.run_pure, Result.andThen_ok, hq, h7, newRow, run_newObj]
    · rw [if_neg h0] at hz ⊢
      subst hz
      simp only [Sem.run_bind, Sem.run_pure, Result.andThen_ok, hq, h7, newRow, run_newObj, run_zeroValue h4]
  · exact .own nid len len (some w.heap.size) (upd_self _ _ _) (Nat.le_refl _) (by simp)

theorem min_two {k k' : IntKind} {a b : Int} {at_ : Array TypeId} {ty : TypeId} : (Builtin.min_ at_ ty #[.int k a, .int k' b]).run P w = .ok (.int k (if b < a then b else a)) w := rfl
theorem min_sound (hr : RH φ h w) (hd : DecOk G) {x y : AV} {z : Txn} (e : (mnA G x y).run t h = some z) {vs : Array Value} (hl : RL φ (wr φ h) w [x, y] vs) {at_ : Array TypeId} {ty : TypeId} :
    Gets P φ h w nid z (Builtin.min_ at_ ty vs) := by
  have hs := hl.size
  have : ∃ u v, vs = #[u, v] := by
    have := hs
    obtain ⟨l⟩ := vs
    match l, this with
    | [u, v], _ => exact ⟨u, v, rfl⟩
  obtain ⟨u, v, rfl⟩ := this
  have h1 := hl.get 0 _ u rfl rfl
  have h2 := hl.get 1 _ v rfl rfl
  unfold mnA at e
  split at e
  · cases e
    rw [RA.v_eq h1, RA.v_eq h2]
    exact Gets.pure hr min_two (RA.v _)
  · split at e
    · rename_i a b ha hb
      have e1 := symI_sound ha h1
      have e2 := symI_sound hb h2
      unfold pickSym at e
      split at e
      · rename_i hn
        cases e
        have hlt : b.val < a.val := by
          have := hd.num _ _ _ _ hn
          simpa [binI] using this
        refine Gets.pure hr ?_ h2
        rw [e1, e2, min_two, if_pos hlt]
      · rename_i hn
        cases e
        have hlt : ¬ (b.val < a.val) := by
          have := hd.num _ _ _ _ hn
          simpa [binI] using this
        refine Gets.pure hr ?_ h1
        rw [e1, e2, min_two, if_neg hlt]
      · cases e
    · cases e

theorem max_two {k k' : IntKind} {a b : Int} {at_ : Array TypeId} {ty : TypeId} : (Builtin.max_ at_ ty #[.int k a, .int k' b]).run P w = .ok (.int k (if b > a then b else a)) w := rfl
theorem max_sound (hr : RH φ h w) (hd : DecOk G) {x y : AV} {z : Txn} (e : (mxA G x y).run t h = some z) {vs : Array Value} (hl : RL φ (wr φ h) w [x, y] vs) {at_ : Array TypeId} {ty : TypeId} :
    Gets P φ h w nid z (Builtin.max_ at_ ty vs) := by
  have hs := hl.size
  have : ∃ u v, vs = #[u, v] := by
    have := hs
    obtain ⟨l⟩ := vs
    match l, this with
    | [u, v], _ => exact ⟨u, v, rfl⟩
  obtain ⟨u, v, rfl⟩ := this
  have h1 := hl.get 0 _ u rfl rfl
  have h2 := hl.get 1 _ v rfl rfl
  unfold mxA at e
  split at e
  · cases e
    rw [RA.v_eq h1, RA.v_eq h2]
    exact Gets.pure hr max_two (RA.v _)
  · split at e
    · rename_i a b ha hb
      have e1 := symI_sound ha h1
      have e2 := symI_sound hb h2
      unfold pickSym at e
      split at e
      · rename_i hn
        cases e
        have hlt : b.val > a.val := by
          have := hd.num _ _ _ _ hn
          simpa [binI] using this
        refine Gets.pure hr ?_ h2
        rw [e1, e2, max_two, if_pos hlt]
      · rename_i hn
        cases e
        have hlt : ¬ (b.val > a.val) := by
          have := hd.num _ _ _ _ hn
          simpa [binI] using this
        refine Gets.pure hr ?_ h1
        rw [e1, e2, max_two, if_neg hlt]
      · cases e
    · cases e

end ops
end Go.Ab

namespace Go.Ab
set_option linter.unusedSectionVars false
variable [Env]

section ops
variable {P : Program} {G : Glob} [DecOk G] {m nid : Nat} {φ : Phi} {h : Nat → Blk} {t : Nat → AV} {a : Act} {w : World}

theorem flatten_get {sz : Nat} : ∀ (rows : List (List PV)), (∀ r ∈ rows, r.length = sz) → ∀ (k : Nat) (c : PV), rows.flatten[k]? = some c →
    ∃ (i j : Nat) (row : List PV), rows[i]? = some row ∧ row[j]? = some c ∧ k = i * sz + j
  | [], _, k, c, e => by simp at e
  | r :: rs, hr, k, c, e => by
    have h0 := hr r (by simp)
    rw [List.flatten_cons] at e
    by_cases hk : k < r.length
    · rw [List.getElem?_append_left hk] at e
      exact ⟨0, k, r, rfl, e, by omega⟩
    · rw [List.getElem?_append_right (by omega)] at e
      obtain ⟨i, j, row, h1, h2, h3⟩ := flatten_get rs (fun r hr' => hr r (by simp [hr'])) _ c e
      exact ⟨i + 1, j, row, by simpa using h1, h2, by rw [Nat.add_mul]; omega⟩
theorem flatten_len {sz : Nat} : ∀ (rows : List (List PV)), (∀ r ∈ rows, r.length = sz) → rows.flatten.length = rows.length * sz
  | [], _ => by simp
  | r :: rs, hr => by
    rw [List.flatten_cons, List.length_append, hr r (by simp), flatten_len rs (fun r hr' => hr r (by simp [hr'])), List.length_cons, Nat.add_mul]; omega

/-- Cells that are loaded, one behind the other. -/
theorem load_cells {b o n : Nat} {cs : List AV} (hn : cs.length = n)
    (hc : ∀ (j : Nat) c, cs[j]? = some c → ∃ u, w.cell? ⟨b, o + j, none⟩ = some u ∧ RA φ (wr φ h) w c u) :
    ∃ arr, (loadCells ⟨b, o, none⟩ n).run P w = .ok arr w ∧ RL φ (wr φ h) w cs arr := by
  refine ⟨_, run_loadCells w ⟨b, o, none⟩ n (fun j => (w.cell? ⟨b, o + j, none⟩).getD undef) (fun j hj => ?_), by simp [hn], fun i c v hci hv => ?_⟩
  · obtain ⟨u, hu, _⟩ := hc j _ (List.getElem?_eq_getElem (by omega))
    rw [addr_add, hu]; rfl
  · obtain ⟨u, hu, hra⟩ := hc i c hci
    have hi : i < n := by rw [← hn]; exact (List.getElem?_eq_some_iff.1 hci).1
    simp [hi] at hv
    rw [hu] at hv; simp at hv; subst hv
    exact hra

/-- A vec's first cells. -/
theorem own_cells (hr : RH φ h w) {b r cap k : Nat} {ty wd : Nat} {cs : List AV} (hb : h b = .vec ty wd cs) (hφ : φ b = some (some r, cap)) (hk : k ≤ cs.length) :
    ∃ arr, (loadCells ⟨r, 0, none⟩ k).run P w = .ok arr w ∧ RL φ (wr φ h) w (cs.take k) arr := by
  refine load_cells (by simp; omega) fun j c hc => ?_
  rw [Nat.zero_add]
  have hj : j < k := by have := (List.getElem?_eq_some_iff.1 hc).1; simp at this; omega
  rw [List.getElem?_take_of_lt hj] at hc
  exact hr.cell (by rw [hb]; rfl) hφ (by rw [hb]; exact hc)

/-- What an append reads. -/
theorem tailA_sound (hr : RH φ h w) {sz n : Nat} {y : AV} {yv : Value} {new : List AV} (h1 : tailLen y = some n) (h2 : (tailA sz y).run t h = some new) (hy : RA φ (wr φ h) w y yv) :
    (Builtin.lenOf yv).run P w = .ok n w ∧ ∃ arr, (Builtin.firstCells sz n yv).run P w = .ok arr w ∧ RL φ (wr φ h) w new arr ∧ new.length = n * sz := by
  unfold tailLen at h1
  split at h1
  · cases h1
    rw [RA.v_eq hy]
    cases h2
    exact ⟨rfl, #[], rfl, ⟨rfl, fun i c v hc => by simp at hc⟩, by simp⟩
  · cases h1
    cases h2
    cases hy with
    | p _ _ hy => cases hy with
      | nl ad =>
        refine ⟨rfl, #[], ?_, ⟨rfl, fun i c v hc => by simp at hc⟩, by simp⟩
        cases ad <;> simp [Builtin.firstCells, loadCells, loadCellsFrom]
  · rename_i s
    cases h1
    rw [RA.v_eq hy]
    obtain ⟨_, hn, e⟩ := Rd.bind_some h2
    have hn := of_decide_eq_true (Rd.need_some hn)
    subst hn
    cases e
    have hs : s.data.toList.length = s.size := by simp
    rw [hs]
    refine ⟨rfl, _, rfl, ⟨by simp, fun i c v hc hv => ?_⟩, by simp⟩
    simp only [List.getElem?_map] at hc
    simp only [Array.getElem?_map] at hv
    have hex : (s.extract 0 s.size) = s := by apply ByteArray.ext; simp
    rw [hex] at hv
    cases hb : s.data[i]? with
    | none => rw [hb] at hv; cases hv
    | some b =>
      rw [hb] at hv
      rw [Array.getElem?_toList, hb] at hc
      simp at hc hv
      subst hc; subst hv
      exact RA.v _
  · rename_i rows
    cases h1
    obtain ⟨_, hn, e⟩ := Rd.bind_some h2
    have hn := Rd.need_some hn
    simp only [List.all_eq_true, beq_iff_eq] at hn
    cases e
    have hlen := flatten_len rows hn
    cases hy with
    | p _ _ hy => cases hy with
      | sl0 ad cap =>
        refine ⟨rfl, #[], ?_, ⟨rfl, fun i c v hc => by simp at hc⟩, by simp⟩
        cases ad <;> simp [Builtin.firstCells, loadCells, loadCellsFrom]
      | sl _ b off sz' cap vals hw hcell hval hW hb0 hcap =>
        refine ⟨rfl, ?_⟩
        obtain ⟨arr, ha, hl⟩ := load_cells (P := P) (φ := φ) (h := h) (w := w) (b := b) (o := off) (n := rows.length * sz) (cs := rows.flatten.map .p) (by rw [List.length_map, hlen]) (fun j c hc => by
          simp only [List.getElem?_map] at hc
          cases hf : rows.flatten[j]? with
          | none => rw [hf] at hc; cases hc
          | some z =>
            rw [hf] at hc; simp at hc; subst hc
            obtain ⟨i, k, row, e1, e2, e3⟩ := flatten_get rows hn j z hf
            have : sz' = sz := by rw [← hw i row e1]; exact hn row (List.mem_of_getElem? e1)
            subst this
            refine ⟨vals i k, ?_, .p _ _ (hval i k row z e1 e2)⟩
            rw [e3]; exact hcell i k row z e1 e2)
        exact ⟨arr, by simpa [Builtin.firstCells] using ha, hl, by rw [List.length_map, hlen]⟩
  · cases h1
    simp only [tailA] at h2
    replace h2 := Rd.blk_some h2
    split at h2
    · rename_i ty wd cs hb
      obtain ⟨_, hn, e⟩ := Rd.bind_some h2
      have hn := Rd.need_some hn
      simp only [Bool.and_eq_true, decide_eq_true_eq] at hn
      obtain ⟨rfl, hn⟩ := hn
      cases e
      cases hy with
      | own _ _ cap r hφ hcap hnil =>
        refine ⟨rfl, ?_⟩
        cases r with
        | none =>
          have := hnil rfl
          have : n = 0 := by omega
          subst this
          exact ⟨#[], by simp [Builtin.firstCells], ⟨by simp, fun i c v hc => by simp at hc⟩, by simp⟩
        | some r =>
          obtain ⟨arr, ha, hl⟩ := own_cells (P := P) hr hb hφ hn
          exact ⟨arr, by simpa [Builtin.firstCells] using ha, hl, by simp; omega⟩
    · cases h2
  · cases h1

theorem growBy_le (n : Nat) : ∀ (k c : Nat), Builtin.growBy n k c ≤ max c (n + (n + 768) / 4)
  | 0, c => by simp [Builtin.growBy]; omega
  | k + 1, c => by
    simp only [Builtin.growBy]
    split
    · omega
    · have := growBy_le n k (c + (c + 768) / 4)
      omega
theorem nextcap_le {need cap : Nat} (hc : cap < need) : Builtin.nextslicecap need cap ≤ need + need + 1024 := by
  unfold Builtin.nextslicecap
  split
  · omega
  · split
    · omega
    · have := growBy_le need 4 cap
      omega

end ops
end Go.Ab
