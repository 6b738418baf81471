/-
  The evaluator is sound: all operations. No condition.
-/
import Derived.Test.YteacnhblklcclaaGreatDoorEb
import Derived.Lib.ConvBytes
import Derived.Laws.IdiomStrings
import Derived.Lib.UnsafeStr
namespace Go.Ab
set_option linter.unusedSectionVars false
variable [Env]

section ops
variable {P : Program} {G : Glob} [DecOk G] {m nid : Nat} {φ : Phi} {h : Nat → Blk} {t : Nat → AV} {a : Act} {w : World}

structure AppTy (P : Program) (at_ : Array TypeId) (e sz bytes : Nat) (ty ty2 : TypeId) (z : Value) (ei : TypeInfo) : Prop where
  a0 : at_[0]? = some ty
  a1 : at_[1]? = some ty2
  u : P.underlying ty = some (.slice e)
  kind : (∃ e', P.underlying ty2 = some (.slice e')) ∨ P.underlying ty2 = some .string
  size : tySize P e = some sz
  zero : tyZero P e = some z
  zsize : z.cells.size = sz
  info : P.info? e = some ei
  byt : ei.bytes = bytes
  pos : 0 < bytes

theorem appTy_some {at_ : Array TypeId} {e sz bytes : Nat} (hh : appTy P at_ = some (e, sz, bytes)) : ∃ ty ty2 z ei, AppTy P at_ e sz bytes ty ty2 z ei := by
  unfold appTy at hh
  split at hh
  · rename_i ty ty2 h0 h1
    split at hh
    · rename_i e' d2 h2 h3
      split at hh
      · rename_i sz' z ei h4 h5 h6
        cases hb : (notInt d2 && Nat.beq z.cells.size sz' && Nat.ble 1 ei.bytes) with
        | false => rw [hb] at hh; cases hh
        | true =>
          rw [hb] at hh
          cases hh
          simp only [Bool.and_eq_true] at hb
          obtain ⟨⟨b1, b2⟩, b3⟩ := hb
          refine ⟨ty, ty2, z, ei, h0, h1, elem_of h2, ?_, h4, h5, Nat.eq_of_beq_eq_true b2, h6, rfl, Nat.le_of_ble_eq_true b3⟩
          cases d2 <;> first | (simp [notInt] at b1; done) | exact .inl ⟨_, h3⟩ | exact .inr h3
      · cases hh
    · cases hh
  · cases hh

theorem run_append_place {at_ : Array TypeId} {rty e sz bytes ty ty2 : Nat} {z : Value} {ei : TypeInfo} {q n cap : Nat} {base : Option Addr} {x : Value} {arr : Array Value} {w' : World}
    (H : AppTy P at_ e sz bytes ty ty2 z ei) (hlen : (Builtin.lenOf x).run P w = .ok n w) (hfc : (Builtin.firstCells sz n x).run P w = .ok arr w) (hle : q + n ≤ cap)
    (hst : (match base with | some ad => storeCells (ad.add (q * sz)) arr.toList | none => Pure.pure ()).run P w = .ok () w') :
    (Builtin.append_ at_ rty #[.slice base q cap, x]).run P w = .ok (.slice base (q + n) cap) w' := by
  unfold Builtin.append_
  rw [H.a0, H.a1]
  cases base with
  | none =>
    cases hst
    rcases H.kind with ⟨e', hk⟩ | hk <;> simp [run_underlying H.u, run_underlying hk, run_sizeOf H.size, hlen, hfc, hle]
  | some ad =>
    simp only at hst
    rcases H.kind with ⟨e', hk⟩ | hk <;> simp [run_underlying H.u, run_underlying hk, run_sizeOf H.size, hlen, hfc, hle, hst]

theorem run_append_grow {at_ : Array TypeId} {rty e sz bytes ty ty2 : Nat} {z : Value} {ei : TypeInfo} {q n cap : Nat} {base : Option Addr} {x : Value} {arr old : Array Value}
    (H : AppTy P at_ e sz bytes ty ty2 z ei) (hlen : (Builtin.lenOf x).run P w = .ok n w) (hlt : cap < q + n) (hb : ((q + n) + (q + n) + 1024) * bytes ≤ 2 ^ 48)
    (hold : (Builtin.firstCells sz q (.slice base q cap)).run P w.drew = .ok old w.drew)
    (hfc : (Builtin.firstCells sz n x).run P w.drew = .ok arr w.drew) :
    ∃ nc, q + n ≤ nc ∧ (Builtin.append_ at_ rty #[.slice base q cap, x]).run P w =
      .ok (.slice (some ⟨w.heap.size, 0, none⟩) (q + n) nc)
        (w.drew.alloc (.cells (old ++ arr ++ Builtin.zeroCells z.cells (nc - (q + n))) e)) := by
  have hbytes := H.byt
  have hnc := nextcap_le hlt
  have hmul : Builtin.nextslicecap (q + n) cap * ei.bytes ≤ 2 ^ 48 := Nat.le_trans (Nat.mul_le_mul_right _ hnc) (by rw [hbytes]; exact hb)
  refine ⟨(Question.appendCap (q + n) cap e).cut (w.tape w.drawn (Question.appendCap (q + n) cap e)), by simp [Question.cut], ?_⟩
  have hn : ¬ q + n ≤ cap := by omega
  have hbig : ¬ (2 ^ 48 < Builtin.nextslicecap (q + n) cap * ei.bytes) := by omega
  have hb0 : ei.bytes ≠ 0 := by rw [hbytes]; exact Nat.ne_of_gt H.pos
  unfold Builtin.append_
  rw [H.a0, H.a1]
  rcases H.kind with ⟨e', hk⟩ | hk <;> (simp [run_underlying H.u, run_underlying hk, run_sizeOf H.size, hlen, hfc, hn, run_typeInfo H.info, hbig, hb0, Question.forced, hold, run_zeroValue H.zero, newRow])

end ops
end Go.Ab

namespace Go.Ab
set_option linter.unusedSectionVars false
variable [Env]

section ops
variable {P : Program} {G : Glob} [DecOk G] {m nid : Nat} {φ : Phi} {h : Nat → Blk} {t : Nat → AV} {a : Act} {w : World}

theorem Ext.drew' (W : Wr) (w : World) : Ext W w w.drew := Ext.drew _
theorem RA.drew {x : AV} {v : Value} {W : Wr} (hx : RA φ W w x v) : RA φ W w.drew x v := hx.mono (PhiExt.refl _) (Ext.drew' _ _) (Less.refl _ _)
theorem RH.drew (hr : RH φ h w) : RH φ h w.drew :=
  ⟨fun id => (hr.blk id).mono (PhiExt.refl _) (Ext.drew' _ _) (Less.refl _ _) fun _ _ _ _ => rfl, hr.inj, hr.bound⟩
theorem Goes.ofDrew {nnew : Nat} {φ' : Phi} {h' : Nat → Blk} {w' : World} (g : Goes φ h w.drew nid nnew φ' h' w') : Goes φ h w nid nnew φ' h' w' :=
  ⟨g.rh, (Ext.drew' _ w).trans g.ext (Less.refl _ _), g.phi, g.less, g.old⟩

/-- Two stretches. -/
theorem Goes.comp {nnew : Nat} {φ' φ2 : Phi} {h' h2 : Nat → Blk} {w' w2 : World} (g : Goes φ h w nid 0 φ' h' w') (k : Goes φ' h' w' nid nnew φ2 h2 w2) : Goes φ h w nid nnew φ2 h2 w2 :=
  ⟨k.rh, g.ext.trans k.ext g.less, g.phi.trans k.phi, g.less.trans k.less g.ext.size, fun id hid => (k.old id hid).trans (g.old id (by omega))⟩

theorem Goes.kill (hr : RH φ h w) (b : Nat) : Goes φ h w nid 0 φ (fup h b .dead) w :=
  ⟨hr.kill b, Ext.refl _ _, PhiExt.refl _, less_dead, fun _ _ => rfl⟩

theorem Goes.newNil {wd ty : Nat} (hr : RH φ h w) (hf : φ nid = none) : Goes φ h w nid 1 (upd φ nid (none, 0)) (fup h nid (.vec ty wd [])) w :=
  ⟨hr.newNil hf, Ext.refl _ _, PhiExt.upd _ hf, less_new (fun r hr => by cases hr), fun id hid => upd_ne _ _ (by omega)⟩

/-- A block goes by another letter. -/
theorem RH.move {b : Nat} {l : Loc} (hr : RH φ h w) (hl : (h b).live = true) (hb : φ b = some l) (hf : φ nid = none) :
    RH (upd φ nid l) (fup (fup h b .dead) nid (h b)) w ∧ Less w.heap.size (wr φ h) (wr (upd φ nid l) (fup (fup h b .dead) nid (h b))) := by
  have hne : b ≠ nid := fun e => by rw [e, hf] at hb; cases hb
  have hpe := PhiExt.upd (i := nid) l hf
  have src : ∀ i, (fup (fup h b .dead) nid (h b) i).live = true → (i = nid ∨ (i ≠ nid ∧ i ≠ b ∧ (h i).live = true)) := by
    intro i hi
    by_cases e : i = nid
    · exact .inl e
    · rw [fup_ne _ _ e] at hi
      by_cases e2 : i = b
      · subst e2; rw [fup_self] at hi; cases hi
      · rw [fup_ne _ _ e2] at hi; exact .inr ⟨e, e2, hi⟩
  have hless : Less w.heap.size (wr φ h) (wr (upd φ nid l) (fup (fup h b .dead) nid (h b))) := by
    rintro r _ ⟨i, c, h2, h3⟩
    rcases src i h2 with rfl | ⟨e1, e2, h4⟩
    · rw [upd_self] at h3
      exact ⟨b, c, hl, by rw [hb]; exact h3⟩
    · rw [upd_ne _ _ e1] at h3
      exact ⟨i, c, h4, h3⟩
  refine ⟨⟨fun i => ?_, fun i j ci cj r l1 l2 p1 p2 => ?_, fun i r c hi => ?_⟩, hless⟩
  · by_cases e : i = nid
    · subst e
      rw [fup_self]
      have := hr.blk b
      generalize h b = B at *
      cases B with
      | dead => cases hl
      | fx ty cs =>
        obtain ⟨r, c, vs, h1, h2, h3⟩ := this
        exact ⟨r, c, vs, by rw [upd_self, ← hb, h1], h2, h3.mono hpe (Ext.refl _ _) hless⟩
      | vec ty wd cs =>
        obtain ⟨ro, cap, h1, h2⟩ := this
        refine ⟨ro, cap, by rw [upd_self, ← hb, h1], ?_⟩
        cases ro with
        | none => exact h2
        | some r =>
          obtain ⟨vs, h3, h4, h5, h6⟩ := h2
          exact ⟨vs, h3, h4, h5, fun i c v hc hv => (h6 i c v hc hv).mono hpe (Ext.refl _ _) hless⟩
    · rw [fup_ne _ _ e]
      by_cases e2 : i = b
      · subst e2; rw [fup_self]; trivial
      · rw [fup_ne _ _ e2]
        exact (hr.blk i).mono hpe (Ext.refl _ _) hless fun _ _ _ _ => rfl
  · rcases src i l1 with rfl | ⟨e1, e2, h4⟩ <;> rcases src j l2 with rfl | ⟨f1, f2, h5⟩
    · rfl
    · rw [upd_self, ← hb] at p1; rw [upd_ne _ _ f1] at p2
      exact absurd (hr.inj b j ci cj r hl h5 p1 p2).symm f2
    · rw [upd_self, ← hb] at p2; rw [upd_ne _ _ e1] at p1
      exact absurd (hr.inj i b ci cj r h4 hl p1 p2) e2
    · rw [upd_ne _ _ e1] at p1; rw [upd_ne _ _ f1] at p2
      exact hr.inj i j ci cj r h4 h5 p1 p2
  · by_cases e : i = nid
    · subst e; rw [upd_self, ← hb] at hi; exact hr.bound b r c hi
    · rw [upd_ne _ _ e] at hi; exact hr.bound i r c hi

/-- Of a row's cells behind a place nothing more is told, up to what it has room for. -/
theorem RH.pad {b r cap ty wd k n : Nat} {cs : List AV} (hr : RH φ h w) (hb : h b = .vec ty wd cs) (hφ : φ b = some (some r, cap)) (hk : k ≤ cs.length) (hn : k + n ≤ cap * wd) :
    RH φ (fup h b (.vec ty wd (cs.take k ++ List.replicate n .top))) w ∧ (∀ q, wr φ (fup h b (.vec ty wd (cs.take k ++ List.replicate n .top))) q → wr φ h q) := by
  have hl : (h b).live = Blk.live (.vec ty wd (cs.take k ++ List.replicate n .top)) := by rw [hb]; rfl
  have hw : ∀ q, wr φ (fup h b (.vec ty wd (cs.take k ++ List.replicate n .top))) q → wr φ h q := fun q hq => wr_same hl q hq
  have hls : Less w.heap.size (wr φ h) (wr φ (fup h b (.vec ty wd (cs.take k ++ List.replicate n .top)))) := fun q _ hq => hw q hq
  have liveOf : ∀ i, (fup h b (.vec ty wd (cs.take k ++ List.replicate n .top)) i).live = true → (h i).live = true := by
    intro i hi
    by_cases e : i = b
    · subst e; rw [hb]; rfl
    · rwa [fup_ne _ _ e] at hi
  refine ⟨⟨fun i => ?_, fun i j ci cj r' l1 l2 p1 p2 => hr.inj i j ci cj r' (liveOf i l1) (liveOf j l2) p1 p2, hr.bound⟩, hw⟩
  by_cases e : i = b
  · subst e
    rw [fup_self]
    have := hr.blk i
    rw [hb] at this
    obtain ⟨ro, cap', q1, q2⟩ := this
    rw [hφ] at q1; simp only [Option.some.injEq, Prod.mk.injEq] at q1; obtain ⟨rfl, rfl⟩ := q1
    obtain ⟨vs, q3, q4, q5, q6⟩ := q2
    refine ⟨some r, cap, hφ, vs, q3, q4, by simp; omega, fun j c v hc hv => ?_⟩
    by_cases hj : j < k
    · rw [List.getElem?_append_left (by simp; omega), List.getElem?_take_of_lt hj] at hc
      exact (q6 j c v hc hv).mono (PhiExt.refl _) (Ext.refl _ _) hls
    · rw [List.getElem?_append_right (by simp; omega), List.getElem?_replicate] at hc
      split at hc <;> cases hc
      exact .top v
  · rw [fup_ne _ _ e]
    exact (hr.blk i).mono (PhiExt.refl _) (Ext.refl _ _) hls fun _ _ _ _ => rfl

theorem setR_append : ∀ (new : List AV) (pre suf : List AV), suf.length = new.length → setR (pre ++ suf) pre.length new = pre ++ new
  | [], pre, suf, h => by cases suf <;> simp at h; simp [setR]
  | c :: new, pre, suf, h => by
    obtain ⟨s, suf, rfl⟩ : ∃ s s', suf = s :: s' := by cases suf with | nil => simp at h | cons s s' => exact ⟨s, s', rfl⟩
    have := setR_append new (pre ++ [c]) suf (by simpa using h)
    simp only [List.append_assoc, List.singleton_append, List.length_append, List.length_singleton] at this
    rw [setR]
    have e : (pre ++ s :: suf).set pre.length c = pre ++ c :: suf := by simp
    rw [e, this]

theorem zero_size (zs : Array Value) (n : Nat) : (Builtin.zeroCells zs n).size = n * zs.size := by simp [Builtin.zeroCells]

/-- A new row with these cells ahead. -/
theorem grow_new {old arr z : Array Value} {cs new : List AV} {e sz q n nc : Nat} (hr : RH φ h w) (hf : φ nid = none) (h1 : RL φ (wr φ h) w cs old) (h2 : RL φ (wr φ h) w new arr)
    (hz : z.size = sz) (hq : cs.length = q * sz) (hn : new.length = n * sz) (hnc : q + n ≤ nc) :
    Goes φ h w nid 1 (upd φ nid (some w.heap.size, nc)) (fup h nid (.vec e sz (cs ++ new))) (w.alloc (.cells (old ++ arr ++ Builtin.zeroCells z (nc - (q + n))) e)) := by
  refine new_vec hr hf ?_ ?_ fun i c v hc hv => ?_
  · simp only [Array.size_append, h1.size, h2.size, zero_size, hz, hq, hn]
    rw [← Nat.add_mul, ← Nat.add_mul]
    congr 1
    omega
  · simp only [Array.size_append, h1.size, h2.size, List.length_append]; omega
  · by_cases hi : i < cs.length
    · rw [List.getElem?_append_left hi] at hc
      rw [Array.append_assoc, Array.getElem?_append_left (by rw [h1.size]; exact hi)] at hv
      exact h1.get i c v hc hv
    · rw [List.getElem?_append_right (by omega)] at hc
      have hi2 : i - cs.length < new.length := (List.getElem?_eq_some_iff.1 hc).1
      rw [Array.append_assoc, Array.getElem?_append_right (by rw [h1.size]; omega), h1.size, Array.getElem?_append_left (by rw [h2.size]; exact hi2)] at hv
      exact h2.get _ c v hc hv

theorem appNil_sound (hr : RH φ h w) (hf : φ nid = none) {at_ : Array TypeId} {rty e sz bytes ty ty2 n : Nat} {z : Value} {ei : TypeInfo} (H : AppTy P at_ e sz bytes ty ty2 z ei)
    {x y : AV} {xv yv : Value} {new : List AV} {r : Txn} (hxv : ∃ ad, xv = .slice ad 0 0) (hx : RA φ (wr φ h) w x xv) (hy : RA φ (wr φ h) w y yv) (h1 : tailLen y = some n) (h2 : (tailA sz y).run t h = some new)
    (er : (appNil nid e sz bytes n x new).run t h = some r) (hc : r.chk = true) : Gets P φ h w nid r (Builtin.append_ at_ rty #[xv, yv]) := by
  obtain ⟨ad, rfl⟩ := hxv
  obtain ⟨hlen, arr, hfc, hl, hnl⟩ := tailA_sound (P := P) hr h1 h2 hy
  cases n with
  | zero =>
    cases er
    have : arr = #[] := by
      have := hl.size
      rw [hnl, Nat.zero_mul] at this
      exact Array.eq_empty_of_size_eq_zero this
    subst this
    refine Gets.pure hr (run_append_place (w' := w) H hlen hfc (Nat.le_refl 0) ?_) hx
    cases ad <;> rfl
  | succ k =>
    cases er
    have hc := of_decide_eq_true hc
    obtain ⟨hlen', arr', hfc', hl', _⟩ := tailA_sound (P := P) hr.drew h1 h2 hy.drew
    have hold : (Builtin.firstCells sz 0 (.slice ad 0 0)).run P w.drew = .ok #[] w.drew := by cases ad <;> simp [Builtin.firstCells, loadCells, loadCellsFrom]
    obtain ⟨nc, h3, h4⟩ := run_append_grow (rty := rty) H hlen (by omega : 0 < 0 + (k + 1)) (by simpa using hc) hold hfc'
    have g := grow_new (e := e) (old := #[]) (cs := []) (q := 0) hr.drew hf ⟨rfl, fun i c v hc => by simp at hc⟩ hl' H.zsize (by simp) hnl h3
    simp only [Nat.zero_add, List.nil_append] at g h4 h3
    exact ⟨_, _, _, h4, .own nid _ nc (some w.heap.size) (upd_self _ _ _) h3 (by simp), g.ofDrew⟩

theorem appOwn_sound (hr : RH φ h w) (hf : φ nid = none) {at_ : Array TypeId} {rty e sz bytes ty ty2 n b q : Nat} {z : Value} {ei : TypeInfo} (H : AppTy P at_ e sz bytes ty ty2 z ei)
    {y : AV} {xv yv : Value} {new : List AV} {r : Txn} (hx : RA φ (wr φ h) w (.own b q) xv) (hy : RA φ (wr φ h) w y yv) (h1 : tailLen y = some n) (h2 : (tailA sz y).run t h = some new)
    (hone : new.all AV.one = true) (er : (appOwn nid e sz bytes n b q new).run t h = some r) (hc : r.chk = true) : Gets P φ h w nid r (Builtin.append_ at_ rty #[xv, yv]) := by
  obtain ⟨hlen, arr, hfc, hl, hnl⟩ := tailA_sound (P := P) hr h1 h2 hy
  simp only [appOwn] at er
  replace er := Rd.blk_some er
  split at er
  · rename_i ty' wd cs hb
    obtain ⟨_, hn, er⟩ := Rd.bind_some er
    have hn := Rd.need_some hn
    simp only [Bool.and_eq_true] at hn
    obtain ⟨⟨n1, n2⟩, n3⟩ := hn
    have n1 := Nat.eq_of_beq_eq_true n1
    have n2 := Nat.eq_of_beq_eq_true n2
    have n3 := Nat.le_of_ble_eq_true n3
    subst n1 n2
    cases er
    have hc := of_decide_eq_true hc
    have hbl : (h b).live = true := by rw [hb]; rfl
    cases hx with
    | own _ _ cap ro hφ hq hnil =>
      have hne : b ≠ nid := fun e => by rw [e, hf] at hφ; cases hφ
      by_cases hroom : q + n ≤ cap
      · cases ro with
        | none =>
          have hcap := hnil rfl
          have q0 : q = 0 := by omega
          have n0 : n = 0 := by omega
          subst q0 n0 hcap
          have hnew : new = [] := List.eq_nil_of_length_eq_zero (by rw [hnl]; simp)
          subst hnew
          have := run_append_place (rty := rty) (base := none) (w' := w) H hlen hfc (Nat.le_refl 0) rfl
          refine ⟨_, w, upd φ nid (none, 0), this, .own nid 0 0 none (upd_self _ _ _) (Nat.le_refl 0) (fun _ => rfl), ?_⟩
          have g := (Goes.kill (nid := nid) hr b).comp (Goes.newNil (ty := ty') (wd := wd) (hr.kill b) hf)
          simpa [applyF] using g
        | some k =>
          have hB := hr.blk b
          rw [hb] at hB
          obtain ⟨ro', cap', p1, p2⟩ := hB
          rw [hφ] at p1; simp only [Option.some.injEq, Prod.mk.injEq] at p1; obtain ⟨rfl, rfl⟩ := p1
          obtain ⟨vs, p3, p4, p5, p6⟩ := p2
          have hfit : q * wd + n * wd ≤ cap * wd := by rw [← Nat.add_mul]; exact Nat.mul_le_mul_right _ hroom
          obtain ⟨hr1, hw1⟩ := hr.pad hb hφ n3 hfit
          have hls1 : Less w.heap.size (wr φ h) (wr φ (fup h b (.vec ty' wd (cs.take (q * wd) ++ List.replicate (n * wd) .top)))) := fun r _ hr => hw1 r hr
          obtain ⟨w', s1, s2, s3, s4⟩ := storeCells_sound (P := P) (o := q * wd) hφ new arr.toList 0 _ w hr1 (by rw [fup_self]; rfl) (by simp [hl.size]) (by simpa using hone)
            (fun j x v hx hv => (hl.get j x v hx (by simpa using hv)).mono (PhiExt.refl _) (Ext.refl _ _) hls1)
            (by rw [fup_self]; simp [Blk.cells, Nat.min_eq_left n3, hnl])
          have hset : setR (cs.take (q * wd) ++ List.replicate (n * wd) AV.top) (q * wd + 0) new = cs.take (q * wd) ++ new := by
            have := setR_append new (cs.take (q * wd)) (List.replicate (n * wd) AV.top) (by simp [hnl])
            rw [List.length_take, Nat.min_eq_left n3] at this
            exact this
          simp only [fup_self, fup_fup, Blk.cells, Blk.with, hset] at s2 s4
          have hrun := run_append_place (rty := rty) (base := some ⟨k, 0, none⟩) (w' := w') H hlen hfc hroom (by simp only [addr_add, Nat.zero_add]; exact s1)
          obtain ⟨m1, m2⟩ := s2.move (b := b) (nid := nid) (by rw [fup_self]; rfl) hφ hf
          simp only [fup_self, fup_fup] at m1 m2
          refine ⟨_, w', upd φ nid (some k, cap), hrun, .own nid _ cap (some k) (upd_self _ _ _) hroom (by simp), ?_⟩
          have hex := (Ext.refl (wr φ h) w).trans s3 hls1
          refine ⟨m1, hex, PhiExt.upd _ hf, ?_, fun id hid => upd_ne _ _ (by have : id < nid ∨ nid + 1 ≤ id := hid; omega)⟩
          exact (hls1.trans s4 (Nat.le_refl _)).trans m2 s3.size
      · have hk : ∃ arr0, (Builtin.firstCells wd q (.slice (ro.map fun k => ⟨k, 0, none⟩) q cap)).run P w.drew = .ok arr0 w.drew ∧ RL φ (wr φ h) w.drew (cs.take (q * wd)) arr0 := by
          cases ro with
          | none =>
            have hcap := hnil rfl
            have q0 : q = 0 := by omega
            subst q0
            exact ⟨#[], by simp [Builtin.firstCells], ⟨by simp, fun i c v hc => by simp at hc⟩⟩
          | some k =>
            obtain ⟨arr0, a1, a2⟩ := own_cells (P := P) hr.drew hb hφ n3
            exact ⟨arr0, by simpa [Builtin.firstCells] using a1, a2⟩
        obtain ⟨old, hold, hlo⟩ := hk
        obtain ⟨_, arr', hfc', hl', _⟩ := tailA_sound (P := P) hr.drew h1 h2 hy.drew
        obtain ⟨nc, h3, h4⟩ := run_append_grow (rty := rty) H hlen (by omega : cap < q + n) hc hold hfc'
        have gk := Goes.kill (nid := nid) hr.drew b
        have g := grow_new (e := ty') (q := q) (hr.drew.kill b) hf (hlo.mono gk.phi gk.ext gk.less) (hl'.mono gk.phi gk.ext gk.less) H.zsize (by rw [List.length_take, Nat.min_eq_left n3]) hnl h3
        exact ⟨_, _, _, h4, .own nid _ nc (some w.heap.size) (upd_self _ _ _) h3 (by simp), (gk.comp g).ofDrew⟩
  · cases er

theorem appendA_sound (hr : RH φ h w) (hf : φ nid = none) {at_ : Array TypeId} {rty : TypeId} {x y : AV} {xv yv : Value} {r : Txn} (hx : RA φ (wr φ h) w x xv) (hy : RA φ (wr φ h) w y yv)
    (er : (appendA P at_ x y nid).run t h = some r) (hc : r.chk = true) : Gets P φ h w nid r (Builtin.append_ at_ rty #[xv, yv]) := by
  unfold appendA at er
  obtain ⟨⟨e, sz, bytes⟩, h0, e1⟩ := Rd.bind_some er
  clear er
  rw [Rd.run_lift] at h0
  obtain ⟨ty, ty2, z, ei, H⟩ := appTy_some h0
  obtain ⟨n, h1, e2⟩ := Rd.bind_some e1
  clear e1
  rw [Rd.run_lift] at h1
  obtain ⟨new, h2, e3⟩ := Rd.bind_some e2
  clear e2
  obtain ⟨_, h3, e4⟩ := Rd.bind_some e3
  clear e3
  have h3 := Rd.need_some h3
  split at e4
  · exact appNil_sound hr hf H ⟨none, RA.v_eq hx⟩ hx hy h1 h2 e4 hc
  · refine appNil_sound hr hf H ?_ hx hy h1 h2 e4 hc
    cases hx with
    | p _ _ hx => cases hx with
      | nl ad => exact ⟨ad, rfl⟩
  · exact appOwn_sound hr hf H hx hy h1 h2 h3 e4 hc
  · cases e4

end ops
end Go.Ab

namespace Go.Ab
set_option linter.unusedSectionVars false
variable [Env]

section ops
variable {P : Program} {G : Glob} [DecOk G] {m nid : Nat} {φ : Phi} {h : Nat → Blk} {t : Nat → AV} {a : Act} {w : World}

/-- New memory that no letter names. -/
theorem Goes.world {w' : World} (hr : RH φ h w) (h1 : w'.os = w.os) (h2 : w'.tape = w.tape) (h3 : w'.output = w.output) (h4 : w.heap.size ≤ w'.heap.size)
    (h5 : ∀ r, r < w.heap.size → w'.heap[r]? = w.heap[r]?) : Goes φ h w nid 0 φ h w' := by
  have hex : Ext (wr φ h) w w' := ⟨h1, h2, h3, h4, fun r hr _ => h5 r hr⟩
  exact ⟨⟨fun id => (hr.blk id).mono (PhiExt.refl _) hex (Less.refl _ _) fun r c _ hφ => h5 r (hr.bound _ _ _ hφ), hr.inj, fun i r c hi => Nat.lt_of_lt_of_le (hr.bound i r c hi) h4⟩,
    hex, PhiExt.refl _, Less.refl _ _, fun _ _ => rfl⟩

theorem Gets.convert {s d : TypeId} {x u : Value} {y : AV} (hr : RH φ h w) (e : (convert s d x).run P w = .ok u w) (hy : RA φ (wr φ h) w y u) : Gets P φ h w nid { res := y } (convert s d x) :=
  Gets.pure hr e hy

theorem byteRows_get (l : List UInt8) (i : Nat) (row : List PV) (e : (byteRows l)[i]? = some row) : ∃ b, l[i]? = some b ∧ row = [.v (.int .u8 b.toNat)] := by
  unfold byteRows at e
  simp only [List.getElem?_map] at e
  cases hb : l[i]? with
  | none => rw [hb] at e; cases e
  | some b => rw [hb] at e; simp at e; exact ⟨b, rfl, e.symm⟩

theorem str_bytes (hr : RH φ h w) {s d e : TypeId} {b : ByteArray} {sd : TypeDesc} (h1 : P.underlying s = some sd) (h2 : P.underlying d = some (.slice e)) (h3 : P.underlying e = some (.int .u8)) :
    Gets P φ h w nid { res := .p (.sl (byteRows b.data.toList)) } (convert s d (.string b)) := by
  have hrun := Lib.run_convert_string_bytes w s d e b h1 h2 h3
  have hcap : b.size ≤ grownCap w b.size 0 e := by simp [grownCap, Question.cut]
  have hsize : w.heap.size ≤ (Lib.bytesWorld w e b).heap.size := by rw [Lib.bytesWorld_size]; omega
  have g := Goes.world (nid := nid) (w' := Lib.bytesWorld w e b) hr rfl rfl rfl hsize fun r hr => Lib.bytesWorld_at_old w e b r hr
  refine ⟨_, _, φ, hrun, ?_, g⟩
  have hlen : b.size = (byteRows b.data.toList).length := by simp [byteRows]
  have hcap' : (byteRows b.data.toList).length ≤ grownCap w b.size 0 e := by rw [← hlen]; exact hcap
  have hrow : ∀ (i j : Nat) (row : List PV) (c : PV), (byteRows b.data.toList)[i]? = some row → row[j]? = some c → i < b.size ∧ j = 0 ∧ c = .v (.int .u8 (b.data.toList.getD i 0).toNat) := by
    intro i j row c hi hj
    obtain ⟨x, hx, rfl⟩ := byteRows_get _ _ _ hi
    cases j with
    | zero =>
      simp at hj; subst hj
      have : i < b.data.toList.length := (List.getElem?_eq_some_iff.1 hx).1
      refine ⟨by simpa using this, rfl, ?_⟩
      simp [List.getD, hx]
    | succ j => simp at hj
  have := RA.p (φ := φ) _ _ (RP.sl (W := wr φ h) (w := Lib.bytesWorld w e b) (byteRows b.data.toList) w.heap.size 0 1 (grownCap w b.size 0 e) (fun i _ => .int .u8 (b.data.toList.getD i 0).toNat)
    (fun i row hi => by obtain ⟨x, _, rfl⟩ := byteRows_get _ _ _ hi; rfl)
    (fun i j row c hi hj => by
      obtain ⟨h1, h2, _⟩ := hrow i j row c hi hj
      subst h2
      rw [show 0 + (i * 1 + 0) = i by omega]
      exact Lib.bytesWorld_cell w e b i h1)
    (fun i j row c hi hj => by
      obtain ⟨_, _, h3⟩ := hrow i j row c hi hj
      rw [h3]; exact .v _)
    (fun hw => by
      obtain ⟨i, c, _, h3⟩ := hw
      have := hr.bound _ _ _ h3
      omega)
    (by rw [Lib.bytesWorld_size]; omega) hcap')
  rw [← hlen] at this
  exact this

theorem RH.shape {b r c : Nat} (hr : RH φ h w) (hl : (h b).live = true) (hφ : φ b = some (some r, c)) : ∃ n, w.shape? r = some ((h b).ty, n) ∧ (h b).cells.length ≤ n := by
  obtain ⟨vs, h1, h2, _⟩ := hr.open hl hφ
  exact ⟨vs.size, by simp [World.shape?, h1], h2⟩

theorem run_seenAt {r o n : Nat} {e : TypeId} (hs : w.shape? r = some (e, n)) : (Conv.seenAt ⟨r, o, none⟩).run P w = .ok ⟨r, o, none⟩ w := by
  simp [Conv.seenAt, viewAt, hs]

theorem bytesOf?_get : ∀ (cs : List AV) (l : List UInt8), bytesOf? cs = some l → l.length = cs.length ∧ ∀ (j : Nat) (x : UInt8), l[j]? = some x → cs[j]? = some (AV.v (.int .u8 x.toNat))
  | [], l, e => by cases e; exact ⟨rfl, fun j x hx => by simp at hx⟩
  | c :: cs, l, e => by
    unfold bytesOf? at e
    split at e
    · rename_i b l' hb hl
      cases e
      obtain ⟨h1, h2⟩ := bytesOf?_get cs l' hl
      refine ⟨by simp [h1], fun j x hx => ?_⟩
      cases j with
      | zero =>
        simp at hx; subst hx
        unfold byteOf? at hb
        split at hb
        · rename_i k
          cases hk : Nat.blt k.toNat 256 && decide (0 ≤ k) with
          | false => rw [hk] at hb; cases hb
          | true =>
            rw [hk] at hb
            cases hb
            simp only [Bool.and_eq_true, decide_eq_true_eq] at hk
            have h3 := Nat.le_of_ble_eq_true hk.1
            have h4 : (UInt8.ofNat k.toNat).toNat = k.toNat := by simp; omega
            simp only [List.getElem?_cons_zero, h4, Int.toNat_of_nonneg hk.2]
            rfl
        · cases hb
      | succ j => simp at hx; simpa using h2 j x hx
    · cases e

theorem convA_sound (hr : RH φ h w) {s d : TypeId} {x y : AV} {xv : Value} (e : (convA P s d x).run t h = some y) (hx : RA φ (wr φ h) w x xv) :
    Gets P φ h w nid { res := y } (convert s d xv) := by
  unfold convA at e
  split at e
  · rename_i sd k k' n h1 h2
    cases e
    rw [RA.v_eq hx]
    refine Gets.convert hr ?_ (RA.v _)
    cases sd <;> simp [convert, run_underlying h1, run_underlying h2, Conv.intToInt]
  · rename_i sd b h1 h2
    cases e
    rw [RA.v_eq hx]
    refine Gets.convert hr ?_ (RA.v _)
    cases sd <;> simp [convert, run_underlying h1, run_underlying h2]
  · rename_i sd k n h1 h2
    cases e
    rw [RA.v_eq hx]
    refine Gets.convert hr ?_ (RA.v _)
    cases sd <;> simp [convert, run_underlying h1, run_underlying h2, Conv.intToString]
  · rename_i sd el b h1 h2
    split at e
    · rename_i h3
      cases e
      rw [RA.v_eq hx]
      exact str_bytes hr h1 h2 h3
    · cases e
  · rename_i el b off n h1 h2
    split at e
    · rename_i h3
      replace e := Rd.blk_some e
      obtain ⟨l, hl, e1⟩ := Rd.bind_some e
      clear e
      rw [Rd.run_lift] at hl
      obtain ⟨_, hn, e2⟩ := Rd.bind_some e1
      clear e1
      have hn := Rd.need_some hn
      simp only [Bool.and_eq_true] at hn
      obtain ⟨n1, n2⟩ := hn
      have n2 := Nat.eq_of_beq_eq_true n2
      cases e2
      obtain ⟨l1, l2⟩ := bytesOf?_get _ _ hl
      cases hx with
      | sub _ _ _ cap r c hφ hcap =>
        subst n2
        refine Gets.convert hr (run_convert_bytes_back w s d el ⟨r, off, none⟩ cap l h1 h3 h2 fun j hj => ?_) (RA.v _)
        have hq := l2 j l[j] (by simp)
        rw [List.getElem?_take_of_lt hj, List.getElem?_drop] at hq
        obtain ⟨v, hv, hra⟩ := hr.cell (o := off + j) n1 hφ hq
        rw [addr_add, hv, RA.v_eq hra]
    · cases e
  · rename_i ty b off h1 h2
    replace e := Rd.blk_some e
    obtain ⟨_, hn, e1⟩ := Rd.bind_some e
    clear e
    have hn := Rd.need_some hn
    simp only [Bool.and_eq_true, decide_eq_true_eq] at hn
    obtain ⟨⟨⟨n1, n2⟩, n3⟩, n4⟩ := hn
    cases e1
    cases hx with
    | ptr _ _ r c hφ =>
      refine Gets.convert hr ?_ (.ptr b off r c hφ)
      obtain ⟨n, hs, hlen⟩ := hr.shape n3 hφ
      cases hsz : tySize P ty with
      | none => rw [hsz] at n2; cases n2
      | some sz =>
        have hne : sz ≠ 0 := fun e0 => n1 (by rw [hsz, e0])
        have : ¬ n ≤ off := by omega
        simp [convert, run_underlying h1, run_underlying h2, Conv.unsafePointer, run_seenAt hs, cellsIn, hs, run_sizeOf hsz, hne, this]
  · rename_i ty b off h1 h2
    replace e := Rd.blk_some e
    split at e
    · rename_i bt cs hb
      obtain ⟨_, hn, e1⟩ := Rd.bind_some e
      clear e
      have hn := Rd.need_some hn
      simp only [Bool.and_eq_true] at hn
      obtain ⟨n2, n3⟩ := hn
      cases e1
      cases hx with
      | ptr _ _ r c hφ =>
        refine Gets.convert hr ?_ (.ptr b off r c hφ)
        have hB := hr.blk b
        rw [hb] at hB
        obtain ⟨r', c', vs, q1, q2, q3⟩ := hB
        rw [hφ] at q1; simp only [Option.some.injEq, Prod.mk.injEq] at q1; obtain ⟨rfl, rfl⟩ := q1
        have hs : w.shape? r = some (bt, cs.length) := by simp [World.shape?, q2, q3.size]
        cases hsz : tySize P ty with
        | none => rw [hsz] at n2; cases n2
        | some sz =>
          by_cases h0 : sz = 0
          · subst h0
            simp [convert, run_underlying h1, run_underlying h2, Conv.unsafePointer, run_seenAt hs, run_sizeOf hsz, variablesAt, hs, n3]
          · simp [convert, run_underlying h1, run_underlying h2, Conv.unsafePointer, run_seenAt hs, run_sizeOf hsz, h0, variablesAt, hs, n3]
    · cases e
  · cases e

end ops
end Go.Ab

namespace Go.Ab
set_option linter.unusedSectionVars false
variable [Env]

section ops
variable {P : Program} {G : Glob} [DecOk G] {m nid : Nat} {φ : Phi} {h : Nat → Blk} {t : Nat → AV} {a : Act} {w : World}

theorem clearA_sound (hr : RH φ h w) {ty rty : TypeId} {x : AV} {xv : Value} {z : Txn} (e : (clearA P ty x).run t h = some z) (hx : RA φ (wr φ h) w x xv) :
    Gets P φ h w nid z (Builtin.clear_ #[ty] rty #[xv]) := by
  unfold clearA at e
  obtain ⟨el, h1, e1⟩ := Rd.bind_some e
  clear e
  rw [Rd.run_lift] at h1
  have hu := elem_of h1
  obtain ⟨sz, h2, e2⟩ := Rd.bind_some e1
  clear e1
  rw [Rd.run_lift] at h2
  obtain ⟨zv, h3, e3⟩ := Rd.bind_some e2
  clear e2
  rw [Rd.run_lift] at h3
  split at e3
  · cases e3
    refine Gets.pure hr (v := .tuple #[]) ?_ (.tup [] #[] rfl fun i c v hc => by simp at hc)
    cases hx with
    | p _ _ hx => cases hx with
      | sl0 ad cap => cases ad <;> simp [Builtin.clear_, run_underlying hu]
      | sl _ b off sz cap vals => simp [Builtin.clear_, run_underlying hu]
  · rename_i b off n
    replace e3 := Rd.blk_some e3
    obtain ⟨_, hn, e4⟩ := Rd.bind_some e3
    clear e3
    have hn := Rd.need_some hn
    simp only [Bool.and_eq_true] at hn
    obtain ⟨⟨⟨n1, n2⟩, n3⟩, n4⟩ := hn
    have n2 := Nat.le_of_ble_eq_true n2
    cases e4
    cases hx with
    | sub _ _ _ cap r c hφ hcap =>
      obtain ⟨w', e1, e2, e3, e4⟩ := storeCells_sound (P := P) (o := off) hφ ((Builtin.zeroCells zv.cells (n + 1)).toList.map AV.v) (Builtin.zeroCells zv.cells (n + 1)).toList 0 h w hr n1 (by simp)
        (by simpa only [List.all_eq_true] using n3) (fun j x v hx hv => by
          simp only [List.getElem?_map, hv, Option.map_some, Option.some.injEq] at hx
          subst hx; exact RA.v v) (by simpa using n2)
      refine ⟨.tuple #[], w', φ, ?_, .tup [] #[] rfl fun i c v hc => by simp at hc, ⟨e2, e3, PhiExt.refl _, e4, fun _ _ => rfl⟩⟩
      simp [Builtin.clear_, run_underlying hu, run_zeroValue h3, e1]
  · cases e3

theorem sliceDataA_sound (hr : RH φ h w) {ts : Array TypeId} {rty : TypeId} {x : AV} {xv : Value} {y : AV} (e : (sliceDataA x).run t h = some y) (hx : RA φ (wr φ h) w x xv) :
    ∃ u, (Builtin.unsafeSliceData_ ts rty #[xv]).run P w = .ok u w ∧ RA φ (wr φ h) w y u := by
  unfold sliceDataA at e
  split at e
  · cases e
    rw [RA.v_eq hx]
    exact ⟨_, rfl, RA.v _⟩
  · rename_i b n
    replace e := Rd.blk_some e
    split at e
    · rename_i ty wd c cs hb
      cases e
      cases hx with
      | own _ _ cap r hφ hn hnil =>
        have hB := hr.blk b
        rw [hb] at hB
        obtain ⟨ro, cap', p1, p2⟩ := hB
        rw [hφ] at p1; simp only [Option.some.injEq, Prod.mk.injEq] at p1; obtain ⟨rfl, rfl⟩ := p1
        cases r with
        | none => cases p2.1
        | some r =>
          obtain ⟨vs, q1, q2, q3, q4⟩ := p2
          have hc : cap ≠ 0 := fun e0 => by
            rw [e0, Nat.zero_mul] at q2
            simp at q3; omega
          exact ⟨_, Lib.run_unsafeSliceData_row w ts rty ⟨r, 0, none⟩ n cap hc, .ptr b 0 r cap hφ⟩
    · cases e
  · cases e

theorem heap_freeze_ne (w : World) (p : Addr) (n r : Nat) (hr : r ≠ p.block) : (w.freeze p n).heap[r]? = w.heap[r]? := by
  unfold World.freeze
  split
  · rfl
  · simp only [Array.getElem?_modify]
    rw [if_neg (by omega)]
theorem size_freeze (w : World) (p : Addr) (n : Nat) : (w.freeze p n).heap.size = w.heap.size := by
  unfold World.freeze
  split
  · rfl
  · simp

/-- A block that is let go of may become what it will. -/
theorem Goes.gone {b r c : Nat} (hr : RH φ h w) (hl : (h b).live = true) (hφ : φ b = some (some r, c)) {w' : World} (h1 : w'.os = w.os) (h2 : w'.tape = w.tape) (h3 : w'.output = w.output)
    (h4 : w'.heap.size = w.heap.size) (h5 : ∀ q, q ≠ r → w'.heap[q]? = w.heap[q]?) : Goes φ h w nid 0 φ (fup h b .dead) w' := by
  have hex : Ext (wr φ h) w w' := ⟨h1, h2, h3, Nat.le_of_eq h4.symm, fun q _ hq => h5 q fun e => hq (e ▸ ⟨b, c, hl, hφ⟩)⟩
  have hls : Less w.heap.size (wr φ h) (wr φ (fup h b .dead)) := less_dead
  have hk := hr.kill b
  refine ⟨⟨fun id => ?_, hk.inj, fun i q c hi => by rw [h4]; exact hr.bound i q c hi⟩, hex, PhiExt.refl _, hls, fun _ _ => rfl⟩
  by_cases e : id = b
  · subst e; rw [fup_self]; trivial
  · rw [fup_ne _ _ e]
    exact (hr.blk id).mono (PhiExt.refl _) hex hls fun q c' hl' hq => h5 q fun e' => by subst e'; exact e (hr.inj id b c' c _ hl' hl hq hφ)

theorem unsafeStringA_sound (hr : RH φ h w) {pt it rty : TypeId} {x n : AV} {xv nv : Value} {z : Txn} (e : (unsafeStringA P pt x n).run t h = some z) (hc : z.chk = true)
    (hx : RA φ (wr φ h) w x xv) (hn : RA φ (wr φ h) w n nv) :
    Gets P φ h w nid z (Builtin.unsafeString_ #[pt, it] rty #[xv, nv]) := by
  unfold unsafeStringA at e
  split at e
  · rename_i b k
    have hnv := RA.v_eq hn
    subst hnv
    replace e := Rd.blk_some e
    split at e
    · rename_i ty cs hb
      split at e
      · rename_i u hu
        obtain ⟨_, hn, e1⟩ := Rd.bind_some e
        clear e
        have hn := Rd.need_some hn
        simp only [Bool.and_eq_true] at hn
        obtain ⟨n1, n2⟩ := hn
        have n1 := Nat.eq_of_beq_eq_true n1
        have n2 := Nat.eq_of_beq_eq_true n2
        subst n1
        obtain ⟨l, hl, e2⟩ := Rd.bind_some e1
        clear e1
        rw [Rd.run_lift] at hl
        cases e2
        simp only [Bool.and_eq_true, decide_eq_true_eq] at hc
        obtain ⟨⟨c1, c2⟩, c3⟩ := hc
        obtain ⟨l1, l2⟩ := bytesOf?_get _ _ hl
        have hlen : l.length = k.toNat := by rw [l1]; simp; omega
        have hk : (l.length : Int) = k := by omega
        cases hx with
        | ptr _ _ r c hφ =>
          have hlive : (h b).live = true := by rw [hb]; rfl
          obtain ⟨cnt, hs, hle⟩ := hr.shape hlive hφ
          rw [hb] at hs hle
          have hle' : l.length ≤ cnt := by
            have : (Blk.cells (.vec ty 1 cs)).length = cs.length := rfl
            omega
          have hrun := Lib.run_unsafeString_row w pt it rty ty hu n2 r cnt hs l (fun e0 => by rw [e0] at hlen; simp at hlen; omega) hle'
            (by have : IntKind.i64.max = 9223372036854775807 := rfl
                omega)
            (fun j x hx => by
              have hq := l2 j x hx
              have hj : j < k.toNat := by
                have := (List.getElem?_eq_some_iff.1 hx).1
                omega
              rw [List.getElem?_take_of_lt hj] at hq
              obtain ⟨v, hv, hra⟩ := hr.cell (o := j) hlive hφ (by rw [hb]; exact hq)
              rw [addr_add, Nat.zero_add, hv, RA.v_eq hra])
          rw [hk] at hrun
          refine ⟨_, _, φ, hrun, RA.v _, ?_⟩
          exact Goes.gone hr hlive hφ (by unfold World.freeze; split <;> rfl) (by unfold World.freeze; split <;> rfl) (by unfold World.freeze; split <;> rfl) (size_freeze _ _ _) fun q hq => heap_freeze_ne _ _ _ _ hq
      · cases e
    · cases e
  · rename_i k
    have hnv := RA.v_eq hn
    subst hnv
    cases e
    have hk := of_decide_eq_true hc
    subst hk
    rw [RA.v_eq hx]
    exact Gets.pure hr (Lib.run_unsafeString_none w pt it rty none) (RA.v _)
  · cases e

end ops
end Go.Ab

namespace Go.Ab
set_option linter.unusedSectionVars false
variable [Env]

section ops
variable {P : Program} {G : Glob} [DecOk G] {m nid : Nat} {φ : Phi} {h : Nat → Blk} {t : Nat → AV} {a : Act} {w : World}

theorem Does.congr {x : Txn} {s s' : Sem Next} (hd : Does P φ h w nid x s) (e : s'.run P w = s.run P w) : Does P φ h w nid x s' := by
  obtain ⟨nx, v, w', φ', h1, h2⟩ := hd
  exact ⟨nx, v, w', φ', e.trans h1, h2⟩

theorem oConv_sound (hR : Rel G m φ h t a w) {s d : TypeId} {y : Operand} {x : Txn} (e : (oConv P G s d y).run t h = some x) : Gets P φ h w nid x (convert s d (a.eval y)) := by
  obtain ⟨z, hz, e⟩ := Rd.bind_some e
  obtain ⟨r, hr, rfl⟩ := pureR_some e
  exact convA_sound hR.rh hr (opnd_sound hR hz)

theorem oSlice_sound (hR : Rel G m φ h t a w) {ty : TypeId} {x : Operand} {lo hi : Option Operand} {z : Txn} (e : (oSlice P G ty x lo hi).run t h = some z) (hc : z.chk = true) :
    Gets P φ h w nid z (Instr.sliceAt ty (a.eval x) (lo.map a.eval) (hi.map a.eval) none) := by
  obtain ⟨_, h0, e⟩ := Rd.bind_some e
  have h0 := Rd.need_some h0
  obtain ⟨xv, hx, e⟩ := Rd.bind_some e
  obtain ⟨la, hl, e⟩ := Rd.bind_some e
  obtain ⟨ha, hh, e⟩ := Rd.bind_some e
  refine sliceA_sound hR (opnd_sound hR hx) hl hh (fun el hel => ?_) e hc
  unfold szOk at h0
  rw [hel] at h0
  exact Option.isSome_iff_exists.1 h0

theorem one_arr {x : AV} {vs : Array Value} (hl : RL φ (wr φ h) w [x] vs) : ∃ v, vs = #[v] ∧ RA φ (wr φ h) w x v := by
  have hs := hl.size
  refine ⟨vs[0]'(by rw [hs]; simp), ?_, hl.get 0 x _ rfl (by simp)⟩
  apply Array.ext
  · simpa using hs
  · intro i h1 h2
    have : i = 0 := by simp at hs h2; omega
    subst this
    rfl
theorem two_arr {x y : AV} {vs : Array Value} (hl : RL φ (wr φ h) w [x, y] vs) : ∃ u v, vs = #[u, v] ∧ RA φ (wr φ h) w x u ∧ RA φ (wr φ h) w y v := by
  have hs := hl.size
  refine ⟨vs[0]'(by rw [hs]; simp), vs[1]'(by rw [hs]; simp), ?_, hl.get 0 x _ rfl (by simp), hl.get 1 y _ rfl (by simp)⟩
  apply Array.ext
  · simpa using hs
  · intro i h1 h2
    have : i = 0 ∨ i = 1 := by simp at hs h2; omega
    rcases this with rfl | rfl <;> rfl

theorem oBuiltin_sound (hR : Rel G m φ h t a w) (hf : φ nid = none) {b : Builtin} {args : Array Operand} {at_ : Array TypeId} {ty : TypeId} {cs : Array Bool} {z : Txn}
    (e : (oBuiltin P G nid b args at_).run t h = some z) (hc : z.chk = true) : Does P φ h w nid z (builtin b at_ ty cs (args.map a.eval)) := by
  unfold oBuiltin at e
  obtain ⟨as, ha, e1⟩ := Rd.bind_some e
  clear e
  have hl := opnds_arr hR ha
  split at e1
  · rename_i x
    obtain ⟨ty', ht, e2⟩ := Rd.bind_some e1
    clear e1
    rw [Rd.run_lift] at ht
    obtain ⟨r, hr, rfl⟩ := pureR_some e2
    obtain ⟨v, hv, hx⟩ := one_arr hl
    rw [hv]
    obtain ⟨u, h1, h2⟩ := lenA_sound (P := P) (rty := ty) hR.rh hr hx
    refine Gets.does (s := Builtin.len_ at_ ty #[v]) (Gets.pure hR.rh ?_ h2)
    rw [← h1]
    simp [Builtin.len_, ht]
  · rename_i x y
    obtain ⟨u, v, hv, hx, hy⟩ := two_arr hl
    rw [hv]
    exact Gets.does (s := Builtin.append_ at_ ty #[u, v]) (appendA_sound hR.rh hf hx hy e1 hc)
  · rename_i x
    obtain ⟨r, hr, rfl⟩ := pureR_some e1
    obtain ⟨v, hv, hx⟩ := one_arr hl
    rw [hv]
    unfold partA at hr
    split at hr
    · cases hr
      rw [RA.v_eq hx]
      exact Gets.does (s := Builtin.real_ at_ ty #[.complex .f64 0 0]) (Gets.pure hR.rh (v := .float .f64 0) rfl (RA.v _))
    · cases hr
  · rename_i x
    obtain ⟨r, hr, rfl⟩ := pureR_some e1
    obtain ⟨v, hv, hx⟩ := one_arr hl
    rw [hv]
    unfold partA at hr
    split at hr
    · cases hr
      rw [RA.v_eq hx]
      exact Gets.does (s := Builtin.imag_ at_ ty #[.complex .f64 0 0]) (Gets.pure hR.rh (v := .float .f64 0) rfl (RA.v _))
    · cases hr
  · exact Gets.does (s := Builtin.min_ at_ ty (args.map a.eval)) (min_sound hR.rh (inferInstance : DecOk G) e1 hl)
  · exact Gets.does (s := Builtin.max_ at_ ty (args.map a.eval)) (max_sound hR.rh (inferInstance : DecOk G) e1 hl)
  · rename_i x
    obtain ⟨ty', ht, e2⟩ := Rd.bind_some e1
    clear e1
    rw [Rd.run_lift] at ht
    obtain ⟨v, hv, hx⟩ := one_arr hl
    rw [hv]
    obtain ⟨u, w', φ', h1, h2⟩ := clearA_sound (P := P) (nid := nid) (rty := ty) hR.rh e2 hx
    refine Gets.does (s := Builtin.clear_ at_ ty #[v]) ⟨u, w', φ', ?_, h2⟩
    rw [← h1]
    simp [Builtin.clear_, ht]
  · rename_i x
    obtain ⟨r, hr, rfl⟩ := pureR_some e1
    obtain ⟨v, hv, hx⟩ := one_arr hl
    rw [hv]
    obtain ⟨u, h1, h2⟩ := sliceDataA_sound (P := P) (ts := at_) (rty := ty) hR.rh hr hx
    exact Gets.does (s := Builtin.unsafeSliceData_ at_ ty #[v]) (Gets.pure hR.rh h1 h2)
  · rename_i x n
    obtain ⟨_, hs, e2⟩ := Rd.bind_some e1
    clear e1
    have hs := Nat.eq_of_beq_eq_true (Rd.need_some hs)
    obtain ⟨ty', ht, e3⟩ := Rd.bind_some e2
    clear e2
    rw [Rd.run_lift] at ht
    obtain ⟨u, v, hv, hx, hy⟩ := two_arr hl
    rw [hv]
    have hat : at_ = #[ty', at_[1]'(by omega)] := by
      apply Array.ext
      · simpa using hs
      · intro i h1 h2
        have : i = 0 ∨ i = 1 := by omega
        rcases this with rfl | rfl
        · simpa using (Array.getElem?_eq_some_iff.1 ht).2
        · rfl
    rw [hat]
    exact Gets.does (unsafeStringA_sound (P := P) (nid := nid) (rty := ty) hR.rh e3 hc hx hy)
  · cases e1

theorem oCallee_sound (hR : Rel G m φ h t a w) (hf : φ nid = none) (o : Oper) {c : Call} (ho : o.op = .call c) {z : Txn}
    (e : (oCallee P G nid c.callee c.args c.argTypes).run t h = some z) (hc : z.chk = true) : Does P φ h w nid z (execOp a.eval o) := by
  unfold oCallee at e
  split at e
  · rename_i b hb
    have := oBuiltin_sound (ty := o.type) (cs := c.args.map fun | .const _ => true | _ => false) hR hf e hc
    refine this.congr ?_
    simp only [execOp, ho, resolve, hb, Sem.run_bind]
    rfl
  · cases e

/-- An operation that does not call. -/
theorem opA_sound (hR : Rel G m φ h t a w) (hf : φ nid = none) (o : Oper) {x : Txn} (e : (opA P G nid o.op).run t h = some x) (hc : x.chk = true) :
    Does P φ h w nid x (execOp a.eval o) := by
  cases ho : o.op <;> simp only [ho, opA] at e
  case move y => simpa only [execOp, ho] using oMove_sound hR e
  case assign y => simpa only [execOp, ho] using oMove_sound hR e
  case pick c y z => simpa only [execOp, ho] using oPick_sound hR e
  case alloc ty => simpa only [execOp, ho] using (oAlloc_sound hR hf e).does
  case box ty y => simpa only [execOp, ho] using (oBox_sound hR hf e).does
  case build ty ps => simpa only [execOp, ho] using (oBuild_sound hR e).does
  case buildSlice ty n ps => simpa only [execOp, ho] using (oBuildSlice_sound hR hf e).does
  case load ty y => simpa only [execOp, ho] using (oLoad_sound hR e).does
  case store ty y z => simpa only [execOp, ho] using oStore_sound hR e
  case nilCheck y => exact oNilCheck_sound hR o ho e
  case binOp op ty y z ty2 => simpa only [execOp, ho] using (oBin_sound hR e hc).does
  case unOp op ty y => simpa only [execOp, ho] using (oUn_sound hR e).does
  case convert s d y => simpa only [execOp, ho] using (oConv_sound hR e).does
  case makeFunc f y z => simpa only [execOp, ho] using (oFunc_sound hR e).does
  case slice ty y lo hi mx =>
    cases mx with
    | none => simpa only [execOp, ho, Option.map_none] using (oSlice_sound hR e hc).does
    | some _ => cases e
  case fieldAddr s y f => simpa only [execOp, ho] using (oField_sound hR e).does
  case indexAddr ty y i => simpa only [execOp, ho] using (oIndexAddr_sound hR e hc).does
  case index ty y i => simpa only [execOp, ho] using (oIndex_sound hR e hc).does
  case extract y i => simpa only [execOp, ho] using (oExtract_sound hR e).does
  case call c => exact oCallee_sound hR hf o ho e hc
  all_goals cases e

end ops
end Go.Ab
