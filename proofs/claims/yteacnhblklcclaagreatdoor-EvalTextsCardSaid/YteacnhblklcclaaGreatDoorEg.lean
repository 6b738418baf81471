/-
  Known answers of calls: tables, their look-up, and how an answer becomes a fact on the call. No condition.
-/
import Derived.Test.YteacnhblklcclaaGreatDoorEf
import Derived.Below
namespace Go.Ab
set_option linter.unusedSectionVars false

def eqSome (a b : Option Addr) : Bool := match a, b with
  | none, none => true
  | _, _ => false
def eqBytes : List UInt8 → List UInt8 → Bool
  | [], [] => true
  | a :: x, b :: y => bif Nat.beq a.toNat b.toNat then eqBytes x y else false
  | _, _ => false
def eqInt : Int → Int → Bool
  | .ofNat a, .ofNat b => Nat.beq a b
  | .negSucc a, .negSucc b => Nat.beq a b
  | _, _ => false
def kindNo : IntKind → Nat
  | .i64 => 1
  | .u8 => 2
  | .u64 => 3
  | _ => 0
def eqKind (a b : IntKind) : Bool := match a, b with
  | .i64, .i64 | .u8, .u8 | .u64, .u64 | .u32, .u32 => true
  | _, _ => false
def eqB (a b : Bool) : Bool := match a, b with
  | true, true | false, false => true
  | _, _ => false
/-- The values that stand in a table. -/
def eqV (a b : Value) : Bool := match a, b with
  | .int k a, .int k' b => bif eqKind k k' then eqInt a b else false
  | .string a, .string b => eqBytes a.data.toList b.data.toList
  | .bool a, .bool b => eqB a b
  | .pointer none, .pointer none => true
  | .slice none 0 0, .slice none 0 0 => true
  | .complex .f64 0 0, .complex .f64 0 0 => true
  | .float .f64 0, .float .f64 0 => true
  | _, _ => false

def all2 {α : Type} (f : α → α → Bool) : List α → List α → Bool
  | [], [] => true
  | a :: x, b :: y => bif f a b then all2 f x y else false
  | _, _ => false

def eqOp (a b : BinOp) : Bool := match a, b with
  | .add, .add | .sub, .sub | .mul, .mul | .quo, .quo | .rem, .rem => true
  | _, _ => false
mutual
def eqSE : Nat → SE → SE → Bool
  | 0, _, _ => false
  | _ + 1, .lit a, .lit b => eqInt a b
  | _ + 1, .var a, .var b => Nat.beq a b
  | f + 1, .neg a, .neg b => eqSE f a b
  | f + 1, .bin o a b, .bin o' a' b' => bif eqOp o o' then (bif eqSE f a a' then eqSE f b b' else false) else false
  | f + 1, .len a, .len b => eqTE f a b
  | _, _, _ => false
def eqTE : Nat → TE → TE → Bool
  | 0, _, _ => false
  | _ + 1, .var a, .var b => Nat.beq a b
  | _ + 1, .lit a, .lit b => eqBytes a.data.toList b.data.toList
  | f + 1, .cut a l h, .cut b l' h' => bif eqTE f a b then (bif eqSE f l l' then eqSE f h h' else false) else false
  | f + 1, .cat a b, .cat a' b' => bif eqTE f a a' then eqTE f b b' else false
  | _, _, _ => false
end

def eqP : Nat → PV → PV → Bool
  | 0, _, _ => false
  | _ + 1, .v a, .v b => eqV a b
  | f + 1, .i a, .i b => eqSE f a b
  | f + 1, .t a, .t b => eqTE f a b
  | _ + 1, .nl, .nl => true
  | f + 1, .sl a, .sl b => all2 (all2 (eqP f)) a b
  | _, _, _ => false

def eqA : Nat → AV → AV → Bool
  | 0, _, _ => false
  | f + 1, .p a, .p b => eqP f a b
  | _ + 1, .ptr a o, .ptr b p => bif Nat.beq a b then Nat.beq o p else false
  | _ + 1, .own a o, .own b p => bif Nat.beq a b then Nat.beq o p else false
  | f + 1, .ep a o, .ep b p => bif Nat.beq o p then all2 (eqP f) a b else false
  | f + 1, .agg a, .agg b => all2 (eqA f) a b
  | f + 1, .tup a, .tup b => all2 (eqA f) a b
  | _ + 1, .top, .top => true
  | _, _, _ => false

def eqBlk (f : Nat) (a b : Blk) : Bool := match a, b with
  | .dead, .dead => true
  | .fx t cs, .fx t' cs' => bif Nat.beq t t' then all2 (eqA f) cs cs' else false
  | .vec t w cs, .vec t' w' cs' => bif Nat.beq t t' then (bif Nat.beq w w' then all2 (eqA f) cs cs' else false) else false
  | _, _ => false

theorem eqBytes_eq : ∀ (a b : List UInt8), eqBytes a b = true → a = b
  | [], [], _ => rfl
  | a :: x, b :: y, h => by
    simp only [eqBytes] at h
    cases hb : Nat.beq a.toNat b.toNat with
    | false => rw [hb] at h; cases h
    | true =>
      rw [hb] at h
      rw [UInt8.toNat_inj.1 (Nat.eq_of_beq_eq_true hb), eqBytes_eq x y h]
  | [], _ :: _, h => by cases h
  | _ :: _, [], h => by cases h
theorem eqInt_eq {a b : Int} (h : eqInt a b = true) : a = b := by
  cases a <;> cases b <;> simp only [eqInt] at h <;> first | (cases h; done) | rw [Nat.eq_of_beq_eq_true h]
theorem eqKind_eq {a b : IntKind} (h : eqKind a b = true) : a = b := by
  unfold eqKind at h
  split at h <;> first | rfl | cases h
theorem eqB_eq {a b : Bool} (h : eqB a b = true) : a = b := by
  cases a <;> cases b <;> first | rfl | cases h
theorem eqV_eq {a b : Value} (h : eqV a b = true) : a = b := by
  unfold eqV at h
  split at h
  · rename_i k a k' b
    cases hk : eqKind k k' with
    | false => rw [hk] at h; cases h
    | true => rw [hk] at h; rw [eqKind_eq hk, eqInt_eq h]
  · rename_i a b
    have := eqBytes_eq _ _ h
    obtain ⟨⟨a⟩⟩ := a
    obtain ⟨⟨b⟩⟩ := b
    simp at this
    rw [this]
  · rw [eqB_eq h]
  · rfl
  · rfl
  · rfl
  · rfl
  · cases h

theorem all2_eq {α : Type} {f : α → α → Bool} (hf : ∀ a b, f a b = true → a = b) : ∀ (a b : List α), all2 f a b = true → a = b
  | [], [], _ => rfl
  | a :: x, b :: y, h => by
    simp only [all2] at h
    cases hb : f a b with
    | false => rw [hb] at h; cases h
    | true => rw [hb] at h; rw [hf a b hb, all2_eq hf x y h]
  | [], _ :: _, h => by cases h
  | _ :: _, [], h => by cases h

theorem cond_false_of {a b : Bool} (h : (bif a then b else false) = true) : a = true ∧ b = true := by
  cases a
  · cases h
  · exact ⟨rfl, h⟩

theorem eqOp_eq {a b : BinOp} (h : eqOp a b = true) : a = b := by
  unfold eqOp at h
  split at h <;> first | rfl | cases h
theorem bytes_eq {a b : ByteArray} (h : eqBytes a.data.toList b.data.toList = true) : a = b := by
  have := eqBytes_eq _ _ h
  obtain ⟨⟨a⟩⟩ := a
  obtain ⟨⟨b⟩⟩ := b
  simp at this
  rw [this]

theorem eqSTE_eq : ∀ (f : Nat), (∀ a b, eqSE f a b = true → a = b) ∧ (∀ a b, eqTE f a b = true → a = b)
  | 0 => ⟨fun a b h => by simp [eqSE] at h, fun a b h => by simp [eqTE] at h⟩
  | f + 1 => by
    obtain ⟨h1, h2⟩ := eqSTE_eq f
    constructor
    · intro a b h
      cases a <;> cases b <;> simp only [eqSE] at h <;> first
        | (cases h; done)
        | rw [eqInt_eq h]
        | rw [Nat.eq_of_beq_eq_true h]
        | rw [h1 _ _ h]
        | rw [h2 _ _ h]
        | (obtain ⟨e1, e2⟩ := cond_false_of h
           obtain ⟨e2, e3⟩ := cond_false_of e2
           rw [eqOp_eq e1, h1 _ _ e2, h1 _ _ e3])
    · intro a b h
      cases a <;> cases b <;> simp only [eqTE] at h <;> first
        | (cases h; done)
        | rw [bytes_eq h]
        | rw [Nat.eq_of_beq_eq_true h]
        | (obtain ⟨e1, e2⟩ := cond_false_of h
           obtain ⟨e2, e3⟩ := cond_false_of e2
           rw [h2 _ _ e1, h1 _ _ e2, h1 _ _ e3])
        | (obtain ⟨e1, e2⟩ := cond_false_of h
           rw [h2 _ _ e1, h2 _ _ e2])

theorem eqP_eq : ∀ (f : Nat) (a b : PV), eqP f a b = true → a = b
  | 0, a, b, h => by simp [eqP] at h
  | f + 1, a, b, h => by
    cases a <;> cases b <;> simp only [eqP] at h <;> first
      | (cases h; done)
      | rfl
      | rw [eqV_eq h]
      | rw [(eqSTE_eq f).1 _ _ h]
      | rw [(eqSTE_eq f).2 _ _ h]
      | rw [all2_eq (all2_eq (eqP_eq f)) _ _ h]

theorem eqA_eq : ∀ (f : Nat) (a b : AV), eqA f a b = true → a = b
  | 0, a, b, h => by simp [eqA] at h
  | f + 1, a, b, h => by
    cases a <;> cases b <;> simp only [eqA] at h <;> first
      | (cases h; done)
      | rfl
      | rw [eqP_eq f _ _ h]
      | rw [all2_eq (eqA_eq f) _ _ h]
      | (obtain ⟨e1, e2⟩ := cond_false_of h
         rw [Nat.eq_of_beq_eq_true e1, Nat.eq_of_beq_eq_true e2])
      | (obtain ⟨e1, e2⟩ := cond_false_of h
         rw [Nat.eq_of_beq_eq_true e1, all2_eq (eqP_eq f) _ _ e2])

theorem eqBlk_eq {f : Nat} {a b : Blk} (h : eqBlk f a b = true) : a = b := by
  cases a <;> cases b <;> simp only [eqBlk] at h <;> first
    | (cases h; done)
    | rfl
    | (obtain ⟨e1, e2⟩ := cond_false_of h
       rw [Nat.eq_of_beq_eq_true e1, all2_eq (eqA_eq f) _ _ e2])
    | (obtain ⟨e1, e2⟩ := cond_false_of h
       obtain ⟨e2, e3⟩ := cond_false_of e2
       rw [Nat.eq_of_beq_eq_true e1, Nat.eq_of_beq_eq_true e2, all2_eq (eqA_eq f) _ _ e3])

/-- A call and its answer. -/
structure Entry where
  f : FuncId
  args : List AV
  H : List Blk
  ans : Ans
def Entry.fits (e : Entry) (f : FuncId) (args : List AV) (H : List Blk) : Bool :=
  bif Nat.beq e.f f then (bif all2 (eqA 40) e.args args then all2 (eqBlk 40) e.H H else false) else false
def look : List Entry → Calling
  | [], _, _, _ => none
  | e :: r, f, args, H => bif e.fits f args H then some e.ans else look r f args H

theorem Entry.fits_eq {e : Entry} {f : FuncId} {args : List AV} {H : List Blk} (h : e.fits f args H = true) : e.f = f ∧ e.args = args ∧ e.H = H := by
  obtain ⟨e1, e2⟩ := cond_false_of h
  obtain ⟨e2, e3⟩ := cond_false_of e2
  exact ⟨Nat.eq_of_beq_eq_true e1, all2_eq (eqA_eq _) _ _ e2, all2_eq (fun _ _ => eqBlk_eq) _ _ e3⟩

section
variable [Env] {P : Program} {G : Glob} [DecOk G]
/-- The table's answers are kept. -/
def Known (P : Program) (G : Glob) (l : List Entry) : Prop := ∀ e ∈ l, Kept P G e.f e.args e.H e.ans

theorem Known.nil : Known P G [] := fun e he => by cases he
theorem Known.cons {e : Entry} {l : List Entry} (h : Kept P G e.f e.args e.H e.ans) (hl : Known P G l) : Known P G (e :: l) := by
  intro x hx
  rcases List.mem_cons.1 hx with rfl | hx
  · exact h
  · exact hl x hx
theorem Known.append {l r : List Entry} (h : Known P G l) (hr : Known P G r) : Known P G (l ++ r) := by
  intro x hx
  rcases List.mem_append.1 hx with hx | hx
  · exact h x hx
  · exact hr x hx

theorem look_kept : ∀ {l : List Entry}, Known P G l → ∀ f args H ans, look l f args H = some ans → Kept P G f args H ans
  | [], _, f, args, H, ans, e => by cases e
  | x :: l, h, f, args, H, ans, e => by
    simp only [look] at e
    cases hx : x.fits f args H with
    | true =>
      rw [hx] at e
      cases e
      obtain ⟨rfl, rfl, rfl⟩ := Entry.fits_eq hx
      exact h x (by simp)
    | false =>
      rw [hx] at e
      exact look_kept (l := l) (fun y hy => h y (by simp [hy])) f args H ans e

/-- One answer more, worked out over those that are known. -/
theorem kept_of_run (hP : Sane P) {keep : Keep} {l : List Entry} (hl : Known P G l) {n : Nat} {f : FuncId} {args : List AV} {H : List Blk} {ans : Ans}
    (e : callF P G keep (look l) n f args H = some ans) : Kept P G f args H ans := callF_kept hP keep (look_kept hl) n f args H ans e
end
end Go.Ab

namespace Go.Ab
set_option linter.unusedSectionVars false

def ps (l : List UInt8) : PV := .v (.string ⟨⟨l⟩⟩)
def pk (n : Int) : PV := .v (.int .i64 n)
def pm (n : Nat) : PV := .v (.int .i64 (.negSucc n))
def pb (b : Bool) : PV := .v (.bool b)
def pn : PV := .v (.slice none 0 0)
def pz : PV := .v (.pointer none)
def pc : PV := .v (.complex .f64 0 0)

def u8s (l : List Nat) : List PV := l.map fun n => .v (.int .u8 (Int.ofNat n))
def u64s (l : List Nat) : List PV := l.map fun n => .v (.int .u64 (Int.ofNat n))
def gtab : Nat → Option (List PV)
  | 1 => some (u64s [1, 10, 100, 1000, 10000, 100000, 1000000, 10000000, 100000000, 1000000000, 10000000000, 100000000000, 1000000000000, 10000000000000, 100000000000000,
      1000000000000000, 10000000000000000, 100000000000000000, 1000000000000000000, 10000000000000000000])
  | 2 => some (u8s [0, 1, 28, 2, 29, 14, 24, 3, 30, 22, 20, 15, 25, 17, 4, 8, 31, 27, 13, 23, 21, 19, 16, 7, 26, 12, 18, 6, 11, 5, 10, 9])
  | 3 => some (u8s [0, 1, 56, 2, 57, 49, 28, 3, 61, 58, 42, 50, 38, 29, 17, 4, 62, 47, 59, 36, 45, 43, 51, 22, 53, 39, 33, 30, 24, 18, 12, 5, 63, 55, 48, 27, 60, 41, 37, 16, 46, 35,
      44, 21, 52, 32, 23, 11, 54, 26, 40, 15, 34, 20, 31, 10, 25, 14, 19, 9, 13, 8, 7, 6])
  | _ => none
abbrev Num := BinOp → SE → SE → Option Bool
abbrev Txt := BinOp → TE → TE → Option Bool
abbrev Tabs := Nat → Option (List PV)
def gl (tab : Tabs) (num : Num) (txt : Txt) : Glob := Glob.mk tab num txt
/-- No table is looked at. -/
def noTab : Tabs := fun _ => none
/-- The functions whose rows stay their caller's. -/
def keepF : Keep := fun f => Nat.beq f 50 || Nat.beq f 49 || Nat.beq f 72 || Nat.beq f 48

def eqOld (a b : Nat × Blk) : Bool := bif Nat.beq a.1 b.1 then eqBlk 40 a.2 b.2 else false
def eqAns (o : Option Ans) (b : Ans) : Bool := match o with
  | none => false
  | some a => bif eqA 40 a.res b.res then (bif all2 eqOld a.old b.old then (bif all2 (eqBlk 40) a.new b.new then eqB a.nd b.nd else false) else false) else false
theorem eqAns_eq {o : Option Ans} {b : Ans} (h : eqAns o b = true) : o = some b := by
  cases o with
  | none => cases h
  | some a =>
    obtain ⟨e1, e2⟩ := cond_false_of h
    obtain ⟨e2, e3⟩ := cond_false_of e2
    obtain ⟨e3, e4⟩ := cond_false_of e3
    have h1 := eqA_eq _ _ _ e1
    have h2 := all2_eq (fun a b (h : eqOld a b = true) => by
      obtain ⟨e1, e2⟩ := cond_false_of h
      exact Prod.ext (Nat.eq_of_beq_eq_true e1) (eqBlk_eq e2)) _ _ e2
    have h3 := all2_eq (fun _ _ h => eqBlk_eq h) _ _ e3
    have h4 := eqB_eq e4
    cases a; cases b
    simp only at h1 h2 h3 h4
    rw [h1, h2, h3, h4]

/-- Does the call come to the entry's answer, over what is known? -/
def comes (P : Program) (G : Glob) (l : List Entry) (e : Entry) : Bool := eqAns (callF P G keepF (look l) 60 e.f e.args e.H) e.ans

section
variable [Env] {P : Program} {G : Glob} [DecOk G]
theorem kept_of_comes (hP : Sane P) {l : List Entry} (hl : Known P G l) {e : Entry} (h : comes P G l e = true) : Kept P G e.f e.args e.H e.ans :=
  kept_of_run hP hl (eqAns_eq h)
end
end Go.Ab

namespace Go.Ab
set_option linter.unusedSectionVars false
open Go.RowKit

section
variable [Env] {P : Program} {G : Glob}
def phi0 : Phi := fun _ => none
def blk0 : Nat → Blk := fun _ => .dead
theorem wr0 (r : Nat) : ¬ wr phi0 blk0 r := by
  rintro ⟨id, c, h, _⟩
  cases h
theorem rh0 (w : World) : RH phi0 blk0 w := ⟨fun _ => trivial, fun i j ci cj r h => (by cases h), fun i r c h => (by cases h)⟩

/-- Nothing that was there has turned. -/
theorem below_of_ext {w w' : World} (h : Ext (wr phi0 blk0) w w') : Below w.heap.size w w' :=
  ⟨h.os, h.tape, h.output, h.size, fun r hr => h.block r hr (wr0 r)⟩

theorem enters_of (hP : Sane P) {f : FuncId} {fn : Func} {c : Code} (hf : P.funcs[f]? = some fn) (hb : fn.body = some c) (vargs : Array Value) (w : World) :
    (callFunc f vargs).run P w = .ok (.enter f vargs) w := by
  have hne : ¬ fn.name = "runtime.NumGoroutine" := by simpa using (hP.stat f fn c hf hb).2.1
  simp [callFunc, hf, hb, hne]

/-- A call without letters. -/
theorem call_of_kept (hP : Sane P) {f : FuncId} {fn : Func} {c : Code} (hf : P.funcs[f]? = some fn) (hb : fn.body = some c) {args : List AV} {ans : Ans} (hk : Kept P G f args [] ans) (w : World) (vargs : Array Value)
    (ha : RL phi0 (wr phi0 blk0) w args vargs) (hg : Globs G phi0 blk0 w) {x : Value} (hx : ans.res = .p (.v x)) :
    Calls P f vargs w fun e w' => e = .returned x ∧ Below w.heap.size w w' := by
  obtain ⟨_, _, h3⟩ := hk
  obtain ⟨h4, _⟩ := h3 (fun k hk => by cases hk) phi0 blk0 w vargs (rh0 w) (fun k hk => by cases hk) (fun _ _ _ => rfl) (fun _ _ => rfl) ha hg
  rcases h4 with ⟨_, h5⟩ | ⟨v, w', h5, _⟩
  · refine h5.mono fun e w' he => ?_
    cases e with
    | returned v =>
      obtain ⟨φ', h', hl⟩ := he
      have := hl.res
      rw [hx] at this
      exact ⟨by rw [RA.v_eq this], below_of_ext hl.ext⟩
    | panicked c => exact he.elim
    | outgrown => exact he.elim
  · rw [enters_of hP hf hb] at h5; cases h5

theorem globs_none {num : Num} {txt : Txt} (w : World) : Globs (gl noTab num txt) phi0 blk0 w := fun g row h => by cases h
end

theorem rl_two [Env] {φ : Phi} {W : Wr} {w : World} {x y : AV} {u v : Value} (hx : RA φ W w x u) (hy : RA φ W w y v) : RL φ W w [x, y] #[u, v] := by
  refine ⟨rfl, fun i c z hc hz => ?_⟩
  match i with
  | 0 => simp at hc hz; subst hc; subst hz; exact hx
  | 1 => simp at hc hz; subst hc; subst hz; exact hy
  | i + 2 => simp at hc
end Go.Ab
