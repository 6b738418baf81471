/-
  An evaluator of the program over abstract values: what it is. No condition.
-/
import Derived.Orders
import Derived.Defers
import Derived.ScopeJumps
import Derived.Lib.Bytealg
namespace Go.Ab

mutual
/-- Whole numbers and texts of which only a name is known. -/
inductive SE where
  | lit (k : Int)
  | var (n : Nat)
  | bin (op : BinOp) (a b : SE)
  | neg (a : SE)
  | len (t : TE)
inductive TE where
  | lit (b : ByteArray)
  | var (n : Nat)
  | cut (t : TE) (lo hi : SE)
  | cat (a b : TE)
end
/-- What the names stand for. -/
class Env where
  i : Nat → Int
  s : Nat → ByteArray

/-- The arithmetic of whole numbers: what it comes to, and whether it may be asked. -/
def binI (op : BinOp) (k : IntKind) (a b : Int) : Option (Value × Bool) :=
  match op with
  | .add => some (.int k (k.wrap (a + b)), true)
  | .sub => some (.int k (k.wrap (a - b)), true)
  | .mul => some (.int k (k.wrap (a * b)), true)
  | .quo => some (.int k (k.wrap (a.tdiv b)), decide (b ≠ 0))
  | .rem => some (.int k (a.tmod b), decide (b ≠ 0))
  | .and => some (.int k (k.wrap (BitVec.ofInt k.bits a &&& BitVec.ofInt k.bits b).toNat), true)
  | .or => some (.int k (k.wrap (BitVec.ofInt k.bits a ||| BitVec.ofInt k.bits b).toNat), true)
  | .eql => some (.bool (a == b), true)
  | .neq => some (.bool (a != b), true)
  | .lss => some (.bool (decide (a < b)), true)
  | .leq => some (.bool (decide (a ≤ b)), true)
  | .gtr => some (.bool (decide (a > b)), true)
  | .geq => some (.bool (decide (a ≥ b)), true)
  | _ => none
def numOf : Option (Value × Bool) → Int
  | some (.int _ r, _) => r
  | _ => 0
mutual
def SE.val [Env] : SE → Int
  | .lit k => k
  | .var n => Env.i n
  | .bin op a b => numOf (binI op .i64 a.val b.val)
  | .neg a => IntKind.i64.wrap (0 - a.val)
  | .len t => t.val.data.toList.length
def TE.val [Env] : TE → ByteArray
  | .lit b => b
  | .var n => Env.s n
  | .cut t lo hi => ⟨((t.val.data.toList.take hi.val.toNat).drop lo.val.toNat).toArray⟩
  | .cat a b => ⟨(a.val.data.toList ++ b.val.data.toList).toArray⟩
end

/-- Values that lead to no block that may be written. -/
inductive PV where
  | v (x : Value)
  | i (e : SE)
  | t (e : TE)
  | nl
  | sl (rows : List (List PV))

/-- Values of a frame. -/
inductive AV where
  | p (x : PV)
  | ptr (b off : Nat)
  | ep (row : List PV) (off : Nat)
  | own (b n : Nat)
  | sub (b off n : Nat)
  | clo (f : FuncId) (first caps : List AV)
  | agg (cs : List AV)
  | tup (cs : List AV)
  | top

instance : Inhabited AV := ⟨.top⟩
instance : Inhabited PV := ⟨.nl⟩

/-- Blocks: gone; a row of cells; a row that grows (w: how many cells an element has). -/
inductive Blk where
  | dead
  | fx (ty : TypeId) (cs : List AV)
  | vec (ty : TypeId) (w : Nat) (cs : List AV)

/-- Where a letter's block lies: its number (none: there is none yet), its capacity in elements. -/
abbrev Loc := Option Nat × Nat
abbrev Phi := Nat → Option Loc
abbrev Wr := Nat → Prop

section
variable [Env]
inductive RP (W : Wr) (w : World) : PV → Value → Prop where
  | v (x : Value) : RP W w (.v x) x
  | i (e : SE) : RP W w (.i e) (.int .i64 e.val)
  | t (e : TE) : RP W w (.t e) (.string e.val)
  | nl (a : Option Addr) : RP W w .nl (.slice a 0 0)
  | sl0 (a : Option Addr) (cap : Nat) : RP W w (.sl []) (.slice a 0 cap)
  | sl (rows : List (List PV)) (b off sz cap : Nat) (vals : Nat → Nat → Value)
      (hsz : ∀ (i : Nat) (row : List PV), rows[i]? = some row → row.length = sz)
      (hcell : ∀ (i j : Nat) (row : List PV) (c : PV), rows[i]? = some row → row[j]? = some c → w.cell? ⟨b, off + (i * sz + j), none⟩ = some (vals i j))
      (hval : ∀ (i j : Nat) (row : List PV) (c : PV), rows[i]? = some row → row[j]? = some c → RP W w c (vals i j))
      (hW : ¬ W b) (hb : b < w.heap.size) (hcap : rows.length ≤ cap) : RP W w (.sl rows) (.slice (some ⟨b, off, none⟩) rows.length cap)

inductive RA (φ : Phi) (W : Wr) (w : World) : AV → Value → Prop where
  | p (x : PV) (v : Value) (h : RP W w x v) : RA φ W w (.p x) v
  | ptr (b off r c : Nat) (h : φ b = some (some r, c)) : RA φ W w (.ptr b off) (.pointer (some ⟨r, off, none⟩))
  | ep (row : List PV) (off b o : Nat) (vals : Nat → Value)
      (hcell : ∀ (j : Nat) (c : PV), row[j]? = some c → w.cell? ⟨b, o + j, none⟩ = some (vals j))
      (hval : ∀ (j : Nat) (c : PV), row[j]? = some c → RP W w c (vals j))
      (hW : ¬ W b) (hb : b < w.heap.size) : RA φ W w (.ep row off) (.pointer (some ⟨b, o + off, none⟩))
  | own (b n cap : Nat) (r : Option Nat) (h : φ b = some (r, cap)) (hn : n ≤ cap) (hr : r = none → cap = 0) :
      RA φ W w (.own b n) (.slice (r.map fun k => ⟨k, 0, none⟩) n cap)
  | sub (b off n cap r c : Nat) (h : φ b = some (some r, c)) (hn : n ≤ cap) : RA φ W w (.sub b off n) (.slice (some ⟨r, off, none⟩) n cap)
  | clo (f : FuncId) (first caps : List AV) (fv cv : Array Value) (h1 : fv.size = first.length) (h2 : cv.size = caps.length)
      (h3 : ∀ (i : Nat) (c : AV) (v : Value), first[i]? = some c → fv[i]? = some v → RA φ W w c v)
      (h4 : ∀ (i : Nat) (c : AV) (v : Value), caps[i]? = some c → cv[i]? = some v → RA φ W w c v) : RA φ W w (.clo f first caps) (.func (.func f) fv cv)
  | agg (cs : List AV) (vs : Array Value) (h : vs.size = cs.length)
      (hv : ∀ (i : Nat) (c : AV) (v : Value), cs[i]? = some c → vs[i]? = some v → RA φ W w c v) : RA φ W w (.agg cs) (.agg vs)
  | tup (cs : List AV) (vs : Array Value) (h : vs.size = cs.length)
      (hv : ∀ (i : Nat) (c : AV) (v : Value), cs[i]? = some c → vs[i]? = some v → RA φ W w c v) : RA φ W w (.tup cs) (.tuple vs)
  | top (v : Value) : RA φ W w .top v

/-- A list of values, one by one. -/
structure RL (φ : Phi) (W : Wr) (w : World) (cs : List AV) (vs : Array Value) : Prop where
  size : vs.size = cs.length
  get : ∀ (i : Nat) (c : AV) (v : Value), cs[i]? = some c → vs[i]? = some v → RA φ W w c v

def RB (φ : Phi) (W : Wr) (w : World) (id : Nat) : Blk → Prop
  | .dead => True
  | .fx ty cs => ∃ r c vs, φ id = some (some r, c) ∧ w.heap[r]? = some (.cells vs ty (0, 0)) ∧ RL φ W w cs vs
  | .vec ty wd cs => ∃ ro cap, φ id = some (ro, cap) ∧
      match ro with
      | none => cs = [] ∧ cap = 0
      | some r => ∃ vs, w.heap[r]? = some (.cells vs ty (0, 0)) ∧ vs.size = cap * wd ∧ cs.length ≤ vs.size ∧
          ∀ (i : Nat) (c : AV) (v : Value), cs[i]? = some c → vs[i]? = some v → RA φ W w c v

def Blk.live : Blk → Bool
  | .dead => false
  | _ => true

/-- The blocks that may be written. -/
def wr (φ : Phi) (h : Nat → Blk) : Wr := fun r => ∃ id c, (h id).live = true ∧ φ id = some (some r, c)

/-- The heap's relation. -/
structure RH (φ : Phi) (h : Nat → Blk) (w : World) : Prop where
  blk : ∀ id, RB φ (wr φ h) w id (h id)
  inj : ∀ i j ci cj r, (h i).live = true → (h j).live = true → φ i = some (some r, ci) → φ j = some (some r, cj) → i = j
  bound : ∀ i r c, φ i = some (some r, c) → r < w.heap.size

end

def fup {α : Type} (h : Nat → α) (i : Nat) (b : α) : Nat → α := fun j => if j = i then b else h j
theorem fup_self {α : Type} (h : Nat → α) (i : Nat) (b : α) : fup h i b i = b := by simp [fup]
theorem fup_ne {α : Type} (h : Nat → α) {i j : Nat} (b : α) (e : j ≠ i) : fup h i b j = h j := by simp [fup, e]

/-- A table with numbers as keys. -/
inductive Tr (α : Type) where
  | lf
  | nd (v : α) (l r : Tr α)
def Tr.get {α : Type} (d : α) : Nat → Tr α → Nat → α
  | 0, _, _ => d
  | _ + 1, .lf, _ => d
  | _ + 1, .nd v _ _, 0 => v
  | f + 1, .nd _ l r, k + 1 => bif Nat.beq (k % 2) 0 then l.get d f (k / 2) else r.get d f (k / 2)
def Tr.set {α : Type} (d : α) : Nat → Tr α → Nat → α → Tr α
  | 0, t, _, _ => t
  | _ + 1, .lf, 0, x => .nd x .lf .lf
  | _ + 1, .nd _ l r, 0, x => .nd x l r
  | f + 1, .lf, k + 1, x => bif Nat.beq (k % 2) 0 then .nd d (Tr.set d f .lf (k / 2) x) .lf else .nd d .lf (Tr.set d f .lf (k / 2) x)
  | f + 1, .nd v l r, k + 1, x => bif Nat.beq (k % 2) 0 then .nd v (Tr.set d f l (k / 2) x) r else .nd v l (Tr.set d f r (k / 2) x)

theorem beqF {a : Nat} (h : ¬ a = 0) : Nat.beq a 0 = false := by cases a with | zero => exact absurd rfl h | succ a => rfl
theorem Tr.get_lf {α : Type} (d : α) (f k : Nat) : Tr.get d f .lf k = d := by cases f <;> simp [Tr.get]
theorem Tr.get_set {α : Type} (d : α) : ∀ (f : Nat) (t : Tr α) (k : Nat) (x : α), k + 1 < 2 ^ f → (Tr.set d f t k x).get d f = fup (t.get d f) k x := by
  intro f
  induction f with
  | zero => intro t k x h; simp at h
  | succ f ih =>
    intro t k x h
    funext j
    cases k with
    | zero =>
      cases t with
      | lf => cases j <;> simp [Tr.set, Tr.get, fup, Tr.get_lf]
      | nd v l r => cases j <;> simp [Tr.set, Tr.get, fup]
    | succ k =>
      have hk : k / 2 + 1 < 2 ^ f := by rw [Nat.pow_succ] at h; omega
      by_cases e : k % 2 = 0
      · have hb : Nat.beq (k % 2) 0 = true := by simp [e]
        cases t with
        | lf =>
          cases j with
          | zero => simp [Tr.set, Tr.get, fup, hb]
          | succ j =>
            simp only [Tr.set, Tr.get, hb, cond_true, ih _ _ _ hk, Tr.get_lf]
            by_cases ej : j % 2 = 0
            · have hj : Nat.beq (j % 2) 0 = true := by simp [ej]
              simp only [hj, cond_true, fup, Tr.get_lf]
              by_cases ek : j = k
              · simp [ek]
              · rw [if_neg (by omega), if_neg (by omega)]
            · have hj : Nat.beq (j % 2) 0 = false := beqF ej
              simp only [hj, cond_false, fup]
              rw [if_neg (by omega)]
        | nd v l r =>
          cases j with
          | zero => simp [Tr.set, Tr.get, fup, hb]
          | succ j =>
            simp only [Tr.set, Tr.get, hb, cond_true, ih _ _ _ hk]
            by_cases ej : j % 2 = 0
            · have hj : Nat.beq (j % 2) 0 = true := by simp [ej]
              simp only [hj, cond_true, fup, Tr.get]
              by_cases ek : j = k
              · simp [ek]
              · rw [if_neg (by omega), if_neg (by omega)]
            · have hj : Nat.beq (j % 2) 0 = false := beqF ej
              simp only [hj, cond_false, fup, Tr.get]
              rw [if_neg (by omega)]
      · have hb : Nat.beq (k % 2) 0 = false := beqF e
        cases t with
        | lf =>
          cases j with
          | zero => simp [Tr.set, Tr.get, fup, hb]
          | succ j =>
            simp only [Tr.set, Tr.get, hb, cond_false, ih _ _ _ hk, Tr.get_lf]
            by_cases ej : j % 2 = 0
            · have hj : Nat.beq (j % 2) 0 = true := by simp [ej]
              simp only [hj, cond_true, fup]
              rw [if_neg (by omega)]
            · have hj : Nat.beq (j % 2) 0 = false := beqF ej
              simp only [hj, cond_false, fup, Tr.get_lf]
              by_cases ek : j = k
              · simp [ek]
              · rw [if_neg (by omega), if_neg (by omega)]
        | nd v l r =>
          cases j with
          | zero => simp [Tr.set, Tr.get, fup, hb]
          | succ j =>
            simp only [Tr.set, Tr.get, hb, cond_false, ih _ _ _ hk]
            by_cases ej : j % 2 = 0
            · have hj : Nat.beq (j % 2) 0 = true := by simp [ej]
              simp only [hj, cond_true, fup, Tr.get]
              rw [if_neg (by omega)]
            · have hj : Nat.beq (j % 2) 0 = false := beqF ej
              simp only [hj, cond_false, fup, Tr.get]
              by_cases ek : j = k
              · simp [ek]
              · rw [if_neg (by omega), if_neg (by omega)]

/-- What a stretch leaves alone. -/
structure Ext (W : Wr) (w w' : World) : Prop where
  os : w'.os = w.os
  tape : w'.tape = w.tape
  output : w'.output = w.output
  size : w.heap.size ≤ w'.heap.size
  block : ∀ r, r < w.heap.size → ¬ W r → w'.heap[r]? = w.heap[r]?

def Less (n : Nat) (W W' : Wr) : Prop := ∀ r, r < n → W' r → W r
def PhiExt (φ φ' : Phi) : Prop := ∀ i x, φ i = some x → φ' i = some x

theorem Ext.refl (W : Wr) (w : World) : Ext W w w := ⟨rfl, rfl, rfl, Nat.le_refl _, fun _ _ _ => rfl⟩
theorem Ext.trans {W W' : Wr} {a b c : World} (h : Ext W a b) (k : Ext W' b c) (hl : Less a.heap.size W W') : Ext W a c :=
  ⟨k.os.trans h.os, k.tape.trans h.tape, k.output.trans h.output, Nat.le_trans h.size k.size, fun r hr hn =>
    (k.block r (Nat.lt_of_lt_of_le hr h.size) fun hw => hn (hl r hr hw)).trans (h.block r hr hn)⟩
theorem Ext.drew {W : Wr} {w : World} (n : Nat) : Ext W w { w with drawn := n } := ⟨rfl, rfl, rfl, Nat.le_refl _, fun _ _ _ => rfl⟩
theorem PhiExt.refl (φ : Phi) : PhiExt φ φ := fun _ _ h => h
theorem PhiExt.trans {a b c : Phi} (h : PhiExt a b) (k : PhiExt b c) : PhiExt a c := fun i x hx => k i x (h i x hx)
theorem Less.refl (n : Nat) (W : Wr) : Less n W W := fun _ _ h => h
theorem Less.trans {n m : Nat} {a b c : Wr} (h : Less n a b) (k : Less m b c) (hnm : n ≤ m) : Less n a c :=
  fun r hr hc => h r hr (k r (Nat.lt_of_lt_of_le hr hnm) hc)

theorem cell_of_block {w w' : World} {r : Nat} (h : w'.heap[r]? = w.heap[r]?) (o : Nat) : w'.cell? ⟨r, o, none⟩ = w.cell? ⟨r, o, none⟩ := by
  simp only [World.cell?, h]

section
variable [Env]
theorem RP.mono {W W' : Wr} {w w' : World} {x : PV} {v : Value} (h : RP W w x v) (he : Ext W w w') (hl : Less w.heap.size W W') : RP W' w' x v := by
  induction h with
  | v x => exact .v x
  | i e => exact .i e
  | t e => exact .t e
  | nl a => exact .nl a
  | sl0 a cap => exact .sl0 a cap
  | sl rows b off sz cap vals hsz hcell hval hW hb hcap ih =>
    refine .sl rows b off sz cap vals hsz (fun i j row c hi hj => ?_) (fun i j row c hi hj => ih i j row c hi hj) (fun hw => hW (hl b hb hw)) (Nat.lt_of_lt_of_le hb he.size) hcap
    rw [cell_of_block (he.block b hb hW)]
    exact hcell i j row c hi hj

theorem RA.mono {φ φ' : Phi} {W W' : Wr} {w w' : World} {x : AV} {v : Value} (h : RA φ W w x v) (hp : PhiExt φ φ') (he : Ext W w w') (hl : Less w.heap.size W W') :
    RA φ' W' w' x v := by
  induction h with
  | p x v h => exact .p x v (h.mono he hl)
  | ptr b off r c h => exact .ptr b off r c (hp _ _ h)
  | ep row off b o vals hcell hval hW hb =>
    refine .ep row off b o vals (fun j c hj => ?_) (fun j c hj => (hval j c hj).mono he hl) (fun hw => hW (hl b hb hw)) (Nat.lt_of_lt_of_le hb he.size)
    rw [cell_of_block (he.block b hb hW)]
    exact hcell j c hj
  | own b n cap r h hn hr => exact .own b n cap r (hp _ _ h) hn hr
  | sub b off n cap r c h hn => exact .sub b off n cap r c (hp _ _ h) hn
  | clo f first caps fv cv h1 h2 h3 h4 ih1 ih2 => exact .clo f first caps fv cv h1 h2 ih1 ih2
  | agg cs vs h hv ih => exact .agg cs vs h ih
  | tup cs vs h hv ih => exact .tup cs vs h ih
  | top v => exact .top v

theorem RL.mono {φ φ' : Phi} {W W' : Wr} {w w' : World} {cs : List AV} {vs : Array Value} (h : RL φ W w cs vs) (hp : PhiExt φ φ') (he : Ext W w w') (hl : Less w.heap.size W W') :
    RL φ' W' w' cs vs := ⟨h.size, fun i c v hc hv => (h.get i c v hc hv).mono hp he hl⟩

end
end Go.Ab

namespace Go.Ab
set_option linter.unusedSectionVars false
variable [Env]

def upd (φ : Phi) (i : Nat) (l : Loc) : Phi := fun j => if j = i then some l else φ j
theorem upd_self (φ : Phi) (i : Nat) (l : Loc) : upd φ i l i = some l := by simp [upd]
theorem upd_ne (φ : Phi) {i j : Nat} (l : Loc) (h : j ≠ i) : upd φ i l j = φ j := by simp [upd, h]
theorem PhiExt.upd {φ : Phi} {i : Nat} (l : Loc) (h : φ i = none) : PhiExt φ (upd φ i l) := by
  intro j x hx
  by_cases e : j = i
  · subst e; rw [h] at hx; cases hx
  · rw [upd_ne _ _ e]; exact hx

/-- The blocks of letters that stay as they are. -/
theorem RB.mono {φ φ' : Phi} {W W' : Wr} {w w' : World} {id : Nat} {b : Blk} (h : RB φ W w id b) (hp : PhiExt φ φ') (he : Ext W w w') (hl : Less w.heap.size W W')
    (hh : ∀ r c, b.live = true → φ id = some (some r, c) → w'.heap[r]? = w.heap[r]?) : RB φ' W' w' id b := by
  cases b with
  | dead => trivial
  | fx ty cs =>
    obtain ⟨r, c, vs, h1, h2, h3⟩ := h
    exact ⟨r, c, vs, hp _ _ h1, by rw [hh r c rfl h1]; exact h2, h3.mono hp he hl⟩
  | vec ty wd cs =>
    obtain ⟨ro, cap, h1, h2⟩ := h
    refine ⟨ro, cap, hp _ _ h1, ?_⟩
    cases ro with
    | none => exact h2
    | some r =>
      obtain ⟨vs, h3, h4, h5, h6⟩ := h2
      exact ⟨vs, by rw [hh r cap rfl h1]; exact h3, h4, h5, fun i c v hc hv => (h6 i c v hc hv).mono hp he hl⟩

theorem heap_push (w : World) (o : Obj) (r : Nat) (h : r < w.heap.size) : ({ w with heap := w.heap.push o } : World).heap[r]? = w.heap[r]? := by
  show (w.heap.push o)[r]? = _
  rw [Array.getElem?_push, if_neg (by omega)]

theorem Ext.push (W : Wr) (w : World) (o : Obj) : Ext W w { w with heap := w.heap.push o } :=
  ⟨rfl, rfl, rfl, by simp, fun r hr _ => heap_push w o r hr⟩

/-- Less, when one letter turns from gone to a block that is new. -/
theorem less_new {φ : Phi} {h : Nat → Blk} {nid n c : Nat} {b : Blk} {ro : Option Nat} (hro : ∀ r, ro = some r → n ≤ r) :
    Less n (wr φ h) (wr (upd φ nid (ro, c)) (fup h nid b)) := by
  rintro r hr ⟨id, c', h2, h3⟩
  by_cases e : id = nid
  · subst e
    rw [upd_self] at h3
    simp only [Option.some.injEq, Prod.mk.injEq] at h3
    have := hro r h3.1
    omega
  · rw [upd_ne _ _ e] at h3; rw [fup_ne _ _ e] at h2
    exact ⟨id, c', h2, h3⟩

/-- A new block. -/
theorem RH.new {φ : Phi} {h : Nat → Blk} {w : World} {nid c : Nat} {vs : Array Value} {ty : TypeId} {b : Blk} (hh : RH φ h w) (hf : φ nid = none)
    (hb : RB (upd φ nid (some w.heap.size, c)) (wr (upd φ nid (some w.heap.size, c)) (fup h nid b)) { w with heap := w.heap.push (.cells vs ty (0, 0)) } nid b) :
    RH (upd φ nid (some w.heap.size, c)) (fup h nid b) { w with heap := w.heap.push (.cells vs ty (0, 0)) } := by
  have hpe := PhiExt.upd (i := nid) (some w.heap.size, c) hf
  have hex := Ext.push (wr φ h) w (.cells vs ty (0, 0))
  have hls : Less w.heap.size (wr φ h) (wr (upd φ nid (some w.heap.size, c)) (fup h nid b)) := less_new (fun r hr => by cases hr; exact Nat.le_refl _)
  refine ⟨fun id => ?_, fun i j ci cj r l1 l2 p1 p2 => ?_, fun i r c' hi => ?_⟩
  · by_cases e : id = nid
    · subst e; rw [fup_self]; exact hb
    · rw [fup_ne _ _ e]
      exact (hh.blk id).mono hpe hex hls fun r c _ hr => heap_push w _ r (hh.bound _ _ _ hr)
  · by_cases ei : i = nid <;> by_cases ej : j = nid
    · rw [ei, ej]
    · subst ei
      rw [upd_self] at p1; rw [upd_ne _ _ ej] at p2
      have := hh.bound _ _ _ p2
      simp only [Option.some.injEq, Prod.mk.injEq] at p1
      omega
    · subst ej
      rw [upd_self] at p2; rw [upd_ne _ _ ei] at p1
      have := hh.bound _ _ _ p1
      simp only [Option.some.injEq, Prod.mk.injEq] at p2
      omega
    · rw [upd_ne _ _ ei] at p1; rw [upd_ne _ _ ej] at p2
      rw [fup_ne _ _ ei] at l1; rw [fup_ne _ _ ej] at l2
      exact hh.inj i j ci cj r l1 l2 p1 p2
  · by_cases e : i = nid
    · subst e
      rw [upd_self] at hi
      simp only [Option.some.injEq, Prod.mk.injEq] at hi
      simp; omega
    · rw [upd_ne _ _ e] at hi
      have := hh.bound _ _ _ hi
      simp; omega

/-- A letter without memory (a nil row that grows). -/
theorem RH.newNil {φ : Phi} {h : Nat → Blk} {w : World} {nid wd ty : Nat} (hh : RH φ h w) (hf : φ nid = none) :
    RH (upd φ nid (none, 0)) (fup h nid (.vec ty wd [])) w := by
  have hpe := PhiExt.upd (i := nid) (none, 0) hf
  have hls : Less w.heap.size (wr φ h) (wr (upd φ nid (none, 0)) (fup h nid (.vec ty wd []))) := less_new (fun r hr => by cases hr)
  refine ⟨fun id => ?_, fun i j ci cj r l1 l2 p1 p2 => ?_, fun i r c' hi => ?_⟩
  · by_cases e : id = nid
    · subst e; rw [fup_self]; exact ⟨none, 0, upd_self _ _ _, rfl, rfl⟩
    · rw [fup_ne _ _ e]
      exact (hh.blk id).mono hpe (Ext.refl _ _) hls fun r c _ hr => rfl
  · by_cases ei : i = nid
    · subst ei; rw [upd_self] at p1; cases p1
    · by_cases ej : j = nid
      · subst ej; rw [upd_self] at p2; cases p2
      · rw [upd_ne _ _ ei] at p1; rw [upd_ne _ _ ej] at p2
        rw [fup_ne _ _ ei] at l1; rw [fup_ne _ _ ej] at l2
        exact hh.inj i j ci cj r l1 l2 p1 p2
  · by_cases e : i = nid
    · subst e; rw [upd_self] at hi; cases hi
    · rw [upd_ne _ _ e] at hi; exact hh.bound _ _ _ hi

theorem less_dead {φ : Phi} {h : Nat → Blk} {n id : Nat} : Less n (wr φ h) (wr φ (fup h id .dead)) := by
  rintro r hr ⟨i, c', h2, h3⟩
  by_cases e : i = id
  · subst e; rw [fup_self] at h2; cases h2
  · rw [fup_ne _ _ e] at h2; exact ⟨i, c', h2, h3⟩

/-- A letter is let go of. -/
theorem RH.kill {φ : Phi} {h : Nat → Blk} {w : World} (hh : RH φ h w) (id : Nat) : RH φ (fup h id .dead) w := by
  refine ⟨fun i => ?_, fun i j ci cj r l1 l2 p1 p2 => ?_, hh.bound⟩
  · by_cases e : i = id
    · subst e; rw [fup_self]; trivial
    · rw [fup_ne _ _ e]
      exact (hh.blk i).mono (PhiExt.refl _) (Ext.refl _ _) less_dead fun _ _ _ _ => rfl
  · by_cases ei : i = id
    · subst ei; rw [fup_self] at l1; cases l1
    · by_cases ej : j = id
      · subst ej; rw [fup_self] at l2; cases l2
      · rw [fup_ne _ _ ei] at l1; rw [fup_ne _ _ ej] at l2
        exact hh.inj i j ci cj r l1 l2 p1 p2

/-- The cells of a block, of either kind. -/
def Blk.cells : Blk → List AV
  | .dead => []
  | .fx _ cs => cs
  | .vec _ _ cs => cs
def Blk.with : Blk → List AV → Blk
  | .dead, _ => .dead
  | .fx t _, cs => .fx t cs
  | .vec t w _, cs => .vec t w cs
def Blk.ty : Blk → TypeId
  | .dead => 0
  | .fx t _ => t
  | .vec t _ _ => t

/-- What lies in a block of cells that is there. -/
theorem RH.open {φ : Phi} {h : Nat → Blk} {w : World} {id r c : Nat} (hh : RH φ h w) (hl : (h id).live = true) (hr : φ id = some (some r, c)) :
    ∃ vs, w.heap[r]? = some (.cells vs (h id).ty (0, 0)) ∧ (h id).cells.length ≤ vs.size ∧
      ∀ (i : Nat) (c : AV) (v : Value), (h id).cells[i]? = some c → vs[i]? = some v → RA φ (wr φ h) w c v := by
  have := hh.blk id
  generalize h id = b at *
  cases b with
  | dead => cases hl
  | fx ty cs =>
    obtain ⟨r', c', vs, h1, h2, h3⟩ := this
    rw [hr] at h1; simp only [Option.some.injEq, Prod.mk.injEq] at h1; obtain ⟨rfl, rfl⟩ := h1
    exact ⟨vs, h2, by simp [Blk.cells, h3.size], h3.get⟩
  | vec ty wd cs =>
    obtain ⟨ro, cap, h1, h2⟩ := this
    rw [hr] at h1; simp only [Option.some.injEq, Prod.mk.injEq] at h1; obtain ⟨rfl, rfl⟩ := h1
    obtain ⟨vs, h3, h4, h5, h6⟩ := h2
    exact ⟨vs, h3, h5, h6⟩

theorem RH.cell {φ : Phi} {h : Nat → Blk} {w : World} {id r c o : Nat} {x : AV} (hh : RH φ h w) (hl : (h id).live = true) (hr : φ id = some (some r, c))
    (hx : (h id).cells[o]? = some x) : ∃ v, w.cell? ⟨r, o, none⟩ = some v ∧ RA φ (wr φ h) w x v := by
  obtain ⟨vs, h1, h2, h3⟩ := hh.open hl hr
  have ho : o < (h id).cells.length := (List.getElem?_eq_some_iff.1 hx).1
  have hv : vs[o]? = some (vs[o]'(by omega)) := by simp
  exact ⟨_, by simp only [World.cell?, h1]; simp, h3 o x _ hx hv⟩

theorem RH.notFrozen {φ : Phi} {h : Nat → Blk} {w : World} {id r c : Nat} (hh : RH φ h w) (hl : (h id).live = true) (hr : φ id = some (some r, c)) (o : Nat) :
    w.frozen? ⟨r, o, none⟩ = false := by
  obtain ⟨vs, h1, _, _⟩ := hh.open hl hr
  simp [World.frozen?, h1]

theorem heap_setCell_ne (w : World) (a : Addr) (u : Value) (k : Nat) (h : k ≠ a.block) : (w.setCell a u).heap[k]? = w.heap[k]? := by
  simp only [World.setCell, Array.getElem?_modify]
  rw [if_neg (by omega)]
theorem heap_setCell_self (w : World) (r o : Nat) (u : Value) {vs : Array Value} {ty : TypeId} {fr : Nat × Nat} (h : w.heap[r]? = some (.cells vs ty fr)) :
    (w.setCell ⟨r, o, none⟩ u).heap[r]? = some (.cells (vs.setIfInBounds o u) ty fr) := by
  simp [World.setCell, Array.getElem?_modify, h]
theorem size_setCell (w : World) (a : Addr) (u : Value) : (w.setCell a u).heap.size = w.heap.size := by simp [World.setCell]

theorem wr_same {φ : Phi} {h : Nat → Blk} {id : Nat} {b' : Blk} (hl : (h id).live = b'.live) (r : Nat) : wr φ (fup h id b') r → wr φ h r := by
  rintro ⟨i, c', h2, h3⟩
  by_cases e : i = id
  · subst e; rw [fup_self] at h2; exact ⟨i, c', hl.trans h2, h3⟩
  · rw [fup_ne _ _ e] at h2; exact ⟨i, c', h2, h3⟩

theorem Ext.setCell {W : Wr} {w : World} {r : Nat} (hW : W r) (o : Nat) (u : Value) : Ext W w (w.setCell ⟨r, o, none⟩ u) :=
  ⟨rfl, rfl, rfl, by rw [size_setCell]; exact Nat.le_refl _, fun k _ hk => heap_setCell_ne _ _ _ _ fun e => hk (e ▸ hW)⟩

theorem getElem?_set_some {α : Type} {l : List α} {i j : Nat} {x y : α} (h : (l.set i x)[j]? = some y) : (j = i ∧ y = x ∧ i < l.length) ∨ (j ≠ i ∧ l[j]? = some y) := by
  by_cases e : i = j
  · subst e
    rw [List.getElem?_set_self'] at h
    cases hl : l[i]? with
    | none => rw [hl] at h; cases h
    | some z => rw [hl] at h; simp at h; exact .inl ⟨rfl, h.symm, (List.getElem?_eq_some_iff.1 hl).1⟩
  · rw [List.getElem?_set_ne e] at h
    exact .inr ⟨fun h => e h.symm, h⟩

theorem Blk.live_with (b : Blk) (cs : List AV) : b.live = (b.with cs).live := by cases b <;> rfl

/-- A cell is written. -/
theorem RH.set {φ : Phi} {h : Nat → Blk} {w : World} {id r c o : Nat} {x : AV} {u : Value} (hh : RH φ h w) (hl : (h id).live = true)
    (hr : φ id = some (some r, c)) (hx : RA φ (wr φ h) w x u) :
    RH φ (fup h id ((h id).with ((h id).cells.set o x))) (w.setCell ⟨r, o, none⟩ u) := by
  have hlive := Blk.live_with (h id) ((h id).cells.set o x)
  have hW : wr φ h r := ⟨id, c, hl, hr⟩
  have hex := Ext.setCell (w := w) hW o u
  have hls : Less w.heap.size (wr φ h) (wr φ (fup h id ((h id).with ((h id).cells.set o x)))) := fun r _ hr => wr_same hlive r hr
  have key : ∀ (vs : Array Value) (cs : List AV), (∀ (i : Nat) (c : AV) (v : Value), cs[i]? = some c → vs[i]? = some v → RA φ (wr φ h) w c v) →
      ∀ (i : Nat) (c : AV) (v : Value), (cs.set o x)[i]? = some c → (vs.setIfInBounds o u)[i]? = some v →
        RA φ (wr φ (fup h id ((h id).with ((h id).cells.set o x)))) (w.setCell ⟨r, o, none⟩ u) c v := by
    intro vs cs hg i c v hc hv
    rcases getElem?_set_some hc with ⟨rfl, rfl, _⟩ | ⟨hne, hc⟩
    · rw [Array.getElem?_setIfInBounds] at hv
      simp at hv
      obtain ⟨_, rfl⟩ := hv
      exact hx.mono (PhiExt.refl _) hex hls
    · rw [Array.getElem?_setIfInBounds_ne (fun e => hne e.symm)] at hv
      exact (hg i c v hc hv).mono (PhiExt.refl _) hex hls
  have liveOf : ∀ i, (fup h id ((h id).with ((h id).cells.set o x)) i).live = true → (h i).live = true := by
    intro i hi
    by_cases e : i = id
    · subst e; exact hl
    · rwa [fup_ne _ _ e] at hi
  refine ⟨fun i => ?_, fun i j ci cj r' l1 l2 p1 p2 => hh.inj i j ci cj r' (liveOf i l1) (liveOf j l2) p1 p2, fun i r c hi => by rw [size_setCell]; exact hh.bound _ _ _ hi⟩
  by_cases e : i = id
  · subst e
    rw [fup_self]
    have hB := hh.blk i
    revert key
    generalize hhb : h i = b at *
    intro key
    cases b with
    | dead => cases hl
    | fx ty cs =>
      obtain ⟨r', c', vs, q1, q2, q3⟩ := hB
      rw [hr] at q1; simp only [Option.some.injEq, Prod.mk.injEq] at q1; obtain ⟨rfl, rfl⟩ := q1
      exact ⟨r, c, _, hr, heap_setCell_self w r o u q2, by simp [Blk.cells, q3.size], key vs cs q3.get⟩
    | vec ty wd cs =>
      obtain ⟨ro, cap, q1, q2⟩ := hB
      rw [hr] at q1; simp only [Option.some.injEq, Prod.mk.injEq] at q1; obtain ⟨rfl, rfl⟩ := q1
      obtain ⟨vs, q3, q4, q5, q6⟩ := q2
      exact ⟨some r, c, hr, _, heap_setCell_self w r o u q3, by simp [q4], by simpa [Blk.cells] using q5, key vs cs q6⟩
  · rw [fup_ne _ _ e]
    refine (hh.blk i).mono (PhiExt.refl _) hex hls fun r' c' hl' hr' => heap_setCell_ne _ _ _ _ fun e' => ?_
    subst e'
    exact e (hh.inj i id c' c _ hl' hl hr' hr)

end Go.Ab

namespace Go.Ab

/-- What an operation comes to: a result, what must hold, the blocks that it writes, how many letters it takes. -/
structure Txn where
  res : AV
  chk : Bool := true
  wr : List (Nat × Blk) := []
  nnew : Nat := 0

inductive Rd (α : Type) where
  | ret (a : α)
  | fail
  | tmp (t : Nat) (k : AV → Rd α)
  | blk (b : Nat) (k : Blk → Rd α)

namespace Rd
def bind {α β : Type} : Rd α → (α → Rd β) → Rd β
  | .ret a, f => f a
  | .fail, _ => .fail
  | .tmp t k, f => .tmp t fun x => (k x).bind f
  | .blk b k, f => .blk b fun x => (k x).bind f
/-- It runs; what is gone may not be looked at. -/
def run {α : Type} (t : Nat → AV) (h : Nat → Blk) : Rd α → Option α
  | .ret a => some a
  | .fail => none
  | .tmp i k => (k (t i)).run t h
  | .blk b k => match h b with
    | .dead => none
    | .fx ty cs => (k (.fx ty cs)).run t h
    | .vec ty w cs => (k (.vec ty w cs)).run t h
/-- It runs, and tells which blocks it looked at. -/
def runM {α : Type} (t : Nat → AV) (h : Nat → Blk) : Rd α → Nat → Option (α × Nat)
  | .ret a, m => some (a, m)
  | .fail, _ => none
  | .tmp i k, m => (k (t i)).runM t h m
  | .blk b k, m => match h b with
    | .dead => none
    | .fx ty cs => (k (.fx ty cs)).runM t h (Nat.lor m (Nat.shiftLeft 1 b))
    | .vec ty w cs => (k (.vec ty w cs)).runM t h (Nat.lor m (Nat.shiftLeft 1 b))
def lift {α : Type} : Option α → Rd α
  | some a => .ret a
  | none => .fail
def need (b : Bool) : Rd Unit := match b with | true => .ret () | false => .fail
end Rd
instance : Monad Rd where
  pure := Rd.ret
  bind := Rd.bind

def AV.v (x : Value) : AV := .p (.v x)
def ofConst : Value → AV
  | .agg cs => .agg (cs.toList.map fun c => .p (.v c))
  | x => .p (.v x)

/-- What is given all along: the tables; the comparisons of symbols that are decided. -/
structure Glob where
  tab : Nat → Option (List PV)
  num : BinOp → SE → SE → Option Bool
  txt : BinOp → TE → TE → Option Bool

def opnd (G : Glob) : Operand → Rd AV
  | .tmp t => .tmp t .ret
  | .const x => .ret (ofConst x)
  | .global g => match G.tab g with | some row => .ret (.ep row 0) | none => .fail
  | .func f => .ret (.clo f [] [])
def opnds (G : Glob) : List Operand → Rd (List AV)
  | [] => .ret []
  | x :: r => (opnd G x).bind fun a => (opnds G r).bind fun l => .ret (a :: l)
def opndsI (G : Glob) : List (Nat × Operand) → Rd (List (Nat × AV))
  | [] => .ret []
  | (i, x) :: r => (opnd G x).bind fun a => (opndsI G r).bind fun l => .ret ((i, a) :: l)

def tySize (P : Program) (t : TypeId) : Option Nat := (P.info? t).map (·.size)
def descAgg : TypeDesc → Bool
  | .struct _ | .array _ _ => true
  | _ => false
def tyAgg (P : Program) (t : TypeId) : Option Bool := (P.underlying t).map descAgg
def tyZero (P : Program) (t : TypeId) : Option Value := (P.info? t).bind (·.zero)
def tyElem (P : Program) (t : TypeId) : Option TypeId := match P.underlying t with | some (.slice e) => some e | _ => none
def tyFields (P : Program) (t : TypeId) : Option (Array Field) := match P.underlying t with | some (.struct fs) => some fs | _ => none

/-- One cell's value. -/
def AV.one : AV → Bool
  | .agg _ | .tup _ | .top => false
  | .p (.v (.agg _)) | .p (.v (.tuple _)) => false
  | _ => true
def AV.cells? : AV → Option (List AV)
  | .agg cs => some cs
  | x => if x.one then some [x] else none

def setR (cells : List AV) : Nat → List AV → List AV
  | _, [] => cells
  | off, c :: cs => setR (cells.set off c) (off + 1) cs

def loadA (P : Program) (t : TypeId) (x : AV) : Rd AV :=
  (Rd.lift (tyAgg P t)).bind fun g => (Rd.lift (tySize P t)).bind fun n =>
  match x with
  | .ptr b off => .blk b fun B => match g with
    | true => (Rd.need (decide (off + n ≤ B.cells.length))).bind fun _ => .ret (.agg ((B.cells.drop off).take n))
    | false => Rd.lift (B.cells[off]?)
  | .ep row off => match g with
    | true => (Rd.need (decide (off + n ≤ row.length))).bind fun _ => .ret (.agg (((row.drop off).take n).map .p))
    | false => Rd.lift ((row[off]?).map .p)
  | _ => .fail

def storeA (P : Program) (t : TypeId) (x v : AV) : Rd Txn :=
  match x, v.cells? with
  | .ptr b off, some cs => .blk b fun B =>
    (Rd.need (decide (tySize P t = some cs.length) && B.live && cs.all AV.one && decide (off + cs.length ≤ B.cells.length))).bind fun _ =>
    .ret { res := .top, wr := [(b, B.with (setR B.cells off cs))] }
  | _, _ => .fail

def fillA (place : Nat → Option (Nat × Nat)) (cells : List AV) : List (Nat × AV) → Option (List AV)
  | [] => some cells
  | (i, v) :: rest =>
    match place i, v.cells? with
    | some (off, size), some cs => if cs.length = size ∧ off + cs.length ≤ cells.length then fillA place (setR cells off cs) rest else none
    | _, _ => none

def places (P : Program) : List Field → Option (List (Nat × Nat))
  | [] => some []
  | f :: fs => match tySize P f.type, places P fs with
    | some n, some l => some ((f.offset, n) :: l)
    | _, _ => none

def buildA (P : Program) (t : TypeId) (parts : List (Nat × AV)) : Rd AV :=
  (Rd.lift (tyFields P t)).bind fun fs => (Rd.lift (places P fs.toList)).bind fun ps => (Rd.lift (tyZero P t)).bind fun z =>
  (Rd.lift (fillA (ps[·]?) (z.cells.toList.map fun c => .p (.v c)) parts)).bind fun cells => .ret (.agg cells)

def buildSliceA (P : Program) (t : TypeId) (len : Nat) (parts : List (Nat × AV)) (nid : Nat) : Rd Txn :=
  (Rd.lift (tyElem P t)).bind fun e => (Rd.lift (tySize P e)).bind fun n => (Rd.lift (tyZero P e)).bind fun _ =>
  (Rd.need (decide (len * n ≤ 2 ^ 24))).bind fun _ =>
  (Rd.lift (fillA (fun i => some (i * n, n)) (List.replicate (len * n) .top) parts)).bind fun cells =>
  .ret { res := .own nid len, wr := [(nid, .vec e n cells)], nnew := 1 }

def fieldA (P : Program) (s : TypeId) (x : AV) (f : Nat) : Rd AV :=
  (Rd.lift (tyFields P s)).bind fun fs => (Rd.lift (fs[f]?)).bind fun fd => (Rd.lift (tySize P fd.type)).bind fun n =>
  (Rd.need (decide (0 < n))).bind fun _ =>
  match x with
  | .ptr b off => .ret (.ptr b (off + fd.offset))
  | .ep row off => .ret (.ep row (off + fd.offset))
  | _ => .fail

def indexAddrA (P : Program) (t : TypeId) (x i : AV) : Rd Txn :=
  match i with
  | .p (.v (.int _ k)) =>
    match P.underlying t, x with
    | some (.slice e), .own b n => (Rd.lift (tySize P e)).bind fun s => .ret { res := .ptr b (k.toNat * s), chk := decide (0 ≤ k) && decide (k < (n : Int)) }
    | some (.slice e), .sub b off n => (Rd.lift (tySize P e)).bind fun s => .ret { res := .ptr b (off + k.toNat * s), chk := decide (0 ≤ k) && decide (k < (n : Int)) }
    | some (.slice e), .p (.sl rows) => (Rd.lift (tySize P e)).bind fun s =>
        .ret { res := .ep (rows.getD k.toNat []) 0, chk := decide (0 ≤ k) && decide (k < (rows.length : Int)) && decide ((rows.getD k.toNat []).length = s) }
    | some (.array n e), .ptr b off => (Rd.lift (tySize P e)).bind fun s => .ret { res := .ptr b (off + k.toNat * s), chk := decide (0 ≤ k) && decide (k < (n : Int)) }
    | some (.array n e), .ep row off => (Rd.lift (tySize P e)).bind fun s => .ret { res := .ep row (off + k.toNat * s), chk := decide (0 ≤ k) && decide (k < (n : Int)) }
    | _, _ => .fail
  | _ => .fail

def indexA (P : Program) (t : TypeId) (x i : AV) : Rd Txn :=
  match P.underlying t, x, i with
  | some .string, .p (.v (.string s)), .p (.v (.int _ k)) =>
    .ret { res := .v (.int .u8 (s.data.toList.getD k.toNat 0).toNat), chk := decide (0 ≤ k) && decide (k < (s.data.toList.length : Int)) }
  | _, _, _ => .fail

def optInt : Option AV → Option (Option Int)
  | none => some none
  | some (.p (.v (.int _ k))) => some (some k)
  | some _ => none

/-- A bound of a slice: as it stands, and between. -/
def sliceStr (s : ByteArray) (lo hi : Option Int) : Rd Txn :=
  let h := hi.getD s.data.toList.length
  let l := lo.getD 0
  .ret { res := .v (.string ⟨((s.data.toList.take h.toNat).drop l.toNat).toArray⟩), chk := decide (0 ≤ l) && decide (l ≤ h) && decide (h ≤ (s.data.toList.length : Int)) }
def sliceOwn (P : Program) (e b n : Nat) (lo hi : Option Int) : Rd Txn :=
  let h := hi.getD n
  match lo with
  | none => .ret { res := .own b h.toNat, chk := decide (0 ≤ h) && decide (h ≤ (n : Int)) }
  | some l => (Rd.lift (tySize P e)).bind fun sz =>
    .ret { res := if l < h then .sub b (l.toNat * sz) (h - l).toNat else .p (.sl []), chk := decide (0 ≤ l) && decide (l ≤ h) && decide (h ≤ (n : Int)) }
def sliceRows (P : Program) (e : Nat) (rows : List (List PV)) (lo hi : Option Int) : Rd Txn :=
  let h := hi.getD rows.length
  let l := lo.getD 0
  (Rd.lift (tySize P e)).bind fun sz =>
    .ret { res := .p (.sl ((rows.take h.toNat).drop l.toNat)), chk := decide (0 ≤ l) && decide (l ≤ h) && decide (h ≤ (rows.length : Int)) &&
      (decide (l = 0) || decide ((rows.getD l.toNat []).length = sz)) }
def sliceNil (lo hi : Option Int) : Rd Txn :=
  .ret { res := .p (.v (.slice none 0 0)), chk := decide (lo.getD 0 = 0) && decide (hi.getD 0 = 0) }
def sliceArr (P : Program) (e n b off : Nat) (lo hi : Option Int) : Rd Txn :=
  let h := hi.getD n
  let l := lo.getD 0
  (Rd.lift (tySize P e)).bind fun sz =>
    .ret { res := .sub b (off + l.toNat * sz) (h - l).toNat, chk := decide (0 ≤ l) && decide (l ≤ h) && decide (h ≤ (n : Int)) && decide (l < (n : Int)) }
/-- As a symbol. -/
def symI : AV → Option SE
  | .p (.i e) => some e
  | .p (.v (.int .i64 k)) => some (.lit k)
  | _ => none
def symT : AV → Option TE
  | .p (.t e) => some e
  | .p (.v (.string s)) => some (.lit s)
  | _ => none
def symO (d : SE) : Option AV → Option SE
  | none => some d
  | some x => symI x
def isYes : Option Bool → Bool
  | some true => true
  | _ => false
/-- A part of a symbolic text; the bounds' order must be decided. -/
def sliceSym (G : Glob) (s : TE) (lo hi : Option AV) : Rd Txn :=
  (Rd.lift (symO (.lit 0) lo)).bind fun l => (Rd.lift (symO (.len s) hi)).bind fun h =>
  .ret { res := .p (.t (.cut s l h)), chk := isYes (G.num .leq (.lit 0) l) && isYes (G.num .leq l h) && isYes (G.num .leq h (.len s)) }
def isSym : AV → Bool
  | .p (.i _) | .p (.t _) => true
  | _ => false
def anySym (x : AV) (lo hi : Option AV) : Bool := isSym x || (match lo with | some l => isSym l | none => false) || (match hi with | some l => isSym l | none => false)
def sliceA (P : Program) (G : Glob) (t : TypeId) (x : AV) (lo hi : Option AV) : Rd Txn :=
  bif anySym x lo hi then match P.underlying t, symT x with
    | some .string, some s => sliceSym G s lo hi
    | _, _ => .fail
  else
  (Rd.lift (optInt lo)).bind fun lo => (Rd.lift (optInt hi)).bind fun hi =>
  match P.underlying t, x with
  | some .string, .p (.v (.string s)) => sliceStr s lo hi
  | some (.slice e), .own b n => sliceOwn P e b n lo hi
  | some (.slice e), .p (.sl rows) => sliceRows P e rows lo hi
  | some (.slice _), .p (.v (.slice none 0 0)) => sliceNil lo hi
  | some (.array n e), .ptr b off => sliceArr P e n b off lo hi
  | _, _ => .fail

def extractA (x : AV) (i : Nat) : Rd AV :=
  match x with
  | .tup cs => Rd.lift (cs[i]?)
  | _ => .fail

def binShift (op : BinOp) (k : IntKind) (x y : Int) : Option (Value × Bool) :=
  match op with
  | .shl => some (.int k (k.wrap (x * 2 ^ (min y.toNat k.bits))), decide (0 ≤ y))
  | .shr => some (.int k (x.fdiv (2 ^ (min y.toNat k.bits))), decide (0 ≤ y))
  | _ => none

def binStr (op : BinOp) (x y : ByteArray) : Option (Value × Bool) :=
  match op with
  | .add => some (.string ⟨(x.data.toList ++ y.data.toList).toArray⟩, decide (((x.data.toList.length + y.data.toList.length : Nat) : Int) ≤ IntKind.i64.max))
  | .eql => some (.bool (x.data.toList == y.data.toList), true)
  | .neq => some (.bool !(x.data.toList == y.data.toList), true)
  | _ => none

/-- Is it nil? Of a pointer; of a slice. -/
def nilP : AV → Option Bool
  | .p (.v (.pointer none)) => some true
  | .ptr _ _ | .ep _ _ => some false
  | _ => none
def nilS : AV → Option Bool
  | .p (.v (.slice none 0 0)) => some true
  | .sub _ _ _ => some false
  | .own _ (_ + 1) => some false
  | .p (.sl (_ :: _)) => some false
  | _ => none

/-- '==' or '!=': what becomes of the answer to '=='. -/
def eqNe : BinOp → Option (Bool → Bool)
  | .eql => some id
  | .neq => some not
  | _ => none
def binBool (P : Program) (op : BinOp) (t : TypeId) (a b : Bool) : Rd Txn :=
  match P.underlying t, eqNe op with
  | some .bool, some f => .ret { res := .v (.bool (f (a == b))) }
  | _, _ => .fail
def binNil (P : Program) (op : BinOp) (t : TypeId) (x : AV) (y : Value) : Rd Txn :=
  match y, P.underlying t, eqNe op with
  | .pointer none, some (.pointer _), some f => match nilP x with | some b => .ret { res := .v (.bool (f b)) } | none => .fail
  | .slice none 0 0, some (.slice _), some f => match nilS x with | some b => .ret { res := .v (.bool (f b)) } | none => .fail
  | _, _, _ => .fail
def binPtr (P : Program) (op : BinOp) (t : TypeId) (b off b' off' : Nat) : Rd Txn :=
  match P.underlying t, eqNe op with
  | some (.pointer e), some f => match tySize P e with
    | some (_ + 1) => bif Nat.beq b b' then .ret { res := .v (.bool (f (Nat.beq off off'))) } else .fail
    | _ => .fail
  | _, _ => .fail
def binInt (op : BinOp) (k k' : IntKind) (a b : Int) : Rd Txn :=
  match binShift op k a b with
  | some r => .ret { res := .v r.1, chk := r.2 }
  | none => if k = k' then (Rd.lift (binI op k a b)).bind fun r => .ret { res := .v r.1, chk := r.2 } else .fail

/-- Two complex numbers that are zero. -/
def binZero (op : BinOp) : Rd Txn :=
  match eqNe op with
  | some f => .ret { res := .v (.bool (f true)) }
  | none => .fail
/-- Two floats that are zero. -/
def zeroCmp : BinOp → Option Bool
  | .eql => some true
  | .neq | .lss | .gtr => some false
  | _ => none
def binZeroF (op : BinOp) : Rd Txn :=
  match zeroCmp op with
  | some r => .ret { res := .v (.bool r) }
  | none => .fail
def partA (x : AV) : Rd AV :=
  match x with
  | .p (.v (.complex .f64 0 0)) => .ret (.v (.float .f64 0))
  | _ => .fail
/-- Symbols. -/
def binSym (G : Glob) (op : BinOp) (x y : AV) : Rd Txn :=
  match symI x, symI y with
  | some a, some b => match op with
    | .add | .sub | .mul => .ret { res := .p (.i (.bin op a b)) }
    | .quo | .rem => .ret { res := .p (.i (.bin op a b)), chk := isYes (G.num .neq b (.lit 0)) }
    | .eql | .neq | .lss | .leq | .gtr | .geq => match G.num op a b with
      | some r => .ret { res := .v (.bool r) }
      | none => .fail
    | _ => .fail
  | _, _ => match symT x, symT y with
    | some a, some b => match op with
      | .add => .ret { res := .p (.t (.cat a b)), chk := isYes (G.num .leq (.len (.cat a b)) (.lit IntKind.i64.max)) }
      | .eql | .neq => match G.txt op a b with
        | some r => .ret { res := .v (.bool r) }
        | none => .fail
      | _ => .fail
    | _, _ => .fail

def binA (P : Program) (G : Glob) (op : BinOp) (t : TypeId) (x y : AV) : Rd Txn :=
  match x, y with
  | .p (.v (.int k a)), .p (.v (.int k' b)) => binInt op k k' a b
  | .p (.v (.string a)), .p (.v (.string b)) => (Rd.lift (binStr op a b)).bind fun r => .ret { res := .v r.1, chk := r.2 }
  | .p (.v (.bool a)), .p (.v (.bool b)) => binBool P op t a b
  | .p (.v (.complex .f64 0 0)), .p (.v (.complex .f64 0 0)) => binZero op
  | .p (.v (.float .f64 0)), .p (.v (.float .f64 0)) => binZeroF op
  | .p (.i a), y => binSym G op (.p (.i a)) y
  | .p (.t a), y => binSym G op (.p (.t a)) y
  | x, .p (.v y) => binNil P op t x y
  | .ptr b off, .ptr b' off' => binPtr P op t b off b' off'
  | x, .p (.i b) => binSym G op x (.p (.i b))
  | x, .p (.t b) => binSym G op x (.p (.t b))
  | _, _ => .fail

def unA (op : UnOp) (x : AV) : Rd AV :=
  match op, x with
  | .neg, .p (.v (.int k n)) => .ret (.v (.int k (k.wrap (0 - n))))
  | .not, .p (.v (.bool b)) => .ret (.v (.bool !b))
  | .neg, .p (.i e) => .ret (.p (.i (.neg e)))
  | _, _ => .fail

def byteOf? : AV → Option UInt8
  | .p (.v (.int .u8 n)) => bif Nat.blt n.toNat 256 && decide (0 ≤ n) then some (UInt8.ofNat n.toNat) else none
  | _ => none
def bytesOf? : List AV → Option (List UInt8)
  | [] => some []
  | c :: cs => match byteOf? c, bytesOf? cs with
    | some b, some l => some (b :: l)
    | _, _ => none
def byteRows (l : List UInt8) : List (List PV) := l.map fun b => [.v (.int .u8 b.toNat)]

def convA (P : Program) (src dst : TypeId) (x : AV) : Rd AV :=
  match P.underlying src, P.underlying dst, x with
  | some _, some (.int k), .p (.v (.int _ n)) => .ret (.v (.int k (k.wrap n)))
  | some _, some .string, .p (.v (.string s)) => .ret (.v (.string s))
  | some _, some .string, .p (.v (.int _ n)) => .ret (.v (.string (Utf8.encode n)))
  | some _, some (.slice e), .p (.v (.string s)) =>
    match P.underlying e with
    | some (.int .u8) => .ret (.p (.sl (byteRows s.data.toList)))
    | _ => .fail
  | some (.slice e), some .string, .sub b off n =>
    match P.underlying e with
    | some (.int .u8) => .blk b fun B => (Rd.lift (bytesOf? ((B.cells.drop off).take n))).bind fun l =>
      (Rd.need (B.live && Nat.beq l.length n)).bind fun _ => .ret (.v (.string ⟨l.toArray⟩))
    | _ => .fail
  | some (.pointer t), some .unsafePointer, .ptr b off => .blk b fun B =>
    (Rd.need (decide (tySize P t ≠ some 0) && (tySize P t).isSome && B.live && decide (off < B.cells.length))).bind fun _ => .ret (.ptr b off)
  | some .unsafePointer, some (.pointer u), .ptr b off => .blk b fun B => match B with
    | .fx ty cs => (Rd.need ((tySize P u).isSome && liesAt P P.depth ty (cs.length / P.cellsOf ty) off u 1)).bind fun _ => .ret (.ptr b off)
    | _ => .fail
  | _, _, _ => .fail

/-- What an append reads out of its second argument: its cells, one behind the other. -/
def tailA (sz : Nat) (x : AV) : Rd (List AV) :=
  match x with
  | .p (.v (.slice none 0 0)) | .p .nl => .ret []
  | .p (.v (.string s)) => (Rd.need (decide (sz = 1))).bind fun _ => .ret (s.data.toList.map fun b => .v (.int .u8 b.toNat))
  | .p (.sl rows) => (Rd.need (rows.all fun r => r.length == sz)).bind fun _ => .ret (rows.flatten.map .p)
  | .own b n => .blk b fun B => match B with
    | .vec _ w cs => (Rd.need (decide (w = sz) && decide (n * sz ≤ cs.length))).bind fun _ => .ret (cs.take (n * sz))
    | _ => .fail
  | _ => .fail
def tailLen (x : AV) : Option Nat :=
  match x with
  | .p (.v (.slice none 0 0)) | .p .nl => some 0
  | .p (.v (.string s)) => some s.data.toList.length
  | .p (.sl rows) => some rows.length
  | .own _ n => some n
  | _ => none

def notInt : TypeDesc → Bool
  | .slice _ | .string => true
  | _ => false
/-- What an append is told by the types: an element's type, its cells, its bytes. -/
def appTy (P : Program) (at_ : Array TypeId) : Option (Nat × Nat × Nat) :=
  match at_[0]?, at_[1]? with
  | some t, some t2 => match tyElem P t, P.underlying t2 with
    | some e, some d2 => match tySize P e, tyZero P e, P.info? e with
      | some sz, some z, some ei => bif notInt d2 && Nat.beq z.cells.size sz && Nat.ble 1 ei.bytes then some (e, sz, ei.bytes) else none
      | _, _, _ => none
    | _, _ => none
  | _, _ => none

def appNil (nid e sz bytes n : Nat) (x : AV) (new : List AV) : Rd Txn :=
  match n with
  | 0 => .ret { res := x }
  | _ + 1 => .ret { res := .own nid n, wr := [(nid, .vec e sz new)], nnew := 1, chk := decide ((n + n + 1024) * bytes ≤ 2 ^ 48) }
def appOwn (nid e sz bytes n b m : Nat) (new : List AV) : Rd Txn :=
  .blk b fun B => match B with
    | .vec ty w cs => (Rd.need (Nat.beq ty e && Nat.beq w sz && Nat.ble (m * sz) cs.length)).bind fun _ =>
      .ret { res := .own nid (m + n), wr := [(b, .dead), (nid, .vec e sz (cs.take (m * sz) ++ new))], nnew := 1, chk := decide (((m + n) + (m + n) + 1024) * bytes ≤ 2 ^ 48) }
    | _ => .fail

def appendA (P : Program) (at_ : Array TypeId) (x y : AV) (nid : Nat) : Rd Txn :=
  (Rd.lift (appTy P at_)).bind fun ty => (Rd.lift (tailLen y)).bind fun n => (tailA ty.2.1 y).bind fun new =>
  (Rd.need (new.all AV.one)).bind fun _ =>
  match x with
  | .p (.v (.slice none 0 0)) => appNil nid ty.1 ty.2.1 ty.2.2 n x new
  | .p .nl => appNil nid ty.1 ty.2.1 ty.2.2 n x new
  | .own b m => appOwn nid ty.1 ty.2.1 ty.2.2 n b m new
  | _ => .fail

def lenA (P : Program) (t : TypeId) (x : AV) : Rd AV :=
  match P.underlying t, x with
  | some .string, .p (.v (.string s)) => .ret (.v (.int .i64 s.data.toList.length))
  | some .string, .p (.t e) => .ret (.p (.i (.len e)))
  | some (.slice _), .own _ n => .ret (.v (.int .i64 n))
  | some (.slice _), .sub _ _ n => .ret (.v (.int .i64 n))
  | some (.slice _), .p (.sl rows) => .ret (.v (.int .i64 rows.length))
  | some (.slice _), .p .nl => .ret (.v (.int .i64 0))
  | some (.slice _), .p (.v (.slice none 0 0)) => .ret (.v (.int .i64 0))
  | _, _ => .fail

/-- The less, the greater of two. -/
def pickSym (x y : AV) : Option Bool → Rd Txn
  | some true => .ret { res := y }
  | some false => .ret { res := x }
  | none => .fail
def mnA (G : Glob) (x y : AV) : Rd Txn :=
  match x, y with
  | .p (.v (.int k a)), .p (.v (.int _ b)) => .ret { res := .v (.int k (if b < a then b else a)) }
  | x, y => match symI x, symI y with
    | some a, some b => pickSym x y (G.num .lss b a)
    | _, _ => .fail
def mxA (G : Glob) (x y : AV) : Rd Txn :=
  match x, y with
  | .p (.v (.int k a)), .p (.v (.int _ b)) => .ret { res := .v (.int k (if b > a then b else a)) }
  | x, y => match symI x, symI y with
    | some a, some b => pickSym x y (G.num .gtr b a)
    | _, _ => .fail

def clearA (P : Program) (t : TypeId) (x : AV) : Rd Txn :=
  (Rd.lift (tyElem P t)).bind fun e => (Rd.lift (tySize P e)).bind fun sz => (Rd.lift (tyZero P e)).bind fun z =>
  match x with
  | .p (.sl []) => .ret { res := .tup [] }
  | .sub b off (n + 1) => .blk b fun B =>
    let cs := (Builtin.zeroCells z.cells (n + 1)).toList.map AV.v
    (Rd.need (B.live && Nat.ble (off + cs.length) B.cells.length && cs.all AV.one && Nat.beq z.cells.size sz)).bind fun _ =>
    .ret { res := .tup [], wr := [(b, B.with (setR B.cells off cs))] }
  | _ => .fail

/-- bytes of a row, taken as a string for good: the row is let go of. -/
def unsafeStringA (P : Program) (pt : TypeId) (x n : AV) : Rd Txn :=
  match x, n with
  | .ptr b 0, .p (.v (.int .i64 k)) => .blk b fun B => match B with
    | .vec ty 1 cs => match P.underlying pt with
      | some (.pointer u) =>
        (Rd.need (Nat.beq ty u && Nat.beq (P.cellsOf ty) 1)).bind fun _ =>
        (Rd.lift (bytesOf? (cs.take k.toNat))).bind fun l =>
        .ret { res := .v (.string ⟨l.toArray⟩), wr := [(b, .dead)], chk := decide (0 < k) && decide (k ≤ cs.length) && decide (k ≤ IntKind.i64.max) }
      | _ => .fail
    | _ => .fail
  | .p (.v (.pointer none)), .p (.v (.int .i64 k)) => .ret { res := .v (.string .empty), chk := decide (k = 0) }
  | _, _ => .fail

end Go.Ab

namespace Go.Ab

/-- A call's answer: the result; the blocks that came in and were written; the new blocks, by the call's own letters (nd: no call was deferred). -/
structure Ans where
  res : AV
  old : List (Nat × Blk)
  new : List Blk
  nd : Bool := false

abbrev Calling := FuncId → List AV → List Blk → Option Ans

def tget (T : Tr AV) (i : Nat) : AV := T.get .top 12 i
def hget (H : Tr Blk) (i : Nat) : Blk := H.get .dead 12 i
def most : Nat := 4000

/-- The letters in a value. -/
def AV.ids : AV → List Nat
  | .ptr b _ => [b]
  | .own b _ => [b]
  | .sub b _ _ => [b]
  | .clo _ first caps => idsL first ++ idsL caps
  | .agg cs => idsL cs
  | .tup cs => idsL cs
  | _ => []
where idsL : List AV → List Nat
  | [] => []
  | c :: cs => c.ids ++ idsL cs
def AV.idsL (l : List AV) : List Nat := AV.ids.idsL l

def bit (b : Nat) : Nat := Nat.shiftLeft 1 b
def hasBit (m b : Nat) : Bool := Nat.beq (Nat.land (Nat.shiftRight m b) 1) 1

/-- The letters that are reached and not seen yet, in the order in which they are met. (strict: none may be gone.) -/
def reach (h : Nat → Blk) (strict : Bool) : Nat → List Nat → Nat → List Nat → Option (List Nat)
  | 0, _, _, _ => none
  | _ + 1, [], _, acc => some acc.reverse
  | f + 1, b :: todo, m, acc =>
    bif hasBit m b then reach h strict f todo m acc
    else match h b with
      | .dead => bif strict then none else reach h strict f todo m acc
      | .fx _ cs => reach h strict f (AV.idsL cs ++ todo) (Nat.lor m (bit b)) (b :: acc)
      | .vec _ _ cs => reach h strict f (AV.idsL cs ++ todo) (Nat.lor m (bit b)) (b :: acc)

def pos (b : Nat) : List Nat → Nat → Option Nat
  | [], _ => none
  | x :: r, k => bif Nat.beq x b then some k else pos b r (k + 1)

/-- Other letters; what leads to none of them is unknown. -/
def AV.ren (ρ : Nat → Option Nat) : AV → AV
  | .ptr b o => match ρ b with | some k => .ptr k o | none => .top
  | .own b n => match ρ b with | some k => .own k n | none => .top
  | .sub b o n => match ρ b with | some k => .sub k o n | none => .top
  | .clo f first caps => .clo f (renL ρ first) (renL ρ caps)
  | .agg cs => .agg (renL ρ cs)
  | .tup cs => .tup (renL ρ cs)
  | x => x
where renL (ρ : Nat → Option Nat) : List AV → List AV
  | [] => []
  | c :: cs => c.ren ρ :: renL ρ cs
def AV.renL (ρ : Nat → Option Nat) (l : List AV) : List AV := AV.ren.renL ρ l
def Blk.ren (ρ : Nat → Option Nat) : Blk → Blk
  | .dead => .dead
  | .fx t cs => .fx t (AV.renL ρ cs)
  | .vec t w cs => .vec t w (AV.renL ρ cs)

/-- The call's letters in the caller's: those that came in, and behind them n new ones. -/
def back (l : List Nat) (m nid n k : Nat) : Option Nat := bif Nat.blt k m then l[k]? else bif Nat.blt k (m + n) then some (nid + (k - m)) else none
def backOld (l : List Nat) (m nid n : Nat) : List (Nat × Blk) → List (Nat × Blk)
  | [] => []
  | (k, B) :: r => (l.getD k 0, B.ren (back l m nid n)) :: backOld l m nid n r
def backNew (l : List Nat) (m nid n : Nat) : Nat → List Blk → List (Nat × Blk)
  | _, [] => []
  | k, B :: r => (nid + k, B.ren (back l m nid n)) :: backNew l m nid n (k + 1) r

/-- A call: the letters that its arguments reach, the call over those alone, and what it wrote and made behind them. -/
def callA (call : Calling) (f : FuncId) (args : List AV) (nid : Nat) (h : Nat → Blk) : Option (Txn × List Nat) :=
  match reach h true 4000 (AV.idsL args) 0 [] with
  | none => none
  | some l => match call f (AV.renL (fun b => pos b l 0) args) (l.map fun b => (h b).ren fun b => pos b l 0) with
    | none => none
    | some a =>
      some ({ res := a.res.ren (back l l.length nid a.new.length), wr := backOld l l.length nid a.new.length a.old ++ backNew l l.length nid a.new.length 0 a.new, nnew := a.new.length }, l)

def pureR (r : Rd AV) : Rd Txn := r.bind fun x => .ret { res := x }

section
variable (P : Program) (G : Glob) (nid : Nat)
def oMove (x : Operand) : Rd Txn := pureR (opnd G x)
def oPick (c a b : Operand) : Rd Txn := (opnd G c).bind fun c => match c with
    | .p (.v (.bool true)) => pureR (opnd G a)
    | .p (.v (.bool false)) => pureR (opnd G b)
    | _ => .fail
def oAlloc (t : TypeId) : Rd Txn := (Rd.lift (tyZero P t)).bind fun z => .ret { res := .ptr nid 0, wr := [(nid, .fx t (z.cells.toList.map fun c => .v c))], nnew := 1 }
def oBox (t : TypeId) (x : Operand) : Rd Txn := (opnd G x).bind fun x => (Rd.lift x.cells?).bind fun cs => .ret { res := .ptr nid 0, wr := [(nid, .fx t cs)], nnew := 1 }
def oBuild (t : TypeId) (parts : Array (Nat × Operand)) : Rd Txn := (opndsI G parts.toList).bind fun ps => pureR (buildA P t ps)
def oBuildSlice (t : TypeId) (len : Nat) (parts : Array (Nat × Operand)) : Rd Txn := (opndsI G parts.toList).bind fun ps => buildSliceA P t len ps nid
def oLoad (t : TypeId) (x : Operand) : Rd Txn := (opnd G x).bind fun x => pureR (loadA P t x)
def oStore (t : TypeId) (x y : Operand) : Rd Txn := (opnd G x).bind fun x => (opnd G y).bind fun y => storeA P t x y
def oNilCheck (x : Operand) : Rd Txn := (opnd G x).bind fun x => match x with
    | .ptr b off => .ret { res := .ptr b off }
    | .ep row off => .ret { res := .ep row off }
    | .clo f a c => .ret { res := .clo f a c }
    | _ => .fail
def oBin (op : BinOp) (t : TypeId) (x y : Operand) : Rd Txn := (opnd G x).bind fun x => (opnd G y).bind fun y => binA P G op t x y
def oUn (op : UnOp) (x : Operand) : Rd Txn := (opnd G x).bind fun x => pureR (unA op x)
def oConv (s d : TypeId) (x : Operand) : Rd Txn := (opnd G x).bind fun x => pureR (convA P s d x)
def oMakeFunc (f : FuncId) (first caps : Array Operand) : Rd Txn :=
  (opnds G first.toList).bind fun a => (opnds G caps.toList).bind fun c => .ret { res := .clo f a c }
def opt (x : Option Operand) : Rd (Option AV) := match x with | none => .ret none | some l => (opnd G l).bind fun l => .ret (some l)
def szOk (t : TypeId) : Bool := match P.underlying t with
  | some (.slice e) => (tySize P e).isSome
  | _ => true
def oSlice (t : TypeId) (x : Operand) (lo hi : Option Operand) : Rd Txn :=
  (Rd.need (szOk P t)).bind fun _ => (opnd G x).bind fun x => (opt G lo).bind fun lo => (opt G hi).bind fun hi => sliceA P G t x lo hi
def oField (s : TypeId) (x : Operand) (f : Nat) : Rd Txn := (opnd G x).bind fun x => pureR (fieldA P s x f)
def oIndexAddr (t : TypeId) (x i : Operand) : Rd Txn := (opnd G x).bind fun x => (opnd G i).bind fun i => indexAddrA P t x i
def oIndex (t : TypeId) (x i : Operand) : Rd Txn := (opnd G x).bind fun x => (opnd G i).bind fun i => indexA P t x i
def oExtract (x : Operand) (i : Nat) : Rd Txn := (opnd G x).bind fun x => pureR (extractA x i)
def sliceDataA (x : AV) : Rd AV := match x with
  | .p (.v (.slice none 0 0)) => .ret (.v (.pointer none))
  | .own b _ => .blk b fun B => match B with
    | .vec _ _ (_ :: _) => .ret (.ptr b 0)
    | _ => .fail
  | _ => .fail
def oBuiltin (b : Builtin) (args : Array Operand) (argTypes : Array TypeId) : Rd Txn := (opnds G args.toList).bind fun as =>
    match b, as with
    | .len, [x] => (Rd.lift (argTypes[0]?)).bind fun t => pureR (lenA P t x)
    | .append, [x, y] => appendA P argTypes x y nid
    | .real, [x] => pureR (partA x)
    | .imag, [x] => pureR (partA x)
    | .min, [x, y] => mnA G x y
    | .max, [x, y] => mxA G x y
    | .clear, [x] => (Rd.lift (argTypes[0]?)).bind fun t => clearA P t x
    | .unsafeSliceData, [x] => pureR (sliceDataA x)
    | .unsafeString, [x, n] => (Rd.need (Nat.beq argTypes.size 2)).bind fun _ => (Rd.lift (argTypes[0]?)).bind fun t => unsafeStringA P t x n
    | _, _ => .fail
def oCallee (c : Callee) (args : Array Operand) (argTypes : Array TypeId) : Rd Txn := match c with
  | .builtin b => oBuiltin P G nid b args argTypes
  | _ => .fail
def oFunc (fn : Fn) (first caps : Array Operand) : Rd Txn := match fn with
  | .func f => oMakeFunc G f first caps
  | _ => .fail

/-- The operations that do not call. -/
def opA (op : Op) : Rd Txn :=
  match op with
  | .move x | .assign x => oMove G x
  | .pick c a b => oPick G c a b
  | .alloc t => oAlloc P nid t
  | .box t x => oBox G nid t x
  | .build t parts => oBuild P G t parts
  | .buildSlice t len parts => oBuildSlice P G nid t len parts
  | .load t x => oLoad P G t x
  | .store t x y => oStore P G t x y
  | .nilCheck x => oNilCheck G x
  | .binOp op t x y _ => oBin P G op t x y
  | .unOp op _ x => oUn G op x
  | .convert s d x => oConv P G s d x
  | .makeFunc fn first caps => oFunc G fn first caps
  | .slice t x lo hi none => oSlice P G t x lo hi
  | .fieldAddr s x f => oField P G s x f
  | .indexAddr t x i => oIndexAddr P G t x i
  | .index t x i => oIndex P G t x i
  | .extract x i => oExtract G x i
  | .call c => oCallee P G nid c.callee c.args c.argTypes
  | _ => .fail

def calledA (g : Operand) (args : Array Operand) : Rd (FuncId × List AV) :=
  (opnd G g).bind fun g => (opnds G args.toList).bind fun as => match g with
      | .clo f first caps => .ret (f, first ++ as ++ caps)
      | _ => .fail
/-- The function that a call calls, with its arguments. -/
def callOf (op : Op) : Option (Rd (FuncId × List AV)) :=
  match op with
  | .call { callee := .value g, args, .. } => some (calledA G g args)
  | _ => none
end

/-- The function that is deferred, with its arguments. -/
def deferOf (G : Glob) (op : Op) : Option (Rd (FuncId × List AV)) :=
  match op with
  | .defer { callee := .value g, args, .. } => some (calledA G g args)
  | _ => none

def applyWr (H : Tr Blk) : List (Nat × Blk) → Tr Blk
  | [] => H
  | (b, B) :: r => applyWr (Tr.set .dead 12 H b B) r
def putA (T : Tr AV) (d : Option Tmp) (x : AV) : Tr AV :=
  match d with
  | none => T
  | some d => Tr.set .top 12 T d x

/-- A state: the frame's slots, the blocks, the next letter, which letters were written, the deferred calls. -/
structure St where
  T : Tr AV
  H : Tr Blk
  n : Nat
  d : Nat
  df : List (FuncId × List AV)

def checked (x : Txn) : Option Txn := bif x.chk then some x else none

def stepA (P : Program) (G : Glob) (call : Calling) (op : Op) (nid : Nat) (t : Nat → AV) (h : Nat → Blk) : Option Txn :=
  match callOf G op with
  | some r => match r.run t h with
    | some (f, as) => (callA call f as nid h).map (·.1)
    | none => none
  | none => match (opA P G nid op).run t h with
    | some x => checked x
    | none => none

def footL : List Nat → Nat → Nat
  | [], a => a
  | b :: r, a => footL r (Nat.lor a (bit b))
/-- The same, and which blocks it looked at. -/
def stepD (P : Program) (G : Glob) (call : Calling) (op : Op) (nid : Nat) (t : Nat → AV) (h : Nat → Blk) : Option (Txn × Nat) :=
  match callOf G op with
  | some r => match r.runM t h 0 with
    | some ((f, as), m) => (callA call f as nid h).map fun y => (y.1, footL y.2 m)
    | none => none
  | none => match (opA P G nid op).runM t h 0 with
    | some (x, m) => (checked x).map fun x => (x, m)
    | none => none

def wantedA (ops : Array Oper) (g : Option (Nat × Bool)) (t : Nat → AV) : Option Bool :=
  match g with
  | none => some true
  | some (j, want) => match (ops[j]?).bind (·.dst) with
    | none => none
    | some d => match t d with
      | .p (.v (.bool b)) => some (b == want)
      | .p (.v _) => some false
      | _ => none

def okWr (n : Nat) : List (Nat × Blk) → Bool
  | [] => true
  | (b, _) :: r => bif Nat.blt b n then okWr n r else false
def dirt : List (Nat × Blk) → Nat → Nat
  | [], d => d
  | (b, _) :: r, d => dirt r (Nat.lor d (bit b))

def pushS (s : St) (o : Option Tmp) (x : FuncId × List AV) : St := { s with T := putA s.T o (.v undef), df := x :: s.df }
def skipS (s : St) (o : Option Tmp) : St := { s with T := putA s.T o (.v undef) }
/-- A change is made. -/
def applyS (s : St) (dst : Option Tmp) (x : Txn) (k : Nat) : Option St :=
  bif Nat.blt (s.n + x.nnew + k) most then bif okWr (s.n + x.nnew) x.wr then some ⟨putA s.T dst x.res, applyWr s.H x.wr, s.n + x.nnew + k, dirt x.wr s.d, s.df⟩ else none else none

/-- A region, in the order of the text. -/
def opsA (P : Program) (G : Glob) (call : Calling) (ops : Array Oper) : List Oper → St → Option St
  | [], s => some s
  | o :: rest, s =>
    match wantedA ops o.guard (tget s.T) with
    | some false => opsA P G call ops rest (skipS s o.dst)
    | some true => match deferOf G o.op with
      | some r => match r.run (tget s.T) (hget s.H) with
        | none => none
        | some x => opsA P G call ops rest (pushS s o.dst x)
      | none => match stepA P G call o.op s.n (tget s.T) (hget s.H) with
        | none => none
        | some x => match applyS s o.dst x 0 with
          | none => none
          | some s => opsA P G call ops rest s
    | none => none

/-- Is it told, that this comes behind the one at that place? -/
def directs (o : Oper) (i : Nat) : Bool := o.after.any fun e => Region.binds .any e && Nat.beq e.on i
/-- Or behind one that comes behind it? -/
def behind (ops : Array Oper) : Nat → Oper → Nat → Bool
  | 0, _, _ => false
  | f + 1, o, i => directs o i || o.after.any fun e => Region.binds .any e && Nat.blt i e.on && match ops[e.on]? with
    | some o' => behind ops f o' i
    | none => false
def okFoot (ops : Array Oper) (o : Oper) (r w : Nat) : List (Nat × Nat × Nat) → Bool
  | [] => true
  | (i, r', w') :: rest => bif Nat.beq (Nat.lor (Nat.land w' (Nat.lor r w)) (Nat.land r' w)) 0 || behind ops 24 o i then okFoot ops o r w rest else false
def note (i r w : Nat) (acc : List (Nat × Nat × Nat)) : List (Nat × Nat × Nat) := bif Nat.beq (Nat.lor r w) 0 then acc else (i, r, w) :: acc

/-- A region that may be run in other orders: what stands in no order must not meet in a block. -/
def opsD (P : Program) (G : Glob) (call : Calling) (ops : Array Oper) : List Oper → Nat → List (Nat × Nat × Nat) → St → Option St
  | [], _, _, s => some s
  | o :: rest, i, acc, s =>
    match wantedA ops o.guard (tget s.T) with
    | some false => opsD P G call ops rest (i + 1) acc (skipS s o.dst)
    | some true => match stepD P G call o.op s.n (tget s.T) (hget s.H) with
      | none => none
      | some (x, r) => bif okFoot ops o r (dirt x.wr 0) acc then match applyS s o.dst x 1 with
          | none => none
          | some s => opsD P G call ops rest (i + 1) (note i r (dirt x.wr 0) acc) s
        else none
    | none => none

inductive XA where
  | normal
  | exit (id : Nat)
  | goto (l : Nat)
  | ret

/-- Code, or a scope that a jump goes on in. -/
inductive Job where
  | code (c : Code)
  | jump (b : Code) (l : Nat)

def condA (G : Glob) (c : Operand) (s : St) : Option Bool :=
  match (opnd G c).run (tget s.T) (hget s.H) with
  | some (.p (.v (.bool b))) => some b
  | _ => none

def regA (P : Program) (G : Glob) (call : Calling) (ops : Array Oper) (draw : Bool) (s : St) : Option St :=
  match draw with
  | true => opsD P G call ops ops.toList 0 [] s
  | false => opsA P G call ops ops.toList s

def codeA (P : Program) (G : Glob) (call : Calling) : Nat → Job → St → Option (XA × St)
  | 0, _, _ => none
  | n + 1, .code c, s =>
    match c with
    | .skip => some (.normal, s)
    | .label _ => some (.normal, s)
    | .region _ ops d => match regA P G call ops d s with
      | some s => some (.normal, s)
      | none => none
    | .seq a b => match codeA P G call n (.code a) s with
      | some (.normal, s) => codeA P G call n (.code b) s
      | r => r
    | .cond c a b => match condA G c s with
      | some true => codeA P G call n (.code a) s
      | some false => codeA P G call n (.code b) s
      | none => none
    | .block id b => match codeA P G call n (.code b) s with
      | some (.exit i, s) => bif Nat.beq i id then some (.normal, s) else some (.exit i, s)
      | r => r
    | .loop b => match codeA P G call n (.code b) s with
      | some (.normal, s) => codeA P G call n (.code (.loop b)) s
      | r => r
    | .exit id => some (.exit id, s)
    | .goto l => some (.goto l, s)
    | .ret => some (.ret, s)
    | .scope b => match codeA P G call n (.code b) s with
      | some (.goto l, s) => codeA P G call n (.jump b l) s
      | r => r
    | _ => none
  | n + 1, .jump b l, s => match findLabel b l with
    | none => none
    | some rest => match codeA P G call n (.code rest) s with
      | some (.goto l', s) => codeA P G call n (.jump b l') s
      | r => r

/-- Rows of w cells. -/
def chunk (w : Nat) : Nat → List AV → Option (List (List AV))
  | 0, _ => some []
  | n + 1, cs => bif Nat.blt cs.length w then none else (chunk w n (cs.drop w)).map fun r => cs.take w :: r

def pvRow : List AV → Option (List PV)
  | [] => some []
  | .p x :: r => match pvRow r with | some l => some (x :: l) | none => none
  | _ => none
def pvRows : List (List AV) → Option (List (List PV))
  | [] => some []
  | r :: rs => match pvRow r, pvRows rs with
    | some x, some l => some (x :: l)
    | _, _ => none

/-- A value for good: the new rows that it leads to are let go of. -/
def frz (h : Nat → Blk) (m : Nat) : Nat → AV → AV
  | 0, x => x
  | f + 1, .own b n => bif Nat.blt b m then .own b n else match h b with
    | .vec _ w cs => match chunk w n cs with
      | some rows => match pvRows (rows.map fun r => r.map (frz h m f)) with
        | some l => .p (.sl l)
        | none => .own b n
      | none => .own b n
    | _ => .own b n
  | f + 1, .agg cs => .agg (cs.map (frz h m f))
  | f + 1, .tup cs => .tup (cs.map (frz h m f))
  | _, x => x

/-- Is what was let go of not among what stays? -/
def frzOk (h : Nat → Blk) (m : Nat) (live : List Nat) : Nat → AV → Bool
  | 0, _ => true
  | f + 1, .own b n => bif Nat.blt b m then true else match h b with
    | .vec _ w cs => match chunk w n cs with
      | some rows => match pvRows (rows.map fun r => r.map (frz h m f)) with
        | some _ => (pos b live 0).isNone && (cs.take (n * w)).all (frzOk h m live f)
        | none => true
      | none => true
    | _ => true
  | f + 1, .agg cs => cs.all (frzOk h m live f)
  | f + 1, .tup cs => cs.all (frzOk h m live f)
  | _, _ => true

def resultA (P : Program) (t : Nat → AV) (h : Nat → Blk) : ResultVar → Option AV
  | .tmp i => some (t i)
  | .cell a ty => (loadA P ty (t a)).run t h
def resultsA (P : Program) (t : Nat → AV) (h : Nat → Blk) : List ResultVar → Option (List AV)
  | [] => some []
  | r :: rs => match resultA P t h r, resultsA P t h rs with
    | some x, some l => some (x :: l)
    | _, _ => none

/-- The functions whose rows stay their caller's. -/
abbrev Keep := FuncId → Bool

def one : List AV → AV
  | [x] => x
  | l => .tup l

/-- Behind a call: the result (for good, but where it is kept), the blocks that came in and were written, the new ones that are still reached. -/
def leaving (m : Nat) (live : List Nat) (b : Nat) : Option Nat := bif Nat.blt b m then some b else (pos b live 0).map (m + ·)
def leaveA (P : Program) (keep nd : Bool) (fn : Func) (m : Nat) (s : St) : Option Ans :=
  match resultsA P (tget s.T) (hget s.H) fn.results.toList with
  | none => none
  | some l =>
    let r := bif keep then one l else frz (hget s.H) m 40 (one l)
    let dirty := (List.range m).filter (hasBit s.d)
    match reach (hget s.H) false 4000 (r.ids ++ dirty.flatMap fun b => AV.idsL (hget s.H b).cells) (Nat.shiftLeft 1 m - 1) [] with
    | none => none
    | some live => bif Nat.blt (m + live.length) most && (keep || frzOk (hget s.H) m live 40 (one l)) then
        some { res := r.ren (leaving m live), old := dirty.map fun b => (b, (hget s.H b).ren (leaving m live)), new := live.map fun b => (hget s.H b).ren (leaving m live), nd }
      else none

def byteAt (c : UInt8) : List UInt8 → Nat → Int
  | [], _ => -1
  | b :: r, i => bif Nat.beq b.toNat c.toNat then i else byteAt c r (i + 1)
def externA (name : String) (args : List AV) : Option Ans :=
  match args with
  | [.p (.v (.string s)), .p (.v (.int .u8 c))] =>
    if name = "internal/bytealg.IndexByteString" then
      some { res := .v (.int .i64 (byteAt c.toNat.toUInt8 s.data.toList 0)), old := [], new := [] }
    else none
  | [.p (.v (.string s)), .p (.v (.string t))] =>
    if name = "internal/bytealg.abigen_runtime_cmpstring" then
      some { res := .v (.int .i64 (Lib.compareBytes s.data.toList t.data.toList)), old := [], new := [] }
    else none
  | [.ptr b o] => if name = "internal/abi.NoEscape" then some { res := .ptr b o, old := [], new := [] } else none
  | _ => none

def loadT (T : Tr AV) : Nat → List AV → Tr AV
  | _, [] => T
  | i, x :: r => loadT (Tr.set .top 12 T i x) (i + 1) r
def loadH (H : Tr Blk) : Nat → List Blk → Tr Blk
  | _, [] => H
  | i, x :: r => loadH (Tr.set .dead 12 H i x) (i + 1) r

def enterA (args : List AV) (H : List Blk) : St := ⟨loadT .lf 0 args, loadH .lf 0 H, H.length, 0, []⟩

/-- The deferred calls; none of them may defer another. -/
def onlyNd (call : Calling) : Calling := fun f args H => match call f args H with
  | some a => bif a.nd then some a else none
  | none => none
def runD (call : Calling) : List (FuncId × List AV) → St → Option St
  | [], s => some s
  | (f, as) :: r, s => match callA (onlyNd call) f as s.n (hget s.H) with
    | none => none
    | some x => match applyS s none x.1 0 with
      | none => none
      | some s => runD call r s
def endA (P : Program) (call : Calling) (keep : Bool) (fn : Func) (m : Nat) (s : St) : Option Ans :=
  match s.df with
  | [] => leaveA P keep true fn m s
  | df => match runD call df s with
    | none => none
    | some s => leaveA P keep false fn m s

/-- All calls: those that base answers, and by their bodies the others. -/
def callF (P : Program) (G : Glob) (keep : Keep) (base : Calling) : Nat → Calling
  | 0, _, _, _ => none
  | n + 1, f, args, H =>
    match base f args H with
    | some a => some a
    | none => match P.funcs[f]? with
      | none => none
      | some fn => match fn.body with
        | none => bif Nat.blt H.length most then externA fn.name args else none
        | some c => bif Nat.ble args.length fn.ntmps && Nat.blt H.length most then match codeA P G (callF P G keep base n) 3000 (.code c) (enterA args H) with
          | some (.normal, s) => endA P (callF P G keep base n) (keep f) fn H.length s
          | some (.ret, s) => endA P (callF P G keep base n) (keep f) fn H.length s
          | _ => none
          else none

end Go.Ab
