/-
  The program is as the evaluator needs it. No condition.
-/
import Derived.Test.YteacnhblklcclaaGreatDoorProg
import Derived.Test.YteacnhblklcclaaGreatDoorEf
import Derived.Laws.Externs
import Derived.KernelRfl
namespace Go.Ab
open Go.Proofs

theorem mixed : Tryz.prog.follows .mixedOrders = true := by kernel_rfl

def statF (fn : Func) : Bool := match fn.body with
  | none => true
  | some c => Nat.ble fn.ntmps most && !(fn.name == "runtime.NumGoroutine") && statC fn.ntmps c
theorem stats : (Tryz.prog.funcs.toList.all statF) = true := by kernel_rfl

def extF (fn : Func × Nat) : Bool := match fn.1.body with
  | some _ => true
  | none => (!(fn.1.name == "internal/bytealg.IndexByteString") || Nat.beq fn.2 133) && (!(fn.1.name == "internal/abi.NoEscape") || Nat.beq fn.2 145) && (!(fn.1.name == "internal/bytealg.abigen_runtime_cmpstring") || Nat.beq fn.2 150)
theorem exts : (Tryz.prog.funcs.toList.zipIdx.all extF) = true := by kernel_rfl

end Go.Ab

namespace Go.Ab
open Go.Proofs

theorem byteAt_eq (s : ByteArray) (c : UInt8) : ∀ (l : List UInt8) (k : Nat), s.data.toList.drop k = l →
    (match (List.range' k l.length).find? (fun i => s[i]! == c) with | some i => (i : Int) | none => -1) = byteAt c l k
  | [], k, _ => by simp [byteAt]
  | b :: r, k, h => by
    have hk : k < s.size := by
      rcases Nat.lt_or_ge k s.data.toList.length with h1 | h1
      · simpa using h1
      · rw [List.drop_eq_nil_of_le h1] at h; cases h
    have hd : s.data.toList.drop (k + 1) = r := by
      rw [← List.drop_drop, h] <;> rfl
    have hb : s[k]! = b := by
      rw [getElem!_pos s k hk]
      have h1 : s.data.toList[k]? = some b := by
        have := congrArg (fun l => l[0]?) h
        simpa using this
      have h2 : s.data[k]? = some b := by simpa using h1
      exact (Array.getElem?_eq_some_iff.1 h2).2
    rw [List.length_cons, List.range'_succ, List.find?_cons, hb]
    simp only [byteAt]
    cases hc : Nat.beq b.toNat c.toNat with
    | true =>
      have : b = c := UInt8.toNat_inj.1 (Nat.eq_of_beq_eq_true hc)
      subst this
      simp
    | false =>
      have hne : ¬ b = c := fun e => by subst e; simp at hc
      have : (b == c) = false := by simpa using hne
      rw [this]
      exact byteAt_eq s c r (k + 1) hd

theorem indexByte_run (s : ByteArray) (c : Int) (w : World) : (Extern.BytealgIndexByte.indexByte #[.string s, .int .u8 c]).run Tryz.prog w = .ok (.int .i64 (byteAt c.toNat.toUInt8 s.data.toList 0)) w := by
  have h := byteAt_eq s c.toNat.toUInt8 s.data.toList 0 rfl
  rw [← h]
  have hr : List.range' 0 s.data.toList.length = List.range s.size := by rw [List.range_eq_range']; simp
  rw [hr]
  have law : Extern.BytealgIndexByte.indexByte #[.string s, .int .u8 c] =
      (match (List.range s.size).find? (fun i => s[i]! == c.toNat.toUInt8) with | some i => Pure.pure (goInt i) | none => Pure.pure (goInt (-1))) := rfl
  rw [law]
  cases (List.range s.size).find? (fun i => s[i]! == c.toNat.toUInt8) <;> rfl

theorem ext133 (args : Array Value) (w : World) : (callFunc 133 args).run Tryz.prog w = ((Extern.BytealgIndexByte.indexByte args).run Tryz.prog w).andThen fun v w' => .ok (.value v) w' :=
  run_callFunc_extern Tryz.func133 (by kernel_rfl) (by kernel_rfl) (by kernel_rfl) (by kernel_rfl) args w
theorem ext145 (args : Array Value) (w : World) : (callFunc 145 args).run Tryz.prog w = ((Extern.AbiNoEscape.same args).run Tryz.prog w).andThen fun v w' => .ok (.value v) w' :=
  run_callFunc_extern Tryz.func145 (by kernel_rfl) (by kernel_rfl) (by kernel_rfl) (by kernel_rfl) args w

theorem ext150 (args : Array Value) (w : World) : (callFunc 150 args).run Tryz.prog w = ((Extern.BytealgCompare.compare args).run Tryz.prog w).andThen fun v w' => .ok (.value v) w' :=
  run_callFunc_extern Tryz.func150 (by kernel_rfl) (by kernel_rfl) (by kernel_rfl) (by kernel_rfl) args w
variable [Env]
theorem sane : Sane Tryz.prog := by
  refine ⟨mixed, fun f fn c hf hb => ?_, fun f fn args ans hf hb he => ?_⟩
  · have h := List.all_eq_true.1 stats fn (by simpa using Array.mem_of_getElem? hf)
    unfold statF at h
    rw [hb] at h
    simp only [Bool.and_eq_true, Bool.not_eq_true'] at h
    exact ⟨Nat.le_of_ble_eq_true h.1.1, h.1.2, h.2⟩
  · have h := List.all_eq_true.1 exts (fn, f) (by rw [List.mem_zipIdx_iff_getElem?]; simpa using hf)
    unfold extF at h
    simp only [hb, Bool.and_eq_true, Bool.or_eq_true, Bool.not_eq_true'] at h
    obtain ⟨⟨h1, h2⟩, h3⟩ := h
    unfold externA at he
    split at he
    · rename_i s c
      split at he
      · rename_i hn
        cases he
        refine ⟨rfl, rfl, rfl, fun φ W w vargs ha => ?_⟩
        have hf133 : f = 133 := by
          rcases h1 with h1 | h1
          · rw [hn] at h1; simp at h1
          · exact Nat.eq_of_beq_eq_true h1
        subst hf133
        have hs := ha.size
        have e1 : vargs[0]? = some (.string s) := by
          have hlt : 0 < vargs.size := by rw [hs]; simp
          have := ha.get 0 _ vargs[0] rfl (by simp [hlt])
          rw [← RA.v_eq this]; simp [hlt]
        have e2 : vargs[1]? = some (.int .u8 c) := by
          have hlt : 1 < vargs.size := by rw [hs]; simp
          have := ha.get 1 _ vargs[1] rfl (by simp [hlt])
          rw [← RA.v_eq this]; simp [hlt]
        have hv : vargs = #[.string s, .int .u8 c] := by
          apply Array.ext
          · simpa using hs
          · intro i h1 h2
            have : i = 0 ∨ i = 1 := by simp at h2; omega
            rcases this with rfl | rfl
            · simpa using (Array.getElem?_eq_some_iff.1 e1).2
            · simpa using (Array.getElem?_eq_some_iff.1 e2).2
        subst hv
        exact ⟨_, by rw [ext133, indexByte_run]; rfl, RA.v _⟩
      · cases he
    · rename_i s c
      split at he
      · rename_i hn
        cases he
        refine ⟨rfl, rfl, rfl, fun φ W w vargs ha => ?_⟩
        have hf150 : f = 150 := by
          rcases h3 with h1 | h1
          · rw [hn] at h1; simp at h1
          · exact Nat.eq_of_beq_eq_true h1
        subst hf150
        have hs := ha.size
        have e1 : vargs[0]? = some (.string s) := by
          have hlt : 0 < vargs.size := by rw [hs]; simp
          have := ha.get 0 _ vargs[0] rfl (by simp [hlt])
          rw [← RA.v_eq this]; simp [hlt]
        have e2 : vargs[1]? = some (.string c) := by
          have hlt : 1 < vargs.size := by rw [hs]; simp
          have := ha.get 1 _ vargs[1] rfl (by simp [hlt])
          rw [← RA.v_eq this]; simp [hlt]
        have hv : vargs = #[.string s, .string c] := by
          apply Array.ext
          · simpa using hs
          · intro i h1 h2
            have : i = 0 ∨ i = 1 := by simp at h2; omega
            rcases this with rfl | rfl
            · simpa using (Array.getElem?_eq_some_iff.1 e1).2
            · simpa using (Array.getElem?_eq_some_iff.1 e2).2
        subst hv
        exact ⟨_, by rw [ext150, Lib.run_compareString]; rfl, RA.v _⟩
      · cases he
    · rename_i b o
      split at he
      · rename_i hn
        cases he
        refine ⟨rfl, rfl, rfl, fun φ W w vargs ha => ?_⟩
        have hf145 : f = 145 := by
          rcases h2 with h1 | h1
          · rw [hn] at h1; simp at h1
          · exact Nat.eq_of_beq_eq_true h1
        subst hf145
        have hs := ha.size
        have hlt : 0 < vargs.size := by rw [hs]; simp
        have h0 := ha.get 0 _ vargs[0] rfl (by simp [hlt])
        have hv : vargs = #[vargs[0]] := by
          apply Array.ext
          · simpa using hs
          · intro i h1 h2
            have : i = 0 := by simp at h2; omega
            subst this; rfl
        refine ⟨vargs[0], ?_, h0⟩
        rw [ext145]
        generalize vargs[0] = x at hv
        subst hv
        rfl
      · cases he
    · cases he

end Go.Ab
