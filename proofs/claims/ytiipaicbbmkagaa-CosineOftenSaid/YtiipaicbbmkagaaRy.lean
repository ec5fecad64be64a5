/- The reckoner at work: known functions, and contracts out of what is reckoned. -/
import Derived.Test.YtiipaicbbmkagaaRx11
import Derived.Below
namespace Rx
set_option linter.all false
open Go Go.RowKit

abbrev OF := List SV → List Blk → Dec → Option (SV × List Blk × Dec × Obs)
def OfOk (P : Program) (g : FuncId) (f : OF) : Prop :=
  ∀ args M ds x M' ds' ob, f args M ds = some (x, M', ds', ob) → ObsOk ob → ∀ m w vs, dens m args = some vs → MemAt m w M →
    Calls P g vs.toArray w fun e w' => ∃ m' v, e = .returned v ∧ CallPost m w M x M' m' v w'

def lookO : List (Nat × OF) → OracleF
  | [], _ => none
  | (k, f) :: r, g => if Nat.beq g k then some f else lookO r g
theorem OracleOk.nil (P : Program) : OracleOk P (lookO []) := by intro g f h; cases h
theorem OracleOk.cons {P : Program} {k : Nat} {f : OF} {r : List (Nat × OF)} (h : OfOk P k f) (hr : OracleOk P (lookO r)) : OracleOk P (lookO ((k, f) :: r)) := by
  intro g f' hf
  unfold lookO at hf
  split at hf
  · rename_i e
    have := Nat.eq_of_beq_eq_true e
    subst this
    simp only [Option.some.injEq] at hf
    subst hf
    exact h
  · exact hr g f' hf

def plainO (f : List SV → Dec → Option (SV × Dec × Obs)) : OF := fun args M ds =>
  match M with
  | [] => match f args ds with
    | some (x, ds', ob) => some (x, [], ds', ob)
    | none => none
  | _ => none

theorem CallPost.same {m : Nat → Option Nat} {w w' : World} {M : List Blk} {x : SV} {v : Value} (hM : MemAt m w M) (hx : den m x = some v) (hb : Below w.heap.size w w') : CallPost m w M x M m v w' := by
  refine ⟨Ext.refl m, hx, ⟨⟨hM.ok.inj, fun n r hr => Nat.lt_of_lt_of_le (hM.ok.lt n r hr) hb.size⟩, ?_, hM.dom⟩, Nat.le_refl _, ⟨hb.os, hb.tape, hb.output, hb.size, fun r hr _ => hb.block r hr⟩, fun n r h => .inl h⟩
  intro n b hn
  obtain ⟨r, hr, hat⟩ := hM.blk n b hn
  exact ⟨r, hr, hat.ext (Ext.refl m) (hb.block r (hM.ok.lt n r hr))⟩

/-- a plain function: its values, and that the call makes new blocks alone -/
def PlainOk (P : Program) (g : FuncId) (f : List SV → Dec → Option (SV × Dec × Obs)) : Prop :=
  ∀ args ds x ds' ob, f args ds = some (x, ds', ob) → ObsOk ob → ∃ vs v, plains args = some vs ∧ plain x = some v ∧ ∀ w, Calls P g vs.toArray w fun e w' => e = .returned v ∧ Below w.heap.size w w'
theorem PlainOk.of {P : Program} {g : FuncId} {f : List SV → Dec → Option (SV × Dec × Obs)} (h : PlainOk P g f) : OfOk P g (plainO f) := by
  intro args M ds x M' ds' ob hf ho m w vs hvs hM
  unfold plainO at hf
  split at hf
  · split at hf
    · rename_i y d o hy
      simp only [Option.some.injEq, Prod.mk.injEq] at hf
      obtain ⟨rfl, rfl, rfl, rfl⟩ := hf
      obtain ⟨vs', v, h1, h2, h3⟩ := h args ds y d o hy ho
      have := dens_plains (m := m) h1
      rw [hvs] at this
      simp only [Option.some.injEq] at this; subst this
      refine Calls.mono (h3 w) fun e w' ⟨he, hb⟩ => ⟨m, v, he, CallPost.same hM (den_plain h2) hb⟩
    · cases hf
  · cases hf

/-- a contract out of what is reckoned -/
theorem calls_of_run {P : Program} {E : ExtF} {O : OracleF} (hP : Good P E) (hO : OracleOk P O) (n : Nat) {g : FuncId} {args : List SV} {ds ds' : Dec} {x : SV} {M' : List Blk} {ob : Obs} {vs : List Value} {v : Value}
    (h : (run P E O n).1 g args [] ds = some (x, M', ds', ob)) (ho : ObsOk ob) (hvs : plains args = some vs) (hx : plain x = some v) (w : World) :
    Calls P g vs.toArray w fun e w' => e = .returned v ∧ Below w.heap.size w w' := by
  have h1 := (run_ok hP hO n).1 g args [] ds x M' ds' ob h ho (fun _ => none) w vs (dens_plains hvs) ⟨⟨by simp, by simp⟩, by simp, by simp⟩
  refine Calls.mono h1 fun e w' ⟨m', u, he, hp⟩ => ?_
  have := den_plain (m := m') hx
  rw [hp.val] at this
  simp only [Option.some.injEq] at this; subst this
  exact ⟨he, hp.fr.os, hp.fr.tape, hp.fr.output, hp.fr.size, fun k hk => hp.fr.block k hk (by simp)⟩

/-- of what is reckoned: all but what stands in memory -/
def valR (r : Option (SV × List Blk × Dec × Obs)) : Option (SV × Dec × Obs) :=
  match r with
  | some (x, _, ds, ob) => some (x, ds, ob)
  | none => none
theorem calls_of_val {P : Program} {E : ExtF} {O : OracleF} (hP : Good P E) (hO : OracleOk P O) (n : Nat) {g : FuncId} {args : List SV} {ds ds' : Dec} {x : SV} {ob : Obs} {vs : List Value} {v : Value}
    (h : valR ((run P E O n).1 g args [] ds) = some (x, ds', ob)) (ho : ObsOk ob) (hvs : plains args = some vs) (hx : plain x = some v) (w : World) :
    Calls P g vs.toArray w fun e w' => e = .returned v ∧ Below w.heap.size w w' := by
  unfold valR at h
  split at h
  · rename_i y M' d o hr
    simp only [Option.some.injEq, Prod.mk.injEq] at h
    obtain ⟨rfl, rfl, rfl⟩ := h
    exact calls_of_run hP hO n hr ho hvs hx w
  · cases h

/-- what is reckoned whole: nothing is taken for anything -/
def outB (r : Option (SV × List Blk × Dec × Obs)) : Option SV :=
  match r with
  | some (x, _, _, ob) => if obsB ob then some x else none
  | none => none
theorem calls_of_out {P : Program} {E : ExtF} {O : OracleF} (hP : Good P E) (hO : OracleOk P O) (n : Nat) {g : FuncId} {args : List SV} {ds : Dec} {x : SV} {vs : List Value} {v : Value}
    (h : outB ((run P E O n).1 g args [] ds) = some x) (hvs : plains args = some vs) (hx : plain x = some v) (w : World) :
    Calls P g vs.toArray w fun e w' => e = .returned v ∧ Below w.heap.size w w' := by
  unfold outB at h
  split at h
  · rename_i y M' ds' ob hr
    split at h
    · rename_i hob
      simp only [Option.some.injEq] at h; subst h
      exact calls_of_run hP hO n hr (ObsOk.of_B hob) hvs hx w
    · cases h
  · cases h

theorem look_ext {P : Program} : ExtOk P (fun _ => none) := by intro g f h; cases h

def lookE : List (Nat × (List SV → Option (SV × Obs))) → ExtF
  | [], _ => none
  | (k, f) :: r, g => if Nat.beq g k then some f else lookE r g
def ExtOne (P : Program) (g : FuncId) (f : List SV → Option (SV × Obs)) : Prop :=
  ∀ args x ob, f args = some (x, ob) → ObsOk ob → ∀ (m : Nat → Option Nat) vs, dens m args = some vs → ∃ v, den m x = some v ∧ ∀ w, (callFunc g vs.toArray).run P w = .ok (.value v) w
theorem ExtOk.nil (P : Program) : ExtOk P (lookE []) := by intro g f h; cases h
theorem ExtOk.cons {P : Program} {k : Nat} {f : List SV → Option (SV × Obs)} {r : List (Nat × (List SV → Option (SV × Obs)))} (h : ExtOne P k f) (hr : ExtOk P (lookE r)) : ExtOk P (lookE ((k, f) :: r)) := by
  intro g f' hf
  unfold lookE at hf
  split at hf
  · rename_i e
    have := Nat.eq_of_beq_eq_true e
    subst this
    simp only [Option.some.injEq] at hf
    subst hf
    exact h
  · exact hr g f' hf

/-- a whole number -/
def intS : SV → Option (IntKind × Int)
  | .i k n => some (k, n)
  | .si k n => some (k, n)
  | _ => none
theorem intS_plain {x : SV} {k : IntKind} {n : Int} (h : intS x = some (k, n)) : plain x = some (.int k n) := by
  unfold intS at h
  split at h <;> first | cases h; done | skip
  all_goals (simp only [Option.some.injEq, Prod.mk.injEq] at h; obtain ⟨rfl, rfl⟩ := h; rfl)
theorem plains_cons {x : SV} {v : Value} {l : List SV} {vs : List Value} (h : plain x = some v) (hl : plains l = some vs) : plains (x :: l) = some (v :: vs) := by
  simp [plains, h, hl]
theorem plains_nil : plains [] = some [] := rfl
theorem plain_agg {l : List SV} {vs : List Value} (h : plains l = some vs) : plain (.agg l) = some (.agg vs.toArray) := by simp [plain, h]
theorem plain_tup {l : List SV} {vs : List Value} (h : plains l = some vs) : plain (.tup l) = some (.tuple vs.toArray) := by simp [plain, h]

theorem Good.of {P : Program} {E : ExtF} (h1 : P.follows .mixedOrders = true) (h2 : (P.funcs.toList.all fun fn => fn.body.isNone || !(fn.name == "runtime.NumGoroutine")) = true) (h3 : ExtOk P E) : Good P E := by
  refine ⟨h3, h1, fun g fn hg hb => ?_⟩
  have hm : fn ∈ P.funcs.toList := by
    have := Array.mem_of_getElem? hg
    simpa using this
  have := List.all_eq_true.1 h2 fn hm
  cases hbb : fn.body with
  | none => rw [hbb] at hb; cases hb
  | some c => rw [hbb] at this; simpa using this
end Rx
