/- A small reckoner of Go code over values whose addresses are names: its values, and what they stand for. The reckoner: one operation that looks at values alone. The reckoner: operations of values alone, with addresses among them. -/
import Derived.RowKit
import Derived.Orders
import Derived.LoopN
import Derived.Laws.Sem
import Derived.Laws.World
import Derived.Laws.Cells
import Derived.Test.YtlhlcefkmhhmjaaGreatZ01
namespace Rx
set_option linter.all false
open Go

inductive SV where
  | b (c : Bool)
  | i (k : IntKind) (n : Int)
  | si (k : IntKind) (n : Int)
  | f (x : Nat)
  | fl (x : Bu.F)
  | p (n off : Nat)
  | np
  | sl (n off len cap : Nat)
  | fn (f : Fn) (first cap : List SV)
  | o (v : Value)
  | agg (l : List SV)
  | tup (l : List SV)
  deriving Inhabited

mutual
def den (m : Nat → Option Nat) : SV → Option Value
  | .b c => some (.bool c)
  | .i k n => some (.int k n)
  | .si k n => some (.int k n)
  | .f x => some (.float .f64 x)
  | .fl x => some (.float .f64 x.b)
  | .p n off => (m n).map fun r => .pointer (some ⟨r, off, none⟩)
  | .np => some (.pointer none)
  | .sl n off len cap => (m n).map fun r => .slice (some ⟨r, off, none⟩) len cap
  | .fn f first cap => (dens m first).bind fun x => (dens m cap).map fun y => .func f x.toArray y.toArray
  | .o v => some v
  | .agg l => (dens m l).map fun x => .agg x.toArray
  | .tup l => (dens m l).map fun x => .tuple x.toArray
def dens (m : Nat → Option Nat) : List SV → Option (List Value)
  | [] => some []
  | x :: l => (den m x).bind fun v => (dens m l).map fun vs => v :: vs
end

variable {m m' : Nat → Option Nat}

theorem dens_nil : dens m [] = some [] := by simp [dens]
theorem dens_cons_some {x : SV} {l : List SV} {vs : List Value} : dens m (x :: l) = some vs ↔ ∃ v us, den m x = some v ∧ dens m l = some us ∧ vs = v :: us := by
  simp only [dens, Option.bind_eq_some_iff, Option.map_eq_some_iff]
  constructor
  · rintro ⟨v, h1, us, h2, rfl⟩; exact ⟨v, us, h1, h2, rfl⟩
  · rintro ⟨v, us, h1, h2, rfl⟩; exact ⟨v, h1, us, h2, rfl⟩
theorem dens_cons {x : SV} {l : List SV} {v : Value} {us : List Value} (h1 : den m x = some v) (h2 : dens m l = some us) : dens m (x :: l) = some (v :: us) :=
  dens_cons_some.2 ⟨v, us, h1, h2, rfl⟩

theorem dens_length : ∀ {l : List SV} {vs : List Value}, dens m l = some vs → vs.length = l.length
  | [], vs, h => by simp [dens] at h; simp [h]
  | x :: l, vs, h => by
    obtain ⟨v, us, _, h2, rfl⟩ := dens_cons_some.1 h
    simp [dens_length h2]

theorem dens_get : ∀ {l : List SV} {vs : List Value}, dens m l = some vs → ∀ {j : Nat} {x : SV}, l[j]? = some x → ∃ v, vs[j]? = some v ∧ den m x = some v
  | [], vs, h, j, x, hx => by simp at hx
  | y :: l, vs, h, j, x, hx => by
    obtain ⟨v, us, h1, h2, rfl⟩ := dens_cons_some.1 h
    cases j with
    | zero => simp at hx; subst hx; exact ⟨v, by simp, h1⟩
    | succ j => simp at hx; obtain ⟨u, hu, hd⟩ := dens_get h2 hx; exact ⟨u, by simpa using hu, hd⟩

theorem dens_of_get : ∀ {l : List SV} {vs : List Value}, vs.length = l.length → (∀ (j : Nat) (x : SV), l[j]? = some x → ∃ v, vs[j]? = some v ∧ den m x = some v) → dens m l = some vs
  | [], vs, hl, _ => by simp at hl; simp [hl, dens]
  | y :: l, vs, hl, h => by
    cases vs with
    | nil => simp at hl
    | cons v us =>
      have h0 := h 0 y (by simp)
      simp at h0
      refine dens_cons h0 (dens_of_get (by simpa using hl) fun j x hx => ?_)
      have := h (j + 1) x (by simpa using hx)
      simpa using this

theorem dens_append {l r : List SV} {vs us : List Value} (h1 : dens m l = some vs) (h2 : dens m r = some us) : dens m (l ++ r) = some (vs ++ us) := by
  induction l generalizing vs with
  | nil => simp [dens] at h1; subst h1; simpa using h2
  | cons x l ih =>
    obtain ⟨v, ws, a, b, rfl⟩ := dens_cons_some.1 h1
    exact dens_cons a (ih b)
theorem dens_set {l : List SV} {vs : List Value} (h : dens m l = some vs) {x : SV} {v : Value} (hx : den m x = some v) (j : Nat) : dens m (l.set j x) = some (vs.set j v) := by
  refine dens_of_get (by simp [dens_length h]) fun i y hy => ?_
  by_cases hij : j = i
  · subst hij
    have hlt : j < l.length := by
      rcases Nat.lt_or_ge j l.length with h' | h'
      · exact h'
      · simp [List.getElem?_eq_none (by simpa using h' : (l.set j x).length ≤ j)] at hy
    rw [List.getElem?_set_self hlt] at hy
    cases hy
    exact ⟨v, by rw [List.getElem?_set_self (by rw [dens_length h]; exact hlt)], hx⟩
  · rw [List.getElem?_set_ne hij] at hy ⊢
    exact dens_get h hy

theorem dens_take {l : List SV} {vs : List Value} (h : dens m l = some vs) (j : Nat) : dens m (l.take j) = some (vs.take j) := by
  induction l generalizing vs j with
  | nil => simp [dens] at h; subst h; simp [dens]
  | cons x l ih =>
    obtain ⟨v, ws, a, b, rfl⟩ := dens_cons_some.1 h
    cases j with
    | zero => simp [dens]
    | succ j => exact dens_cons a (ih b j)
theorem dens_drop {l : List SV} {vs : List Value} (h : dens m l = some vs) (j : Nat) : dens m (l.drop j) = some (vs.drop j) := by
  induction l generalizing vs j with
  | nil => simp [dens] at h; subst h; simp [dens]
  | cons x l ih =>
    obtain ⟨v, ws, a, b, rfl⟩ := dens_cons_some.1 h
    cases j with
    | zero => exact dens_cons a b
    | succ j => exact ih b j
theorem dens_replicate {x : SV} {v : Value} (h : den m x = some v) (j : Nat) : dens m (List.replicate j x) = some (List.replicate j v) := by
  induction j with
  | zero => simp [dens]
  | succ j ih => exact dens_cons h ih

/-- more names -/
def Ext (m m' : Nat → Option Nat) : Prop := ∀ n r, m n = some r → m' n = some r
theorem Ext.refl (m : Nat → Option Nat) : Ext m m := fun _ _ h => h
theorem Ext.trans {a b c : Nat → Option Nat} (h : Ext a b) (k : Ext b c) : Ext a c := fun n r x => k n r (h n r x)

mutual
theorem den_ext (hm : Ext m m') : ∀ {x : SV} {v : Value}, den m x = some v → den m' x = some v
  | .b _, v, h => by simpa [den] using h
  | .i _ _, v, h => by simpa [den] using h
  | .si _ _, v, h => by simpa [den] using h
  | .f _, v, h => by simpa [den] using h
  | .fl _, v, h => by simpa [den] using h
  | .p n off, v, h => by
    simp only [den, Option.map_eq_some_iff] at h ⊢
    obtain ⟨r, hr, e⟩ := h; exact ⟨r, hm _ _ hr, e⟩
  | .np, v, h => by simpa [den] using h
  | .sl n off len cap, v, h => by
    simp only [den, Option.map_eq_some_iff] at h ⊢
    obtain ⟨r, hr, e⟩ := h; exact ⟨r, hm _ _ hr, e⟩
  | .fn f first cap, v, h => by
    simp only [den, Option.bind_eq_some_iff, Option.map_eq_some_iff] at h ⊢
    obtain ⟨x, hx, y, hy, e⟩ := h
    exact ⟨x, dens_ext hm hx, y, dens_ext hm hy, e⟩
  | .o _, v, h => by simpa [den] using h
  | .agg l, v, h => by
    simp only [den, Option.map_eq_some_iff] at h ⊢
    obtain ⟨x, hx, e⟩ := h; exact ⟨x, dens_ext hm hx, e⟩
  | .tup l, v, h => by
    simp only [den, Option.map_eq_some_iff] at h ⊢
    obtain ⟨x, hx, e⟩ := h; exact ⟨x, dens_ext hm hx, e⟩
theorem dens_ext (hm : Ext m m') : ∀ {l : List SV} {vs : List Value}, dens m l = some vs → dens m' l = some vs
  | [], vs, h => by simpa [dens] using h
  | x :: l, vs, h => by
    obtain ⟨v, us, a, b, rfl⟩ := dens_cons_some.1 h
    exact dens_cons (den_ext hm a) (dens_ext hm b)
end

/-- the number of a word (0, if it is none) -/
def toF (w : Nat) : Bu.F := if w < 9223372036854775808 then Bu.F.of (w : Int) else Bu.F.of (-((w - 9223372036854775808 : Nat) : Int))
theorem toF_b {w : Nat} (h : Bu.rightB w = true) : (toF w).b = w := by
  have e := Bu.T_num
  unfold Bu.rightB at h
  simp only [Bool.or_eq_true, Bool.and_eq_true, decide_eq_true_eq] at h
  unfold toF
  split
  · rename_i hlt
    rw [Bu.F.b, Bu.F.of_k (by omega), if_pos (by omega)]; omega
  · rename_i hlt
    rw [Bu.F.b, Bu.F.of_k (by omega), if_neg (by omega)]; omega
theorem toF_F (x : Bu.F) : toF x.b = x := Bu.F.b_inj (toF_b (Bu.right_F x))
/-- a word as a number, if it is one -/
def ofW (w : Nat) : SV := if Bu.rightB w = true then .fl (toF w) else .f w
theorem den_ofW (w : Nat) : den m (ofW w) = some (.float .f64 w) := by
  unfold ofW
  split
  · rename_i h; simp [den, toF_b h]
  · simp [den]

mutual
/-- a value without addresses, as it stands -/
def ofV : Value → SV
  | .bool c => .b c
  | .int k n => .i k n
  | .float k x => match k with | .f64 => ofW x | .f32 => .o (.float .f32 x)
  | .pointer none => .np
  | .agg cs => .agg (ofA cs)
  | .tuple cs => .tup (ofA cs)
  | v => .o v
def ofA : Array Value → List SV
  | ⟨l⟩ => ofVs l
def ofVs : List Value → List SV
  | [] => []
  | v :: l => ofV v :: ofVs l
end
mutual
theorem den_ofV : ∀ v : Value, den m (ofV v) = some v
  | .bool c => by simp [ofV, den]
  | .int k n => by simp [ofV, den]
  | .float k x => by cases k <;> simp [ofV, den, den_ofW]
  | .complex _ _ _ => by simp [ofV, den]
  | .string _ => by simp [ofV, den]
  | .pointer none => by simp [ofV, den]
  | .pointer (some a) => by simp [ofV, den]
  | .slice _ _ _ => by simp [ofV, den]
  | .map _ => by simp [ofV, den]
  | .chan _ => by simp [ofV, den]
  | .func _ _ _ => by simp [ofV, den]
  | .nilFunc => by simp [ofV, den]
  | .iface _ _ => by simp [ofV, den]
  | .nilIface => by simp [ofV, den]
  | .agg cs => by simp [ofV, den, dens_ofA cs]
  | .tuple cs => by simp [ofV, den, dens_ofA cs]
theorem dens_ofA : ∀ l : Array Value, dens m (ofA l) = some l.toList
  | ⟨l⟩ => by simp only [ofA]; exact dens_ofVs l
theorem dens_ofVs : ∀ l : List Value, dens m (ofVs l) = some l
  | [] => by simp [ofVs, dens]
  | v :: l => by rw [ofVs]; exact dens_cons (den_ofV v) (dens_ofVs l)
end

mutual
/-- what has no address in it, as a value -/
def plain : SV → Option Value
  | .b c => some (.bool c)
  | .i k n => some (.int k n)
  | .si k n => some (.int k n)
  | .f x => some (.float .f64 x)
  | .fl x => some (.float .f64 x.b)
  | .np => some (.pointer none)
  | .o v => some v
  | .agg l => (plains l).map fun x => .agg x.toArray
  | .tup l => (plains l).map fun x => .tuple x.toArray
  | _ => none
def plains : List SV → Option (List Value)
  | [] => some []
  | x :: l => (plain x).bind fun v => (plains l).map fun vs => v :: vs
end
mutual
theorem den_plain : ∀ {x : SV} {v : Value}, plain x = some v → den m x = some v
  | .b _, v, h => by simpa [den, plain] using h
  | .i _ _, v, h => by simpa [den, plain] using h
  | .si _ _, v, h => by simpa [den, plain] using h
  | .f _, v, h => by simpa [den, plain] using h
  | .fl _, v, h => by simpa [den, plain] using h
  | .p _ _, v, h => by simp [plain] at h
  | .np, v, h => by simpa [den, plain] using h
  | .sl _ _ _ _, v, h => by simp [plain] at h
  | .fn _ _ _, v, h => by simp [plain] at h
  | .o _, v, h => by simpa [den, plain] using h
  | .agg l, v, h => by
    simp only [plain, den, Option.map_eq_some_iff] at h ⊢
    obtain ⟨x, hx, e⟩ := h; exact ⟨x, dens_plains hx, e⟩
  | .tup l, v, h => by
    simp only [plain, den, Option.map_eq_some_iff] at h ⊢
    obtain ⟨x, hx, e⟩ := h; exact ⟨x, dens_plains hx, e⟩
theorem dens_plains : ∀ {l : List SV} {vs : List Value}, plains l = some vs → dens m l = some vs
  | [], vs, h => by simpa [dens, plains] using h
  | x :: l, vs, h => by
    simp only [plains, Option.bind_eq_some_iff, Option.map_eq_some_iff] at h
    obtain ⟨v, h1, us, h2, rfl⟩ := h
    exact dens_cons (den_plain h1) (dens_plains h2)
end
end Rx
namespace Rx
set_option linter.all false
open Go

def pureRun {α : Type} (P : Program) : Sem α → Option α
  | .pure a => some a
  | .program k => pureRun P (k P)
  | .mark _ k => pureRun P k
  | _ => none
theorem pureRun_run {α : Type} {P : Program} : ∀ {x : Sem α} {a : α}, pureRun P x = some a → ∀ w, x.run P w = .ok a w
  | .pure a, b, h, w => by simp only [pureRun, Option.some.injEq] at h; subst h; rfl
  | .program k, b, h, w => by simp only [pureRun] at h; simp only [Sem.run]; exact pureRun_run h w
  | .mark _ k, b, h, w => by simp only [pureRun] at h; simp only [Sem.run]; exact pureRun_run h w
  | .load _ _ _, b, h, w => by simp [pureRun] at h
  | .store _ _ _ _, b, h, w => by simp [pureRun] at h
  | .new _ _, b, h, w => by simp [pureRun] at h
  | .shape _ _, b, h, w => by simp [pureRun] at h
  | .freeze _ _ _, b, h, w => by simp [pureRun] at h
  | .frozen _ _, b, h, w => by simp [pureRun] at h
  | .getObj _ _, b, h, w => by simp [pureRun] at h
  | .setObj _ _ _, b, h, w => by simp [pureRun] at h
  | .choose _ _, b, h, w => by simp [pureRun] at h
  | .sys _ _, b, h, w => by simp [pureRun] at h
  | .halt _, b, h, w => by simp [pureRun] at h

/-- decisions that are still to be used up; none: all is reckoned -/
abbrev Dec := Option (List Bool)
/-- what was taken for what -/
abbrev Obs := List (Bool × Bool)
def ObsOk (ob : Obs) : Prop := ∀ p ∈ ob, p.1 = p.2
def obsB (ob : Obs) : Bool := ob.all fun p => p.1 == p.2
theorem ObsOk.of_B {ob : Obs} (h : obsB ob = true) : ObsOk ob := by
  intro p hp
  have := List.all_eq_true.1 h p hp
  simpa using this
theorem ObsOk.left {a b : Obs} (h : ObsOk (a ++ b)) : ObsOk a := fun p hp => h p (List.mem_append_left _ hp)
theorem ObsOk.right {a b : Obs} (h : ObsOk (a ++ b)) : ObsOk b := fun p hp => h p (List.mem_append_right _ hp)

def takeB (ds : Dec) (c : Bool) : Option (Bool × Dec × Obs) :=
  match ds with
  | none => some (c, none, [])
  | some [] => none
  | some (d :: r) => some (d, some r, [(c, d)])
theorem takeB_ok {ds ds' : Dec} {c d : Bool} {ob : Obs} (h : takeB ds c = some (d, ds', ob)) (ho : ObsOk ob) : d = c := by
  unfold takeB at h
  split at h
  · simp only [Option.some.injEq, Prod.mk.injEq] at h; exact h.1.symm
  · cases h
  · simp only [Option.some.injEq, Prod.mk.injEq] at h
    obtain ⟨h1, _, h3⟩ := h
    rw [← h3] at ho
    have := ho (c, _) (List.mem_singleton.2 rfl)
    rw [← h1]; exact this.symm

mutual
def taint : SV → Bool
  | .f _ => true
  | .fl _ => true
  | .si _ _ => true
  | .agg l => taints l
  | .tup l => taints l
  | _ => false
def taints : List SV → Bool
  | [] => false
  | x :: l => taint x || taints l
end

def tagV (t : Bool) (ds : Dec) (v : Value) : Option (SV × Dec × Obs) :=
  match t, v with
  | true, .bool c => (takeB ds c).map fun r => (.b r.1, r.2.1, r.2.2)
  | true, .int k n => some (.si k n, ds, [])
  | true, .float k x => match k with
    | .f64 => some (.f x, ds, [])
    | .f32 => some (.o (.float .f32 x), ds, [])
  | _, v => some (ofV v, ds, [])
theorem tagV_ok {t : Bool} {ds ds' : Dec} {v : Value} {x : SV} {ob : Obs} (h : tagV t ds v = some (x, ds', ob)) (ho : ObsOk ob) (m : Nat → Option Nat) : den m x = some v := by
  unfold tagV at h
  split at h
  · simp only [Option.map_eq_some_iff, Prod.mk.injEq] at h
    obtain ⟨⟨d, e, o⟩, h1, rfl, rfl, rfl⟩ := h
    rw [takeB_ok h1 ho]; simp [den]
  · simp only [Option.some.injEq, Prod.mk.injEq] at h; obtain ⟨rfl, _, _⟩ := h; simp [den]
  · split at h <;> (simp only [Option.some.injEq, Prod.mk.injEq] at h; obtain ⟨rfl, _, _⟩ := h; simp [den])
  · simp only [Option.some.injEq, Prod.mk.injEq] at h; obtain ⟨rfl, _, _⟩ := h; exact den_ofV _

def isAggT (P : Program) (t : TypeId) : Option Bool :=
  match P.underlying t with
  | some (.struct _) | some (.array _ _) => some true
  | some _ => some false
  | none => none
def sizeT (P : Program) (t : TypeId) : Option Nat := (P.info? t).map (·.size)

section
variable {P : Program} {w : World}
theorem run_underlying {t : TypeId} {d : TypeDesc} (h : P.underlying t = some d) : (underlying t).run P w = .ok d w := by
  simp [underlying, h]
theorem run_sizeOf {t : TypeId} {n : Nat} (h : sizeT P t = some n) : (Go.sizeOf t).run P w = .ok n w := by
  unfold sizeT at h
  simp only [Option.map_eq_some_iff] at h
  obtain ⟨i, hi, rfl⟩ := h
  simp [Go.sizeOf, typeInfo, hi]
theorem run_isAgg {t : TypeId} {b : Bool} (h : isAggT P t = some b) : (isAgg t).run P w = .ok b w := by
  unfold isAggT at h
  unfold isAgg underlying
  split at h
  · rename_i hd; simp only [Option.some.injEq] at h; subst h; simp [hd]
  · rename_i hd; simp only [Option.some.injEq] at h; subst h; simp [hd]
  · rename_i d h1 h2 hd
    simp only [Option.some.injEq] at h; subst h; simp only [Sem.run_bind, run_program, Result.andThen_ok, hd]
    cases d <;> first | rfl | exact absurd rfl (h1 _) | exact absurd rfl (h2 _ _)
  · cases h
end

/-- part of a row of cells -/
def partS (P : Program) (t : TypeId) (l : List SV) (off : Nat) : Option SV :=
  match isAggT P t with
  | some true => (sizeT P t).map fun s => .agg ((l.drop off).take s)
  | some false => l[off]?
  | none => none
theorem partS_ok {P : Program} {t : TypeId} {l : List SV} {off : Nat} {x : SV} (h : partS P t l off = some x) {m : Nat → Option Nat} {vs : List Value} (hl : dens m l = some vs) (w : World) :
    ∃ v, den m x = some v ∧ (part t vs.toArray off).run P w = .ok v w := by
  unfold partS at h
  split at h
  · rename_i ha
    simp only [Option.map_eq_some_iff] at h
    obtain ⟨s, hs, rfl⟩ := h
    refine ⟨.agg ((vs.drop off).take s).toArray, by simp [den, dens_take (dens_drop hl off) s], ?_⟩
    simp only [part, Sem.run_bind, run_isAgg ha, Result.andThen_ok, if_true, run_sizeOf hs, Sem.run_pure]
    simp
  · rename_i ha
    obtain ⟨v, hv, hd⟩ := dens_get hl h
    refine ⟨v, hd, ?_⟩
    simp [part, run_isAgg ha, hv]
  · cases h

def SV.cells : SV → List SV
  | .agg l => l
  | .o v => ofA v.cells
  | x => [x]
theorem cells_ok {m : Nat → Option Nat} {x : SV} {v : Value} (h : den m x = some v) : dens m x.cells = some v.cells.toList := by
  cases x with
  | agg l =>
    simp only [den, Option.map_eq_some_iff] at h
    obtain ⟨y, hy, rfl⟩ := h
    simpa [SV.cells, Value.cells] using hy
  | o u =>
    simp only [den, Option.some.injEq] at h; subst h
    exact dens_ofA _
  | _ =>
    refine (dens_cons h dens_nil).trans ?_
    simp only [den, Option.some.injEq, Option.map_eq_some_iff, Option.bind_eq_some_iff] at h
    first
      | (subst h; rfl)
      | (obtain ⟨_, _, rfl⟩ := h; rfl)
      | (obtain ⟨_, _, _, _, rfl⟩ := h; rfl)

def putRow (cells : List SV) (off : Nat) : List SV → List SV
  | [] => cells
  | c :: r => putRow (cells.set off c) (off + 1) r
def putRowV (cells : List Value) (off : Nat) : List Value → List Value
  | [] => cells
  | c :: r => putRowV (cells.set off c) (off + 1) r
theorem putRow_ok {m : Nat → Option Nat} {l : List SV} : ∀ {cells : List SV} {off : Nat} {cv vs : List Value}, dens m cells = some cv → dens m l = some vs → dens m (putRow cells off l) = some (putRowV cv off vs) := by
  induction l with
  | nil => intro cells off cv vs h1 h2; simp [dens] at h2; subst h2; exact h1
  | cons x l ih =>
    intro cells off cv vs h1 h2
    obtain ⟨v, us, a, b, rfl⟩ := dens_cons_some.1 h2
    exact ih (dens_set h1 a off) b
theorem putRowV_fold (l : List Value) : ∀ (cells : Array Value) (off j : Nat),
    ((l.zipIdx j).foldl (fun cs (c, i) => cs.setIfInBounds (off + i) c) cells) = (putRowV cells.toList (off + j) l).toArray := by
  induction l with
  | nil => intro cells off j; simp [putRowV]
  | cons x l ih =>
    intro cells off j
    simp only [List.zipIdx_cons, List.foldl_cons, putRowV]
    rw [ih]
    simp [Nat.add_assoc]

def fillS (place : Nat → Option (Nat × Nat)) (cells : List SV) : List (Nat × SV) → Option (List SV)
  | [] => some cells
  | (i, x) :: rest =>
    match place i with
    | none => none
    | some (off, size) =>
      if x.cells.length = size ∧ off + x.cells.length ≤ cells.length then fillS place (putRow cells off x.cells) rest else none
theorem fillS_ok {m : Nat → Option Nat} {place : Nat → Option (Nat × Nat)} : ∀ {parts : List (Nat × SV)} {vparts : List (Nat × Value)} {cells out : List SV} {cv : List Value},
    vparts.map (·.1) = parts.map (·.1) → dens m (parts.map (·.2)) = some (vparts.map (·.2)) → fillS place cells parts = some out → dens m cells = some cv →
    ∃ ov, dens m out = some ov ∧ Instr.fill place cv.toArray vparts = some ov.toArray
  | [], vparts, cells, out, cv, h0, h1, h2, h3 => by
    cases vparts with
    | nil => simp [fillS] at h2; subst h2; exact ⟨cv, h3, rfl⟩
    | cons a l => simp at h0
  | (i, x) :: rest, vparts, cells, out, cv, h0, h1, h2, h3 => by
    cases vparts with
    | nil => simp at h0
    | cons a l =>
      obtain ⟨j, v⟩ := a
      simp only [List.map_cons, List.cons.injEq] at h0
      obtain ⟨rfl, h0⟩ := h0
      simp only [List.map_cons] at h1
      obtain ⟨v', us, hv, hl, he⟩ := dens_cons_some.1 h1
      simp only [List.cons.injEq] at he
      obtain ⟨rfl, rfl⟩ := he
      simp only [fillS] at h2
      split at h2
      · cases h2
      · rename_i off size hp
        split at h2
        · rename_i hc
          have hcv := cells_ok hv
          have hlen := dens_length hcv
          obtain ⟨ov, ho, hf⟩ := fillS_ok h0 hl h2 (putRow_ok (off := off) h3 hcv)
          refine ⟨ov, ho, ?_⟩
          have h3l := dens_length h3
          simp only [Array.length_toList] at hlen
          simp only [Instr.fill, hp]
          rw [if_neg (by simp; omega)]
          rw [← hf]
          congr 1
          rw [← Array.foldl_toList, Array.toList_zipIdx]
          have := putRowV_fold v.cells.toList cv.toArray off 0
          simpa using this
        · cases h2

/-- float arithmetic -/
def fop : BinOp → Option (Nat → Nat → Option Nat)
  | .add => some Ieee.double.add
  | .sub => some Ieee.double.sub
  | .mul => some Ieee.double.mul
  | .quo => some Ieee.double.div
  | _ => none
def f2i (k : IntKind) (x : Nat) : Option Int :=
  match (FloatKind.f64.decode x).toInt .zero with
  | some n => if k.min ≤ n ∧ n ≤ k.max then some n else none
  | none => none
def mmF (mx : Bool) (x y : Nat) : Option Nat :=
  match Ieee.double.order x y with
  | none => none
  | some .lt => some (if mx then y else x)
  | some .gt => some (if mx then x else y)
  | some .eq => some (if mx then (if (FloatKind.f64.decode x).neg then y else x) else (if (FloatKind.f64.decode x).neg then x else y))

/-- by the model's own text, where there are no addresses -/
def plainOp (P : Program) (ρ : Operand → SV) (ds : Dec) (o : Oper) : Option (SV × Dec × Obs) :=
  if o.op.operands.all fun x => (plain (ρ x)).isSome then
    match pureRun P (execOp (fun x => (plain (ρ x)).getD undef) o) with
    | some (.value v) => tagV (taints (o.op.operands.toList.map ρ)) ds v
    | _ => none
  else none
def notSelect (o : Oper) : Bool := match o.op with | .select _ _ => false | _ => true
theorem notSelect_ok {o : Oper} (h : notSelect o = true) : ∀ cs b, o.op ≠ .select cs b := by
  intro cs b e; simp [notSelect, e] at h

/-- what an operation of values alone leaves -/
structure PureOk (P : Program) (o : Oper) (m : Nat → Option Nat) (ρv : Operand → Value) (x : SV) : Prop where
  out : ∃ v, den m x = some v ∧ ∀ w, (execOp ρv o).run P w = .ok (.value v) w

theorem plainOp_ok {P : Program} {ρ : Operand → SV} {ds ds' : Dec} {o : Oper} {x : SV} {ob : Obs} (hs : notSelect o = true) (h : plainOp P ρ ds o = some (x, ds', ob)) (ho : ObsOk ob)
    {m : Nat → Option Nat} {ρv : Operand → Value} (hρ : ∀ y ∈ o.op.operands, den m (ρ y) = some (ρv y)) : PureOk P o m ρv x := by
  unfold plainOp at h
  split at h
  · rename_i hall
    have he : execOp ρv o = execOp (fun y => (plain (ρ y)).getD undef) o := by
      refine execOp_congr o (notSelect_ok hs) fun y hy => ?_
      have h1 := Array.all_eq_true_iff_forall_mem.1 hall y hy
      obtain ⟨v, hv⟩ := Option.isSome_iff_exists.1 h1
      have h2 := den_plain (m := m) hv
      rw [hρ y hy] at h2
      simp only [Option.some.injEq] at h2
      simp [hv, h2]
    split at h
    · rename_i v hv
      exact ⟨v, tagV_ok h ho m, fun w => by rw [he]; exact pureRun_run hv w⟩
    · cases h
  · cases h

end Rx
namespace Rx
set_option linter.all false
open Go

def fieldT (P : Program) (t : TypeId) (f : Nat) : Option Field :=
  match P.underlying t with
  | some (.struct fs) => fs[f]?
  | _ => none

def evFieldAddr (P : Program) (s : TypeId) (f : Nat) : SV → Option SV
  | .p n off =>
    match fieldT P s f with
    | some fd => match sizeT P fd.type with
      | some (_ + 1) => some (.p n (off + fd.offset))
      | _ => none
    | none => none
  | _ => none
def evField (P : Program) (t : TypeId) (f : Nat) : SV → Option SV
  | .agg l => (fieldT P t f).bind fun fd => partS P fd.type l fd.offset
  | _ => none
def evIndexAddr (P : Program) (t : TypeId) (x ix : SV) : Option SV :=
  match ix with
  | .i _ i =>
    match P.underlying t with
    | some (.array len elem) => match x with
      | .p n off => if 0 ≤ i ∧ i < len then (sizeT P elem).map fun s => .p n (off + i.toNat * s) else none
      | _ => none
    | some (.slice elem) => match x with
      | .sl n off len _ => if 0 ≤ i ∧ i < len then (sizeT P elem).map fun s => .p n (off + i.toNat * s) else none
      | _ => none
    | _ => none
  | _ => none
def evIndex (P : Program) (t : TypeId) (x ix : SV) : Option SV :=
  match ix with
  | .i _ i =>
    match P.underlying t with
    | some (.array len elem) => match x with
      | .agg l => if 0 ≤ i ∧ i < len then (sizeT P elem).bind fun s => partS P elem l (i.toNat * s) else none
      | _ => none
    | _ => none
  | _ => none
def evBuild (P : Program) (t : TypeId) (parts : List (Nat × SV)) : Option SV :=
  match P.info? t with
  | some ti => match ti.zero with
    | some z => match P.underlying t with
      | some (.struct fs) => match fs.toList.mapM fun f => (sizeT P f.type).map fun s => (f.offset, s) with
        | some places => (fillS (fun i => places[i]?) (ofA z.cells) parts).map .agg
        | none => none
      | some (.array _ elem) => match sizeT P elem with
        | some s => (fillS (fun i => some (i * s, s)) (ofA z.cells) parts).map .agg
        | none => none
      | _ => none
    | none => none
  | none => none

section
variable {P : Program} {m : Nat → Option Nat} {w : World}

theorem Addr_add (r off k : Nat) : (⟨r, off, none⟩ : Addr).add k = ⟨r, off + k, none⟩ := by
  unfold Addr.add
  by_cases h : k = 0
  · simp [h]
  · simp [h]

theorem run_sureAddr (a : Addr) : (Instr.sureAddr (.pointer (some a))).run P w = .ok a w := rfl

theorem evFieldAddr_ok {s : TypeId} {f : Nat} {x y : SV} {v : Value} (h : evFieldAddr P s f x = some y) (hx : den m x = some v) :
    ∃ u, den m y = some u ∧ (Instr.fieldAt s v f).run P w = .ok u w := by
  unfold evFieldAddr at h
  split at h
  · rename_i n off
    split at h
    · rename_i fd hf
      split at h
      · rename_i k hk
        simp only [Option.some.injEq] at h; subst h
        simp only [den, Option.map_eq_some_iff] at hx
        obtain ⟨r, hr, rfl⟩ := hx
        refine ⟨.pointer (some ⟨r, off + fd.offset, none⟩), by simp [den, hr], ?_⟩
        unfold fieldT at hf
        split at hf
        · rename_i fs hu
          simp [Instr.fieldAt, run_underlying hu, hf, run_sureAddr, fieldPlace, run_sizeOf hk, Addr_add]
        · cases hf
      · cases h
    · cases h
  · cases h

theorem evField_ok {t : TypeId} {f : Nat} {x y : SV} {v : Value} (h : evField P t f x = some y) (hx : den m x = some v) :
    ∃ u, den m y = some u ∧ (Instr.field t v f).run P w = .ok u w := by
  unfold evField at h
  split at h
  · rename_i l
    simp only [Option.bind_eq_some_iff] at h
    obtain ⟨fd, hf, hp⟩ := h
    simp only [den, Option.map_eq_some_iff] at hx
    obtain ⟨vs, hvs, rfl⟩ := hx
    obtain ⟨u, hu, hr⟩ := partS_ok hp hvs w
    refine ⟨u, hu, ?_⟩
    unfold fieldT at hf
    split at hf
    · rename_i fs hd
      simp [Instr.field, run_underlying hd, hf, asAgg, hr]
    · cases hf
  · cases h

theorem evIndexAddr_ok {t : TypeId} {x ix y : SV} {v vi : Value} (h : evIndexAddr P t x ix = some y) (hx : den m x = some v) (hi : den m ix = some vi) :
    ∃ u, den m y = some u ∧ (Instr.indexAt t v vi).run P w = .ok u w := by
  unfold evIndexAddr at h
  split at h
  · rename_i k i
    simp only [den, Option.some.injEq] at hi; subst hi
    split at h
    · rename_i len elem hd
      split at h
      · rename_i n off
        split at h
        · rename_i hc
          simp only [Option.map_eq_some_iff] at h
          obtain ⟨s, hs, rfl⟩ := h
          simp only [den, Option.map_eq_some_iff] at hx
          obtain ⟨r, hr, rfl⟩ := hx
          refine ⟨.pointer (some ⟨r, off + i.toNat * s, none⟩), by simp [den, hr], ?_⟩
          simp [Instr.indexAt, asIntOf, run_underlying hd, run_sureAddr, hc, run_sizeOf hs, Addr_add]
        · cases h
      · cases h
    · rename_i elem hd
      split at h
      · rename_i n off len cap
        split at h
        · rename_i hc
          simp only [Option.map_eq_some_iff] at h
          obtain ⟨s, hs, rfl⟩ := h
          simp only [den, Option.map_eq_some_iff] at hx
          obtain ⟨r, hr, rfl⟩ := hx
          refine ⟨.pointer (some ⟨r, off + i.toNat * s, none⟩), by simp [den, hr], ?_⟩
          simp [Instr.indexAt, asIntOf, run_underlying hd, hc, run_sizeOf hs, Addr_add]
        · cases h
      · cases h
    · cases h
  · cases h

theorem evIndex_ok {t : TypeId} {x ix y : SV} {v vi : Value} (h : evIndex P t x ix = some y) (hx : den m x = some v) (hi : den m ix = some vi) :
    ∃ u, den m y = some u ∧ (Instr.index t v vi).run P w = .ok u w := by
  unfold evIndex at h
  split at h
  · rename_i k i
    simp only [den, Option.some.injEq] at hi; subst hi
    split at h
    · rename_i len elem hd
      split at h
      · rename_i l
        split at h
        · rename_i hc
          simp only [Option.bind_eq_some_iff] at h
          obtain ⟨s, hs, hp⟩ := h
          simp only [den, Option.map_eq_some_iff] at hx
          obtain ⟨vs, hvs, rfl⟩ := hx
          obtain ⟨u, hu, hr⟩ := partS_ok hp hvs w
          refine ⟨u, hu, ?_⟩
          simp [Instr.index, asIntOf, run_underlying hd, hc, run_sizeOf hs, hr]
        · cases h
      · cases h
    · cases h
  · cases h

theorem run_mapM_sizes (fs : List Field) : ∀ places, (fs.mapM fun f => (sizeT P f.type).map fun s => (f.offset, s)) = some places →
    (fs.mapM fun f => (do pure (f.offset, ← Go.sizeOf f.type) : Sem (Nat × Nat))).run P w = .ok places w := by
  induction fs with
  | nil => intro places h; simp at h; subst h; simp
  | cons f fs ih =>
    intro places h
    simp only [List.mapM_cons, Option.bind_eq_bind, Option.bind_eq_some_iff, Option.map_eq_some_iff] at h
    obtain ⟨a, ⟨s, hs, rfl⟩, bs, hb, he⟩ := h
    simp only [pure, Option.some.injEq] at he; subst he
    simp only [List.mapM_cons, Sem.run_bind, run_sizeOf hs, Result.andThen_ok, Sem.run_pure]
    rw [ih bs hb]
    simp

theorem evBuild_ok {t : TypeId} {parts : List (Nat × SV)} {vparts : List (Nat × Value)} {y : SV} (h : evBuild P t parts = some y)
    (h0 : vparts.map (·.1) = parts.map (·.1)) (h1 : dens m (parts.map (·.2)) = some (vparts.map (·.2))) :
    ∃ u, den m y = some u ∧ (Instr.build t vparts.toArray).run P w = .ok u w := by
  unfold evBuild at h
  split at h
  · rename_i ti hti
    split at h
    · rename_i z hz
      have hzero : (zeroValue t).run P w = .ok z w := by simp [zeroValue, typeInfo, hti, hz]
      have hzc : dens m (ofA z.cells) = some z.cells.toList := dens_ofA _
      split at h
      · rename_i fs hd
        split at h
        · rename_i places hp
          simp only [Option.map_eq_some_iff] at h
          obtain ⟨out, ho, rfl⟩ := h
          obtain ⟨ov, h2, h3⟩ := fillS_ok h0 h1 ho hzc
          refine ⟨.agg ov.toArray, by simp [den, h2], ?_⟩
          have hm : (fs.mapM fun f => (do pure (f.offset, ← Go.sizeOf f.type) : Sem (Nat × Nat))).run P w = .ok places.toArray w := by
            rw [← Array.toArray_toList (xs := fs), List.mapM_toArray]
            simp only [Sem.run_map]
            rw [run_mapM_sizes fs.toList places hp]
            rfl
          simp only [Instr.build, Sem.run_bind, hzero, Result.andThen_ok, run_underlying hd]
          erw [hm]
          simp only [Result.andThen_ok]
          have h4 : Instr.fill (fun x => places[x]?) z.cells vparts = some ov.toArray := by simpa using h3
          simp [h4]
        · cases h
      · rename_i n elem hd
        split at h
        · rename_i s hs
          simp only [Option.map_eq_some_iff] at h
          obtain ⟨out, ho, rfl⟩ := h
          obtain ⟨ov, h2, h3⟩ := fillS_ok h0 h1 ho hzc
          refine ⟨.agg ov.toArray, by simp [den, h2], ?_⟩
          have h4 : Instr.fill (fun i => some (i * s, s)) z.cells vparts = some ov.toArray := by simpa using h3
          simp only [Instr.build, Sem.run_bind, hzero, Result.andThen_ok, run_underlying hd, run_sizeOf hs]
          simp [h4]
        · cases h
      · cases h
    · cases h
  · cases h
end
end Rx
