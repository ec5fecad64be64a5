/- A small reckoner of Go code over values whose addresses are names: its values, and what they stand for. -/
import Derived.RowKit
import Derived.Orders
import Derived.LoopN
import Derived.Laws.Sem
import Derived.Laws.World
import Derived.Laws.Cells
import Derived.Test.YtiipaicbbmkagaaFb
namespace Rx
set_option linter.all false
open Go

inductive SV where
  | b (c : Bool)
  | i (k : IntKind) (n : Int)
  | si (k : IntKind) (n : Int)
  | f (x : Nat)
  | fl (x : Bu.F)
  | p (n off : Nat)
  | np
  | sl (n off len cap : Nat)
  | fn (f : Fn) (first cap : List SV)
  | o (v : Value)
  | agg (l : List SV)
  | tup (l : List SV)
  deriving Inhabited

mutual
def den (m : Nat → Option Nat) : SV → Option Value
  | .b c => some (.bool c)
  | .i k n => some (.int k n)
  | .si k n => some (.int k n)
  | .f x => some (.float .f64 x)
  | .fl x => some (.float .f64 x.b)
  | .p n off => (m n).map fun r => .pointer (some ⟨r, off, none⟩)
  | .np => some (.pointer none)
  | .sl n off len cap => (m n).map fun r => .slice (some ⟨r, off, none⟩) len cap
  | .fn f first cap => (dens m first).bind fun x => (dens m cap).map fun y => .func f x.toArray y.toArray
  | .o v => some v
  | .agg l => (dens m l).map fun x => .agg x.toArray
  | .tup l => (dens m l).map fun x => .tuple x.toArray
def dens (m : Nat → Option Nat) : List SV → Option (List Value)
  | [] => some []
  | x :: l => (den m x).bind fun v => (dens m l).map fun vs => v :: vs
end

variable {m m' : Nat → Option Nat}

theorem dens_nil : dens m [] = some [] := by simp [dens]
theorem dens_cons_some {x : SV} {l : List SV} {vs : List Value} : dens m (x :: l) = some vs ↔ ∃ v us, den m x = some v ∧ dens m l = some us ∧ vs = v :: us := by
  simp only [dens, Option.bind_eq_some_iff, Option.map_eq_some_iff]
  constructor
  · rintro ⟨v, h1, us, h2, rfl⟩; exact ⟨v, us, h1, h2, rfl⟩
  · rintro ⟨v, us, h1, h2, rfl⟩; exact ⟨v, h1, us, h2, rfl⟩
theorem dens_cons {x : SV} {l : List SV} {v : Value} {us : List Value} (h1 : den m x = some v) (h2 : dens m l = some us) : dens m (x :: l) = some (v :: us) :=
  dens_cons_some.2 ⟨v, us, h1, h2, rfl⟩

theorem dens_length : ∀ {l : List SV} {vs : List Value}, dens m l = some vs → vs.length = l.length
  | [], vs, h => by simp [dens] at h; simp [h]
  | x :: l, vs, h => by
    obtain ⟨v, us, _, h2, rfl⟩ := dens_cons_some.1 h
    simp [dens_length h2]

theorem dens_get : ∀ {l : List SV} {vs : List Value}, dens m l = some vs → ∀ {j : Nat} {x : SV}, l[j]? = some x → ∃ v, vs[j]? = some v ∧ den m x = some v
  | [], vs, h, j, x, hx => by simp at hx
  | y :: l, vs, h, j, x, hx => by
    obtain ⟨v, us, h1, h2, rfl⟩ := dens_cons_some.1 h
    cases j with
    | zero => simp at hx; subst hx; exact ⟨v, by simp, h1⟩
    | succ j => simp at hx; obtain ⟨u, hu, hd⟩ := dens_get h2 hx; exact ⟨u, by simpa using hu, hd⟩

theorem dens_of_get : ∀ {l : List SV} {vs : List Value}, vs.length = l.length → (∀ (j : Nat) (x : SV), l[j]? = some x → ∃ v, vs[j]? = some v ∧ den m x = some v) → dens m l = some vs
  | [], vs, hl, _ => by simp at hl; simp [hl, dens]
  | y :: l, vs, hl, h => by
    cases vs with
    | nil => simp at hl
    | cons v us =>
      have h0 := h 0 y (by simp)
      simp at h0
      refine dens_cons h0 (dens_of_get (by simpa using hl) fun j x hx => ?_)
      have := h (j + 1) x (by simpa using hx)
      simpa using this

theorem dens_append {l r : List SV} {vs us : List Value} (h1 : dens m l = some vs) (h2 : dens m r = some us) : dens m (l ++ r) = some (vs ++ us) := by
  induction l generalizing vs with
  | nil => simp [dens] at h1; subst h1; simpa using h2
  | cons x l ih =>
    obtain ⟨v, ws, a, b, rfl⟩ := dens_cons_some.1 h1
    exact dens_cons a (ih b)
theorem dens_append_inv {l r : List SV} {vs : List Value} (h : dens m (l ++ r) = some vs) : ∃ a b, dens m l = some a ∧ dens m r = some b ∧ vs = a ++ b := by
  induction l generalizing vs with
  | nil => exact ⟨[], vs, by simp [dens], by simpa using h, rfl⟩
  | cons x l ih =>
    obtain ⟨v, ws, a, b, rfl⟩ := dens_cons_some.1 h
    obtain ⟨p, q, h1, h2, rfl⟩ := ih b
    exact ⟨v :: p, q, dens_cons a h1, h2, rfl⟩

theorem dens_set {l : List SV} {vs : List Value} (h : dens m l = some vs) {x : SV} {v : Value} (hx : den m x = some v) (j : Nat) : dens m (l.set j x) = some (vs.set j v) := by
  refine dens_of_get (by simp [dens_length h]) fun i y hy => ?_
  by_cases hij : j = i
  · subst hij
    have hlt : j < l.length := by
      rcases Nat.lt_or_ge j l.length with h' | h'
      · exact h'
      · simp [List.getElem?_eq_none (by simpa using h' : (l.set j x).length ≤ j)] at hy
    rw [List.getElem?_set_self hlt] at hy
    cases hy
    exact ⟨v, by rw [List.getElem?_set_self (by rw [dens_length h]; exact hlt)], hx⟩
  · rw [List.getElem?_set_ne hij] at hy ⊢
    exact dens_get h hy

theorem dens_take {l : List SV} {vs : List Value} (h : dens m l = some vs) (j : Nat) : dens m (l.take j) = some (vs.take j) := by
  induction l generalizing vs j with
  | nil => simp [dens] at h; subst h; simp [dens]
  | cons x l ih =>
    obtain ⟨v, ws, a, b, rfl⟩ := dens_cons_some.1 h
    cases j with
    | zero => simp [dens]
    | succ j => exact dens_cons a (ih b j)
theorem dens_drop {l : List SV} {vs : List Value} (h : dens m l = some vs) (j : Nat) : dens m (l.drop j) = some (vs.drop j) := by
  induction l generalizing vs j with
  | nil => simp [dens] at h; subst h; simp [dens]
  | cons x l ih =>
    obtain ⟨v, ws, a, b, rfl⟩ := dens_cons_some.1 h
    cases j with
    | zero => exact dens_cons a b
    | succ j => exact ih b j
theorem dens_replicate {x : SV} {v : Value} (h : den m x = some v) (j : Nat) : dens m (List.replicate j x) = some (List.replicate j v) := by
  induction j with
  | zero => simp [dens]
  | succ j ih => exact dens_cons h ih

/-- more names -/
def Ext (m m' : Nat → Option Nat) : Prop := ∀ n r, m n = some r → m' n = some r
theorem Ext.refl (m : Nat → Option Nat) : Ext m m := fun _ _ h => h
theorem Ext.trans {a b c : Nat → Option Nat} (h : Ext a b) (k : Ext b c) : Ext a c := fun n r x => k n r (h n r x)

mutual
theorem den_ext (hm : Ext m m') : ∀ {x : SV} {v : Value}, den m x = some v → den m' x = some v
  | .b _, v, h => by simpa [den] using h
  | .i _ _, v, h => by simpa [den] using h
  | .si _ _, v, h => by simpa [den] using h
  | .f _, v, h => by simpa [den] using h
  | .fl _, v, h => by simpa [den] using h
  | .p n off, v, h => by
    simp only [den, Option.map_eq_some_iff] at h ⊢
    obtain ⟨r, hr, e⟩ := h; exact ⟨r, hm _ _ hr, e⟩
  | .np, v, h => by simpa [den] using h
  | .sl n off len cap, v, h => by
    simp only [den, Option.map_eq_some_iff] at h ⊢
    obtain ⟨r, hr, e⟩ := h; exact ⟨r, hm _ _ hr, e⟩
  | .fn f first cap, v, h => by
    simp only [den, Option.bind_eq_some_iff, Option.map_eq_some_iff] at h ⊢
    obtain ⟨x, hx, y, hy, e⟩ := h
    exact ⟨x, dens_ext hm hx, y, dens_ext hm hy, e⟩
  | .o _, v, h => by simpa [den] using h
  | .agg l, v, h => by
    simp only [den, Option.map_eq_some_iff] at h ⊢
    obtain ⟨x, hx, e⟩ := h; exact ⟨x, dens_ext hm hx, e⟩
  | .tup l, v, h => by
    simp only [den, Option.map_eq_some_iff] at h ⊢
    obtain ⟨x, hx, e⟩ := h; exact ⟨x, dens_ext hm hx, e⟩
theorem dens_ext (hm : Ext m m') : ∀ {l : List SV} {vs : List Value}, dens m l = some vs → dens m' l = some vs
  | [], vs, h => by simpa [dens] using h
  | x :: l, vs, h => by
    obtain ⟨v, us, a, b, rfl⟩ := dens_cons_some.1 h
    exact dens_cons (den_ext hm a) (dens_ext hm b)
end

/-- the number of a word (0, if it is none) -/
def toF (w : Nat) : Bu.F := if w < 9223372036854775808 then Bu.F.of (w : Int) else Bu.F.of (-((w - 9223372036854775808 : Nat) : Int))
theorem toF_b {w : Nat} (h : Bu.rightB w = true) : (toF w).b = w := by
  have e := Bu.T_num
  unfold Bu.rightB at h
  simp only [Bool.or_eq_true, Bool.and_eq_true, decide_eq_true_eq] at h
  unfold toF
  split
  · rename_i hlt
    rw [Bu.F.b, Bu.F.of_k (by omega), if_pos (by omega)]; omega
  · rename_i hlt
    rw [Bu.F.b, Bu.F.of_k (by omega), if_neg (by omega)]; omega
theorem toF_F (x : Bu.F) : toF x.b = x := Bu.F.b_inj (toF_b (Bu.right_F x))
/-- a word as a number, if it is one -/
def ofW (w : Nat) : SV := if Bu.rightB w = true then .fl (toF w) else .f w
theorem den_ofW (w : Nat) : den m (ofW w) = some (.float .f64 w) := by
  unfold ofW
  split
  · rename_i h; simp [den, toF_b h]
  · simp [den]

mutual
/-- a value without addresses, as it stands -/
def ofV : Value → SV
  | .bool c => .b c
  | .int k n => .i k n
  | .float k x => match k with | .f64 => ofW x | .f32 => .o (.float .f32 x)
  | .pointer none => .np
  | .agg cs => .agg (ofA cs)
  | .tuple cs => .tup (ofA cs)
  | v => .o v
def ofA : Array Value → List SV
  | ⟨l⟩ => ofVs l
def ofVs : List Value → List SV
  | [] => []
  | v :: l => ofV v :: ofVs l
end
mutual
theorem den_ofV : ∀ v : Value, den m (ofV v) = some v
  | .bool c => by simp [ofV, den]
  | .int k n => by simp [ofV, den]
  | .float k x => by cases k <;> simp [ofV, den, den_ofW]
  | .complex _ _ _ => by simp [ofV, den]
  | .string _ => by simp [ofV, den]
  | .pointer none => by simp [ofV, den]
  | .pointer (some a) => by simp [ofV, den]
  | .slice _ _ _ => by simp [ofV, den]
  | .map _ => by simp [ofV, den]
  | .chan _ => by simp [ofV, den]
  | .func _ _ _ => by simp [ofV, den]
  | .nilFunc => by simp [ofV, den]
  | .iface _ _ => by simp [ofV, den]
  | .nilIface => by simp [ofV, den]
  | .agg cs => by simp [ofV, den, dens_ofA cs]
  | .tuple cs => by simp [ofV, den, dens_ofA cs]
theorem dens_ofA : ∀ l : Array Value, dens m (ofA l) = some l.toList
  | ⟨l⟩ => by simp only [ofA]; exact dens_ofVs l
theorem dens_ofVs : ∀ l : List Value, dens m (ofVs l) = some l
  | [] => by simp [ofVs, dens]
  | v :: l => by rw [ofVs]; exact dens_cons (den_ofV v) (dens_ofVs l)
end

mutual
/-- what has no address in it, as a value -/
def plain : SV → Option Value
  | .b c => some (.bool c)
  | .i k n => some (.int k n)
  | .si k n => some (.int k n)
  | .f x => some (.float .f64 x)
  | .fl x => some (.float .f64 x.b)
  | .np => some (.pointer none)
  | .o v => some v
  | .agg l => (plains l).map fun x => .agg x.toArray
  | .tup l => (plains l).map fun x => .tuple x.toArray
  | _ => none
def plains : List SV → Option (List Value)
  | [] => some []
  | x :: l => (plain x).bind fun v => (plains l).map fun vs => v :: vs
end
mutual
theorem den_plain : ∀ {x : SV} {v : Value}, plain x = some v → den m x = some v
  | .b _, v, h => by simpa [den, plain] using h
  | .i _ _, v, h => by simpa [den, plain] using h
  | .si _ _, v, h => by simpa [den, plain] using h
  | .f _, v, h => by simpa [den, plain] using h
  | .fl _, v, h => by simpa [den, plain] using h
  | .p _ _, v, h => by simp [plain] at h
  | .np, v, h => by simpa [den, plain] using h
  | .sl _ _ _ _, v, h => by simp [plain] at h
  | .fn _ _ _, v, h => by simp [plain] at h
  | .o _, v, h => by simpa [den, plain] using h
  | .agg l, v, h => by
    simp only [plain, den, Option.map_eq_some_iff] at h ⊢
    obtain ⟨x, hx, e⟩ := h; exact ⟨x, dens_plains hx, e⟩
  | .tup l, v, h => by
    simp only [plain, den, Option.map_eq_some_iff] at h ⊢
    obtain ⟨x, hx, e⟩ := h; exact ⟨x, dens_plains hx, e⟩
theorem dens_plains : ∀ {l : List SV} {vs : List Value}, plains l = some vs → dens m l = some vs
  | [], vs, h => by simpa [dens, plains] using h
  | x :: l, vs, h => by
    simp only [plains, Option.bind_eq_some_iff, Option.map_eq_some_iff] at h
    obtain ⟨v, h1, us, h2, rfl⟩ := h
    exact dens_cons (den_plain h1) (dens_plains h2)
end
end Rx
