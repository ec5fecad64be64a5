/- What the document's answers take for known: numbers taken apart and scaled, neighbours, a product and a sum. -/
import Derived.Test.YtmhhopfffeijnaaGreatNe
import Derived.Test.YtmhhopfffeijnaaGreatGk
import Derived.Test.YtmhhopfffeijnaaGreatHd
namespace Rx
set_option linter.all false
open Go Bu

def fw : SV → Option Nat
  | .f x => some x
  | .fl x => some x.b
  | _ => none
theorem fw_plain {x : SV} {n : Nat} (h : fw x = some n) : plain x = some (.float .f64 n) := by
  unfold fw at h
  split at h
  · simp only [Option.some.injEq] at h; subst h; rfl
  · simp only [Option.some.injEq] at h; subst h; rfl
  · cases h
/-- a product and a sum, rounded once -/
def oFMA : List SV → Option (SV × Obs)
  | [x, y, z] => match fw x, fw y, fw z with
    | some a, some b, some c => some (.f ((Ieee.double.fma a b c).getD 0), [((Ieee.double.fma a b c).isSome, true)])
    | _, _, _ => none
  | _ => none
/-- a root: a number -/
def oSqt : List SV → Option (SV × Obs)
  | [.fl x] => some (.fl (toF ((Ieee.double.sqrt x.b).getD 0)), [((Ieee.double.sqrt x.b).isSome, true), (rightB ((Ieee.double.sqrt x.b).getD 0), true)])
  | _ => none
def kFr : List SV → Dec → Option (SV × Dec × Obs)
  | [.fl x], ds => some (.tup [.fl (frF x), .si .i64 (exF x)], ds, [(!decide (x.k = 0), true)])
  | _, _ => none
def kLg (L : F → Int → Nat) : List SV → Dec → Option (SV × Dec × Obs)
  | [.fl x, n], ds => match intS n with
    | some (.i64, k) => match takeB ds (rightB (L x k)) with
      | some (true, ds', ob) => some (.fl (toF (L x k)), ds', (decide (-6000 ≤ k ∧ k ≤ 6000), true) :: ob)
      | some (false, ds', ob) => some (.f (L x k), ds', (decide (-6000 ≤ k ∧ k ≤ 6000), true) :: ob)
      | none => none
    | _ => none
  | [.f w, n], ds => match intS n with
    | some (.i64, _) => some (.f w, ds, [(Nat.beq w NEG0, true)])
    | _ => none
  | _, _ => none
/-- what a word that is no number tells -/
def badB (w : Nat) : Bool := Nat.beq w INF || (Nat.beq w NINF || Nat.beq w NEG0)
def kInf : List SV → Dec → Option (SV × Dec × Obs)
  | [.fl _, .i .i64 n], ds => some (.b false, ds, [(decide (n = 0 ∨ n = 1 ∨ n = -1), true)])
  | [.f w, .i .i64 0], ds => match takeB ds (Nat.beq w INF || Nat.beq w NINF) with
    | some (d, ds', ob) => some (.b d, ds', (badB w, true) :: ob)
    | none => none
  | _, _ => none
def kAbsG : List SV → Dec → Option (SV × Dec × Obs)
  | [.fl x], ds => some (.fl x.abs, ds, [])
  | [.f w], ds => some (.fl F.zero, ds, [(Nat.beq w NEG0, true)])
  | _, _ => none
def kPlain : List SV → Dec → Option (SV × Dec × Obs)
  | [.fl x], ds => some (.fl x, ds, [])
  | [.f w], ds => match takeB ds (rightB w) with
    | some (true, ds', ob) => some (.fl (toF w), ds', ob)
    | some (false, ds', ob) => some (.fl F.zero, ds', (Nat.beq w NEG0, true) :: ob)
    | none => none
  | _, _ => none
/-- the neighbours -/
def kNa : List SV → Dec → Option (SV × Dec × Obs)
  | [.fl x, .f y], ds => match Nat.beq y INF with
    | true => match takeB ds (decide (x.k + 1 < (T : Int))) with
      | some (true, ds1, ob1) => match takeB ds1 (decide (x.k = -1)) with
        | some (true, ds2, ob2) => some (.f NEG0, ds2, ob2 ++ ob1)
        | some (false, ds2, ob2) => some (.fl (F.of (x.k + 1)), ds2, ob2 ++ ob1)
        | none => none
      | some (false, ds1, ob1) => some (.f INF, ds1, ob1)
      | none => none
    | false => match Nat.beq y NINF with
      | true => match takeB ds (decide (-(T : Int) < x.k - 1)) with
        | some (true, ds1, ob1) => some (.fl (F.of (x.k - 1)), ds1, ob1)
        | some (false, ds1, ob1) => some (.f NINF, ds1, ob1)
        | none => none
      | false => none
  | _, _ => none
/-- the side, of a word -/
def sideW (w : Nat) (pos neg up : Bool) : F × Int := bif Nat.beq w INF then (bif up then (F.zero, 10) else (F.max, 0)) else bif Nat.beq w NINF then (bif up then (F.min, 0) else (F.zero, 10)) else sideF F.zero pos neg up
def kSide : List SV → Dec → Option (SV × Dec × Obs)
  | [.fl c, .fl d, .b up], ds => some (.tup [.fl (sideF c (decide (0 < d.k)) (decide (d.k < 0)) up).1, .si .i64 (sideF c (decide (0 < d.k)) (decide (d.k < 0)) up).2], ds, [])
  | [.f w, .fl d, .b up], ds => some (.tup [.fl (sideW w (decide (0 < d.k)) (decide (d.k < 0)) up).1, .si .i64 (sideW w (decide (0 < d.k)) (decide (d.k < 0)) up).2], ds, [(badB w, true)])
  | _, _ => none
theorem badB_or {w : Nat} (h : badB w = true) : w = INF ∨ w = NINF ∨ w = NEG0 := by
  unfold badB at h
  rcases Bool.or_eq_true _ _ ▸ h with h | h
  · exact .inl (Nat.eq_of_beq_eq_true h)
  · rcases Bool.or_eq_true _ _ ▸ h with h | h
    · exact .inr (.inl (Nat.eq_of_beq_eq_true h))
    · exact .inr (.inr (Nat.eq_of_beq_eq_true h))
/-! for products and quotients: 0 is a word, too -/
def nzB (w : Nat) : Bool := rightB w && !Nat.beq w 0
def badC (w : Nat) : Bool := badB w || Nat.beq w 0
def kLh (L : F → Int → Nat) : List SV → Dec → Option (SV × Dec × Obs)
  | [.fl x, n], ds => match intS n with
    | some (.i64, k) => match takeB ds (nzB (L x k)) with
      | some (true, ds', ob) => some (.fl (toF (L x k)), ds', (decide (-6000 ≤ k ∧ k ≤ 6000), true) :: ob)
      | some (false, ds', ob) => some (.f (L x k), ds', (decide (-6000 ≤ k ∧ k ≤ 6000), true) :: ob)
      | none => none
    | _ => none
  | [.f w, n], ds => match intS n with
    | some (.i64, _) => some (.f w, ds, [(Nat.beq w NEG0 || Nat.beq w 0, true)])
    | _ => none
  | _, _ => none
def kInfC : List SV → Dec → Option (SV × Dec × Obs)
  | [.fl _, .i .i64 n], ds => some (.b false, ds, [(decide (n = 0 ∨ n = 1 ∨ n = -1), true)])
  | [.f w, .i .i64 0], ds => match takeB ds (Nat.beq w INF || Nat.beq w NINF) with
    | some (d, ds', ob) => some (.b d, ds', (badC w, true) :: ob)
    | none => none
  | _, _ => none
def dF (w : Nat) : F := bif rightB w then toF w else F.zero
def sdS (r : F × Int) : SV := .tup [.fl r.1, .si .i64 r.2]
def kSideD : List SV → Dec → Option (SV × Dec × Obs)
  | [.fl c, .f d, .b up], ds => some (sdS (sideF c (decide (0 < (dF d).k)) (decide ((dF d).k < 0)) up), ds, [(rightB d || Nat.beq d NEG0, true)])
  | [.f w, .f d, .b up], ds => some (sdS (sideW w (decide (0 < (dF d).k)) (decide ((dF d).k < 0)) up), ds, [(badC w, true), (rightB d, true)])
  | _, _ => none
theorem badC_or {w : Nat} (h : badC w = true) : badB w = true ∨ w = 0 := by
  unfold badC at h
  rcases Bool.or_eq_true _ _ ▸ h with h | h
  · exact .inl h
  · exact .inr (Nat.eq_of_beq_eq_true h)
end Rx
