/- vndf.Draw, plain: what its rows tell where there is no error. -/
import Derived.Test.YtccmfddnbofgkaaGreatKe
namespace Bu
set_option linter.all false
open Rx Go

/-! a row's point -/
theorem p_add {i j : Nat} {v : List I} {r : I} {x y : Rat} (h : Fact (.add i j) v r) (hx : Mem (gt v i) x) (hy : Mem (gt v j) y) : Mem r (x + y) := add_mem h.1 h.2 hx hy
theorem p_sub {i j : Nat} {v : List I} {r : I} {x y : Rat} (h : Fact (.sub i j) v r) (hx : Mem (gt v i) x) (hy : Mem (gt v j) y) : Mem r (x - y) := sub_mem h.1 h.2 hx hy
theorem p_mul {i j : Nat} {v : List I} {r : I} {x y : Rat} (h : Fact (.mul i j) v r) (hx : Mem (gt v i) x) (hy : Mem (gt v j) y) : Mem r (x * y) := mul_mem h hx hy
theorem p_div {i j : Nat} {v : List I} {r : I} {x y : Rat} (h : Fact (.div i j) v r) (hx : Mem (gt v i) x) (hy : Mem (gt v j) y) : Mem r (x / y) := div_in hy.rt h.1 h.2 hx hy
theorem p_sqr {i : Nat} {v : List I} {r : I} {x : Rat} (h : Fact (.sqr i) v r) (hx : Mem (gt v i) x) : Mem r (x * x) := sqr_in' hx.rt h.1 h.2 hx
theorem p_neg {i : Nat} {v : List I} {r : I} {x : Rat} (h : Fact (.neg i) v r) (hx : Mem (gt v i) x) : Mem r (-x) := by rw [show r = _ from h]; exact turn_mem hx
theorem p_num {x : F} {v : List I} {r : I} {q : Rat} (h : Fact (.num x) v r) (e : x.q = q) : Mem r q := by rw [show r = _ from h, ← e]; exact ⟨Rat.le_refl, Rat.le_refl⟩
theorem p_lit {a : I} {v : List I} {r : I} {q : Rat} (h : Fact (.lit a) v r) (e : Mem a q) : Mem r q := by rw [show r = _ from h]; exact e
theorem p_kept {i : Nat} {l u : F} {v : List I} {r : I} {x : Rat} (h : Fact (.kept l u i) v r) (hx : Mem (gt v i) x) (h0 : l.q ≤ x) (h1 : x ≤ u.q) : Mem r x := by
  rw [show r = _ from h]
  have a := hx.lo; have b := hx.hi
  constructor
  · show (mnF (mxF _ _) _).q ≤ _
    rcases mnF_or (mxF (gt v i).lo l) u with e | e
    · rw [e]
      rcases mxF_or (gt v i).lo l with e | e <;> rw [e] <;> grind
    · have := (mnF_q (mxF (gt v i).lo l) u).1
      rcases mxF_or (gt v i).lo l with e2 | e2 <;> rw [e2] at this e ⊢ <;> (have := (mnF_q (mxF (gt v i).lo l) u).1; grind)
  · show _ ≤ (mnF (mxF _ _) _).q
    rcases mnF_or (mxF (gt v i).hi l) u with e | e
    · rw [e]
      have := (mxF_q (gt v i).hi l).1
      grind
    · rw [e]; exact h1
theorem p_max {i j : Nat} {v : List I} {r : I} {x y z : Rat} (h : Fact (.max i j) v r) (hx : Mem (gt v i) x) (hy : Mem (gt v j) y) (hz : z = x ∧ y ≤ x ∨ z = y ∧ x ≤ y) : Mem r z := by
  rw [show r = _ from h]
  have a := hx.lo; have b := hx.hi; have c := hy.lo; have d := hy.hi
  constructor
  · show (mxF _ _).q ≤ _
    rcases mxF_or (gt v i).lo (gt v j).lo with e | e <;> rw [e] <;> grind
  · show _ ≤ (mxF _ _).q
    have := mxF_q (gt v i).hi (gt v j).hi
    grind
theorem p_sqrt {i : Nat} {v : List I} {r : I} {x : Rat} (h : Fact (.sqrt i) v r) (hx : Mem (gt v i) x) : 0 ≤ r.lo.q ∧ r.lo.q * r.lo.q ≤ x ∧ x ≤ r.hi.q * r.hi.q ∧ 0 ≤ r.hi.q := by
  have a := hx.lo; have b := hx.hi
  have l := h.2.1.le; have g := h.2.2.ge
  exact ⟨h.2.1.nn, by grind, by grind, h.2.2.nn⟩
end Bu
