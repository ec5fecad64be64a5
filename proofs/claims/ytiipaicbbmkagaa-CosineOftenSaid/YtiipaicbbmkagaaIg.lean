/- Sine and cosine of a number: what they enclose, and how narrow they are. Sine and cosine of a number: on the circle, and narrow. TrigCircle, plain. -/
import Derived.Test.YtiipaicbbmkagaaId
import Derived.Test.YtiipaicbbmkagaaHg
import Derived.Test.YtiipaicbbmkagaaRo
namespace Bu
set_option linter.all false
open Rx

def PI : I := ⟨pi64, (nextF pi64 true).1⟩
def TAU : I := ⟨toF 4618760256179416344, toF 4618760256179416345⟩
set_option maxRecDepth 100000 in
theorem tau_eq : cAdd dAdd 0 PI PI = (TAU, 0) := by
  have h1 : decide ((cAdd dAdd 0 PI PI).1.lo.k = TAU.lo.k) = true := by decide +kernel
  have h2 : decide ((cAdd dAdd 0 PI PI).1.hi.k = TAU.hi.k) = true := by decide +kernel
  have h3 : decide ((cAdd dAdd 0 PI PI).2 = 0) = true := by decide +kernel
  have h4 : (cAdd dAdd 0 PI PI).1 = TAU := I.ext' (F.ext' (of_decide_eq_true h1)) (F.ext' (of_decide_eq_true h2))
  exact Prod.ext h4 (of_decide_eq_true h3)
theorem q_of' {x : F} {n : Int} {s : Nat} {w : Rat} (h : decide (x.z * ((2 ^ s : Nat) : Int) = n * (S : Int)) = true) (hw : ((2 ^ s : Nat) : Rat) = w) : x.q * w = (n : Rat) := by
  rw [← hw]; exact q_of (of_decide_eq_true h)
set_option maxRecDepth 100000 in
theorem tau_lo : TAU.lo.q = 7074237752028440 / 1125899906842624 := by
  have := q_of' (x := TAU.lo) (n := 7074237752028440) (s := 50) (w := 1125899906842624) (by decide +kernel) rfl
  have e : ((7074237752028440 : Int) : Rat) = 7074237752028440 := rfl
  grind
set_option maxRecDepth 100000 in
theorem tau_hi : TAU.hi.q = 7074237752028441 / 1125899906842624 := by
  have := q_of' (x := TAU.hi) (n := 7074237752028441) (s := 50) (w := 1125899906842624) (by decide +kernel) rfl
  have e : ((7074237752028441 : Int) : Rat) = 7074237752028441 := rfl
  grind
theorem q_int {x : F} {n : Int} (h : decide (x.z * ((2 ^ 0 : Nat) : Int) = n * (S : Int)) = true) : x.q = (n : Rat) := by
  have := q_of' (w := 1) h rfl
  grind
set_option maxRecDepth 100000 in
theorem sl_q : ([toF 4644724143818801152, toF 4643492690795692032, toF 4641592734702895104, toF 4639692778610098176, toF 4637440978796412928, toF 4634766966517661696, toF 4631107791820423168, toF 4626322717216342016, toF 4618441417868443648] : List F).map F.q = slQ ∧ (toF 4646096334330265600).q = 420 := by
  refine ⟨?_, q_int (n := 420) (by decide +kernel)⟩
  simp only [List.map_cons, List.map_nil, slQ]
  rw [q_int (x := toF 4644724143818801152) (n := 342) (by decide +kernel), q_int (x := toF 4643492690795692032) (n := 272) (by decide +kernel), q_int (x := toF 4641592734702895104) (n := 210) (by decide +kernel), q_int (x := toF 4639692778610098176) (n := 156) (by decide +kernel), q_int (x := toF 4637440978796412928) (n := 110) (by decide +kernel), q_int (x := toF 4634766966517661696) (n := 72) (by decide +kernel), q_int (x := toF 4631107791820423168) (n := 42) (by decide +kernel), q_int (x := toF 4626322717216342016) (n := 20) (by decide +kernel), q_int (x := toF 4618441417868443648) (n := 6) (by decide +kernel)]
  rfl
set_option maxRecDepth 100000 in
theorem cl_q : ([toF 4644090825121202176, toF 4642648265865560064, toF 4640607572284407808, toF 4638848353679966208, toF 4636033603912859648, toF 4633078116657397760, toF 4629137466983448576, toF 4622945017495814144, toF 4611686018427387904] : List F).map F.q = clQ ∧ (toF 4645392646888488960).q = 380 := by
  refine ⟨?_, q_int (n := 380) (by decide +kernel)⟩
  simp only [List.map_cons, List.map_nil, clQ]
  rw [q_int (x := toF 4644090825121202176) (n := 306) (by decide +kernel), q_int (x := toF 4642648265865560064) (n := 240) (by decide +kernel), q_int (x := toF 4640607572284407808) (n := 182) (by decide +kernel), q_int (x := toF 4638848353679966208) (n := 132) (by decide +kernel), q_int (x := toF 4636033603912859648) (n := 90) (by decide +kernel), q_int (x := toF 4633078116657397760) (n := 56) (by decide +kernel), q_int (x := toF 4629137466983448576) (n := 30) (by decide +kernel), q_int (x := toF 4622945017495814144) (n := 12) (by decide +kernel), q_int (x := toF 4611686018427387904) (n := 2) (by decide +kernel)]
  rfl
theorem sl_2 : ∀ d ∈ ([toF 4644724143818801152, toF 4643492690795692032, toF 4641592734702895104, toF 4639692778610098176, toF 4637440978796412928, toF 4634766966517661696, toF 4631107791820423168, toF 4626322717216342016, toF 4618441417868443648] : List F), 2 ≤ d.q := by
  intro d hd
  have h := List.mem_map_of_mem (f := F.q) hd
  rw [sl_q.1] at h
  simp only [slQ, List.mem_cons, List.not_mem_nil, or_false] at h
  rcases h with h | h | h | h | h | h | h | h | h <;> (rw [h]; grind)
theorem cl_2 : ∀ d ∈ ([toF 4644090825121202176, toF 4642648265865560064, toF 4640607572284407808, toF 4638848353679966208, toF 4636033603912859648, toF 4633078116657397760, toF 4629137466983448576, toF 4622945017495814144, toF 4611686018427387904] : List F), 2 ≤ d.q := by
  intro d hd
  have h := List.mem_map_of_mem (f := F.q) hd
  rw [cl_q.1] at h
  simp only [clQ, List.mem_cons, List.not_mem_nil, or_false] at h
  rcases h with h | h | h | h | h | h | h | h | h <;> (rw [h]; grind)
theorem ws_num : decide (wF (101 / 64 * (6 * ulp) + 2 * ulp) slQ (1 / 256) ≤ 10 * ulp) = true := by decide +kernel
theorem wc_num : decide (wF (101 / 64 * (6 * ulp) + 2 * ulp) clQ (1 / 256) ≤ 16 * ulp) = true := by decide +kernel
theorem slQ_2 : ∀ d ∈ slQ, 2 ≤ d := by
  intro d h
  simp only [slQ, List.mem_cons, List.not_mem_nil, or_false] at h
  rcases h with h | h | h | h | h | h | h | h | h <;> (rw [h]; grind)
theorem clQ_2 : ∀ d ∈ clQ, 2 ≤ d := by
  intro d h
  simp only [clQ, List.mem_cons, List.not_mem_nil, or_false] at h
  rcases h with h | h | h | h | h | h | h | h | h <;> (rw [h]; grind)

/-- the angle -/
theorem atT_ok {q x : F} (h1 : -(1 / 8) ≤ x.q - q.q) (h2 : x.q - q.q ≤ 1 / 8) (b1 : 0 ≤ x.q) (b2 : x.q ≤ 1) (b3 : 0 ≤ q.q) (b4 : q.q ≤ 1) :
    ∃ t, atT KTR q x = (t, 0) ∧ Ang t ∧ wd t ≤ 6 * ulp ∧ ∀ p, Mem TAU p → Mem t (p * (x.q - q.q)) := by
  have hu := ulp_pos
  have eu : ulp = 1 / 9007199254740992 := rfl
  have T1 := tau_lo
  have T2 := tau_hi
  have sx : ∀ y : F, 0 ≤ y.q → y.q ≤ 1 → Sm ⟨y, y⟩ := fun y g1 g2 => ⟨by show -67108864 ≤ y.q; grind, Rat.le_refl, by show y.q ≤ 67108864; grind⟩
  obtain ⟨d, e1, d1, d2⟩ := cSub_ok (sx x b1 b2) (sx q b3 b4)
  simp only at d1 d2
  have e8 : ∃ c : F, c.q = 1 / 8 := by
    obtain ⟨c, hc⟩ := grid 1 (by omega) 3 (by omega) (by omega)
    have e8 : ((2 ^ 3 : Nat) : Rat) = 8 := rfl
    have e5 : ((1 : Int) : Rat) = 1 := rfl
    rw [e8, e5] at hc; exact ⟨c, by grind⟩
  obtain ⟨c8, hc8⟩ := e8
  have p1 : -(1 / 8) ≤ d.lo.q := by have := d1.top c8.neg (by rw [q_neg, hc8]; exact h1); rw [q_neg, hc8] at this; exact this
  have p2 : d.hi.q ≤ 1 / 8 := by have := d2.bot c8 (by rw [hc8]; exact h2); rw [hc8] at this; exact this
  have p3 := d1.le
  have p4 := d2.ge
  have n1 := d1.near 56 (by omega) (by have e : ((2 ^ 56 : Nat) : Rat) = 72057594037927936 := rfl; grind) (by have e : ((2 ^ 56 : Nat) : Rat) = 72057594037927936 := rfl; grind)
  have n2 := d2.near 56 (by omega) (by have e : ((2 ^ 56 : Nat) : Rat) = 72057594037927936 := rfl; grind) (by have e : ((2 ^ 56 : Nat) : Rat) = 72057594037927936 := rfl; grind)
  have e56 : ((2 ^ 56 : Nat) : Rat) = 72057594037927936 := rfl
  rw [e56] at n1 n2
  have sT : Sm TAU := ⟨by grind, by grind, by grind⟩
  have sd : Sm d := ⟨by grind, by grind, by grind⟩
  obtain ⟨t, e2, ht⟩ := cMul_ok sT sd
  have hm' : ∀ p, Mem TAU p → Mem t (p * (x.q - q.q)) := fun p hp => mul_mem ht hp ⟨p3, p4⟩
  have a0 : 0 ≤ TAU.lo.q := by rw [T1]; grind
  have a1 : TAU.hi.q ≤ 63 / 10 := by rw [T2]; grind
  have a2 : TAU.hi.q = TAU.lo.q + 8 * ulp := by rw [T1, T2, eu]; grind
  generalize TAU.lo.q = α at *
  generalize TAU.hi.q = β at *
  generalize d.lo.q = u at *
  generalize d.hi.q = v at *
  have e101 : ∃ c : F, c.q = 101 / 128 := by
    obtain ⟨c, hc⟩ := grid 101 (by omega) 7 (by omega) (by omega)
    have e8 : ((2 ^ 7 : Nat) : Rat) = 128 := rfl
    have e5 : ((101 : Int) : Rat) = 101 := rfl
    rw [e8, e5] at hc; exact ⟨c, by grind⟩
  obtain ⟨c9, hc9⟩ := e101
  have b0 : α ≤ 63 / 10 := by grind
  have b00 : 0 ≤ β := by grind
  have uv : v - u ≤ ulp / 4 := by rw [eu]; grind
  have uv0 : 0 ≤ v - u := by grind
  clear T1 T2 n1 n2 d1 d2 e56 sT sd sx
  have k1 := Rat.mul_nonneg a0 uv0
  have k2 := Rat.mul_nonneg (show 0 ≤ 63 / 10 - α by grind) uv0
  have k3 := Rat.mul_nonneg (Rat.le_of_lt hu) (show 0 ≤ 1 / 8 - u by grind)
  have k4 := Rat.mul_nonneg (Rat.le_of_lt hu) (show 0 ≤ u + 1 / 8 by grind)
  have k5 := Rat.mul_nonneg (Rat.le_of_lt hu) (show 0 ≤ 1 / 8 - v by grind)
  have k6 := Rat.mul_nonneg (Rat.le_of_lt hu) (show 0 ≤ v + 1 / 8 by grind)
  have k7 := Rat.mul_nonneg a0 (show 0 ≤ 1 / 8 - u by grind)
  have k8 := Rat.mul_nonneg a0 (show 0 ≤ u + 1 / 8 by grind)
  have k9 := Rat.mul_nonneg a0 (show 0 ≤ 1 / 8 - v by grind)
  have k10 := Rat.mul_nonneg a0 (show 0 ≤ v + 1 / 8 by grind)
  have k11 := Rat.mul_nonneg b00 (show 0 ≤ 1 / 8 - u by grind)
  have k12 := Rat.mul_nonneg b00 (show 0 ≤ u + 1 / 8 by grind)
  have k13 := Rat.mul_nonneg b00 (show 0 ≤ 1 / 8 - v by grind)
  have k14 := Rat.mul_nonneg b00 (show 0 ≤ v + 1 / 8 by grind)
  have g1 : -(101 / 128) ≤ α * u ∧ α * u ≤ 101 / 128 := by constructor <;> grind
  have g2 : -(101 / 128) ≤ α * v ∧ α * v ≤ 101 / 128 := by constructor <;> grind
  have g3 : -(101 / 128) ≤ β * u ∧ β * u ≤ 101 / 128 := by constructor <;> grind
  have g4 : -(101 / 128) ≤ β * v ∧ β * v ≤ 101 / 128 := by constructor <;> grind
  have s2 : α * u ≤ α * v ∧ α * v ≤ α * u + 13 / 5 * ulp := by constructor <;> grind
  have s3 : α * u - ulp ≤ β * u ∧ β * u ≤ α * u + 13 / 5 * ulp := by rw [a2]; constructor <;> grind
  have s4 : α * u - ulp ≤ β * v ∧ β * v ≤ α * u + 13 / 5 * ulp := by rw [a2]; constructor <;> grind
  have t1 : -(101 / 128) ≤ t.lo.q := by
    have := ht.top (c := c9.neg) (by rw [q_neg, hc9]; exact g1.1) (by rw [q_neg, hc9]; exact g2.1) (by rw [q_neg, hc9]; exact g3.1) (by rw [q_neg, hc9]; exact g4.1)
    rw [q_neg, hc9] at this; exact this
  have t3 : t.hi.q ≤ 101 / 128 := by
    have := ht.bot (c := c9) (by rw [hc9]; exact g1.2) (by rw [hc9]; exact g2.2) (by rw [hc9]; exact g3.2) (by rw [hc9]; exact g4.2)
    rw [hc9] at this; exact this
  have t2 : t.lo.q ≤ t.hi.q := Rat.le_trans ht.lo.1 ht.hi.1
  generalize α * u = x1 at *
  generalize α * v = x2 at *
  generalize β * u = x3 at *
  generalize β * v = x4 at *
  have bd : -1 ≤ x1 ∧ x1 ≤ 1 ∧ -1 ≤ x2 ∧ x2 ≤ 1 ∧ -1 ≤ x3 ∧ x3 ≤ 1 ∧ -1 ≤ x4 ∧ x4 ≤ 1 := by
    refine ⟨?_, ?_, ?_, ?_, ?_, ?_, ?_, ?_⟩ <;> grind
  have w1 := ht.near_hi (m := x1 + 13 / 5 * ulp) (by grind) s2.2 s3.2 s4.2 bd
  have w2 := ht.near_lo (m := x1 - ulp) (by grind) (by grind) s3.1 s4.1 bd
  refine ⟨t, ?_, ⟨t1, t2, t3⟩, by unfold wd; grind, hm'⟩
  have f1 : KTR.add 0 ⟨pi64, (KTR.nx pi64 true).1⟩ ⟨pi64, (KTR.nx pi64 true).1⟩ = (TAU, 0) := tau_eq
  have f2 : KTR.num 0 x = (⟨x, x⟩, 0) := cNum_ok x
  have f3 : KTR.num 0 q = (⟨q, q⟩, 0) := cNum_ok q
  have f4 : KTR.sub 0 ⟨x, x⟩ ⟨q, q⟩ = (d, 0) := e1
  have f5 : KTR.mul 0 TAU d = (t, 0) := e2
  unfold atT
  simp only [f1, f2, f3, f4, f5]
end Bu
namespace Bu
open Rx

theorem sq_bd {x m : Rat} (h1 : -m ≤ x) (h2 : x ≤ m) : x * x ≤ m * m := by
  have := Rat.mul_nonneg (show 0 ≤ m - x by grind) (show 0 ≤ m + x by grind)
  grind
theorem sq_nn (x : Rat) : 0 ≤ x * x := by
  rcases (Rat.le_total : 0 ≤ x ∨ x ≤ 0) with h | h
  · exact Rat.mul_nonneg h h
  · have := Rat.mul_nonneg (show 0 ≤ -x by grind) (show 0 ≤ -x by grind); grind
/-- what an angle's row encloses -/
structure AtE (S C : I) (z : Rat) : Prop where
  s1 : Mem S (z * nestR (z * z) slQ 1)
  s2 : Mem S (z * nestR (z * z) slQ (1 - z * z / 420))
  c1 : Mem C (nestR (z * z) clQ 1)
  c2 : Mem C (nestR (z * z) clQ (1 - z * z / 380))
  lo : -(101 / 128) ≤ z
  hi : z ≤ 101 / 128
theorem atSC_ok {q x : F} (h1 : -(1 / 8) ≤ x.q - q.q) (h2 : x.q - q.q ≤ 1 / 8) (b1 : 0 ≤ x.q) (b2 : x.q ≤ 1) (b3 : 0 ≤ q.q) (b4 : q.q ≤ 1) :
    ∃ S C, atS KTR KRR q x = (S, 0) ∧ atC KTR KRR q x = (C, 0) ∧ Sm S ∧ U01 C ∧ wd S ≤ 32 * ulp ∧ wd C ≤ 32 * ulp ∧ ∀ p, Mem TAU p → AtE S C (p * (x.q - q.q)) := by
  have hu := ulp_pos
  obtain ⟨t, e1, ht, wt, mt⟩ := atT_ok h1 h2 b1 b2 b3 b4
  obtain ⟨r, e2, ru, rm, rw1⟩ := row_ok ht (D := toF 4646096334330265600) (by rw [sl_q.2]; grind) sl_2
  obtain ⟨c, e3, cu, cm, cw1⟩ := row_ok ht (D := toF 4645392646888488960) (by rw [cl_q.2]; grind) cl_2
  rw [sl_q.1, sl_q.2] at rm
  rw [cl_q.1, cl_q.2] at cm
  rw [sl_q.1] at rw1
  rw [cl_q.1] at cw1
  have wt0 : 0 ≤ wd t := by have := ht.rt; unfold wd; grind
  have rw2 : wd r ≤ 10 * ulp := Rat.le_trans rw1 (Rat.le_trans (wF_mono (by grind) slQ_2 (by grind) (by grind) Rat.le_refl) (of_decide_eq_true ws_num))
  have cw2 : wd c ≤ 16 * ulp := Rat.le_trans cw1 (Rat.le_trans (wF_mono (by grind) clQ_2 (by grind) (by grind) Rat.le_refl) (of_decide_eq_true wc_num))
  obtain ⟨s, e4, hs⟩ := cMul_ok ht.sm ru.sm
  have ms : ∀ y v, Mem t y → Mem r v → Mem s (y * v) := fun y v hy hv => mul_mem hs hy hv
  have t1 := ht.lo; have t2 := ht.rt; have t3 := ht.hi
  have r1 := ru.lo; have r2 := ru.rt; have r3 := ru.hi
  have sm_s : Sm s ∧ wd s ≤ 32 * ulp := by
    unfold wd at *
    have srt := Rat.le_trans hs.lo.1 hs.hi.1
    generalize t.lo.q = a at *
    generalize t.hi.q = b at *
    generalize r.lo.q = u at *
    generalize r.hi.q = v at *
    have k1 := Rat.mul_nonneg (show 0 ≤ a + 101 / 128 by grind) (show 0 ≤ v - u by grind)
    have k2 := Rat.mul_nonneg (show 0 ≤ 101 / 128 - a by grind) (show 0 ≤ v - u by grind)
    have k3 := Rat.mul_nonneg (show 0 ≤ b - a by grind) r1
    have k4 := Rat.mul_nonneg (show 0 ≤ b - a by grind) (show 0 ≤ 1 - u by grind)
    have k5 := Rat.mul_nonneg (show 0 ≤ b - a by grind) (show 0 ≤ 1 - v by grind)
    have k6 := Rat.mul_nonneg (show 0 ≤ b - a by grind) (show 0 ≤ v by grind)
    have k7 := Rat.mul_nonneg (show 0 ≤ a + 101 / 128 by grind) r1
    have k8 := Rat.mul_nonneg (show 0 ≤ 101 / 128 - a by grind) r1
    have g1 : -(101 / 128) ≤ a * u ∧ a * u ≤ 101 / 128 := by constructor <;> grind
    have g2 : a * u - 8 * ulp ≤ a * v ∧ a * v ≤ a * u + 14 * ulp := by constructor <;> grind
    have g3 : a * u - 8 * ulp ≤ b * u ∧ b * u ≤ a * u + 14 * ulp := by constructor <;> grind
    have g4 : a * u - 8 * ulp ≤ b * v ∧ b * v ≤ a * u + 14 * ulp := by constructor <;> grind
    generalize a * u = x1 at *
    generalize a * v = x2 at *
    generalize b * u = x3 at *
    generalize b * v = x4 at *
    have hu1 : ulp ≤ 1 / 1048576 := by unfold ulp; grind
    have bd : -1 ≤ x1 ∧ x1 ≤ 1 ∧ -1 ≤ x2 ∧ x2 ≤ 1 ∧ -1 ≤ x3 ∧ x3 ≤ 1 ∧ -1 ≤ x4 ∧ x4 ≤ 1 := by
      refine ⟨?_, ?_, ?_, ?_, ?_, ?_, ?_, ?_⟩ <;> grind
    have w1 := hs.near_hi (m := x1 + 14 * ulp) (by grind) g2.2 g3.2 g4.2 bd
    have w2 := hs.near_lo (m := x1 - 8 * ulp) (by grind) g2.1 g3.1 g4.1 bd
    exact ⟨⟨by grind, srt, by grind⟩, by grind⟩
  refine ⟨s, c, ?_, ?_, sm_s.1, cu, sm_s.2, by grind, fun p hp => ?_⟩
  · have f1 : KRR.r20 0 t = (r, 0) := by show row20 KTR 0 t = _; unfold row20; exact e2
    have f2 : KTR.mul 0 t r = (s, 0) := e4
    unfold atS
    simp only [e1, f1, f2]
  · have f0 : atS KTR KRR q x = (s, 0) := by
      have f1 : KRR.r20 0 t = (r, 0) := by show row20 KTR 0 t = _; unfold row20; exact e2
      have f2 : KTR.mul 0 t r = (s, 0) := e4
      unfold atS
      simp only [e1, f1, f2]
    have f1 : KRR.r19 0 t = (c, 0) := by show row19 KTR 0 t = _; unfold row19; exact e3
    unfold atC
    simp only [e1, f0, f1]
  · have hz := mt p hp
    have a := rm _ hz
    have b := cm _ hz
    exact ⟨ms _ _ hz a.1, ms _ _ hz a.2, b.1, b.2, Rat.le_trans t1 hz.lo, Rat.le_trans hz.hi t3⟩

/-- two intervals that have both a pair within the circle and one without -/
structure Circ (S C : I) : Prop where
  low : ∃ s c, Mem S s ∧ Mem C c ∧ s * s + c * c ≤ 1
  high : ∃ s c, Mem S s ∧ Mem C c ∧ 1 ≤ s * s + c * c
theorem AtE.circ {S C : I} {z : Rat} (h : AtE S C z) : Circ S C := by
  have h0 := sq_nn z
  have h1 : z * z ≤ 1 := by have := sq_bd h.lo h.hi; grind
  have k1 := sum_low h0 h1
  have k2 := sum_high h0 h1
  refine ⟨⟨_, _, h.s1, h.c1, ?_⟩, ⟨_, _, h.s2, h.c2, ?_⟩⟩
  · generalize nestR (z * z) slQ 1 = a at *
    generalize nestR (z * z) clQ 1 = b at *
    grind
  · generalize nestR (z * z) slQ (1 - z * z / 420) = a at *
    generalize nestR (z * z) clQ (1 - z * z / 380) = b at *
    grind
theorem Circ.swap {S C : I} (h : Circ S C) : Circ C S := by
  obtain ⟨⟨s, c, h1, h2, h3⟩, ⟨u, v, k1, k2, k3⟩⟩ := h
  exact ⟨⟨c, s, h2, h1, by grind⟩, ⟨v, u, k2, k1, by grind⟩⟩
theorem Circ.turn {S C : I} (h : Circ S C) : Circ (turnI S) C := by
  obtain ⟨⟨s, c, h1, h2, h3⟩, ⟨u, v, k1, k2, k3⟩⟩ := h
  exact ⟨⟨-s, c, turn_mem h1, h2, by grind⟩, ⟨-u, v, turn_mem k1, k2, by grind⟩⟩
set_option maxRecDepth 100000 in
theorem mone_q : mone64.q = -1 := by
  have e : mone64 = one64.neg := F.ext' (by rw [F.neg_k, one64_k, mone64_k])
  rw [e, q_neg, one_q]
theorem withI_eq {a : I} {v : Rat} (h : Mem a v) (h0 : -1 ≤ v) (h1 : v ≤ 1) : withI a = ⟨mxF a.lo mone64, mnF a.hi one64⟩ := by
  have k1 : (mxF a.lo mone64).q ≤ v := by
    rcases mxF_or a.lo mone64 with e | e <;> rw [e]
    · exact h.lo
    · rw [mone_q]; exact h0
  have k2 : v ≤ (mnF a.hi one64).q := by
    rcases mnF_or a.hi one64 with e | e <;> rw [e]
    · exact h.hi
    · rw [one_q]; exact h1
  have k3 := q_le.1 (Rat.le_trans k1 k2)
  unfold withI
  rw [show decide ((mnF a.hi one64).k < (mxF a.lo mone64).k) = false from decide_eq_false (by omega), cond_false]
theorem withI_mem {a : I} {v0 : Rat} (h : Mem a v0) (h0 : -1 ≤ v0) (h1 : v0 ≤ 1) {v : Rat} (hv : Mem a v) : ∃ w, Mem (withI a) w ∧ (w = v ∨ (1 ≤ v ∧ w = 1) ∨ (v ≤ -1 ∧ w = -1)) := by
  rw [withI_eq h h0 h1]
  have m0 := h.lo; have m1 := h.hi; have n0 := hv.lo; have n1 := hv.hi
  have key : ∀ w : Rat, a.lo.q ≤ w → w ≤ a.hi.q → -1 ≤ w → w ≤ 1 → Mem ⟨mxF a.lo mone64, mnF a.hi one64⟩ w := by
    intro w g1 g2 g3 g4
    constructor
    · rcases mxF_or a.lo mone64 with e | e <;> simp only [e]
      · exact g1
      · rw [mone_q]; exact g3
    · rcases mnF_or a.hi one64 with e | e <;> simp only [e]
      · exact g2
      · rw [one_q]; exact g4
  rcases (Rat.le_total : v ≤ 1 ∨ 1 ≤ v) with g | g
  · rcases (Rat.le_total : v ≤ -1 ∨ -1 ≤ v) with k | k
    · exact ⟨-1, key _ (by grind) (by grind) (by grind) (by grind), .inr (.inr ⟨k, rfl⟩)⟩
    · exact ⟨v, key _ n0 n1 k g, .inl rfl⟩
  · exact ⟨1, key _ (by grind) (by grind) (by grind) (by grind), .inr (.inl ⟨g, rfl⟩)⟩
theorem withI_wd {a : I} {v0 : Rat} (h : Mem a v0) (h0 : -1 ≤ v0) (h1 : v0 ≤ 1) : wd (withI a) ≤ wd a := by
  rw [withI_eq h h0 h1]
  unfold wd
  have k1 := (mxF_q a.lo mone64).1
  have k2 := (mnF_q a.hi one64).1
  simp only
  grind
theorem abs_of_sq {s c : Rat} (h : s * s + c * c ≤ 1) : (-1 ≤ s ∧ s ≤ 1) ∧ -1 ≤ c ∧ c ≤ 1 := by
  have a := sq_nn s
  have b := sq_nn c
  have key : ∀ x : Rat, x * x ≤ 1 → -1 ≤ x ∧ x ≤ 1 := by
    intro x hx
    constructor
    · apply Rat.not_lt.1
      intro g
      have := Rat.mul_pos (show 0 < -1 - x by grind) (show 0 < 1 - x by grind)
      grind
    · apply Rat.not_lt.1
      intro g
      have := Rat.mul_pos (show 0 < x - 1 by grind) (show 0 < x + 1 by grind)
      grind
  exact ⟨key s (by grind), key c (by grind)⟩
theorem Circ.clip {S C : I} (h : Circ S C) : Circ (withI S) (withI C) ∧ wd (withI S) ≤ wd S ∧ wd (withI C) ≤ wd C := by
  obtain ⟨⟨s, c, h1, h2, h3⟩, ⟨u, v, k1, k2, k3⟩⟩ := h
  obtain ⟨⟨a1, a2⟩, a3, a4⟩ := abs_of_sq h3
  refine ⟨⟨⟨s, c, ?_, ?_, h3⟩, ?_⟩, withI_wd h1 a1 a2, withI_wd h2 a3 a4⟩
  · obtain ⟨w, m, e⟩ := withI_mem h1 a1 a2 h1
    rcases e with rfl | ⟨g, rfl⟩ | ⟨g, rfl⟩
    · exact m
    · rwa [show s = 1 by grind]
    · rwa [show s = -1 by grind]
  · obtain ⟨w, m, e⟩ := withI_mem h2 a3 a4 h2
    rcases e with rfl | ⟨g, rfl⟩ | ⟨g, rfl⟩
    · exact m
    · rwa [show c = 1 by grind]
    · rwa [show c = -1 by grind]
  · obtain ⟨w, m, e⟩ := withI_mem h1 a1 a2 k1
    obtain ⟨w2, m2, e2⟩ := withI_mem h2 a3 a4 k2
    refine ⟨w, w2, m, m2, ?_⟩
    have n1 := sq_nn w
    have n2 := sq_nn w2
    rcases e with rfl | ⟨g, rfl⟩ | ⟨g, rfl⟩
    · rcases e2 with rfl | ⟨g, rfl⟩ | ⟨g, rfl⟩ <;> grind
    · grind
    · grind
theorem wd_turn (a : I) : wd (turnI a) = wd a := by
  show a.lo.neg.q - a.hi.neg.q = a.hi.q - a.lo.q
  rw [q_neg, q_neg]; grind
/-- of a pair: on the circle, and narrow -/
structure AtC (p : I × I) : Prop where
  c : Circ p.1 p.2
  s : wd p.1 ≤ 32 * ulp
  o : wd p.2 ≤ 32 * ulp
theorem tau_mem : Mem TAU TAU.lo.q := ⟨Rat.le_refl, by rw [tau_lo, tau_hi]; grind⟩
theorem atP_ok {q x : F} (h1 : -(1 / 8) ≤ x.q - q.q) (h2 : x.q - q.q ≤ 1 / 8) (b1 : 0 ≤ x.q) (b2 : x.q ≤ 1) (b3 : 0 ≤ q.q) (b4 : q.q ≤ 1) (j : Nat) : AtC (atP KTR KRR withI j q x) := by
  obtain ⟨S, C, e1, e2, hs, hc, w1, w2, hm⟩ := atSC_ok h1 h2 b1 b2 b3 b4
  have hC := (hm _ tau_mem).circ
  have f1 : KTR.neg 0 S = (turnI S, 0) := cNeg_ok hs.rt
  have f2 : KTR.neg 0 C = (turnI C, 0) := cNeg_ok hc.rt
  unfold atP
  simp only [e1, e2, f1, f2]
  split
  · have := hC.clip; exact ⟨this.1, Rat.le_trans this.2.1 w1, Rat.le_trans this.2.2 w2⟩
  · have := hC.turn.swap.clip; exact ⟨this.1, Rat.le_trans this.2.1 w2, Rat.le_trans this.2.2 (by rw [wd_turn]; exact w1)⟩
  · have := hC.turn.swap.turn.swap.clip; exact ⟨this.1, Rat.le_trans this.2.1 (by rw [wd_turn]; exact w1), Rat.le_trans this.2.2 (by rw [wd_turn]; exact w2)⟩
  · have := hC.swap.turn.clip; exact ⟨this.1, Rat.le_trans this.2.1 (by rw [wd_turn]; exact w2), Rat.le_trans this.2.2 w1⟩
set_option maxRecDepth 100000 in
theorem consts : c1.q * 8 = 1 ∧ c3.q * 8 = 3 ∧ c5.q * 8 = 5 ∧ c7.q * 8 = 7 ∧ q1.q * 4 = 1 ∧ q2.q * 4 = 2 ∧ q3.q * 4 = 3 ∧ (toF 0).q = 0 :=
  ⟨q_of' (n := 1) (s := 3) (by decide +kernel) rfl, q_of' (n := 3) (s := 3) (by decide +kernel) rfl, q_of' (n := 5) (s := 3) (by decide +kernel) rfl, q_of' (n := 7) (s := 3) (by decide +kernel) rfl,
    q_of' (n := 1) (s := 2) (by decide +kernel) rfl, q_of' (n := 2) (s := 2) (by decide +kernel) rfl, q_of' (n := 3) (s := 2) (by decide +kernel) rfl, q_int (n := 0) (by decide +kernel)⟩
theorem atR_ok {x : F} (b1 : 0 ≤ x.q) (b2 : x.q ≤ 1) : AtC (atR x) := by
  obtain ⟨k1, k3, k5, k7, g1, g2, g3, g0⟩ := consts
  have lt : ∀ c : F, decide (x.k < c.k) = true → x.q < c.q := fun c h => q_lt.2 (of_decide_eq_true h)
  have ge : ∀ c : F, decide (x.k < c.k) = false → c.q ≤ x.q := fun c h => q_le.2 (by have := of_decide_eq_false h; omega)
  unfold atR atM
  cases h5 : decide (x.k < c5.k)
  · have := ge _ h5
    cases h7 : decide (x.k < c7.k)
    · have := ge _ h7
      simp only [cond_false]
      refine atP_ok ?_ ?_ b1 b2 ?_ ?_ _ <;> (rw [one_q]; grind)
    · have := lt _ h7
      simp only [cond_false, cond_true]
      refine atP_ok ?_ ?_ b1 b2 ?_ ?_ _ <;> grind
  · have := lt _ h5
    cases h3 : decide (x.k < c3.k)
    · have := ge _ h3
      simp only [cond_false, cond_true]
      refine atP_ok ?_ ?_ b1 b2 ?_ ?_ _ <;> grind
    · have := lt _ h3
      cases h1 : decide (x.k < c1.k)
      · have := ge _ h1
        simp only [cond_false, cond_true]
        refine atP_ok ?_ ?_ b1 b2 ?_ ?_ _ <;> grind
      · have := lt _ h1
        simp only [cond_true]
        refine atP_ok ?_ ?_ b1 b2 ?_ ?_ _ <;> grind
end Bu
namespace Bu
open Rx Go

def widM (a : I) : F × Int := bif rt a then dSub true a.hi a.lo else (F.zero, 20)
structure Nc where
  ib : I → Bool
  si : I → I
  co : I → I
  sa : I → I → Bool
  ha : I → F → Bool
  rt : I → Bool
  add : Int → I → I → I × Int
  sqr : Int → I → I × Int
  wid : I → F × Int
  ld : F → Int → F
  lo : F → Int → Bool
def kWid (f : I → F × Int) : List SV → Dec → Option (SV × Dec × Obs)
  | [.agg [.fl a, .fl b]], ds => some (.tup [.fl (f ⟨a, b⟩).1, .si .i64 (f ⟨a, b⟩).2], ds, [])
  | _, _ => none
def kLd (l : F → Int → F) (o : F → Int → Bool) : List SV → Dec → Option (SV × Dec × Obs)
  | [.fl x, n], ds => match intS n with
    | some (.i64, k) => some (.fl (l x k), ds, [(o x k, true)])
    | _ => none
  | _, _ => none
def NcR (f : F → I × I) : Nc := ⟨fun u => inB u.lo u.hi, fun u => sinM f u.lo u.hi, fun u => cosM f u.lo u.hi, sameI, hasB, rt, KTR.add, KTR.sqr, widM, ldF, fun x n => decide (Sc x (ldF x n) n)⟩
def tcOne (N : Nc) (u : I) : I × Int := N.add (N.sqr (N.sqr 0 (N.si u)).2 (N.co u)).2 (N.sqr 0 (N.si u)).1 (N.sqr (N.sqr 0 (N.si u)).2 (N.co u)).1
def tcOb (N : Nc) (a b : F) : Obs := [(decide ((N.wid (N.co ⟨a, a⟩)).1.k ≤ (N.ld one64 (-48)).k), true), (decide ((N.wid (N.si ⟨a, a⟩)).1.k ≤ (N.ld one64 (-48)).k), true),
  (decide (IntKind.i64.wrap (IntKind.i64.wrap (0 + (N.wid (N.si ⟨a, a⟩)).2) + (N.wid (N.co ⟨a, a⟩)).2) = 0), true), (N.lo one64 (-48), true), (N.ib ⟨a, a⟩, true), (N.ha (tcOne N ⟨a, b⟩).1 one64, true),
  (decide (one64.k < (N.co ⟨a, b⟩).hi.k), false), (decide ((N.co ⟨a, b⟩).lo.k < mone64.k), false), (decide (one64.k < (N.si ⟨a, b⟩).hi.k), false), (decide ((N.si ⟨a, b⟩).lo.k < mone64.k), false),
  (N.rt (N.co ⟨a, b⟩), true), (N.rt (N.si ⟨a, b⟩), true), (!((tcOne N ⟨a, b⟩).2 == 0), false), (N.ib ⟨a, b⟩, true), (N.ib ⟨a, b⟩, true)]

theorem In1.sm {a : I} (h : In1 a) : Sm a := by
  have h1 := q_le.2 h.lo; have h2 := q_le.2 h.hi; have h3 := q_le.2 h.rt
  rw [mone_q] at h1; rw [one_q] at h2
  exact ⟨by grind, h3, by grind⟩
theorem sqr_in {a : I} (h : In1 a) : ∃ r, cSqr dMul 0 a = (r, 0) ∧ U01 r ∧ ∀ v, Mem a v → Mem r (v * v) := by
  obtain ⟨r, e, h1, h2⟩ := cSqr_ok h.sm
  obtain ⟨b1, b2, b3, b4, b5, b6⟩ := bare_ok h.sm
  have g1 := q_le.2 h.lo; have g2 := q_le.2 h.hi
  rw [mone_q] at g1; rw [one_q] at g2
  have b7 := b6 1 g1 g2
  refine ⟨r, e, ⟨?_, ?_, ?_⟩, fun v hv => sqr_mem h.sm h1 h2 hv⟩
  · rw [← q_zero]; exact h1.top F.zero (by rw [q_zero]; exact sq_nn _)
  · have := h1.le; have := h2.ge
    have k1 := Rat.mul_nonneg b1 (show 0 ≤ (bareI a).hi.q - (bareI a).lo.q by grind)
    have k2 := Rat.mul_nonneg (show 0 ≤ (bareI a).hi.q by grind) (show 0 ≤ (bareI a).hi.q - (bareI a).lo.q by grind)
    grind
  · rw [← one_q]
    refine h2.bot one64 ?_
    rw [one_q]
    have := sq_bd (x := (bareI a).hi.q) (m := 1) (by grind) b7
    grind
theorem hull_mem {a b : I} {v : Rat} (h : Mem a v) : Mem (hullI a b) v := by
  refine ⟨Rat.le_trans (mnF_q a.lo b.lo).1 h.lo, Rat.le_trans h.hi (mxF_q a.hi b.hi).1⟩
theorem top_mem {h : Bool} {a b : I} {v : Rat} (hm : Mem a v) : Mem (topM h a b) v := by
  cases h
  · exact hm
  · exact hull_mem hm
theorem inB_q {a b : F} (h : inB a b = true) : 0 ≤ a.q ∧ a.q ≤ b.q ∧ b.q ≤ 1 := by
  unfold inB rt at h
  rw [Bool.and_eq_true, Bool.and_eq_true] at h
  obtain ⟨⟨h1, h2⟩, h3⟩ := h
  have k1 := q_le.2 (of_decide_eq_true h1)
  have k2 := q_le.2 (of_decide_eq_true h2)
  have k3 := q_le.2 (of_decide_eq_true h3)
  rw [one_q] at k3
  rw [consts.2.2.2.2.2.2.2] at k2
  exact ⟨k2, k1, k3⟩
theorem circ_M {a b : F} (h : inB a b = true) : Circ (sinM atR a b) (cosM atR a b) := by
  obtain ⟨h1, h2, h3⟩ := inB_q h
  obtain ⟨⟨s, c, m1, m2, e⟩, ⟨u, v, m3, m4, g⟩⟩ := (atR_ok h1 (by grind)).c
  exact ⟨⟨s, c, top_mem (top_mem (hull_mem m1)), top_mem (hull_mem m2), e⟩, ⟨u, v, top_mem (top_mem (hull_mem m3)), top_mem (hull_mem m4), g⟩⟩
theorem one_ok {a b : F} (h : inB a b = true) : (tcOne (NcR atR) ⟨a, b⟩).2 = 0 ∧ hasB (tcOne (NcR atR) ⟨a, b⟩).1 one64 = true := by
  obtain ⟨s, e1, u1, m1⟩ := sqr_in (sinM_in a b)
  obtain ⟨c, e2, u2, m2⟩ := sqr_in (cosM_in a b)
  obtain ⟨r, e3, h1, h2⟩ := cAdd_ok u1.sm u2.sm
  have f1 : (NcR atR).sqr 0 ((NcR atR).si ⟨a, b⟩) = (s, 0) := e1
  have f2 : (NcR atR).sqr 0 ((NcR atR).co ⟨a, b⟩) = (c, 0) := e2
  have f3 : (NcR atR).add 0 s c = (r, 0) := e3
  have f4 : tcOne (NcR atR) ⟨a, b⟩ = (r, 0) := by unfold tcOne; simp only [f1, f2, f3]
  rw [f4]
  refine ⟨rfl, ?_⟩
  obtain ⟨⟨x, y, g1, g2, g3⟩, ⟨z, w, k1, k2, k3⟩⟩ := circ_M h
  have a1 := add_mem h1 h2 (m1 x g1) (m2 y g2)
  have a2 := add_mem h1 h2 (m1 z k1) (m2 w k2)
  have l1 : r.lo.q ≤ one64.q := by rw [one_q]; exact Rat.le_trans a1.lo g3
  have l2 : one64.q ≤ r.hi.q := by rw [one_q]; exact Rat.le_trans k3 a2.hi
  unfold hasB
  rw [rt_q (Rat.le_trans l1 l2), decide_eq_true (q_le.1 l1), decide_eq_true (q_le.1 l2)]; rfl
set_option maxRecDepth 100000 in
theorem tiny_q : (ldF one64 (-48)).q * 281474976710656 = 1 := q_of' (n := 1) (s := 48) (by decide +kernel) rfl
set_option maxRecDepth 100000 in
theorem tiny_ok : decide (Sc one64 (ldF one64 (-48)) (-48)) = true := by decide +kernel
theorem wid_ok {a : I} (h : In1 a) (hw : wd a ≤ 32 * ulp) : (widM a).2 = 0 ∧ decide ((widM a).1.k ≤ (ldF one64 (-48)).k) = true := by
  obtain ⟨d, hd⟩ := big_ex
  have := h.sm
  have h1 := this.lo; have h2 := this.rt; have h3 := this.hi
  obtain ⟨r, e, hr⟩ := @dSub_up a.hi a.lo d (by rw [hd]; grind)
  have e2 : widM a = (r, 0) := by unfold widM; rw [rt_q h2, cond_true, e]
  rw [e2]
  refine ⟨rfl, decide_eq_true (q_le.1 ?_)⟩
  refine hr.bot _ ?_
  have := tiny_q
  unfold wd ulp at hw
  grind
theorem has_pt {a q : F} (h : hasB ⟨a, a⟩ q = true) : a = q := by
  unfold hasB at h
  simp only [Bool.and_eq_true, decide_eq_true_iff] at h
  exact F.ext' (by omega)
theorem exact_M {x s c : F} (h : exactB atR x s c = true) : sinM atR x x = ⟨s, s⟩ ∧ cosM atR x x = ⟨c, c⟩ := by
  unfold exactB at h
  rw [Bool.and_eq_true, Bool.and_eq_true] at h
  exact ⟨(sameI_iff _ _).1 h.1.2, (sameI_iff _ _).1 h.2⟩
theorem exact1 : exactB atR q1 one64 (toF 0) = true := by
  have h := awake_ok
  simp only [awakeOb, obsB, List.all_cons, Bool.and_eq_true, beq_iff_eq] at h
  exact h.2.2.2.2.2.2.1
theorem wd_pt (x : F) : wd ⟨x, x⟩ ≤ 32 * ulp := by
  have := ulp_pos
  show x.q - x.q ≤ _; grind
theorem sin_wd {a : F} (h : inB a a = true) : wd (sinM atR a a) ≤ 32 * ulp := by
  obtain ⟨h1, h2, h3⟩ := inB_q h
  cases k1 : hasB ⟨a, a⟩ q1
  · cases k3 : hasB ⟨a, a⟩ q3
    · unfold sinM
      rw [k1, k3]
      simp only [sinT, topM, cond_false, hull_self]
      exact (atR_ok h1 h3).s
    · rw [has_pt k3, (exact_M exact3).1]; exact wd_pt _
  · rw [has_pt k1, (exact_M exact1).1]; exact wd_pt _
theorem cos_wd {a : F} (h : inB a a = true) : wd (cosM atR a a) ≤ 32 * ulp := by
  obtain ⟨h1, h2, h3⟩ := inB_q h
  cases k2 : hasB ⟨a, a⟩ q2
  · unfold cosM
    rw [k2]
    simp only [cosT, topM, cond_false, hull_self]
    exact (atR_ok h1 h3).o
  · rw [has_pt k2, (exact_M exact2).2]; exact wd_pt _
theorem tcOb_ok {a b : F} (h : inB a b = true) : obsB (tcOb (NcR atR) a b) = true := by
  have ha := (inB_ends h).1
  have s1 := sinM_in a b
  have c1 := cosM_in a b
  have ws := wid_ok (sinM_in a a) (sin_wd ha)
  have wc := wid_ok (cosM_in a a) (cos_wd ha)
  have ho := one_ok h
  simp only [tcOb, obsB, List.all_cons, List.all_nil, Bool.and_eq_true, beq_iff_eq, Bool.and_true]
  refine ⟨wc.2, ws.2, ?_, tiny_ok, ha, ho.2, ?_, ?_, ?_, ?_, ?_, ?_, ?_, h, h⟩
  · rw [show ((NcR atR).wid ((NcR atR).si ⟨a, a⟩)).2 = 0 from ws.1, show ((NcR atR).wid ((NcR atR).co ⟨a, a⟩)).2 = 0 from wc.1]; rfl
  · exact decide_eq_false (by have := c1.hi; show ¬ one64.k < (cosM atR a b).hi.k; omega)
  · exact decide_eq_false (by have := c1.lo; show ¬ (cosM atR a b).lo.k < mone64.k; omega)
  · exact decide_eq_false (by have := s1.hi; show ¬ one64.k < (sinM atR a b).hi.k; omega)
  · exact decide_eq_false (by have := s1.lo; show ¬ (sinM atR a b).lo.k < mone64.k; omega)
  · exact decide_eq_true c1.rt
  · exact decide_eq_true s1.rt
  · rw [ho.1]; rfl
end Bu
