/- Neighbours, and the side of what is real, as the document tells them. Sums, as the document tells them: what is reckoned comes to the sum, rounded to its side. burnishref01: side, plain, far, Add, Sub: what they answer. burnishref01: far, Add, Sub: they round to the side. -/
import Derived.Test.YtmhhopfffeijnaaGreatZ20
import Derived.Test.YtmhhopfffeijnaaGreatZ01
namespace Go.Proofs.YtmhhopfffeijnaaGreat
set_option linter.all false
open Go.RowKit Bu Rx

theorem infP_F (x : F) (w : World) : Calls Tryz.prog 166 #[.float .f64 x.b, .int .i64 1] w fun e w' => e = .returned (.bool false) ∧ w = w' := by
  have hx := x.hk
  have hT := T_num
  have ho : (FloatKind.f64.format.order x.b 9218868437227405311 == some .gt) = false := by
    rw [show (9218868437227405311 : Nat) = F.max.b from by decide, ford_gt]
    have : F.max.k = (T : Int) - 1 := rfl
    exact decide_eq_false (by omega)
  go_enter Tryz.func166, Tryz.ntmps166
  go_wp2
  go_ret
  exact ⟨rfl, rfl⟩
theorem infN_F (x : F) (w : World) : Calls Tryz.prog 166 #[.float .f64 x.b, .int .i64 (-1)] w fun e w' => e = .returned (.bool false) ∧ w = w' := by
  have hx := x.hk
  have hT := T_num
  have ho : (FloatKind.f64.format.order (Op.negFloat .f64 x.b) 9218868437227405311 == some .gt) = false := by
    by_cases h : x.k = 0
    · rw [show x = F.zero from F.ext' h]; decide
    · rw [negFloat_F x h, show (9218868437227405311 : Nat) = F.max.b from by decide, ford_gt]
      have : F.max.k = (T : Int) - 1 := rfl
      have := x.neg.hk
      exact decide_eq_false (by omega)
  have hn : ∀ w, (Op.unary .neg (.float .f64 x.b)).run Tryz.prog w = .ok (.float .f64 (Op.negFloat .f64 x.b)) w := fun w => rfl
  generalize Op.negFloat .f64 x.b = y at *
  go_enter Tryz.func166, Tryz.ntmps166
  go_wp2
  go_ret
  exact ⟨rfl, rfl⟩
theorem inf_word {w : Nat} (h : badB w = true) : (Ieee.double.order (w % 9223372036854775808) 9218868437227405311 == some .gt) = (Nat.beq w INF || Nat.beq w NINF) := by
  rcases badB_or h with rfl | rfl | rfl <;> decide +kernel
theorem infK : PlainOk Tryz.prog 166 kInf := by
  intro args ds x ds' ob h ho
  unfold kInf at h
  split at h
  · rename_i x n
    simp only [Option.some.injEq, Prod.mk.injEq] at h; obtain ⟨rfl, _, rfl⟩ := h
    have hn := of_decide_eq_true (obs1 ho)
    refine ⟨[.float .f64 x.b, .int .i64 n], .bool false, rfl, rfl, fun w => ?_⟩
    rcases hn with rfl | rfl | rfl
    · refine (isInf_F x w).mono ?_
      rintro e w' ⟨rfl, rfl⟩; exact ⟨rfl, Below.refl _ _⟩
    · refine (infP_F x w).mono ?_
      rintro e w' ⟨rfl, rfl⟩; exact ⟨rfl, Below.refl _ _⟩
    · refine (infN_F x w).mono ?_
      rintro e w' ⟨rfl, rfl⟩; exact ⟨rfl, Below.refl _ _⟩
  · rename_i v
    split at h
    · rename_i d ds1 ob1 h1
      simp only [Option.some.injEq, Prod.mk.injEq] at h; obtain ⟨rfl, _, rfl⟩ := h
      have hb := ho _ (List.mem_cons_self ..)
      have hd := takeB_ok h1 (fun p hp => ho p (List.mem_cons_of_mem _ hp))
      have hlt : v < 18446744073709551616 := by rcases badB_or hb with rfl | rfl | rfl <;> decide
      refine ⟨[.float .f64 v, .int .i64 0], .bool d, rfl, rfl, fun w => (isInf_w v w hlt).mono ?_⟩
      rintro e w' ⟨rfl, rfl⟩
      exact ⟨by rw [inf_word hb, hd], Below.refl _ _⟩
    · cases h
  · cases h
theorem absK : PlainOk Tryz.prog 136 kAbsG := by
  intro args ds x ds' ob h ho
  unfold kAbsG at h
  split at h
  · rename_i x
    simp only [Option.some.injEq, Prod.mk.injEq] at h; obtain ⟨rfl, _, _⟩ := h
    refine ⟨[.float .f64 x.b], _, rfl, rfl, fun w => (abs_F x w).mono ?_⟩
    rintro e w' ⟨rfl, rfl⟩; exact ⟨rfl, Below.refl _ _⟩
  · rename_i v
    simp only [Option.some.injEq, Prod.mk.injEq] at h; obtain ⟨rfl, _, rfl⟩ := h
    have hv := Nat.eq_of_beq_eq_true (obs1 ho)
    subst hv
    refine ⟨[.float .f64 NEG0], _, rfl, rfl, fun w => (abs_w NEG0 w (by decide)).mono ?_⟩
    rintro e w' ⟨rfl, rfl⟩; exact ⟨rfl, Below.refl _ _⟩
  · cases h
theorem inf_order' (x : F) : (Ieee.double.order x.b INF == some .eq) = false ∧ (Ieee.double.order INF x.b == some .gt) = true ∧ (Ieee.double.order x.b NINF == some .eq) = false ∧ (Ieee.double.order NINF x.b == some .gt) = false := by
  have h1 := read_F x
  have h2 := read_parts INF false 9218868437227405312 (by decide) rfl
  have h3 := read_parts NINF true 9218868437227405312 (by decide) rfl
  rw [if_neg (by decide), if_pos (by decide)] at h2 h3
  unfold Ieee.Format.order
  rw [h1, h2, h3]
  exact ⟨rfl, rfl, rfl, rfl⟩
def naU (x : F) : Nat := if x.k + 1 < (T : Int) then (if x.k = -1 then NEG0 else (F.of (x.k + 1)).b) else INF
def naD (x : F) : Nat := if -(T : Int) < x.k - 1 then (F.of (x.k - 1)).b else NINF
theorem naU_pos (x : F) (h : 0 ≤ x.k) : (IntKind.u64.wrap ((x.b : Int) + 1)).toNat = naU x := by
  have e := T_num
  have hx := x.hk
  have hb : x.b = x.k.toNat := by unfold F.b; rw [if_pos h]
  rw [IntKind.wrap_u64, hb]
  unfold naU
  by_cases c : x.k + 1 < (T : Int)
  · rw [if_pos c, if_neg (by omega)]
    unfold F.b
    rw [F.of_k (by omega), if_pos (by omega)]
    omega
  · rw [if_neg c]
    have : INF = 9218868437227405312 := rfl
    omega
theorem naU_neg (x : F) (h : x.k < 0) : (IntKind.u64.wrap ((x.b : Int) - 1)).toNat = naU x := by
  have e := T_num
  have hx := x.hk
  have hb : x.b = 9223372036854775808 + (-x.k).toNat := by unfold F.b; rw [if_neg (by omega)]
  rw [IntKind.wrap_u64, hb]
  unfold naU
  rw [if_pos (by omega)]
  by_cases c : x.k = -1
  · rw [if_pos c]
    have : NEG0 = 9223372036854775808 := rfl
    omega
  · rw [if_neg c]
    unfold F.b
    rw [F.of_k (by omega), if_neg (by omega)]
    omega
theorem naD_pos (x : F) (h : 0 < x.k) : (IntKind.u64.wrap ((x.b : Int) - 1)).toNat = naD x := by
  have e := T_num
  have hx := x.hk
  have hb : x.b = x.k.toNat := by unfold F.b; rw [if_pos (by omega)]
  rw [IntKind.wrap_u64, hb]
  unfold naD
  rw [if_pos (by omega)]
  unfold F.b
  rw [F.of_k (by omega), if_pos (by omega)]
  omega
theorem naD_neg (x : F) (h : x.k < 0) : (IntKind.u64.wrap ((x.b : Int) + 1)).toNat = naD x := by
  have e := T_num
  have hx := x.hk
  have hb : x.b = 9223372036854775808 + (-x.k).toNat := by unfold F.b; rw [if_neg (by omega)]
  rw [IntKind.wrap_u64, hb]
  unfold naD
  by_cases c : -(T : Int) < x.k - 1
  · rw [if_pos c]
    unfold F.b
    rw [F.of_k (by omega), if_neg (by omega)]
    omega
  · rw [if_neg c]
    have : NINF = 18442240474082181120 := rfl
    omega
theorem nextafter_U (x : F) (w : World) : Calls Tryz.prog 182 #[.float .f64 x.b, .float .f64 INF] w fun e w' => e = .returned (.float .f64 (naU x)) ∧ Below w.heap.size w w' := by
  obtain ⟨o1, o2, _, _⟩ := inf_order' x
  have e0 := zero_k'
  have hnn : (Ieee.double.order INF INF != some .eq) = false := by decide +kernel
  by_cases hk : x.k = 0
  · have : naU x = 1 := by rw [show x = F.zero from F.ext' hk]; decide +kernel
    rw [this]
    refine calls_of_run goodH oracleV0 80 (g := 182) (args := [.fl x, .f INF]) (ds := some [false, false, true]) (x := .f 1) (M' := []) (ds' := some [])
      (ob := [(decide (x.k = (toF 0).k), true), (Ieee.double.order x.b INF == some .eq, false), (Ieee.double.order INF INF != some .eq, false)]) (by kernel_rfl) (ObsOk.of_B ?_) rfl rfl w
    simp only [obsB, List.all_cons, List.all_nil, e0, decide_eq_true hk, o1, hnn, beq_self_eq_true, Bool.and_self]
  · by_cases hp : 0 < x.k
    · rw [← naU_pos x (by omega)]
      refine calls_of_run goodH oracleV0 80 (g := 182) (args := [.fl x, .f INF]) (ds := some [false, false, false, true, true]) (x := .f (IntKind.u64.wrap ((x.b : Int) + 1)).toNat) (M' := []) (ds' := some [])
        (ob := [(decide ((toF 0).k < x.k), true), (Ieee.double.order INF x.b == some .gt, true), (decide (x.k = (toF 0).k), false), (Ieee.double.order x.b INF == some .eq, false), (Ieee.double.order INF INF != some .eq, false)]) (by kernel_rfl) (ObsOk.of_B ?_) rfl rfl w
      simp only [obsB, List.all_cons, List.all_nil, e0, decide_eq_false hk, decide_eq_true hp, o1, o2, hnn, beq_self_eq_true, Bool.and_self]
    · rw [← naU_neg x (by omega)]
      refine calls_of_run goodH oracleV0 80 (g := 182) (args := [.fl x, .f INF]) (ds := some [false, false, false, true, false]) (x := .f (IntKind.u64.wrap ((x.b : Int) - 1)).toNat) (M' := []) (ds' := some [])
        (ob := [(decide ((toF 0).k < x.k), false), (Ieee.double.order INF x.b == some .gt, true), (decide (x.k = (toF 0).k), false), (Ieee.double.order x.b INF == some .eq, false), (Ieee.double.order INF INF != some .eq, false)]) (by kernel_rfl) (ObsOk.of_B ?_) rfl rfl w
      simp only [obsB, List.all_cons, List.all_nil, e0, decide_eq_false hk, decide_eq_false hp, o1, o2, hnn, beq_self_eq_true, Bool.and_self]
theorem nextafter_D (x : F) (w : World) : Calls Tryz.prog 182 #[.float .f64 x.b, .float .f64 NINF] w fun e w' => e = .returned (.float .f64 (naD x)) ∧ Below w.heap.size w w' := by
  obtain ⟨_, _, o1, o2⟩ := inf_order' x
  have e0 := zero_k'
  have hnn : (Ieee.double.order NINF NINF != some .eq) = false := by decide +kernel
  by_cases hk : x.k = 0
  · have : naD x = 9223372036854775809 := by rw [show x = F.zero from F.ext' hk]; decide +kernel
    rw [this]
    refine calls_of_run goodH oracleV0 80 (g := 182) (args := [.fl x, .f NINF]) (ds := some [false, false, true]) (x := .f 9223372036854775809) (M' := []) (ds' := some [])
      (ob := [(decide (x.k = (toF 0).k), true), (Ieee.double.order x.b NINF == some .eq, false), (Ieee.double.order NINF NINF != some .eq, false)]) (by kernel_rfl) (ObsOk.of_B ?_) rfl rfl w
    simp only [obsB, List.all_cons, List.all_nil, e0, decide_eq_true hk, o1, hnn, beq_self_eq_true, Bool.and_self]
  · by_cases hp : 0 < x.k
    · rw [← naD_pos x hp]
      refine calls_of_run goodH oracleV0 80 (g := 182) (args := [.fl x, .f NINF]) (ds := some [false, false, false, false, true]) (x := .f (IntKind.u64.wrap ((x.b : Int) - 1)).toNat) (M' := []) (ds' := some [])
        (ob := [(decide ((toF 0).k < x.k), true), (Ieee.double.order NINF x.b == some .gt, false), (decide (x.k = (toF 0).k), false), (Ieee.double.order x.b NINF == some .eq, false), (Ieee.double.order NINF NINF != some .eq, false)]) (by kernel_rfl) (ObsOk.of_B ?_) rfl rfl w
      simp only [obsB, List.all_cons, List.all_nil, e0, decide_eq_false hk, decide_eq_true hp, o1, o2, hnn, beq_self_eq_true, Bool.and_self]
    · rw [← naD_neg x (by omega)]
      refine calls_of_run goodH oracleV0 80 (g := 182) (args := [.fl x, .f NINF]) (ds := some [false, false, false, false, false]) (x := .f (IntKind.u64.wrap ((x.b : Int) + 1)).toNat) (M' := []) (ds' := some [])
        (ob := [(decide ((toF 0).k < x.k), false), (Ieee.double.order NINF x.b == some .gt, false), (decide (x.k = (toF 0).k), false), (Ieee.double.order x.b NINF == some .eq, false), (Ieee.double.order NINF NINF != some .eq, false)]) (by kernel_rfl) (ObsOk.of_B ?_) rfl rfl w
      simp only [obsB, List.all_cons, List.all_nil, e0, decide_eq_false hk, decide_eq_false hp, o1, o2, hnn, beq_self_eq_true, Bool.and_self]
theorem ob_two {a b : Obs} (h : ObsOk (a ++ b)) : ObsOk a ∧ ObsOk b := ⟨h.left, h.right⟩
theorem naK : PlainOk Tryz.prog 182 kNa := by
  intro args ds x ds' ob h ho
  unfold kNa at h
  split at h
  · rename_i x y
    split at h
    · rename_i hy
      have := Nat.eq_of_beq_eq_true hy
      subst this
      have key := nextafter_U x
      unfold naU at key
      split at h
      · rename_i ds1 ob1 h1
        split at h
        · rename_i ds2 ob2 h2
          simp only [Option.some.injEq, Prod.mk.injEq] at h; obtain ⟨rfl, _, rfl⟩ := h
          obtain ⟨ho2, ho1⟩ := ob_two ho
          have k1 := of_decide_eq_true (takeB_ok h1 ho1).symm
          have k2 := of_decide_eq_true (takeB_ok h2 ho2).symm
          rw [if_pos k1, if_pos k2] at key
          exact ⟨[.float .f64 x.b, .float .f64 INF], _, rfl, rfl, key⟩
        · rename_i ds2 ob2 h2
          simp only [Option.some.injEq, Prod.mk.injEq] at h; obtain ⟨rfl, _, rfl⟩ := h
          obtain ⟨ho2, ho1⟩ := ob_two ho
          have k1 := of_decide_eq_true (takeB_ok h1 ho1).symm
          have k2 := of_decide_eq_false (takeB_ok h2 ho2).symm
          rw [if_pos k1, if_neg k2] at key
          exact ⟨[.float .f64 x.b, .float .f64 INF], _, rfl, rfl, key⟩
        · cases h
      · rename_i ds1 ob1 h1
        simp only [Option.some.injEq, Prod.mk.injEq] at h; obtain ⟨rfl, _, rfl⟩ := h
        have k1 := of_decide_eq_false (takeB_ok h1 ho).symm
        rw [if_neg k1] at key
        exact ⟨[.float .f64 x.b, .float .f64 INF], _, rfl, rfl, key⟩
      · cases h
    · split at h
      · rename_i hy
        have := Nat.eq_of_beq_eq_true hy
        subst this
        have key := nextafter_D x
        unfold naD at key
        split at h
        · rename_i ds1 ob1 h1
          simp only [Option.some.injEq, Prod.mk.injEq] at h; obtain ⟨rfl, _, rfl⟩ := h
          have k1 := of_decide_eq_true (takeB_ok h1 ho).symm
          rw [if_pos k1] at key
          exact ⟨[.float .f64 x.b, .float .f64 NINF], _, rfl, rfl, key⟩
        · rename_i ds1 ob1 h1
          simp only [Option.some.injEq, Prod.mk.injEq] at h; obtain ⟨rfl, _, rfl⟩ := h
          have k1 := of_decide_eq_false (takeB_ok h1 ho).symm
          rw [if_neg k1] at key
          exact ⟨[.float .f64 x.b, .float .f64 NINF], _, rfl, rfl, key⟩
        · cases h
      · cases h
  · cases h
end Go.Proofs.YtmhhopfffeijnaaGreat
namespace Bu
set_option linter.all false
open Ieee Rx

theorem add_wrd (x y : F) : double.add x.b y.b = some (wrd (x.z + y.z) 1) := add_F x y
theorem sub_wrd (x y : F) : double.sub x.b y.b = some (wrd (x.z - y.z) 1) := sub_F x y
def aN (x y : F) : F := toF ((double.add x.b y.b).getD 0)
def sN (x y : F) : F := toF ((double.sub x.b y.b).getD 0)
def oA (x y : F) : Obs := [((double.add x.b y.b).isSome, true), (rightB ((double.add x.b y.b).getD 0), true)]
def oS (x y : F) : Obs := [((double.sub x.b y.b).isSome, true), (rightB ((double.sub x.b y.b).getD 0), true)]
theorem ob_pair {o : Option Nat} {D : F} (h : o = some D.b) : obsB [(o.isSome, true), (rightB (o.getD 0), true)] = true ∧ toF (o.getD 0) = D := by
  rw [h]
  refine ⟨?_, toF_F D⟩
  simp only [obsB, List.all_cons, List.all_nil, Option.isSome_some, Option.getD_some, right_F, beq_self_eq_true, Bool.and_self]
theorem aN_eq {x y D : F} (h : wrd (x.z + y.z) 1 = D.b) : aN x y = D ∧ obsB (oA x y) = true := by
  have := ob_pair (o := double.add x.b y.b) (D := D) (by rw [add_wrd, h])
  exact ⟨this.2, this.1⟩
theorem sN_eq {x y D : F} (h : wrd (x.z - y.z) 1 = D.b) : sN x y = D ∧ obsB (oS x y) = true := by
  have := ob_pair (o := double.sub x.b y.b) (D := D) (by rw [sub_wrd, h])
  exact ⟨this.2, this.1⟩
theorem dk_pos (d : F) : decide (0 < d.k) = true ↔ 0 < d.z := by
  have := z_sign d; have := z_zero d
  rw [decide_eq_true_iff]; omega
theorem dk_neg (d : F) : decide (d.k < 0) = true ↔ d.z < 0 := by
  have := z_sign d
  rw [decide_eq_true_iff]; omega
/-- the side of a sum -/
theorem add_side {a b s d : F} (hs : Nst s.z (a.z + b.z)) (hp : 0 < d.z ↔ s.z < a.z + b.z) (hn : d.z < 0 ↔ a.z + b.z < s.z) (up : Bool) : sideF s (decide (0 < d.k)) (decide (d.k < 0)) up = dAdd up a b := by
  refine side_ok (by decide) hs.nk ?_ ?_
  · rw [dk_pos, hp, show ((1 : Nat) : Int) = 1 from rfl, Int.mul_one]
  · rw [dk_neg, hn, show ((1 : Nat) : Int) = 1 from rfl, Int.mul_one]
theorem abs_z (x : F) : x.abs.z = (x.z.natAbs : Int) := by
  have e : x.abs.z = (nv x.k.natAbs : Int) := nvZ_natCast _
  rw [e, z_natAbs']
theorem abs_le {g x : F} : g.k ≤ x.abs.k ↔ g.z ≤ (x.z.natAbs : Int) := by
  have := @F.z_le g x.abs
  rw [abs_z] at this
  exact this.symm
theorem abs_lt' {g x : F} : x.abs.k < g.k ↔ (x.z.natAbs : Int) < g.z := by
  have := @F.z_lt x.abs g
  rw [abs_z] at this
  exact this.symm
/-- what is taken for known of great sums -/
def farC (a b s : F) : Prop := wrd (a.z + b.z) 1 = s.b ∧ G0.z ≤ (s.z.natAbs : Int)
instance (a b s : F) : Decidable (farC a b s) := by unfold farC; infer_instance
theorem fin_rep {z : Int} {g : F} (h : Rep z) (k : z.natAbs ≤ g.z.natAbs) : ∃ x : F, x.z = z := by
  obtain ⟨j, rfl⟩ := h
  have a := abs_z g
  have hg := g.abs.hk
  have h1 : j ≤ g.abs.k := nvZ_le_iff.1 (by have : nvZ g.abs.k = g.abs.z := rfl; omega)
  have h2 : -g.abs.k ≤ j := nvZ_le_iff.1 (by rw [nvZ_neg]; have : nvZ g.abs.k = g.abs.z := rfl; omega)
  refine ⟨F.of j, ?_⟩
  unfold F.z
  rw [F.of_k (by omega)]
theorem K60_fact : nvZ (K60.k - 1) = nvZ ((toF 4607182418800017408).k - 1) * (Q60 : Int) ∧ K60.z = (S : Int) * (Q60 : Int) ∧ (toF 4607182418800017408).z = S ∧ ((2 * P * Q60 : Nat) : Int) ≤ K60.z := by decide +kernel
theorem small_60 {a : F} (h : (a.z.natAbs : Int) < K60.z) : (∃ D : F, ldW a (-60) = D.b ∧ D.abs.k < (toF 4607182418800017408).k) ∨ ldW a (-60) = NEG0 := by
  obtain ⟨f1, _, _, _⟩ := K60_fact
  have nk := ld_Nk a (-60)
  have e1 : (2 : Nat) ^ (-60 : Int).toNat = 1 := rfl
  have e2 : (2 : Nat) ^ (-(-60 : Int)).toNat = Q60 := by rw [Q60_eq]; rfl
  rw [e1, e2, show ((1 : Nat) : Int) = 1 from rfl, Int.mul_one] at nk
  have ok : 0 < (toF 4607182418800017408).k := by decide +kernel
  have ok2 : (toF 4607182418800017408).k < (T : Int) := (toF 4607182418800017408).hk.2
  have ka : a.abs.k ≤ K60.k - 1 := by have := abs_lt'.2 h; omega
  have za : (a.z.natAbs : Int) ≤ nvZ (K60.k - 1) := by
    have : nvZ a.abs.k = a.abs.z := rfl
    rw [← abs_z, ← this]
    exact nvZ_le_iff.2 ka
  rw [f1] at za
  have u1 := nk.up ((toF 4607182418800017408).k - 1) (by omega)
  have u2 := nk.dn (-((toF 4607182418800017408).k - 1)) (by rw [nvZ_neg, Int.neg_mul]; omega)
  rcases ld_out a (-60) with ⟨D, e, k⟩ | ⟨e, _⟩ | ⟨_, k⟩ | ⟨_, k⟩
  · left
    refine ⟨D, e, ?_⟩
    have : D.abs.k = (D.k.natAbs : Int) := rfl
    omega
  · exact .inr e
  · omega
  · omega
theorem big_60 {a : F} (h : K60.z ≤ (a.z.natAbs : Int)) : ∃ x : F, ldW a (-60) = x.b ∧ a.z = x.z * (Q60 : Int) ∧ ¬ x.abs.k < (toF 4607182418800017408).k := by
  obtain ⟨_, f2, f3, f4⟩ := K60_fact
  obtain ⟨n, e⟩ := rep_coarse (rep_F a) (i := 60) (by rw [← Q60_eq]; omega)
  rw [← Q60_eq] at e
  have q0 : 0 < Q60 := Q60_eq ▸ Nat.two_pow_pos 60
  have en := congrArg Int.natAbs e
  rw [mul_abs] at en
  have rn : Rep n := by
    obtain ⟨m, s, ea, hm, hs⟩ := rep_parts (rep_F a)
    by_cases c : 60 ≤ s
    · obtain ⟨d, hd, _⟩ := pow_split c
      rw [← Q60_eq] at hd
      have hd2 : 2 ^ (s - 60) * Q60 = 2 ^ s := by rw [Q60_eq, ← Nat.pow_add]; congr 1; omega
      have : n = m * ((2 ^ (s - 60) : Nat) : Int) := by
        rw [ea, ← hd2, Int.natCast_mul, ← Int.mul_assoc] at e
        exact (Int.mul_eq_mul_right_iff (by omega)).1 e.symm
      rw [this]
      exact rep_mk (by omega)
    · refine (show n = n * ((2 ^ 0 : Nat) : Int) by simp) ▸ rep_mk ?_
      rw [ea, mul_abs] at en
      have h1 : m.natAbs * 2 ^ s < 2 * P * 2 ^ s := Nat.mul_lt_mul_of_pos_right hm (Nat.two_pow_pos s)
      have h2 : 2 * P * 2 ^ s ≤ 2 * P * Q60 := Nat.mul_le_mul_left _ (by rw [Q60_eq]; exact Nat.pow_le_pow_right (by decide) (by omega))
      have h3 : n.natAbs * Q60 < 2 * P * Q60 := by omega
      exact Nat.le_of_lt (Nat.lt_of_mul_lt_mul_right h3)
  have le : n.natAbs ≤ a.z.natAbs := by rw [en]; exact Nat.le_mul_of_pos_right _ q0
  obtain ⟨x, hx⟩ := fin_rep (g := a) rn le
  refine ⟨x, ?_, by rw [hx]; exact e, ?_⟩
  · apply ld_exact
    unfold Sc
    rw [show (-(-60 : Int)).toNat = 60 from rfl, show (-60 : Int).toNat = 0 from rfl, ← Q60_eq, hx, ← e]
    simp
  · rw [abs_lt', f3, hx]
    intro c
    have : n.natAbs < S := by omega
    have := Nat.mul_lt_mul_of_pos_right this q0
    rw [f2, en] at h
    omega
end Bu
namespace Go.Proofs.YtmhhopfffeijnaaGreat
set_option linter.all false
open Go.RowKit Bu Rx

def OS1 : OracleF := lookO [(166, plainO kInf), (182, plainO kNa)]
theorem oracleS1 : OracleOk Tryz.prog OS1 := .cons infK.of (.cons naK.of (.nil _))
def OS0 : OracleF := lookO []
theorem oracleS0 : OracleOk Tryz.prog OS0 := .nil _
theorem plRun (c : F) (d : Bool) : valR ((run Tryz.prog EH OS0 80).1 184 [.fl c] [] (some [d])) = some (.fl (bif d then F.zero else c), some [], [(decide (c.k = (toF 0).k), d)]) := by cases d <;> kernel_rfl
theorem plRun0 : outB ((run Tryz.prog EH OS0 80).1 184 [.f NEG0] [] (some [true])) = some (.fl F.zero) := by kernel_rfl
theorem plain_F (c : F) (w : World) : Calls Tryz.prog 184 #[.float .f64 c.b] w fun e w' => e = .returned (.float .f64 c.b) ∧ Below w.heap.size w w' := by
  have e0 := zero_k'
  cases h : decide (c.k = (toF 0).k)
  · exact calls_of_val goodH oracleS0 80 (plRun c false) (ObsOk.of_B (obsB_yes h obsB_nil)) rfl rfl w
  · have e : c = F.zero := F.ext' (by have := of_decide_eq_true h; rw [e0] at this; exact this)
    have hr := plRun c true
    subst e
    exact calls_of_val goodH oracleS0 80 hr (ObsOk.of_B (obsB_yes h obsB_nil)) rfl rfl w
theorem plainK : PlainOk Tryz.prog 184 kPlain := by
  intro args ds x ds' ob h ho
  unfold kPlain at h
  split at h
  · rename_i x
    simp only [Option.some.injEq, Prod.mk.injEq] at h; obtain ⟨rfl, _, _⟩ := h
    exact ⟨[.float .f64 x.b], _, rfl, rfl, plain_F x⟩
  · rename_i v
    split at h
    · rename_i ds1 ob1 h1
      simp only [Option.some.injEq, Prod.mk.injEq] at h; obtain ⟨rfl, _, rfl⟩ := h
      have hr := (takeB_ok h1 ho).symm
      refine ⟨[.float .f64 v], _, rfl, rfl, fun w => ?_⟩
      have := plain_F (toF v) w
      rw [toF_b hr] at this ⊢
      exact this
    · rename_i ds1 ob1 h1
      simp only [Option.some.injEq, Prod.mk.injEq] at h; obtain ⟨rfl, _, rfl⟩ := h
      have hv := Nat.eq_of_beq_eq_true (ho _ (List.mem_cons_self ..))
      subst hv
      exact ⟨[.float .f64 NEG0], _, rfl, rfl, fun w => calls_of_out goodH oracleS0 80 plRun0 rfl rfl w⟩
    · cases h
  · cases h
def pz (c : F) : Bool := decide (c.k = (toF 0).k)
theorem sdU1 (c d : F) : valR ((run Tryz.prog EH OS1 80).1 188 [.fl c, .fl d, .b true] [] (some [true, true, false, false])) = some (.tup [.fl (F.of (c.k + 1)), .i .i64 0], some [], [(decide ((F.of (c.k + 1)).k = (toF 0).k), false), (true, true), (decide (c.k = -1), false), (decide (c.k + 1 < (T : Int)), true), (decide ((toF 0).k < d.k), true), (true, true), (true, true)]) := by kernel_rfl
theorem sdU2 (c d : F) : valR ((run Tryz.prog EH OS1 80).1 188 [.fl c, .fl d, .b true] [] (some [true, true, true, false, true])) = some (.tup [.fl F.zero, .i .i64 0], some [], [(true, true), (true, true), (false, false), (decide (c.k = -1), true), (decide (c.k + 1 < (T : Int)), true), (decide ((toF 0).k < d.k), true), (true, true), (true, true)]) := by kernel_rfl
theorem sdU3 (c d : F) : valR ((run Tryz.prog EH OS1 80).1 188 [.fl c, .fl d, .b true] [] (some [true, false, true])) = some (.tup [.fl F.zero, .i .i64 10], some [], [(true, true), (true, true), (decide (c.k + 1 < (T : Int)), false), (decide ((toF 0).k < d.k), true), (true, true), (true, true)]) := by kernel_rfl
theorem sdU4 (c d : F) (z : Bool) : valR ((run Tryz.prog EH OS1 80).1 188 [.fl c, .fl d, .b true] [] (some [false, z])) = some (.tup [.fl (bif z then F.zero else c), .i .i64 0], some [], [(pz c, z), (true, true), (decide ((toF 0).k < d.k), false), (true, true), (true, true)]) := by cases z <;> kernel_rfl
theorem sdD1 (c d : F) (z : Bool) : valR ((run Tryz.prog EH OS1 80).1 188 [.fl c, .fl d, .b false] [] (some [true, true, z])) = some (.tup [.fl (bif z then F.zero else F.of (c.k - 1)), .i .i64 0], some [], [(pz (F.of (c.k - 1)), z), (true, true), (decide (-(T : Int) < c.k - 1), true), (decide (d.k < (toF 0).k), true), (true, true), (true, true)]) := by cases z <;> kernel_rfl
theorem sdD3 (c d : F) : valR ((run Tryz.prog EH OS1 80).1 188 [.fl c, .fl d, .b false] [] (some [true, false, true])) = some (.tup [.fl F.zero, .i .i64 10], some [], [(true, true), (true, true), (decide (-(T : Int) < c.k - 1), false), (decide (d.k < (toF 0).k), true), (true, true), (true, true)]) := by kernel_rfl
theorem sdD4 (c d : F) (z : Bool) : valR ((run Tryz.prog EH OS1 80).1 188 [.fl c, .fl d, .b false] [] (some [false, z])) = some (.tup [.fl (bif z then F.zero else c), .i .i64 0], some [], [(pz c, z), (true, true), (decide (d.k < (toF 0).k), false), (true, true), (true, true)]) := by cases z <;> kernel_rfl
theorem sdI1 (d : F) : valR ((run Tryz.prog EH OS0 80).1 188 [.f INF, .fl d, .b true] [] (some [true])) = some (.tup [.fl F.zero, .i .i64 10], some [], [(true, true)]) := by kernel_rfl
theorem sdI0 (d : F) : valR ((run Tryz.prog EH OS0 80).1 188 [.f INF, .fl d, .b false] [] (some [true])) = some (.tup [.fl F.max, .i .i64 0], some [], [(true, true)]) := by kernel_rfl
theorem sdJ1 (d : F) : valR ((run Tryz.prog EH OS0 80).1 188 [.f NINF, .fl d, .b true] [] (some [false, true])) = some (.tup [.fl F.min, .i .i64 0], some [], [(true, true), (false, false)]) := by kernel_rfl
theorem sdJ0 (d : F) : valR ((run Tryz.prog EH OS0 80).1 188 [.f NINF, .fl d, .b false] [] (some [false, true])) = some (.tup [.fl F.zero, .i .i64 10], some [], [(true, true), (false, false)]) := by kernel_rfl
theorem sdZ1 (d : F) : valR ((run Tryz.prog EH OS0 80).1 188 [.f NEG0, .fl d, .b true] [] (some [false, false, true, false, false, false, true, false, false])) = some (.tup [.f 1, .i .i64 0], some [], [(false, false), (false, false), (true, true), (false, false), (false, false), (false, false), (decide ((toF 0).k < d.k), true), (false, false), (false, false)]) := by kernel_rfl
theorem sdZ2 (d : F) : valR ((run Tryz.prog EH OS0 80).1 188 [.f NEG0, .fl d, .b true] [] (some [false, false, false, false, true])) = some (.tup [.fl F.zero, .i .i64 0], some [], [(true, true), (false, false), (decide ((toF 0).k < d.k), false), (false, false), (false, false)]) := by kernel_rfl
theorem sdZ3 (d : F) : valR ((run Tryz.prog EH OS0 80).1 188 [.f NEG0, .fl d, .b false] [] (some [false, false, true, false, false, false, true, false, false])) = some (.tup [.f 9223372036854775809, .i .i64 0], some [], [(false, false), (false, false), (true, true), (false, false), (false, false), (false, false), (decide (d.k < (toF 0).k), true), (false, false), (false, false)]) := by kernel_rfl
theorem sdZ4 (d : F) : valR ((run Tryz.prog EH OS0 80).1 188 [.f NEG0, .fl d, .b false] [] (some [false, false, false, false, true])) = some (.tup [.fl F.zero, .i .i64 0], some [], [(true, true), (false, false), (decide (d.k < (toF 0).k), false), (false, false), (false, false)]) := by kernel_rfl
theorem ret_tw {a b : Nat} {n m : Int} (h : a = b) (k : n = m) : Ending.returned (.tuple #[.float .f64 a, .int .i64 n]) = .returned (.tuple #[.float .f64 b, .int .i64 m]) := by rw [h, k]
theorem bif_pz {c : F} {z : Bool} (h : pz c = z) : (bif z then F.zero else c) = c := by
  cases z
  · rfl
  · have : c.k = (toF 0).k := of_decide_eq_true h
    rw [zero_k'] at this
    exact (F.ext' this : c = F.zero).symm
theorem side_F (c d : F) (up : Bool) (w : World) : Calls Tryz.prog 188 #[.float .f64 c.b, .float .f64 d.b, .bool up] w fun e w' => e = .returned (.tuple #[.float .f64 (sideF c (decide (0 < d.k)) (decide (d.k < 0)) up).1.b, .int .i64 (sideF c (decide (0 < d.k)) (decide (d.k < 0)) up).2]) ∧ Below w.heap.size w w' := by
  have e0 := zero_k'
  have hc := c.hk
  have hT := T_num
  have t : ∀ {l : Obs}, obsB l = true → obsB ((true, true) :: (true, true) :: l) = true := fun h => obsB_yes rfl (obsB_yes rfl h)
  have t2 : obsB [(true, true), (true, true)] = true := obsB_yes rfl (obsB_yes rfl obsB_nil)
  cases up
  · cases h : decide (d.k < (toF 0).k)
    · have hd : decide (d.k < 0) = false := by rw [e0] at h; exact h
      have e1 : sideF c (decide (0 < d.k)) (decide (d.k < 0)) false = (c, 0) := by rw [hd]; rfl
      rw [e1]
      refine (calls_of_val goodH oracleS1 80 (sdD4 c d (pz c)) (ObsOk.of_B (obsB_yes rfl (obsB_yes rfl (obsB_yes h t2)))) rfl rfl w).mono ?_
      rintro e w' ⟨rfl, hb⟩
      exact ⟨ret_tw (by rw [bif_pz rfl]) rfl, hb⟩
    · have hd : decide (d.k < 0) = true := by rw [e0] at h; exact h
      cases h2 : decide (-(T : Int) < c.k - 1)
      · have e1 : sideF c (decide (0 < d.k)) (decide (d.k < 0)) false = (F.zero, 10) := by
          rw [hd]; show dnN c = _; unfold dnN; rw [if_neg (of_decide_eq_false h2)]
        rw [e1]
        exact calls_of_val goodH oracleS1 80 (sdD3 c d) (ObsOk.of_B (t (obsB_yes h2 (obsB_yes h t2)))) rfl rfl w
      · have e1 : sideF c (decide (0 < d.k)) (decide (d.k < 0)) false = (F.of (c.k - 1), 0) := by
          rw [hd]; show dnN c = _; unfold dnN; rw [if_pos (of_decide_eq_true h2)]
        rw [e1]
        refine (calls_of_val goodH oracleS1 80 (sdD1 c d (pz (F.of (c.k - 1)))) (ObsOk.of_B (obsB_yes rfl (obsB_yes rfl (obsB_yes h2 (obsB_yes h t2))))) rfl rfl w).mono ?_
        rintro e w' ⟨rfl, hb⟩
        exact ⟨ret_tw (by rw [bif_pz rfl]) rfl, hb⟩
  · cases h : decide ((toF 0).k < d.k)
    · have hd : decide (0 < d.k) = false := by rw [e0] at h; exact h
      have e1 : sideF c (decide (0 < d.k)) (decide (d.k < 0)) true = (c, 0) := by rw [hd]; rfl
      rw [e1]
      refine (calls_of_val goodH oracleS1 80 (sdU4 c d (pz c)) (ObsOk.of_B (obsB_yes rfl (obsB_yes rfl (obsB_yes h t2)))) rfl rfl w).mono ?_
      rintro e w' ⟨rfl, hb⟩
      exact ⟨ret_tw (by rw [bif_pz rfl]) rfl, hb⟩
    · have hd : decide (0 < d.k) = true := by rw [e0] at h; exact h
      cases h2 : decide (c.k + 1 < (T : Int))
      · have e1 : sideF c (decide (0 < d.k)) (decide (d.k < 0)) true = (F.zero, 10) := by
          rw [hd]; show upN c = _; unfold upN; rw [if_neg (of_decide_eq_false h2)]
        rw [e1]
        exact calls_of_val goodH oracleS1 80 (sdU3 c d) (ObsOk.of_B (t (obsB_yes h2 (obsB_yes h t2)))) rfl rfl w
      · have e1 : sideF c (decide (0 < d.k)) (decide (d.k < 0)) true = (F.of (c.k + 1), 0) := by
          rw [hd]; show upN c = _; unfold upN; rw [if_pos (of_decide_eq_true h2)]
        rw [e1]
        cases h3 : decide (c.k = -1)
        · refine calls_of_val goodH oracleS1 80 (sdU1 c d) (ObsOk.of_B (obsB_yes ?_ (obsB_yes rfl (obsB_yes h3 (obsB_yes h2 (obsB_yes h t2)))))) rfl rfl w
          have := of_decide_eq_false h3; have := of_decide_eq_true h2
          refine decide_eq_false ?_
          rw [e0, F.of_k (by omega)]; omega
        · have hk := of_decide_eq_true h3
          have ez : F.of (c.k + 1) = F.zero := F.ext' (by rw [hk, F.of_k (by omega)]; rfl)
          rw [ez]
          exact calls_of_val goodH oracleS1 80 (sdU2 c d) (ObsOk.of_B (t (obsB_yes rfl (obsB_yes h3 (obsB_yes h2 (obsB_yes h t2)))))) rfl rfl w
theorem side_W (v : Nat) (d : F) (up : Bool) (hb : badB v = true) (w : World) : Calls Tryz.prog 188 #[.float .f64 v, .float .f64 d.b, .bool up] w fun e w' => e = .returned (.tuple #[.float .f64 (sideW v (decide (0 < d.k)) (decide (d.k < 0)) up).1.b, .int .i64 (sideW v (decide (0 < d.k)) (decide (d.k < 0)) up).2]) ∧ Below w.heap.size w w' := by
  have e0 := zero_k'
  have f2 : obsB [(false, false), (false, false)] = true := obsB_yes rfl (obsB_yes rfl obsB_nil)
  rcases badB_or hb with rfl | rfl | rfl
  · cases up
    · exact calls_of_val goodH oracleS0 80 (sdI0 d) (ObsOk.of_B (obsB_yes rfl obsB_nil)) rfl rfl w
    · exact calls_of_val goodH oracleS0 80 (sdI1 d) (ObsOk.of_B (obsB_yes rfl obsB_nil)) rfl rfl w
  · cases up
    · exact calls_of_val goodH oracleS0 80 (sdJ0 d) (ObsOk.of_B (obsB_yes rfl (obsB_yes rfl obsB_nil))) rfl rfl w
    · exact calls_of_val goodH oracleS0 80 (sdJ1 d) (ObsOk.of_B (obsB_yes rfl (obsB_yes rfl obsB_nil))) rfl rfl w
  · cases up
    · cases h : decide (d.k < (toF 0).k)
      · have hd : decide (d.k < 0) = false := by rw [e0] at h; exact h
        have e1 : sideW NEG0 (decide (0 < d.k)) (decide (d.k < 0)) false = (F.zero, 0) := by rw [hd]; rfl
        rw [e1]
        exact calls_of_val goodH oracleS0 80 (sdZ4 d) (ObsOk.of_B (obsB_yes rfl (obsB_yes rfl (obsB_yes h f2)))) rfl rfl w
      · have hd : decide (d.k < 0) = true := by rw [e0] at h; exact h
        have e1 : sideW NEG0 (decide (0 < d.k)) (decide (d.k < 0)) false = (F.of (-1), 0) := by rw [hd]; generalize decide (0 < d.k) = p; cases p <;> decide +kernel
        rw [e1]
        refine (calls_of_val goodH oracleS0 80 (sdZ3 d) (ObsOk.of_B (obsB_yes rfl (obsB_yes rfl (obsB_yes rfl (obsB_yes rfl (obsB_yes rfl (obsB_yes rfl (obsB_yes h f2)))))))) rfl rfl w).mono ?_
        rintro e w' ⟨rfl, hb⟩
        exact ⟨ret_tw (by decide +kernel) rfl, hb⟩
    · cases h : decide ((toF 0).k < d.k)
      · have hd : decide (0 < d.k) = false := by rw [e0] at h; exact h
        have e1 : sideW NEG0 (decide (0 < d.k)) (decide (d.k < 0)) true = (F.zero, 0) := by rw [hd]; rfl
        rw [e1]
        exact calls_of_val goodH oracleS0 80 (sdZ2 d) (ObsOk.of_B (obsB_yes rfl (obsB_yes rfl (obsB_yes h f2)))) rfl rfl w
      · have hd : decide (0 < d.k) = true := by rw [e0] at h; exact h
        have e1 : sideW NEG0 (decide (0 < d.k)) (decide (d.k < 0)) true = (F.of 1, 0) := by rw [hd]; generalize decide (d.k < 0) = p; cases p <;> decide +kernel
        rw [e1]
        refine (calls_of_val goodH oracleS0 80 (sdZ1 d) (ObsOk.of_B (obsB_yes rfl (obsB_yes rfl (obsB_yes rfl (obsB_yes rfl (obsB_yes rfl (obsB_yes rfl (obsB_yes h f2)))))))) rfl rfl w).mono ?_
        rintro e w' ⟨rfl, hb⟩
        exact ⟨ret_tw (by decide +kernel) rfl, hb⟩
theorem sideK : PlainOk Tryz.prog 188 kSide := by
  intro args ds x ds' ob h ho
  unfold kSide at h
  split at h
  · rename_i c d up
    simp only [Option.some.injEq, Prod.mk.injEq] at h; obtain ⟨rfl, _, _⟩ := h
    exact ⟨[.float .f64 c.b, .float .f64 d.b, .bool up], _, rfl, rfl, side_F c d up⟩
  · rename_i v d up
    simp only [Option.some.injEq, Prod.mk.injEq] at h; obtain ⟨rfl, _, rfl⟩ := h
    exact ⟨[.float .f64 v, .float .f64 d.b, .bool up], _, rfl, rfl, side_W v d up (obs1 ho)⟩
  · cases h
theorem sdN1 (c : F) (z : Bool) : valR ((run Tryz.prog EH OS1 80).1 188 [.fl c, .f NEG0, .b true] [] (some [false, z])) = some (.tup [.fl (bif z then F.zero else c), .i .i64 0], some [], [(pz c, z), (true, true), (false, false), (true, true), (true, true)]) := by cases z <;> kernel_rfl
theorem sdN0 (c : F) (z : Bool) : valR ((run Tryz.prog EH OS1 80).1 188 [.fl c, .f NEG0, .b false] [] (some [false, z])) = some (.tup [.fl (bif z then F.zero else c), .i .i64 0], some [], [(pz c, z), (true, true), (false, false), (true, true), (true, true)]) := by cases z <;> kernel_rfl
theorem dF_right {d : Nat} (h : rightB d = true) : dF d = toF d := by unfold dF; rw [h]; rfl
theorem dF_NEG0 : dF NEG0 = F.zero := rfl
theorem side_N (c : F) (up : Bool) (w : World) : Calls Tryz.prog 188 #[.float .f64 c.b, .float .f64 NEG0, .bool up] w fun e w' => e = .returned (.tuple #[.float .f64 c.b, .int .i64 0]) ∧ Below w.heap.size w w' := by
  have t2 : obsB [(true, true), (false, false), (true, true), (true, true)] = true := by decide
  cases up
  · refine (calls_of_val goodH oracleS1 80 (sdN0 c (pz c)) (ObsOk.of_B (obsB_yes rfl t2)) rfl rfl w).mono ?_
    rintro e w' ⟨rfl, hb⟩
    exact ⟨ret_tw (by rw [bif_pz rfl]) rfl, hb⟩
  · refine (calls_of_val goodH oracleS1 80 (sdN1 c (pz c)) (ObsOk.of_B (obsB_yes rfl t2)) rfl rfl w).mono ?_
    rintro e w' ⟨rfl, hb⟩
    exact ⟨ret_tw (by rw [bif_pz rfl]) rfl, hb⟩
theorem sideKD : PlainOk Tryz.prog 188 kSideD := by
  intro args ds x ds' ob h ho
  unfold kSideD at h
  split at h
  · rename_i c d up
    simp only [Option.some.injEq, Prod.mk.injEq] at h; obtain ⟨rfl, _, rfl⟩ := h
    refine ⟨[.float .f64 c.b, .float .f64 d, .bool up], _, rfl, rfl, ?_⟩
    rcases Bool.or_eq_true _ _ ▸ obs1 ho with h | h
    · have := side_F c (toF d) up
      rw [toF_b h] at this
      rw [dF_right h]; exact this
    · have := Nat.eq_of_beq_eq_true h
      subst this
      have e : sideF c (decide (0 < (dF NEG0).k)) (decide ((dF NEG0).k < 0)) up = (c, 0) := by cases up <;> rfl
      rw [e]
      exact side_N c up
  · rename_i v d up
    simp only [Option.some.injEq, Prod.mk.injEq] at h; obtain ⟨rfl, _, rfl⟩ := h
    have hv := ho _ (List.mem_cons_self ..)
    have hd : rightB d = true := ho _ (List.mem_cons_of_mem _ (List.mem_cons_self ..))
    refine ⟨[.float .f64 v, .float .f64 d, .bool up], _, rfl, rfl, ?_⟩
    rw [dF_right hd]
    rcases badC_or hv with h | rfl
    · have := fun w => side_W v (toF d) up h w
      rw [toF_b hd] at this
      exact this
    · have := side_F F.zero (toF d) up
      rw [toF_b hd] at this
      exact this
  · cases h
theorem Ldexp_Z (n : Int) (w : World) : Calls Tryz.prog 105 #[.float .f64 0, .int .i64 n] w fun e w' => e = .returned (.float .f64 0) ∧ w = w' := by
  have H := Lib.hid (fun w => ldexp_zero n w)
  go_enter Tryz.func105, Tryz.ntmps105
  go_wp2_with (go_at_call 176; refine (H.out _).mono ?_; rintro e w' ⟨rfl, rfl⟩)
  go_ret
  exact ⟨ret_float rfl, rfl⟩
theorem lhK : PlainOk Tryz.prog 105 (kLh ldW) := by
  intro args ds x ds' ob h ho
  unfold kLh at h
  split at h
  · rename_i x n
    split at h
    · rename_i k hk
      split at h
      · rename_i ds1 ob1 h1
        simp only [Option.some.injEq, Prod.mk.injEq] at h; obtain ⟨rfl, _, rfl⟩ := h
        have hb := of_decide_eq_true (ho _ (List.mem_cons_self ..))
        have hr := (takeB_ok h1 (fun p hp => ho p (List.mem_cons_of_mem _ hp))).symm
        have hr : rightB (ldW x k) = true := (Bool.and_eq_true _ _ ▸ hr).1
        refine ⟨[.float .f64 x.b, .int .i64 k], .float .f64 (ldW x k), plains_cons rfl (plains_cons (intS_plain hk) plains_nil), ?_, fun w => (Ldexp_w x k hb.1 hb.2 w).mono ?_⟩
        · show some (Value.float .f64 (toF (ldW x k)).b) = _
          rw [toF_b hr]
        · rintro e w' ⟨rfl, rfl⟩; exact ⟨rfl, Below.refl _ _⟩
      · rename_i ds1 ob1 h1
        simp only [Option.some.injEq, Prod.mk.injEq] at h; obtain ⟨rfl, _, rfl⟩ := h
        have hb := of_decide_eq_true (ho _ (List.mem_cons_self ..))
        refine ⟨[.float .f64 x.b, .int .i64 k], .float .f64 (ldW x k), plains_cons rfl (plains_cons (intS_plain hk) plains_nil), rfl, fun w => (Ldexp_w x k hb.1 hb.2 w).mono ?_⟩
        rintro e w' ⟨rfl, rfl⟩; exact ⟨rfl, Below.refl _ _⟩
      · cases h
    · cases h
  · rename_i v n
    split at h
    · rename_i k hk
      simp only [Option.some.injEq, Prod.mk.injEq] at h; obtain ⟨rfl, _, rfl⟩ := h
      refine ⟨[.float .f64 v, .int .i64 k], .float .f64 v, plains_cons rfl (plains_cons (intS_plain hk) plains_nil), rfl, ?_⟩
      rcases Bool.or_eq_true _ _ ▸ obs1 ho with h | h
      · have := Nat.eq_of_beq_eq_true h
        subst this
        intro w
        refine (Ldexp_NEG0 k w).mono ?_
        rintro e w' ⟨rfl, rfl⟩; exact ⟨rfl, Below.refl _ _⟩
      · have := Nat.eq_of_beq_eq_true h
        subst this
        intro w
        refine (Ldexp_Z k w).mono ?_
        rintro e w' ⟨rfl, rfl⟩; exact ⟨rfl, Below.refl _ _⟩
    · cases h
  · cases h
theorem infKC : PlainOk Tryz.prog 166 kInfC := by
  intro args ds x ds' ob h ho
  unfold kInfC at h
  split at h
  · rename_i x n
    simp only [Option.some.injEq, Prod.mk.injEq] at h; obtain ⟨rfl, _, rfl⟩ := h
    have hn := of_decide_eq_true (obs1 ho)
    refine ⟨[.float .f64 x.b, .int .i64 n], .bool false, rfl, rfl, fun w => ?_⟩
    rcases hn with rfl | rfl | rfl
    · refine (isInf_F x w).mono ?_
      rintro e w' ⟨rfl, rfl⟩; exact ⟨rfl, Below.refl _ _⟩
    · refine (infP_F x w).mono ?_
      rintro e w' ⟨rfl, rfl⟩; exact ⟨rfl, Below.refl _ _⟩
    · refine (infN_F x w).mono ?_
      rintro e w' ⟨rfl, rfl⟩; exact ⟨rfl, Below.refl _ _⟩
  · rename_i v
    split at h
    · rename_i d ds1 ob1 h1
      simp only [Option.some.injEq, Prod.mk.injEq] at h; obtain ⟨rfl, _, rfl⟩ := h
      have hb := ho _ (List.mem_cons_self ..)
      have hd := takeB_ok h1 (fun p hp => ho p (List.mem_cons_of_mem _ hp))
      have hi : v < 18446744073709551616 ∧ (Ieee.double.order (v % 9223372036854775808) 9218868437227405311 == some .gt) = (Nat.beq v INF || Nat.beq v NINF) := by
        rcases badC_or hb with h | rfl
        · exact ⟨by rcases badB_or h with rfl | rfl | rfl <;> decide, inf_word h⟩
        · exact ⟨by decide, by decide +kernel⟩
      refine ⟨[.float .f64 v, .int .i64 0], .bool d, rfl, rfl, fun w => (isInf_w v w hi.1).mono ?_⟩
      rintro e w' ⟨rfl, rfl⟩
      exact ⟨by rw [hi.2, hd], Below.refl _ _⟩
    · cases h
  · cases h
def kFar : List SV → Dec → Option (SV × Dec × Obs)
  | [.fl a, .fl b, .fl s, .b up], ds => some (.tup [.fl (dAdd up a b).1, .si .i64 (dAdd up a b).2], ds, [(decide (farC a b s), true)])
  | _, _ => none
def OFa (L : F → Int → Nat) : OracleF := lookO [(188, plainO kSide), (136, plainO kAbsG), (105, plainO (kLg L))]
theorem oracleFa : OracleOk Tryz.prog (OFa ldW) := .cons sideK.of (.cons absK.of (.cons lgK.of (.nil _)))
def one_ : F := toF 4607182418800017408
def sdR (c d : F) (up : Bool) : SV := .tup [.fl (sideF c (decide (0 < d.k)) (decide (d.k < 0)) up).1, .si .i64 (sideF c (decide (0 < d.k)) (decide (d.k < 0)) up).2]
def f60 (L : F → Int → Nat) (x : F) (d : Bool) : Obs := [(true, true), (rightB (L x (-60)), d)]
theorem faRun1 (L : F → Int → Nat) (a b s : F) (up : Bool) : valR ((run Tryz.prog EH (OFa L) 80).1 196 [.fl a, .fl b, .fl s, .b up] [] (some [true, true, true, true])) = some (sdR s a up, some [], (decide ((toF (L a (-60))).abs.k < one_.k), true) :: (f60 L s true ++ (f60 L b true ++ f60 L a true))) := by kernel_rfl
theorem faRun2 (L : F → Int → Nat) (a b s : F) (up : Bool) : valR ((run Tryz.prog EH (OFa L) 80).1 196 [.fl a, .fl b, .fl s, .b up] [] (some [true, true, true, false, true])) = some (sdR s b up, some [], (decide ((toF (L b (-60))).abs.k < one_.k), true) :: (decide ((toF (L a (-60))).abs.k < one_.k), false) :: (f60 L s true ++ (f60 L b true ++ f60 L a true))) := by kernel_rfl
theorem faRun3 (L : F → Int → Nat) (a b s : F) (up : Bool) : valR ((run Tryz.prog EH (OFa L) 80).1 196 [.fl a, .fl b, .fl s, .b up] [] (some [false, true, true, true])) = some (sdR s a up, some [], (true, true) :: (Nat.beq (L a (-60)) NEG0, true) :: (f60 L s true ++ (f60 L b true ++ f60 L a false))) := by kernel_rfl
theorem faRun4 (L : F → Int → Nat) (a b s : F) (up : Bool) : valR ((run Tryz.prog EH (OFa L) 80).1 196 [.fl a, .fl b, .fl s, .b up] [] (some [true, false, true, false, true])) = some (sdR s b up, some [], (true, true) :: (Nat.beq (L b (-60)) NEG0, true) :: (decide ((toF (L a (-60))).abs.k < one_.k), false) :: (f60 L s true ++ (f60 L b false ++ f60 L a true))) := by kernel_rfl
theorem faRun4' (L : F → Int → Nat) (a b s : F) (up : Bool) : valR ((run Tryz.prog EH (OFa L) 80).1 196 [.fl a, .fl b, .fl s, .b up] [] (some [false, false, true, true])) = some (sdR s a up, some [], (true, true) :: (Nat.beq (L a (-60)) NEG0, true) :: (f60 L s true ++ (f60 L b false ++ f60 L a false))) := by kernel_rfl
theorem faRun4'' (L : F → Int → Nat) (a b s : F) (up : Bool) : valR ((run Tryz.prog EH (OFa L) 80).1 196 [.fl a, .fl b, .fl s, .b up] [] (some [true, false, true, true])) = some (sdR s a up, some [], (decide ((toF (L a (-60))).abs.k < one_.k), true) :: (f60 L s true ++ (f60 L b false ++ f60 L a true))) := by kernel_rfl
def tw (a b s : F) : F := aN (sN a (sN s (sN s a))) (sN b (sN s a))
def ob2w (o : Option Nat) (r : Obs) : Obs := (o.isSome, true) :: (rightB (o.getD 0), true) :: r
def otw (a b s : F) (r : Obs) : Obs := ob2w (Ieee.double.add (sN a (sN s (sN s a))).b (sN b (sN s a)).b) (ob2w (Ieee.double.sub b.b (sN s a).b) (ob2w (Ieee.double.sub a.b (sN s (sN s a)).b) (ob2w (Ieee.double.sub s.b (sN s a).b) (ob2w (Ieee.double.sub s.b a.b) r))))
theorem faRun5 (L : F → Int → Nat) (a b s : F) (up : Bool) : valR ((run Tryz.prog EH (OFa L) 80).1 196 [.fl a, .fl b, .fl s, .b up] [] (some [true, true, true, false, false])) = some (sdR s (tw (toF (L a (-60))) (toF (L b (-60))) (toF (L s (-60)))) up, some [], otw (toF (L a (-60))) (toF (L b (-60))) (toF (L s (-60))) [(decide ((toF (L b (-60))).abs.k < one_.k), false), (decide ((toF (L a (-60))).abs.k < one_.k), false), (true, true), (rightB (L s (-60)), true), (true, true), (rightB (L b (-60)), true), (true, true), (rightB (L a (-60)), true)]) := by kernel_rfl
end Go.Proofs.YtmhhopfffeijnaaGreat
namespace Go.Proofs.YtmhhopfffeijnaaGreat
set_option linter.all false
open Go.RowKit Bu Rx

theorem nst_of {A : Int} {s : F} (h : wrd A 1 = s.b) : Nst s.z A := by
  have hr := right_F s
  rcases sum_out A with ⟨D, e, n⟩ | ⟨e, _⟩ | ⟨e, _⟩
  · rw [e] at h
    rw [F.b_inj h] at n
    exact n
  · rw [← h, e] at hr
    exact absurd hr (by decide)
  · rw [← h, e] at hr
    exact absurd hr (by decide)
theorem tw_ok {a b s c a' p q d : F} (h : Two a b s c a' p q d) : tw a b s = d := by
  have e1 := (sN_eq h.e1).1
  have e2 := (sN_eq h.e2).1
  have e3 := (sN_eq h.e3).1
  have e4 := (sN_eq h.e4).1
  have e5 := (aN_eq h.e5).1
  unfold tw
  rw [e1, e2, e3, e4, e5]
theorem ob2w_ok {o : Option Nat} {D : F} {r : Obs} (h : o = some D.b) (k : obsB r = true) : obsB (ob2w o r) = true := by
  rw [h]
  exact obsB_yes rfl (obsB_yes (right_F D) k)
theorem otw_ok {a b s c a' p q d : F} (h : Two a b s c a' p q d) {r : Obs} (k : obsB r = true) : obsB (otw a b s r) = true := by
  have e1 := (sN_eq h.e1).1
  have e2 := (sN_eq h.e2).1
  have e3 := (sN_eq h.e3).1
  have e4 := (sN_eq h.e4).1
  unfold otw
  rw [e1, e2, e3, e4]
  refine ob2w_ok (by rw [add_wrd, h.e5]) (ob2w_ok (by rw [sub_wrd, h.e4]) (ob2w_ok (by rw [sub_wrd, h.e3]) (ob2w_ok (by rw [sub_wrd, h.e2]) (ob2w_ok (by rw [sub_wrd, h.e1]) k))))
theorem sdR_plain (c d : F) (up : Bool) {p : F × Int} (h : sideF c (decide (0 < d.k)) (decide (d.k < 0)) up = p) : plain (sdR c d up) = some (.tuple #[.float .f64 p.1.b, .int .i64 p.2]) := by
  unfold sdR; rw [h]; rfl
theorem far_fact : F.max.z < G0.z * (Q60 : Int) ∧ K60.z ≤ G0.z := by decide +kernel
theorem q60_pos : 0 < Q60 := Q60_eq ▸ Nat.two_pow_pos 60
structure L60 (L : F → Int → Nat) (a : F) : Prop where
  small : (a.z.natAbs : Int) < K60.z → (∃ D : F, L a (-60) = D.b ∧ D.abs.k < one_.k) ∨ L a (-60) = NEG0
  big : K60.z ≤ (a.z.natAbs : Int) → ∃ x : F, L a (-60) = x.b ∧ a.z = x.z * (Q60 : Int) ∧ ¬ x.abs.k < one_.k
theorem farK_of {L : F → Int → Nat} (hO : OracleOk Tryz.prog (OFa L)) (h60 : ∀ a, L60 L a) : PlainOk Tryz.prog 196 kFar := by
  intro args ds x ds' ob h ho
  unfold kFar at h
  split at h
  · rename_i a b s up
    simp only [Option.some.injEq, Prod.mk.injEq] at h; obtain ⟨rfl, _, rfl⟩ := h
    obtain ⟨hw, hb⟩ := of_decide_eq_true (obs1 ho)
    have hs := nst_of hw
    have hs' : Nst s.z (b.z + a.z) := by rwa [Int.add_comm]
    obtain ⟨ff1, ff2⟩ := far_fact
    obtain ⟨t, t1, t2, t3⟩ := (h60 s).big (by omega)
    have big : G0.z ≤ s.z ∨ s.z ≤ -G0.z := by omega
    refine ⟨[.float .f64 a.b, .float .f64 b.b, .float .f64 s.b, .bool up], _, rfl, rfl, fun w => ?_⟩
    have rt : ∀ {x y : F}, L x (-60) = y.b → rightB (L x (-60)) = true ∧ toF (L x (-60)) = y := fun {x y} h => by rw [h]; exact ⟨right_F y, toF_F y⟩
    obtain ⟨s1, s2⟩ := rt t1
    have no : ∀ {x : F}, L x (-60) = NEG0 → rightB (L x (-60)) = false ∧ Nat.beq (L x (-60)) NEG0 = true := fun {x} h => by rw [h]; exact ⟨by decide, rfl⟩
    rcases (show (a.z.natAbs : Int) < K60.z ∨ K60.z ≤ (a.z.natAbs : Int) by omega) with ca | ca
    · obtain ⟨k1, k2⟩ := far_small hs big (by omega) (by omega)
      have e := add_side hs k1 k2 up
      have bw : (∃ y : F, L b (-60) = y.b) ∨ L b (-60) = NEG0 := by
        rcases (show (b.z.natAbs : Int) < K60.z ∨ K60.z ≤ (b.z.natAbs : Int) by omega) with cb | cb
        · rcases (h60 b).small cb with ⟨D, e, _⟩ | e
          · exact .inl ⟨D, e⟩
          · exact .inr e
        · obtain ⟨y, e, _⟩ := (h60 b).big cb
          exact .inl ⟨y, e⟩
      rcases (h60 a).small ca with ⟨D, d1, d2⟩ | d1
      · obtain ⟨a1, a2⟩ := rt d1
        have h1 : decide ((toF (L a (-60))).abs.k < one_.k) = true := by rw [a2]; exact decide_eq_true d2
        rcases bw with ⟨y, hy⟩ | hy
        · obtain ⟨b1, b2⟩ := rt hy
          exact calls_of_val goodH hO 80 (faRun1 L a b s up) (ObsOk.of_B (obsB_yes h1 (obsB_yes rfl (obsB_yes s1 (obsB_yes rfl (obsB_yes b1 (obsB_yes rfl (obsB_yes a1 obsB_nil)))))))) rfl (sdR_plain s a up e) w
        · obtain ⟨b1, b2⟩ := no hy
          exact calls_of_val goodH hO 80 (faRun4'' L a b s up) (ObsOk.of_B (obsB_yes h1 (obsB_yes rfl (obsB_yes s1 (obsB_yes rfl (obsB_yes b1 (obsB_yes rfl (obsB_yes a1 obsB_nil)))))))) rfl (sdR_plain s a up e) w
      · obtain ⟨a1, a2⟩ := no d1
        rcases bw with ⟨y, hy⟩ | hy
        · obtain ⟨b1, b2⟩ := rt hy
          exact calls_of_val goodH hO 80 (faRun3 L a b s up) (ObsOk.of_B (obsB_yes rfl (obsB_yes a2 (obsB_yes rfl (obsB_yes s1 (obsB_yes rfl (obsB_yes b1 (obsB_yes rfl (obsB_yes a1 obsB_nil))))))))) rfl (sdR_plain s a up e) w
        · obtain ⟨b1, b2⟩ := no hy
          exact calls_of_val goodH hO 80 (faRun4' L a b s up) (ObsOk.of_B (obsB_yes rfl (obsB_yes a2 (obsB_yes rfl (obsB_yes s1 (obsB_yes rfl (obsB_yes b1 (obsB_yes rfl (obsB_yes a1 obsB_nil))))))))) rfl (sdR_plain s a up e) w
    · obtain ⟨x, x1, x2, x3⟩ := (h60 a).big ca
      obtain ⟨a1, a2⟩ := rt x1
      have h1 : decide ((toF (L a (-60))).abs.k < one_.k) = false := by rw [a2]; exact decide_eq_false x3
      rcases (show (b.z.natAbs : Int) < K60.z ∨ K60.z ≤ (b.z.natAbs : Int) by omega) with cb | cb
      · obtain ⟨k1, k2⟩ := far_small hs' big (by omega) (by omega)
        rw [Int.add_comm] at k1 k2
        have e := add_side hs k1 k2 up
        rcases (h60 b).small cb with ⟨D, d1, d2⟩ | d1
        · obtain ⟨b1, b2⟩ := rt d1
          have h2 : decide ((toF (L b (-60))).abs.k < one_.k) = true := by rw [b2]; exact decide_eq_true d2
          exact calls_of_val goodH hO 80 (faRun2 L a b s up) (ObsOk.of_B (obsB_yes h2 (obsB_yes h1 (obsB_yes rfl (obsB_yes s1 (obsB_yes rfl (obsB_yes b1 (obsB_yes rfl (obsB_yes a1 obsB_nil))))))))) rfl (sdR_plain s b up e) w
        · obtain ⟨b1, b2⟩ := no d1
          exact calls_of_val goodH hO 80 (faRun4 L a b s up) (ObsOk.of_B (obsB_yes rfl (obsB_yes b2 (obsB_yes h1 (obsB_yes rfl (obsB_yes s1 (obsB_yes rfl (obsB_yes b1 (obsB_yes rfl (obsB_yes a1 obsB_nil)))))))))) rfl (sdR_plain s b up e) w
      · obtain ⟨y, y1, y2, y3⟩ := (h60 b).big cb
        obtain ⟨b1, b2⟩ := rt y1
        have h2 : decide ((toF (L b (-60))).abs.k < one_.k) = false := by rw [b2]; exact decide_eq_false y3
        have ht := far_scale hs x2 y2 t2
        have hq := q60_pos
        have tl : t.z < G0.z ∧ -t.z < G0.z := by
          have m1 : s.z ≤ F.max.z := F.z_le.2 (by have := s.hk; show s.k ≤ (T : Int) - 1; omega)
          have m2 : -s.z ≤ F.max.z := by rw [← F.neg_z]; exact F.z_le.2 (by have := s.neg.hk; show s.neg.k ≤ (T : Int) - 1; omega)
          constructor
          · apply (lt_scale hq).1; omega
          · apply (lt_scale hq).1; rw [Int.neg_mul]; omega
        obtain ⟨c, a', p, q, d, hT⟩ := two_near ht tl.1 tl.2
        have k1 : 0 < d.z ↔ s.z < a.z + b.z := by
          rw [hT.pos, t2, x2, y2, ← Int.add_mul, lt_scale hq]
        have k2 : d.z < 0 ↔ a.z + b.z < s.z := by
          rw [hT.neg, t2, x2, y2, ← Int.add_mul, lt_scale hq]
        have e := add_side hs k1 k2 up
        have hr := faRun5 L a b s up
        rw [a2, b2, s2, tw_ok hT] at hr
        refine calls_of_val goodH hO 80 hr (ObsOk.of_B (otw_ok hT ?_)) rfl (sdR_plain s d up e) w
        rw [a2] at h1
        rw [b2] at h2
        exact obsB_yes h2 (obsB_yes h1 (obsB_yes rfl (obsB_yes s1 (obsB_yes rfl (obsB_yes b1 (obsB_yes rfl (obsB_yes a1 obsB_nil)))))))
  · cases h
theorem farK : PlainOk Tryz.prog 196 kFar := farK_of oracleFa fun a => ⟨small_60, big_60⟩
def OAd (L : F → Int → Nat) : OracleF := lookO [(97, plainO oRight), (166, plainO kInf), (188, plainO kSide), (136, plainO kAbsG), (105, plainO (kLg L)), (196, plainO kFar)]
theorem oracleAd : OracleOk Tryz.prog (OAd ldW) := .cons rRightP.of (.cons infK.of (.cons sideK.of (.cons absK.of (.cons lgK.of (.cons farK.of (.nil _))))))
def a1k (L : F → Int → Nat) (a b : F) (d : Bool) : Obs := [(decide ((toF (L one_ 1000)).k ≤ (aN a b).abs.k), d), (true, true), (rightB (L one_ 1000), true), (true, true), ((Ieee.double.add a.b b.b).isSome, true), (rightB ((Ieee.double.add a.b b.b).getD 0), true)]
theorem adRun1 (L : F → Int → Nat) (a b : F) (up : Bool) : valR ((run Tryz.prog EH (OAd L) 80).1 135 [.fl a, .fl b, .b up] [] (some [true, false])) = some (sdR (aN a b) (tw a b (aN a b)) up, some [], otw a b (aN a b) (a1k L a b false)) := by kernel_rfl
theorem adRun2 (L : F → Int → Nat) (a b : F) (up : Bool) : valR ((run Tryz.prog EH (OAd L) 80).1 135 [.fl a, .fl b, .b up] [] (some [true, true])) = some (.tup [.fl (dAdd up a b).1, .si .i64 (dAdd up a b).2], some [], (decide (farC a b (aN a b)), true) :: a1k L a b true) := by kernel_rfl
theorem adRun3 (L : F → Int → Nat) (a b : Nat) (up : Bool) : valR ((run Tryz.prog EH (OAd L) 80).1 135 [.f a, .f b, .b up] [] (some [true, true, true])) = some (.tup [.fl (sideW ((Ieee.double.add a b).getD 0) (decide (0 < (toF 0).k)) (decide ((toF 0).k < 0)) up).1, .si .i64 (sideW ((Ieee.double.add a b).getD 0) (decide (0 < (toF 0).k)) (decide ((toF 0).k < 0)) up).2], some [],
    [(badB ((Ieee.double.add a b).getD 0), true), (badB ((Ieee.double.add a b).getD 0), true), (Nat.beq ((Ieee.double.add a b).getD 0) INF || Nat.beq ((Ieee.double.add a b).getD 0) NINF, true), ((Ieee.double.add a b).isSome, true), (rightB b, true), (rightB a, true)]) := by kernel_rfl
theorem G0_ld : ldW one_ 1000 = G0.b := by decide +kernel
theorem radd_w (a b : F) (up : Bool) (w : World) : Calls Tryz.prog 135 #[.float .f64 a.b, .float .f64 b.b, .bool up] w fun e w' => e = .returned (.tuple #[.float .f64 (dAdd up a b).1.b, .int .i64 (dAdd up a b).2]) ∧ Below w.heap.size w w' := by
  have g1 : rightB (ldW one_ 1000) = true := by rw [G0_ld]; exact right_F _
  have g2 : toF (ldW one_ 1000) = G0 := by rw [G0_ld]; exact toF_F _
  have hadd := add_wrd a b
  have hB : (0 : Nat) < 1 := by decide
  rcases sum_out (a.z + b.z) with ⟨s, e, hs⟩ | ⟨e, h⟩ | ⟨e, h⟩
  · obtain ⟨es, os⟩ := aN_eq e
    have o1 : (Ieee.double.add a.b b.b).isSome = true := by rw [hadd]; rfl
    have o2 : rightB ((Ieee.double.add a.b b.b).getD 0) = true := by rw [hadd, e]; exact right_F s
    rcases (show (s.z.natAbs : Int) < G0.z ∨ G0.z ≤ (s.z.natAbs : Int) by omega) with c | c
    · obtain ⟨c', a', p, q, d, hT⟩ := two_near hs (by omega) (by omega)
      have hr := adRun1 ldW a b up
      unfold a1k at hr
      rw [es, g2, tw_ok hT] at hr
      refine calls_of_val goodH oracleAd 80 hr (ObsOk.of_B (otw_ok hT ?_)) rfl (sdR_plain s d up (add_side hs hT.pos hT.neg up)) w
      exact obsB_yes (decide_eq_false (by rw [abs_le]; omega)) (obsB_yes rfl (obsB_yes g1 (obsB_yes rfl (obsB_yes o1 (obsB_yes o2 obsB_nil)))))
    · have hr := adRun2 ldW a b up
      unfold a1k at hr
      rw [es, g2] at hr
      refine calls_of_val goodH oracleAd 80 hr (ObsOk.of_B ?_) rfl rfl w
      exact obsB_yes (decide_eq_true ⟨e, c⟩) (obsB_yes (decide_eq_true (by rw [abs_le]; omega)) (obsB_yes rfl (obsB_yes g1 (obsB_yes rfl (obsB_yes o1 (obsB_yes o2 obsB_nil))))))
  · have hr := adRun3 ldW a.b b.b up
    rw [hadd, e] at hr
    have ee : dAdd up a b = bif up then (F.zero, 10) else (F.max, 0) := over_ok hB (fun c => by have := h c; omega) up
    rw [ee]
    exact calls_of_val goodH oracleAd 80 hr (ObsOk.of_B (obsB_yes rfl (obsB_yes rfl (obsB_yes rfl (obsB_yes rfl (obsB_yes (right_F b) (obsB_yes (right_F a) obsB_nil))))))) rfl (by cases up <;> rfl) w
  · have hr := adRun3 ldW a.b b.b up
    rw [hadd, e] at hr
    have ee : dAdd up a b = bif up then (F.min, 0) else (F.zero, 10) := under_ok hB (fun c => by have := h c; omega) up
    rw [ee]
    exact calls_of_val goodH oracleAd 80 hr (ObsOk.of_B (obsB_yes rfl (obsB_yes rfl (obsB_yes rfl (obsB_yes rfl (obsB_yes (right_F b) (obsB_yes (right_F a) obsB_nil))))))) rfl (by cases up <;> rfl) w
theorem raddG : PlainOk Tryz.prog 135 (kTwo dAdd) := two_ok radd_w
def OSb (f : Bool → F → F → F × Int) : OracleF := lookO [(97, plainO oRight), (184, plainO kPlain), (135, plainO (kTwo f))]
theorem oracleSb : OracleOk Tryz.prog (OSb dAdd) := .cons rRightP.of (.cons plainK.of (.cons raddG.of (.nil _)))
theorem sbRun1 (f : Bool → F → F → F × Int) (a b : F) (up : Bool) : valR ((run Tryz.prog EH (OSb f) 80).1 124 [.fl a, .fl b, .b up] [] (some [])) = some (.tup [.fl (f up a b.neg).1, .si .i64 (f up a b.neg).2], some [], [(!decide (b.k = 0), true)]) := by kernel_rfl
theorem sbRun2 (f : Bool → F → F → F × Int) (a : F) (up : Bool) : valR ((run Tryz.prog EH (OSb f) 80).1 124 [.fl a, .f 0, .b up] [] (some [true, false])) = some (.tup [.fl (f up a F.zero).1, .si .i64 (f up a F.zero).2], some [], [(true, true), (false, false), (true, true)]) := by kernel_rfl
theorem dsub_add (up : Bool) (a b : F) : dAdd up a b.neg = dSub up a b := by
  unfold dAdd dSub
  rw [F.neg_z, Int.sub_eq_add_neg]
theorem rsub_w (a b : F) (up : Bool) (w : World) : Calls Tryz.prog 124 #[.float .f64 a.b, .float .f64 b.b, .bool up] w fun e w' => e = .returned (.tuple #[.float .f64 (dSub up a b).1.b, .int .i64 (dSub up a b).2]) ∧ Below w.heap.size w w' := by
  rw [← dsub_add]
  by_cases h : b.k = 0
  · have e : b = F.zero := F.ext' h
    subst e
    have en : F.zero.neg = F.zero := F.ext' (by decide)
    rw [en]
    exact calls_of_val goodH oracleSb 80 (sbRun2 dAdd a up) (ObsOk.of_B (obsB_yes rfl (obsB_yes rfl (obsB_yes rfl obsB_nil)))) rfl rfl w
  · exact calls_of_val goodH oracleSb 80 (sbRun1 dAdd a b up) (ObsOk.of_B (obsB_yes (by rw [decide_eq_false h]; rfl) obsB_nil)) rfl rfl w
theorem rsubG : PlainOk Tryz.prog 124 (kTwo dSub) := two_ok rsub_w
end Go.Proofs.YtmhhopfffeijnaaGreat
