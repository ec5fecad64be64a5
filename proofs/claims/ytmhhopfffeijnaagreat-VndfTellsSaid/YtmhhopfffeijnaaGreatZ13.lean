/- Draws on the unit interval, walked: unit.Of. Roots of intervals, and draws on the unit interval, by the reckoner. Package cosine by the reckoner: Draw, Mid. -/
import Derived.Test.YtmhhopfffeijnaaGreatZ02
import Derived.Test.YtmhhopfffeijnaaGreatZ07
import Derived.Test.YtmhhopfffeijnaaGreatZ09
import Derived.Test.YtmhhopfffeijnaaGreatZ10
import Derived.Test.YtmhhopfffeijnaaGreatZ12
namespace Go.Proofs.YtmhhopfffeijnaaGreat
set_option linter.all false
open Go.RowKit Bu

theorem unit_back (u : Nat) (hu : u < 18446744073709551616) : (IntKind.u64.wrap ((u : Int) / 2 ^ unitCut u * 2 ^ unitCut u) == (u : Int)) = decide (u % 2 ^ unitCut u = 0) := by
  have hd := Nat.div_add_mod u (2 ^ unitCut u)
  have e1 : (u : Int) / 2 ^ unitCut u * 2 ^ unitCut u = ((u / 2 ^ unitCut u * 2 ^ unitCut u : Nat) : Int) := by simp
  rw [e1, IntKind.wrap_u64]
  rw [Nat.mul_comm] at hd
  generalize u / 2 ^ unitCut u * 2 ^ unitCut u = a at *
  generalize u % 2 ^ unitCut u = r at *
  rw [Bool.eq_iff_iff]
  simp only [beq_iff_eq, decide_eq_true_eq]
  omega

@[go_sem] theorem run_store_float {P : Program} {w : World} {a : Addr} {m : Mode} (k : FloatKind) (b : Nat) : (store a (.float k b) m).run P w = stored P w a (.float k b) m := run_store P w a _ m rfl

def ivV (a : Iv) : Value := .agg #[.float .f64 a.lo.b, .float .f64 a.hi.b]

theorem unit_pack (u : Nat) (hu : u < 18446744073709551616) : ∃ (c : Nat) (x0 y0 : F), unitCut u = c ∧ c ≤ 11 ∧ floatOfInt .f64 ((u : Int) / 2 ^ c) = x0.b ∧ Sc x0 y0 ((c : Int) - 64) ∧ unitLo u = y0 := by
  obtain ⟨g1, g2, g3⟩ := unit_m u (by omega)
  have h1 := Sc_dy (u / 2 ^ unitCut u) ((unitCut u : Int) - 64) (by have : P = 4503599627370496 := rfl; omega) (by omega) (by have := blen_m g2; omega)
  have h2 : floatOfInt .f64 ((u : Int) / 2 ^ unitCut u) = (F.dy (u / 2 ^ unitCut u) 0).b := by
    have h := floatOfInt_dy (u / 2 ^ unitCut u) (by have : P = 4503599627370496 := rfl; omega)
    rw [← h]; simp
  exact ⟨unitCut u, _, _, rfl, g1, h2, h1, rfl⟩
theorem unitOf_a {u : Nat} {y0 : F} (h : unitLo u = y0) (hx : u % 2 ^ unitCut u = 0) : unitOf u = ⟨y0, y0⟩ := by unfold unitOf; rw [if_pos hx, h]
theorem unitOf_b {u : Nat} {y0 : F} (h : unitLo u = y0) (hx : ¬ u % 2 ^ unitCut u = 0) : unitOf u = ⟨y0, (nextF y0 true).1⟩ := by unfold unitOf; rw [if_neg hx, h]

set_option maxRecDepth 100000 in
set_option maxHeartbeats 1000000 in
theorem unitOf_w (u : Nat) (hu : (u : Int) ≤ 18446744073709551615) (w : World) :
    Calls Tryz.prog 35 #[.int .u64 u] w fun e w' => e = .returned (ivV (unitOf u)) ∧ Below w.heap.size w w' := by
  obtain ⟨c, x0, y0, g0, g1, HC, hsc, hlo⟩ := unit_pack u (by omega)
  have HSc := Lib.hid hsc
  have hb := unit_back u (by omega)
  have ha := fun h => unitOf_a (u := u) hlo h
  have hbb' := fun h => unitOf_b (u := u) hlo h
  rw [g0] at hb ha hbb'
  have hC2 : max (wrap64 ((blen u : Int) - 53)) 0 = (c : Int) := by
    have hl : blen u ≤ 64 := blen_le (by omega)
    rw [IntWalk.wrap64_in _ (by omega), ← g0]
    unfold unitCut
    omega
  have H2 := Lib.hid hC2
  clear hsc hlo g0 hC2
  by_cases hx : u % 2 ^ c = 0
  · have T1 : (IntKind.u64.wrap ((u : Int) / 2 ^ c * 2 ^ c) == (u : Int)) = true := by rw [hb]; simpa using hx
    have HR := Lib.hid (ha hx)
    clear hx ha hbb' hb
    go_enter Tryz.func35, Tryz.ntmps35
    go_upto_region 2 with (go_at_call 104; refine (len64_w _ _ (by omega)).mono ?_; rintro e w' ⟨rfl, rfl⟩)
    rw [H2.out]
    go_wp2_with (first | (go_at_call 105; refine (Ldexp_exact _ _ _ _ HSc.out).mono ?_; rintro e w' ⟨rfl, rfl⟩))
    refine bodyPost_ret (v := ivV ⟨y0, y0⟩) (by simp [results, Tryz.results35, go_sem, ivV]) rfl ⟨?_, ?_⟩
    · rw [HR.out]
    · exact (Below.refl _ _).alloc (Nat.le_refl _) _
  · have T1 : (IntKind.u64.wrap ((u : Int) / 2 ^ c * 2 ^ c) == (u : Int)) = false := by rw [hb]; simpa using hx
    have HR := Lib.hid (hbb' hx)
    clear hx ha hbb' hb
    go_enter Tryz.func35, Tryz.ntmps35
    go_upto_region 2 with (go_at_call 104; refine (len64_w _ _ (by omega)).mono ?_; rintro e w' ⟨rfl, rfl⟩)
    rw [H2.out]
    go_wp2_with (first | (go_at_call 105; refine (Ldexp_exact _ _ _ _ HSc.out).mono ?_; rintro e w' ⟨rfl, rfl⟩) | (go_at_call 106; refine (next_F _ _ _).mono ?_; rintro e w1 ⟨rfl, hbb⟩; obtain ⟨hcc, hff⟩ := bcell hbb))
    have s5 : w1.cell? ⟨w.heap.size, 0, none⟩ = some (.float .f64 0) := by (rw [hcc _ _ (by simp)]; simp)
    have s6 : w1.cell? ⟨w.heap.size, 1, none⟩ = some (.float .f64 0) := by (rw [hcc _ _ (by simp)]; simp)
    refine bodyPost_ret (v := ivV ⟨y0, (nextF y0 true).1⟩) (by simp [results, Tryz.results35, go_sem, ivV, s5, s6]) rfl ⟨?_, ?_⟩
    · rw [HR.out]
    · exact ((((Below.refl _ _).alloc (Nat.le_refl _) _).trans (hbb.mono (by simp))).setCell (by simp) _).setCell (by simp) _
end Go.Proofs.YtmhhopfffeijnaaGreat
namespace Go.Proofs.YtmhhopfffeijnaaGreat
set_option linter.all false
open Go.RowKit Bu Rx

def kOne (f : Bool → F → F × Int) : List SV → Dec → Option (SV × Dec × Obs)
  | [.fl x, .b up], ds => some (.tup [.fl (f up x).1, .si .i64 (f up x).2], ds, [])
  | _, _ => none
theorem sqrtG : PlainOk Tryz.prog 108 (kOne qSqrt) := by
  intro args ds x ds' ob h1 ho
  unfold kOne at h1
  split at h1
  · rename_i x up
    simp only [Option.some.injEq, Prod.mk.injEq] at h1
    obtain ⟨rfl, _, _⟩ := h1
    exact ⟨[.float .f64 x.b, .bool up], _, rfl, rfl, fun w => sqrt_F_w x up w⟩
  · cases h1
def OISq (f : Bool → F → F × Int) : OracleF := lookO [(23, plainO oRt), (108, plainO (kOne f))]
theorem oracleISq : OracleOk Tryz.prog (OISq qSqrt) := .cons irightG.of (.cons sqrtG.of (.nil _))
theorem csqrt_p0 (f : Bool → F → F × Int) (t : Nat) (n : Int) (a b : F) : takeR 1 ((run Tryz.prog EG (OISq f) 60).1 36 (.p 0 0 :: [.agg [.fl a, .fl b]]) [⟨t, [.si .i64 n]⟩] (some [true])) = some (.agg [.fl F.zero, .fl F.zero], [⟨t, [.si .i64 n]⟩], some [], [((!(n == 0)), true)]) := by kernel_rfl
theorem csqrt_p1 (f : Bool → F → F × Int) (t : Nat) (n : Int) (a b : F) : takeR 1 ((run Tryz.prog EG (OISq f) 60).1 36 (.p 0 0 :: [.agg [.fl a, .fl b]]) [⟨t, [.si .i64 n]⟩] (some [false, false])) = some (.agg [.fl F.zero, .fl F.zero], [⟨t, [.i .i64 20]⟩], some [], [(rt ⟨a, b⟩, false), ((!(n == 0)), false)]) := by kernel_rfl
theorem csqrt_p2 (f : Bool → F → F × Int) (t : Nat) (n : Int) (a b : F) : takeR 1 ((run Tryz.prog EG (OISq f) 60).1 36 (.p 0 0 :: [.agg [.fl a, .fl b]]) [⟨t, [.si .i64 n]⟩] (some [false, true, true, true])) = some (.agg [.fl F.zero, .fl F.zero], [⟨t, [.si .i64 (f false a).2]⟩], some [], [((!((f false a).2 == 0)), true), ((!((f false a).2 == 0)), true), (rt ⟨a, b⟩, true), ((!(n == 0)), false)]) := by kernel_rfl
theorem csqrt_p3 (f : Bool → F → F × Int) (t : Nat) (n : Int) (a b : F) : takeR 1 ((run Tryz.prog EG (OISq f) 60).1 36 (.p 0 0 :: [.agg [.fl a, .fl b]]) [⟨t, [.si .i64 n]⟩] (some [false, true, false, true])) = some (.agg [.fl F.zero, .fl F.zero], [⟨t, [.si .i64 (f true b).2]⟩], some [], [((!((f true b).2 == 0)), true), ((!((f false a).2 == 0)), false), (rt ⟨a, b⟩, true), ((!(n == 0)), false)]) := by kernel_rfl
theorem csqrt_p4 (f : Bool → F → F × Int) (t : Nat) (n : Int) (a b : F) : takeR 1 ((run Tryz.prog EG (OISq f) 60).1 36 (.p 0 0 :: [.agg [.fl a, .fl b]]) [⟨t, [.si .i64 n]⟩] (some [false, true, false, false])) = some (.agg [.fl (f false a).1, .fl (f true b).1], [⟨t, [.si .i64 n]⟩], some [], [((!((f true b).2 == 0)), false), ((!((f false a).2 == 0)), false), (rt ⟨a, b⟩, true), ((!(n == 0)), false)]) := by kernel_rfl
theorem csqrt_I : OfOk Tryz.prog 36 (kC (aI (cSqrt qSqrt))) := by
  refine ofI fun a b t n => ?_
  cases h0 : (!(n == 0))
  · cases h1 : rt ⟨a, b⟩
    · exact calc_path goodG oracleISq (csqrt_p1 qSqrt t n a b) (obsB_yes h1 (obsB_yes h0 obsB_nil)) (by simp only [cSqrt, askI, I.zero, h0, h1, cond_true, cond_false]) rfl
    · cases h3 : (!((qSqrt false a).2 == 0))
      · cases h4 : (!((qSqrt true b).2 == 0))
        · exact calc_path goodG oracleISq (csqrt_p4 qSqrt t n a b) (obsB_yes h4 (obsB_yes h3 (obsB_yes h1 (obsB_yes h0 obsB_nil)))) (by simp only [cSqrt, askI, endsI, I.zero, h0, h1, h3, h4, cond_true, cond_false]) rfl
        · exact calc_path goodG oracleISq (csqrt_p3 qSqrt t n a b) (obsB_yes h4 (obsB_yes h3 (obsB_yes h1 (obsB_yes h0 obsB_nil)))) (by simp only [cSqrt, askI, endsI, I.zero, h0, h1, h3, h4, cond_true, cond_false]) rfl
      · exact calc_path goodG oracleISq (csqrt_p2 qSqrt t n a b) (obsB_yes h3 (obsB_yes h3 (obsB_yes h1 (obsB_yes h0 obsB_nil)))) (by simp only [cSqrt, askI, endsI, I.zero, h0, h1, h3, cond_true, cond_false]) rfl
  · exact calc_path goodG oracleISq (csqrt_p0 qSqrt t n a b) (obsB_yes h0 obsB_nil) (by simp only [cSqrt, askI, I.zero, h0, cond_true]) rfl
end Go.Proofs.YtmhhopfffeijnaaGreat
namespace Go.Proofs.YtmhhopfffeijnaaGreat
set_option linter.all false
open Go.RowKit Bu Rx

theorem unitG : PlainOk Tryz.prog 35 (kOf unI fun n => decide (0 ≤ n ∧ n ≤ 18446744073709551615)) := by
  intro args ds x ds' ob h ho
  unfold kOf at h
  split at h
  · rename_i u
    split at h
    · rename_i n hk
      simp only [Option.some.injEq, Prod.mk.injEq] at h; obtain ⟨rfl, _, rfl⟩ := h
      have hn := of_decide_eq_true (ho _ (List.mem_cons_self ..))
      obtain ⟨k, rfl⟩ := Int.eq_ofNat_of_zero_le hn.1
      refine ⟨[.int .u64 (k : Int)], _, plains_cons (intS_plain hk) plains_nil, rfl, fun w => (unitOf_w k (by omega) w).mono ?_⟩
      rintro e w' ⟨rfl, hb⟩
      exact ⟨by unfold unI; rw [Int.toNat_natCast]; rfl, hb⟩
    · cases h
  · cases h
end Go.Proofs.YtmhhopfffeijnaaGreat
