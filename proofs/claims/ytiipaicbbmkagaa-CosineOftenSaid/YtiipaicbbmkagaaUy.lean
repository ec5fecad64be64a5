/- Draws on the unit interval, walked: unit.Of. -/
import Derived.Test.YtiipaicbbmkagaaFx
import Derived.Test.YtiipaicbbmkagaaUp
import Derived.Test.YtiipaicbbmkagaaUv
namespace Go.Proofs.Ytiipaicbbmkagaa
set_option linter.all false
open Go.RowKit Bu

theorem unit_back (u : Nat) (hu : u < 18446744073709551616) : (IntKind.u64.wrap ((u : Int) / 2 ^ unitCut u * 2 ^ unitCut u) == (u : Int)) = decide (u % 2 ^ unitCut u = 0) := by
  have hd := Nat.div_add_mod u (2 ^ unitCut u)
  have e1 : (u : Int) / 2 ^ unitCut u * 2 ^ unitCut u = ((u / 2 ^ unitCut u * 2 ^ unitCut u : Nat) : Int) := by simp
  rw [e1, IntKind.wrap_u64]
  rw [Nat.mul_comm] at hd
  generalize u / 2 ^ unitCut u * 2 ^ unitCut u = a at *
  generalize u % 2 ^ unitCut u = r at *
  rw [Bool.eq_iff_iff]
  simp only [beq_iff_eq, decide_eq_true_eq]
  omega

@[go_sem] theorem run_store_float {P : Program} {w : World} {a : Addr} {m : Mode} (k : FloatKind) (b : Nat) : (store a (.float k b) m).run P w = stored P w a (.float k b) m := run_store P w a _ m rfl

def ivV (a : Iv) : Value := .agg #[.float .f64 a.lo.b, .float .f64 a.hi.b]

@[go_sem] theorem build_iv (a b : Nat) (w : World) : (Instr.build 24 #[(0, .float .f64 a), (1, .float .f64 b)]).run Try.prog w = .ok (.agg #[.float .f64 a, .float .f64 b]) w := run_build w 24 _ _ (by kernel_rfl)

theorem unit_pack (u : Nat) (hu : u < 18446744073709551616) : ∃ (c : Nat) (x0 y0 : F), unitCut u = c ∧ c ≤ 11 ∧ floatOfInt .f64 ((u : Int) / 2 ^ c) = x0.b ∧ Sc x0 y0 ((c : Int) - 64) ∧ unitLo u = y0 := by
  obtain ⟨g1, g2, g3⟩ := unit_m u (by omega)
  have h1 := Sc_dy (u / 2 ^ unitCut u) ((unitCut u : Int) - 64) (by have : P = 4503599627370496 := rfl; omega) (by omega) (by have := blen_m g2; omega)
  have h2 : floatOfInt .f64 ((u : Int) / 2 ^ unitCut u) = (F.dy (u / 2 ^ unitCut u) 0).b := by
    have h := floatOfInt_dy (u / 2 ^ unitCut u) (by have : P = 4503599627370496 := rfl; omega)
    rw [← h]; simp
  exact ⟨unitCut u, _, _, rfl, g1, h2, h1, rfl⟩
theorem unitOf_a {u : Nat} {y0 : F} (h : unitLo u = y0) (hx : u % 2 ^ unitCut u = 0) : unitOf u = ⟨y0, y0⟩ := by unfold unitOf; rw [if_pos hx, h]
theorem unitOf_b {u : Nat} {y0 : F} (h : unitLo u = y0) (hx : ¬ u % 2 ^ unitCut u = 0) : unitOf u = ⟨y0, (nextF y0 true).1⟩ := by unfold unitOf; rw [if_neg hx, h]

set_option maxRecDepth 100000 in
set_option maxHeartbeats 1000000 in
theorem unitOf_w (u : Nat) (hu : (u : Int) ≤ 18446744073709551615) (w : World) :
    Calls Try.prog 35 #[.int .u64 u] w fun e w' => e = .returned (ivV (unitOf u)) ∧ Below w.heap.size w w' := by
  obtain ⟨c, x0, y0, g0, g1, HC, hsc, hlo⟩ := unit_pack u (by omega)
  have HSc := Lib.hid hsc
  have hb := unit_back u (by omega)
  have ha := fun h => unitOf_a (u := u) hlo h
  have hbb' := fun h => unitOf_b (u := u) hlo h
  rw [g0] at hb ha hbb'
  have hC2 : max (wrap64 ((blen u : Int) - 53)) 0 = (c : Int) := by
    have hl : blen u ≤ 64 := blen_le (by omega)
    rw [IntWalk.wrap64_in _ (by omega), ← g0]
    unfold unitCut
    omega
  have H2 := Lib.hid hC2
  clear hsc hlo g0 hC2
  by_cases hx : u % 2 ^ c = 0
  · have T1 : (IntKind.u64.wrap ((u : Int) / 2 ^ c * 2 ^ c) == (u : Int)) = true := by rw [hb]; simpa using hx
    have HR := Lib.hid (ha hx)
    clear hx ha hbb' hb
    go_enter Try.func35, Try.ntmps35
    go_upto_region 2 with (go_at_call 72; refine (len64_w _ _ (by omega)).mono ?_; rintro e w' ⟨rfl, rfl⟩)
    rw [H2.out]
    go_wp2_with (first | (go_at_call 17; refine (Ldexp_exact _ _ _ _ HSc.out).mono ?_; rintro e w' ⟨rfl, rfl⟩))
    refine bodyPost_ret (v := ivV ⟨y0, y0⟩) (by simp [results, Try.results35, go_sem, ivV]) rfl ⟨?_, ?_⟩
    · rw [HR.out]
    · exact (Below.refl _ _).alloc (Nat.le_refl _) _
  · have T1 : (IntKind.u64.wrap ((u : Int) / 2 ^ c * 2 ^ c) == (u : Int)) = false := by rw [hb]; simpa using hx
    have HR := Lib.hid (hbb' hx)
    clear hx ha hbb' hb
    go_enter Try.func35, Try.ntmps35
    go_upto_region 2 with (go_at_call 72; refine (len64_w _ _ (by omega)).mono ?_; rintro e w' ⟨rfl, rfl⟩)
    rw [H2.out]
    go_wp2_with (first | (go_at_call 17; refine (Ldexp_exact _ _ _ _ HSc.out).mono ?_; rintro e w' ⟨rfl, rfl⟩) | (go_at_call 73; refine (next_F _ _ _).mono ?_; rintro e w1 ⟨rfl, hbb⟩; obtain ⟨hcc, hff⟩ := bcell hbb))
    have s5 : w1.cell? ⟨w.heap.size, 0, none⟩ = some (.float .f64 0) := by (rw [hcc _ _ (by simp)]; simp)
    have s6 : w1.cell? ⟨w.heap.size, 1, none⟩ = some (.float .f64 0) := by (rw [hcc _ _ (by simp)]; simp)
    refine bodyPost_ret (v := ivV ⟨y0, (nextF y0 true).1⟩) (by simp [results, Try.results35, go_sem, ivV, s5, s6]) rfl ⟨?_, ?_⟩
    · rw [HR.out]
    · exact ((((Below.refl _ _).alloc (Nat.le_refl _) _).trans (hbb.mono (by simp))).setCell (by simp) _).setCell (by simp) _
end Go.Proofs.Ytiipaicbbmkagaa
