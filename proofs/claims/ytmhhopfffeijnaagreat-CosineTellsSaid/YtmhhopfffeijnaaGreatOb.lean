/- burnishref12, by the reckoner: Draw, Mid. -/
import Derived.Test.YtmhhopfffeijnaaGreatOa
import Derived.Test.YtmhhopfffeijnaaGreatNv
import Derived.Test.YtmhhopfffeijnaaGreatHm
namespace Bu
set_option linter.all false
open Rx Go

def eO (N : Kq) (a : Int) : I × Int := N.num (dR N a).2 one64
def eD (N : Kq) (a : Int) : I × Int := N.sub (eO N a).2 (eO N a).1 (N.uo a)
def eN (N : Kq) (a : Int) : I × Int := N.num (eD N a).2 (toF 0)
def eM (N : Kq) (a : Int) : I × Int := N.max (eN N a).2 (eD N a).1 (eN N a).1
def eZ (N : Kq) (a : Int) : I × Int := N.sqrt (eM N a).2 (eM N a).1
def eX (N : Kq) (a b : Int) : I × Int := N.mul (eZ N a).2 (dR N a).1 (N.co (N.uo b))
def eY (N : Kq) (a b : Int) : I × Int := N.mul (eX N a b).2 (dR N a).1 (N.si (N.uo b))
def eV (N : Kq) (a b : Int) : I × I × I := (keptI (eX N a b).1 mone64 one64, keptI (eY N a b).1 mone64 one64, keptI (eZ N a).1 (toF 0) one64)
theorem e_eq {N : Kq} {a b : Int} (h1 : (dR N a).2 = 0) (h2 : (dX N a b).2 = 0) (h3 : (dY N a b).2 = 0) (h4 : (dZ N a b).2 = 0) : eV N a b = dV N a b ∧ (eY N a b).2 = 0 := by
  have o : eO N a = dO N a b := by unfold eO dO; rw [h1, h3]
  have d : eD N a = dD N a b := by unfold eD dD; rw [o]
  have n : eN N a = dN N a b := by unfold eN dN; rw [d]
  have m : eM N a = dM N a b := by unfold eM dM; rw [n, d]
  have z : eZ N a = dZ N a b := by unfold eZ dZ; rw [m]
  have x : eX N a b = dX N a b := by unfold eX dX; rw [z, h4, h1]
  have y : eY N a b = dY N a b := by unfold eY dY; rw [x]
  refine ⟨?_, by rw [y]; exact h3⟩
  unfold eV dV
  rw [x, y, z]
end Bu
namespace Go.Proofs.YtmhhopfffeijnaaGreat
set_option linter.all false
open Go.RowKit Bu Rx

def ORD (N : Kq) : OracleF := lookO [(7, plainO (kSC N.ib N.si N.co)), (43, plainO (kOf N.uo N.u)), (49, kC (aII N.mul)), (46, kC (aII N.sub)), (45, kC (aII N.max)), (44, kC (aI N.sqrt)), (47, kC (aF N.num)), (48, plainO (kKept endF))]
theorem oracleRD : OracleOk Tryz.prog (ORD (KqR atR)) := .cons rscK.of (.cons rofK.of (.cons rmulC (.cons rsubC (.cons rmax_I (.cons rsqtC (.cons rnumC (.cons keptK.of (.nil _))))))))
def kl (l h : F) : Bool × Bool := (decide (l.k ≤ h.k), true)
theorem rdrawRun (N : Kq) (a b : Int) : valR ((run Tryz.prog EH (ORD N) 60).1 11 [.si .u64 a, .si .u64 b] [] (some [true, false])) = some (drawS (eV N a b), some [], [(!((eY N a b).2 == 0), false), kl (toF 0) one64, kl mone64 one64, kl mone64 one64, (N.u a, true), (N.ib (N.uo b), true), (N.u b, true)]) := by kernel_rfl
theorem kl_ok : (kl (toF 0) one64).1 = true ∧ (kl mone64 one64).1 = true := by decide +kernel
theorem rdrawG : PlainOk Tryz.prog 11 (kDraw (dV (KqR atR)) fun n => decide (0 ≤ n ∧ n ≤ 18446744073709551615)) := by
  intro args ds x ds' ob h ho
  unfold kDraw at h
  split at h
  · rename_i y1 y2
    split at h
    · rename_i a b ha hb
      simp only [Option.some.injEq, Prod.mk.injEq] at h; obtain ⟨rfl, _, rfl⟩ := h
      have h1 := ho _ (List.mem_cons_self ..)
      have h2 := ho (_, true) (List.mem_cons_of_mem _ (List.mem_cons_self ..))
      have g1 := of_decide_eq_true h1
      have g2 := of_decide_eq_true h2
      obtain ⟨D, hD⟩ := draw_ok (a := a) (b := b) g1.1 g1.2
      obtain ⟨ev, ez⟩ := e_eq (N := KqR atR) (a := a) (b := b) (by rw [hD.er]) (by rw [hD.ex]) (by rw [hD.ey]) (by rw [hD.ez])
      refine ⟨[.int .u64 a, .int .u64 b], _, plains_cons (intS_plain ha) (plains_cons (intS_plain hb) plains_nil), rfl, fun w => ?_⟩
      rw [← ev]
      refine calls_of_val goodH oracleRD 60 (rdrawRun (KqR atR) a b) (ObsOk.of_B (obsB_yes ?_ (obsB_yes kl_ok.1 (obsB_yes kl_ok.2 (obsB_yes kl_ok.2 (obsB_yes h1 (obsB_yes (unI_in b g2.1 g2.2) (obsB_yes h2 obsB_nil)))))))) rfl rfl w
      rw [ez]; rfl
    · cases h
  · cases h
/-! Mid -/
def ORM (r : I → Bool) (fs fm fa : Bool → F → F → F × Int) : OracleF := lookO [(28, plainO (kBI r)), (124, plainO (kTwo fs)), (134, plainO (kTwo fm)), (135, plainO (kTwo fa))]
theorem rrtK2 : PlainOk Tryz.prog 28 (kBI rt) := rrtG
theorem oracleRM : OracleOk Tryz.prog (ORM rt dSub dMul dAdd) := .cons rrtK2.of (.cons rsubG.of (.cons rmulG.of (.cons raddG.of (.nil _))))
theorem rmiRun0 (r : I → Bool) (fs fm fa : Bool → F → F → F × Int) (a b c d e f : F) : valR ((run Tryz.prog EH (ORM r fs fm fa) 80).1 13 [.agg [.fl a, .fl b, .fl c, .fl d, .fl e, .fl f]] [] (some [false])) = some (noMid, some [], [(r ⟨a, b⟩, false)]) := by kernel_rfl
theorem rmiRun1 (r : I → Bool) (fs fm fa : Bool → F → F → F × Int) (a b c d e f : F) : valR ((run Tryz.prog EH (ORM r fs fm fa) 80).1 13 [.agg [.fl a, .fl b, .fl c, .fl d, .fl e, .fl f]] [] (some [true, false])) = some (noMid, some [], [(r ⟨c, d⟩, false), (r ⟨a, b⟩, true)]) := by kernel_rfl
theorem rmiRun2 (r : I → Bool) (fs fm fa : Bool → F → F → F × Int) (a b c d e f : F) : valR ((run Tryz.prog EH (ORM r fs fm fa) 80).1 13 [.agg [.fl a, .fl b, .fl c, .fl d, .fl e, .fl f]] [] (some [true, true, false])) = some (noMid, some [], [(r ⟨e, f⟩, false), (r ⟨c, d⟩, true), (r ⟨a, b⟩, true)]) := by kernel_rfl
def miO (fs fm fa : Bool → F → F → F × Int) (a b : F) (o : Obs) : Obs := (!((m3 fs fm fa a b).2 == 0), false) :: (!((m2 fs fm a b).2 == 0), false) :: (!((m1 fs a b).2 == 0), false) :: o
theorem rmiRun3 (r : I → Bool) (fs fm fa : Bool → F → F → F × Int) (a b c d e f : F) : valR ((run Tryz.prog EH (ORM r fs fm fa) 80).1 13 [.agg [.fl a, .fl b, .fl c, .fl d, .fl e, .fl f]] [] (some [true, true, true, false, false, false, false, false, false, false, false, false])) =
    some (.tup [.agg [.fl (m3 fs fm fa a b).1, .fl (m3 fs fm fa c d).1, .fl (m3 fs fm fa e f).1], .i .i64 0], some [],
      miO fs fm fa e f (miO fs fm fa c d (miO fs fm fa a b [(r ⟨e, f⟩, true), (r ⟨c, d⟩, true), (r ⟨a, b⟩, true)]))) := by kernel_rfl
theorem miO_ok {a b : F} {o : Obs} (h : rt ⟨a, b⟩ = true) (ho : obsB o = true) : obsB (miO dSub dMul dAdd a b o) = true := by
  obtain ⟨a1, a2, a3, _⟩ := mid_no h
  exact obsB_yes (by rw [a3]; rfl) (obsB_yes (by rw [a2]; rfl) (obsB_yes (by rw [a1]; rfl) ho))
theorem rmidG : PlainOk Tryz.prog 13 (kMid rt3 midM) := by
  intro args ds x ds' ob h ho
  unfold kMid at h
  split at h
  · rename_i a b c d e f
    simp only [Option.map_eq_some_iff, Prod.mk.injEq] at h
    obtain ⟨⟨r, ee, o⟩, h1, rfl, rfl, rfl⟩ := h
    have hd : r = rt3 a b c d e f := takeB_ok h1 ho
    refine ⟨[.agg #[.float .f64 a.b, .float .f64 b.b, .float .f64 c.b, .float .f64 d.b, .float .f64 e.b, .float .f64 f.b]], ?_⟩
    unfold rt3 at hd
    cases g1 : rt ⟨a, b⟩
    · rw [g1, Bool.false_and] at hd; subst hd
      exact ⟨_, rfl, rfl, fun w => calls_of_val goodH oracleRM 80 (rmiRun0 rt dSub dMul dAdd a b c d e f) (ObsOk.of_B (obsB_yes g1 obsB_nil)) rfl rfl w⟩
    · cases g2 : rt ⟨c, d⟩
      · rw [g1, g2, Bool.false_and, Bool.and_false] at hd; subst hd
        exact ⟨_, rfl, rfl, fun w => calls_of_val goodH oracleRM 80 (rmiRun1 rt dSub dMul dAdd a b c d e f) (ObsOk.of_B (obsB_yes g2 (obsB_yes g1 obsB_nil))) rfl rfl w⟩
      · cases g3 : rt ⟨e, f⟩
        · rw [g1, g2, g3, Bool.true_and, Bool.true_and] at hd; subst hd
          exact ⟨_, rfl, rfl, fun w => calls_of_val goodH oracleRM 80 (rmiRun2 rt dSub dMul dAdd a b c d e f) (ObsOk.of_B (obsB_yes g3 (obsB_yes g2 (obsB_yes g1 obsB_nil)))) rfl rfl w⟩
        · rw [g1, g2, g3, Bool.true_and, Bool.true_and] at hd; subst hd
          refine ⟨_, rfl, rfl, fun w => calls_of_val goodH oracleRM 80 (rmiRun3 rt dSub dMul dAdd a b c d e f) (ObsOk.of_B ?_) rfl rfl w⟩
          exact miO_ok g3 (miO_ok g2 (miO_ok g1 (obsB_yes g3 (obsB_yes g2 (obsB_yes g1 obsB_nil)))))
  · cases h
end Go.Proofs.YtmhhopfffeijnaaGreat
