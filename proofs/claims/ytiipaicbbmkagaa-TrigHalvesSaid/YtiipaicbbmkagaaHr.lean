/- Between and meet, by the reckoner. TrigParts, by the reckoner. -/
import Derived.Test.YtiipaicbbmkagaaHj
import Derived.Test.YtiipaicbbmkagaaIw
namespace Go.Proofs.Ytiipaicbbmkagaa
set_option linter.all false
open Go.RowKit Bu Rx

structure Kbt where
  s : Bool → F → F → F × Int
  m : Bool → F → F → F × Int
  a : Bool → F → F → F × Int
  h : I → F → Bool
def OBW (N : Kbt) : OracleF := lookO [(43, plainO (kTwo N.s)), (45, plainO (kTwo N.a)), (44, plainO (kTwo N.m)), (21, plainO (kBIF N.h))]
def KbtR : Kbt := ⟨dSub, dMul, dAdd, hasB⟩
theorem oracleBW : OracleOk Try.prog (OBW KbtR) := .cons (two_ok sub_F_w).of (.cons (two_ok add_F_w).of (.cons (two_ok mul_F_w).of (.cons ihasK.of (.nil _))))
def btT (n : Int) : F := toF ((Ieee.double.div (toF (FloatKind.f64.nearest n)).b c16.b).getD 0)
def btW (N : Kbt) (a b t : F) : F × Int := N.m false (N.s false b a).1 t
def btV (N : Kbt) (a b t : F) : F × Int := N.a false a (btW N a b t).1
def btE (N : Kbt) (a b t : F) : Int := IntKind.i64.wrap (IntKind.i64.wrap ((N.s false b a).2 + (btW N a b t).2) + (btV N a b t).2)
def btO (n : Int) : Obs := [((Ieee.double.div (toF (FloatKind.f64.nearest n)).b c16.b).isSome, true), (rightB ((Ieee.double.div (toF (FloatKind.f64.nearest n)).b c16.b).getD 0), true), (rightB (FloatKind.f64.nearest n), true), (decide (n = 0), false)]
theorem btRun0 (N : Kbt) (a b : F) (n : Int) : valR ((run Try.prog EG (OBW N) 80).1 13 [.agg [.fl a, .fl b], .si .u16 n] [] (some [true])) = some (.fl a, some [], [(decide (n = 0), true)]) := by kernel_rfl
theorem btRun1 (N : Kbt) (a b : F) (n : Int) : valR ((run Try.prog EG (OBW N) 80).1 13 [.agg [.fl a, .fl b], .si .u16 n] [] (some [false, true])) = some (.fl b, some [], (decide (n = 65535), true) :: btO n) := by kernel_rfl
theorem btRun2 (N : Kbt) (a b : F) (n : Int) : valR ((run Try.prog EG (OBW N) 80).1 13 [.agg [.fl a, .fl b], .si .u16 n] [] (some [false, false, true])) = some (.fl b, some [], (!(btE N a b (btT n) == 0), true) :: (decide (n = 65535), false) :: btO n) := by kernel_rfl
theorem btRun3 (N : Kbt) (a b : F) (n : Int) : valR ((run Try.prog EG (OBW N) 80).1 13 [.agg [.fl a, .fl b], .si .u16 n] [] (some [false, false, false, true])) = some (.fl (btV N a b (btT n)).1, some [], (N.h ⟨a, b⟩ (btV N a b (btT n)).1, true) :: (!(btE N a b (btT n) == 0), false) :: (decide (n = 65535), false) :: btO n) := by kernel_rfl
theorem btRun4 (N : Kbt) (a b : F) (n : Int) : valR ((run Try.prog EG (OBW N) 80).1 13 [.agg [.fl a, .fl b], .si .u16 n] [] (some [false, false, false, false])) = some (.fl b, some [], (N.h ⟨a, b⟩ (btV N a b (btT n)).1, false) :: (!(btE N a b (btT n) == 0), false) :: (decide (n = 65535), false) :: btO n) := by kernel_rfl
theorem betG : PlainOk Try.prog 13 (kBt btF w16) := by
  intro args ds x ds' ob h ho
  unfold kBt at h
  split at h
  · rename_i a b u
    split at h
    · rename_i n hk
      simp only [Option.some.injEq, Prod.mk.injEq] at h; obtain ⟨rfl, _, rfl⟩ := h
      have hn := of_decide_eq_true (ho _ (List.mem_cons_self ..))
      obtain ⟨g1, g2⟩ := part_ok' hn.1 hn.2
      refine ⟨[.agg #[.float .f64 a.b, .float .f64 b.b], .int .u16 n], .float .f64 (btF a b n).b, plains_cons rfl (plains_cons (intS_plain hk) plains_nil), rfl, fun w => ?_⟩
      have hr : rightB (FloatKind.f64.nearest n) = true := by
        obtain ⟨m, rfl⟩ := Int.eq_ofNat_of_zero_le hn.1
        rw [near_int (by omega)]; exact right_F _
      have eT : btT n = partF n := by unfold btT; rw [toF_b hr]; rfl
      have hO : decide (n = 0) = false → obsB (btO n) = true := by
        intro k
        unfold btO
        rw [toF_b hr]
        have e : rightB ((Ieee.double.div (FloatKind.f64.nearest n) c16.b).getD 0) = true := by
          have e : (Ieee.double.div (FloatKind.f64.nearest n) c16.b).getD 0 = (partF n).b := g2.symm
          rw [e]; exact right_F _
        exact obsB_yes g1 (obsB_yes e (obsB_yes hr (obsB_yes k obsB_nil)))
      have e1 : btE KbtR a b (btT n) = btErr a b (partF n) := by rw [eT]; rfl
      have e2 : (btV KbtR a b (btT n)).1 = btY a b (partF n) := by rw [eT]; rfl
      cases k0 : decide (n = 0)
      · cases k1 : decide (n = 65535)
        · cases k2 : (!(btErr a b (partF n) == 0))
          · cases k3 : hasB ⟨a, b⟩ (btY a b (partF n))
            · have r := btRun4 KbtR a b n
              rw [e1, e2] at r
              rw [show btF a b n = b from by unfold btF; rw [k0, k1, k2, k3]; rfl]
              exact calls_of_val goodG oracleBW 80 r (ObsOk.of_B (obsB_yes k3 (obsB_yes k2 (obsB_yes k1 (hO k0))))) rfl rfl w
            · have r := btRun3 KbtR a b n
              rw [e1, e2] at r
              rw [show btF a b n = btY a b (partF n) from by unfold btF; rw [k0, k1, k2, k3]; rfl]
              exact calls_of_val goodG oracleBW 80 r (ObsOk.of_B (obsB_yes k3 (obsB_yes k2 (obsB_yes k1 (hO k0))))) rfl rfl w
          · have r := btRun2 KbtR a b n
            rw [e1] at r
            rw [show btF a b n = b from by unfold btF; rw [k0, k1, k2]; rfl]
            exact calls_of_val goodG oracleBW 80 r (ObsOk.of_B (obsB_yes k2 (obsB_yes k1 (hO k0)))) rfl rfl w
        · rw [show btF a b n = b from by unfold btF; rw [k0, k1]; rfl]
          exact calls_of_val goodG oracleBW 80 (btRun1 KbtR a b n) (ObsOk.of_B (obsB_yes k1 (hO k0))) rfl rfl w
      · rw [show btF a b n = a from by unfold btF; rw [k0]; rfl]
        exact calls_of_val goodG oracleBW 80 (btRun0 KbtR a b n) (ObsOk.of_B (obsB_yes k0 obsB_nil)) rfl rfl w
    · cases h
  · cases h
theorem meetRun (a b c d : F) (h : Bool) : valR ((run Try.prog EG OIM 60).1 16 [.agg [.fl a, .fl b], .agg [.fl c, .fl d]] [] (some [h])) = some (.b (!h), some [], [(decide ((mnF b d).k < (mxF a c).k), h)]) := by cases h <;> kernel_rfl
theorem meetG : PlainOk Try.prog 16 (kBII meB) := by
  intro args ds x ds' ob h ho
  unfold kBII at h
  split at h
  · rename_i a b c d
    simp only [Option.map_eq_some_iff, Prod.mk.injEq] at h
    obtain ⟨⟨r, e, o⟩, h1, rfl, rfl, rfl⟩ := h
    have hd : r = meB ⟨a, b⟩ ⟨c, d⟩ := takeB_ok h1 ho
    subst hd
    refine ⟨[.agg #[.float .f64 a.b, .float .f64 b.b], .agg #[.float .f64 c.b, .float .f64 d.b]], .bool (meB ⟨a, b⟩ ⟨c, d⟩), rfl, rfl, fun w => ?_⟩
    exact calls_of_val goodG oracleIM 60 (meetRun a b c d _) (ObsOk.of_B (obsB_yes rfl obsB_nil)) rfl rfl w
  · cases h
end Go.Proofs.Ytiipaicbbmkagaa
namespace Go.Proofs.Ytiipaicbbmkagaa
set_option linter.all false
open Go.RowKit Bu Rx

def OTP (N : Kp) : OracleF := lookO [(14, plainO (kSC N.ib N.si N.co)), (11, plainO (kBI N.ib)), (12, plainO (oConst (.b true))), (16, plainO (kBII N.me)), (13, plainO (kBt N.bt N.u)), (18, kC (aI N.neg)), (17, plainO (kLd N.ld N.lo))]
theorem oracleTP : OracleOk Try.prog (OTP KpR) := .cons scK.of (.cons fineK.of (.cons awakeG.of (.cons meetG.of (.cons betG.of (.cons negC (.cons ldexpK.of (.nil _)))))))
def tpD0 : List Bool := [true, true, true, true, true, true, false, false, false, false]
def tpDs (c : Nat) (r : Bool) : List Bool := tpD0 ++ (match c with | 0 => [false] | 1 => [true, false] | _ => [true, true, true, true, true]) ++ (bif r then [true, true, true, true, true] else match c with | 0 => [false] | 1 => [false] | _ => [false, true])
theorem tpRun0f (N : Kp) (a b : F) (n : Int) : valR ((run Try.prog EG (OTP N) 80).1 3 [.agg [.fl a, .fl b], .si .u16 n] [] (some (tpDs 0 false))) = some (.b true, some [], tpO N a b n 0 false) := by kernel_rfl
theorem tpRun0t (N : Kp) (a b : F) (n : Int) : valR ((run Try.prog EG (OTP N) 80).1 3 [.agg [.fl a, .fl b], .si .u16 n] [] (some (tpDs 0 true))) = some (.b true, some [], tpO N a b n 0 true) := by kernel_rfl
theorem tpRun0 (N : Kp) (a b : F) (n : Int) (r : Bool) : valR ((run Try.prog EG (OTP N) 80).1 3 [.agg [.fl a, .fl b], .si .u16 n] [] (some (tpDs 0 r))) = some (.b true, some [], tpO N a b n 0 r) := by
  cases r
  · exact tpRun0f N a b n
  · exact tpRun0t N a b n
theorem tpRun1f (N : Kp) (a b : F) (n : Int) : valR ((run Try.prog EG (OTP N) 80).1 3 [.agg [.fl a, .fl b], .si .u16 n] [] (some (tpDs 1 false))) = some (.b true, some [], tpO N a b n 1 false) := by kernel_rfl
theorem tpRun1t (N : Kp) (a b : F) (n : Int) : valR ((run Try.prog EG (OTP N) 80).1 3 [.agg [.fl a, .fl b], .si .u16 n] [] (some (tpDs 1 true))) = some (.b true, some [], tpO N a b n 1 true) := by kernel_rfl
theorem tpRun1 (N : Kp) (a b : F) (n : Int) (r : Bool) : valR ((run Try.prog EG (OTP N) 80).1 3 [.agg [.fl a, .fl b], .si .u16 n] [] (some (tpDs 1 r))) = some (.b true, some [], tpO N a b n 1 r) := by
  cases r
  · exact tpRun1f N a b n
  · exact tpRun1t N a b n
theorem tpRun2f (N : Kp) (a b : F) (n : Int) : valR ((run Try.prog EG (OTP N) 80).1 3 [.agg [.fl a, .fl b], .si .u16 n] [] (some (tpDs 2 false))) = some (.b true, some [], tpO N a b n 2 false) := by kernel_rfl
theorem tpRun2t (N : Kp) (a b : F) (n : Int) : valR ((run Try.prog EG (OTP N) 80).1 3 [.agg [.fl a, .fl b], .si .u16 n] [] (some (tpDs 2 true))) = some (.b true, some [], tpO N a b n 2 true) := by kernel_rfl
theorem tpRun2 (N : Kp) (a b : F) (n : Int) (r : Bool) : valR ((run Try.prog EG (OTP N) 80).1 3 [.agg [.fl a, .fl b], .si .u16 n] [] (some (tpDs 2 r))) = some (.b true, some [], tpO N a b n 2 r) := by
  cases r
  · exact tpRun2f N a b n
  · exact tpRun2t N a b n
theorem tpRun (N : Kp) (a b : F) (n : Int) (x : F) (r : Bool) : valR ((run Try.prog EG (OTP N) 80).1 3 [.agg [.fl a, .fl b], .si .u16 n] [] (some (tpDs (tpC x) r))) = some (.b true, some [], tpO N a b n (tpC x) r) := by
  unfold tpC
  cases decide (x.k < q2.k)
  · exact tpRun0 N a b n r
  · cases decide ((tE x).k = x.k)
    · exact tpRun1 N a b n r
    · exact tpRun2 N a b n r
theorem tpRunN (N : Kp) (a b : F) (n : Int) : valR ((run Try.prog EG (OTP N) 80).1 3 [.agg [.fl a, .fl b], .si .u16 n] [] (some [false])) = some (.b true, some [], [(N.ib ⟨a, b⟩, false)]) := by kernel_rfl
def OTQ : OracleF := lookO [(12, plainO (oConst (.b true))), (60, plainO oRight)]
theorem oracleTQ : OracleOk Try.prog OTQ := .cons awakeG.of (.cons rightG.of (.nil _))
theorem tpRunA (a b : Nat) (n : Int) : valR ((run Try.prog EG OTQ 80).1 3 [.agg [.f a, .f b], .si .u16 n] [] (some [false])) = some (.b true, some [], [(Nat.blt a 18446744073709551616, true), (rightB a, false)]) := by kernel_rfl
theorem tpRunB (a b : Nat) (n : Int) : valR ((run Try.prog EG OTQ 80).1 3 [.agg [.f a, .f b], .si .u16 n] [] (some [true, false])) = some (.b true, some [], [(Nat.blt b 18446744073709551616, true), (rightB b, false), (rightB a, true)]) := by kernel_rfl
theorem trigParts_row (a b : Nat) (n : Int) (ha : a < 18446744073709551616) (hb : b < 18446744073709551616) (hn : (Lit.int .u16 n).wf = true) (w : World) :
    Calls Try.prog 3 #[.agg #[.float .f64 a, .float .f64 b], .int .u16 n] w fun e w' => e = .returned (.bool true) ∧ Below w.heap.size w w' := by
  have la := Nat.blt_eq.mpr ha
  have lb := Nat.blt_eq.mpr hb
  cases h1 : rightB a
  · exact calls_of_val goodG oracleTQ 80 (tpRunA a b n) (ObsOk.of_B (obsB_yes la (obsB_yes h1 obsB_nil))) rfl rfl w
  · cases h2 : rightB b
    · exact calls_of_val goodG oracleTQ 80 (tpRunB a b n) (ObsOk.of_B (obsB_yes lb (obsB_yes h2 (obsB_yes h1 obsB_nil)))) rfl rfl w
    · obtain ⟨x, rfl⟩ := F_of_right h1
      obtain ⟨y, rfl⟩ := F_of_right h2
      cases h : inB x y
      · exact calls_of_val goodG oracleTP 80 (tpRunN KpR x y n) (ObsOk.of_B (obsB_yes h obsB_nil)) rfl rfl w
      · have hw : w16 n = true := by
          have hn' : 0 ≤ n ∧ n ≤ 65535 := by
            simpa [Lit.wf, IntKind.min, IntKind.max, IntKind.signed, IntKind.bits] using hn
          exact decide_eq_true hn'
        exact calls_of_val goodG oracleTP 80 (tpRun KpR x y n (btF x y n) (decide ((tH (btF x y n)).k = (btF x y n).k))) (ObsOk.of_B (tpO_ok h hw)) rfl rfl w
end Go.Proofs.Ytiipaicbbmkagaa
