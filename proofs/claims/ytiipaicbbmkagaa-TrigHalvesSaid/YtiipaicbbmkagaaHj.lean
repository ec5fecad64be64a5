/- TrigExact, by the reckoner. TrigCircle, by the reckoner. -/
import Derived.Test.YtiipaicbbmkagaaHf
import Derived.Test.YtiipaicbbmkagaaHd
import Derived.Test.YtiipaicbbmkagaaIg
namespace Go.Proofs.Ytiipaicbbmkagaa
set_option linter.all false
open Go.RowKit Bu Rx

theorem obsB_rev {l : Obs} (h : obsB l = true) : obsB l.reverse = true := by unfold obsB at *; rw [List.all_reverse]; exact h
theorem constG {P : Program} {g : FuncId} {x : SV} {v : Value} (hx : plain x = some v) (h : ∀ w, Calls P g #[] w fun e w' => e = .returned v ∧ Below w.heap.size w w') : PlainOk P g (oConst x) := by
  intro args ds y ds' ob hk ho
  unfold oConst at hk
  split at hk
  · simp only [Option.some.injEq, Prod.mk.injEq] at hk
    obtain ⟨rfl, _, _⟩ := hk
    exact ⟨[], v, rfl, hx, h⟩
  · cases hk
def OAW (f : F → I × I) : OracleF := lookO [(14, plainO (oSC f)), (22, plainO oSame), (20, plainO (oExact f))]
theorem oracleAW : OracleOk Try.prog (OAW atR) := .cons scG.of (.cons sameG.of (.cons exactG.of (.nil _)))
theorem awakeRun (f : F → I × I) : valR ((run Try.prog EG (OAW f) 60).1 12 [] [] (some [true, true, false, true, true, true, true, true, true, true, true])) = some (.b true, some [], awakeOb f) := by kernel_rfl
theorem awakeG : PlainOk Try.prog 12 (oConst (.b true)) := constG rfl fun w => calls_of_val goodG oracleAW 60 (awakeRun atR) (ObsOk.of_B awake_ok) rfl rfl w

def OTE (N : Ns) : OracleF := lookO [(14, plainO (kSC N.ib N.si N.co)), (22, plainO (kBII N.sa)), (20, plainO (kB3 N.ex)), (11, plainO (kBI N.ib)), (12, plainO (oConst (.b true))), (21, plainO (kBIF N.ha))]
theorem scK : PlainOk Try.prog 14 (kSC (NR atR).ib (NR atR).si (NR atR).co) := scG
theorem sameK : PlainOk Try.prog 22 (kBII (NR atR).sa) := sameG
theorem exactK : PlainOk Try.prog 20 (kB3 (NR atR).ex) := exactG
theorem fineK : PlainOk Try.prog 11 (kBI (NR atR).ib) := fineG
theorem ihasK : PlainOk Try.prog 21 (kBIF (NR atR).ha) := ihasG
theorem oracleTE : OracleOk Try.prog (OTE (NR atR)) := .cons scK.of (.cons sameK.of (.cons exactK.of (.cons fineK.of (.cons awakeG.of (.cons ihasK.of (.nil _))))))
def te5 (e : F → F → F → Bool) : Obs := [(e (toF 0) (toF 0) one64, true), (e q1 one64 (toF 0), true), (e q2 (toF 0) mone64, true), (e q3 mone64 (toF 0), true), (e one64 (toF 0) one64, true)]
def teOb (N : Ns) (a b : F) (h1 h3 h2 z0 z1 : Bool) : Obs := te5 N.ex ++ [(N.ib ⟨a, b⟩, true), (N.ib ⟨a, b⟩, true), (N.ib ⟨a, a⟩, true), (N.ib ⟨b, b⟩, true)] ++
  ((N.ha ⟨a, b⟩ q1, h1) :: (bif h1 then [(!decide ((N.si ⟨a, b⟩).hi.k = one64.k), false)] else [])) ++
  ((N.ha ⟨a, b⟩ q3, h3) :: (bif h3 then [(!decide ((N.si ⟨a, b⟩).lo.k = mone64.k), false)] else [])) ++
  ((N.ha ⟨a, b⟩ q2, h2) :: (bif h2 then [(!decide ((N.co ⟨a, b⟩).lo.k = mone64.k), false)] else [])) ++
  ((decide (a.k = (toF 0).k), z0) :: (bif z0 then [(!decide ((N.co ⟨a, b⟩).hi.k = one64.k), false)] else ((decide (b.k = one64.k), z1) :: (bif z1 then [(!decide ((N.co ⟨a, b⟩).hi.k = one64.k), false)] else [])))) ++
  ((N.ha ⟨a, b⟩ q1, h1) :: (bif h1 then [] else ((N.ha ⟨a, b⟩ q3, h3) :: (bif h3 then [] else [(N.sa (N.si ⟨a, b⟩) (hullI (N.si ⟨a, a⟩) (N.si ⟨b, b⟩)), true)])))) ++
  ((N.ha ⟨a, b⟩ q2, h2) :: (bif h2 then [] else [(N.sa (N.co ⟨a, b⟩) (hullI (N.co ⟨a, a⟩) (N.co ⟨b, b⟩)), true)]))
theorem teRun_ffff (N : Ns) (a b : F) (z1 : Bool) : valR ((run Try.prog EG (OTE N) 60).1 4 [.agg [.fl a, .fl b]] [] (some ((teOb N a b false false false false z1).map (·.2)))) = some (.b true, some [], (teOb N a b false false false false z1).reverse) := by cases z1 <;> kernel_rfl
theorem teRun_ffft (N : Ns) (a b : F) (z1 : Bool) : valR ((run Try.prog EG (OTE N) 60).1 4 [.agg [.fl a, .fl b]] [] (some ((teOb N a b false false false true z1).map (·.2)))) = some (.b true, some [], (teOb N a b false false false true z1).reverse) := by kernel_rfl
theorem teRun_fftf (N : Ns) (a b : F) (z1 : Bool) : valR ((run Try.prog EG (OTE N) 60).1 4 [.agg [.fl a, .fl b]] [] (some ((teOb N a b false false true false z1).map (·.2)))) = some (.b true, some [], (teOb N a b false false true false z1).reverse) := by cases z1 <;> kernel_rfl
theorem teRun_fftt (N : Ns) (a b : F) (z1 : Bool) : valR ((run Try.prog EG (OTE N) 60).1 4 [.agg [.fl a, .fl b]] [] (some ((teOb N a b false false true true z1).map (·.2)))) = some (.b true, some [], (teOb N a b false false true true z1).reverse) := by kernel_rfl
theorem teRun_ftff (N : Ns) (a b : F) (z1 : Bool) : valR ((run Try.prog EG (OTE N) 60).1 4 [.agg [.fl a, .fl b]] [] (some ((teOb N a b false true false false z1).map (·.2)))) = some (.b true, some [], (teOb N a b false true false false z1).reverse) := by cases z1 <;> kernel_rfl
theorem teRun_ftft (N : Ns) (a b : F) (z1 : Bool) : valR ((run Try.prog EG (OTE N) 60).1 4 [.agg [.fl a, .fl b]] [] (some ((teOb N a b false true false true z1).map (·.2)))) = some (.b true, some [], (teOb N a b false true false true z1).reverse) := by kernel_rfl
theorem teRun_fttf (N : Ns) (a b : F) (z1 : Bool) : valR ((run Try.prog EG (OTE N) 60).1 4 [.agg [.fl a, .fl b]] [] (some ((teOb N a b false true true false z1).map (·.2)))) = some (.b true, some [], (teOb N a b false true true false z1).reverse) := by cases z1 <;> kernel_rfl
theorem teRun_fttt (N : Ns) (a b : F) (z1 : Bool) : valR ((run Try.prog EG (OTE N) 60).1 4 [.agg [.fl a, .fl b]] [] (some ((teOb N a b false true true true z1).map (·.2)))) = some (.b true, some [], (teOb N a b false true true true z1).reverse) := by kernel_rfl
theorem teRun_tfff (N : Ns) (a b : F) (z1 : Bool) : valR ((run Try.prog EG (OTE N) 60).1 4 [.agg [.fl a, .fl b]] [] (some ((teOb N a b true false false false z1).map (·.2)))) = some (.b true, some [], (teOb N a b true false false false z1).reverse) := by cases z1 <;> kernel_rfl
theorem teRun_tfft (N : Ns) (a b : F) (z1 : Bool) : valR ((run Try.prog EG (OTE N) 60).1 4 [.agg [.fl a, .fl b]] [] (some ((teOb N a b true false false true z1).map (·.2)))) = some (.b true, some [], (teOb N a b true false false true z1).reverse) := by kernel_rfl
theorem teRun_tftf (N : Ns) (a b : F) (z1 : Bool) : valR ((run Try.prog EG (OTE N) 60).1 4 [.agg [.fl a, .fl b]] [] (some ((teOb N a b true false true false z1).map (·.2)))) = some (.b true, some [], (teOb N a b true false true false z1).reverse) := by cases z1 <;> kernel_rfl
theorem teRun_tftt (N : Ns) (a b : F) (z1 : Bool) : valR ((run Try.prog EG (OTE N) 60).1 4 [.agg [.fl a, .fl b]] [] (some ((teOb N a b true false true true z1).map (·.2)))) = some (.b true, some [], (teOb N a b true false true true z1).reverse) := by kernel_rfl
theorem teRun_ttff (N : Ns) (a b : F) (z1 : Bool) : valR ((run Try.prog EG (OTE N) 60).1 4 [.agg [.fl a, .fl b]] [] (some ((teOb N a b true true false false z1).map (·.2)))) = some (.b true, some [], (teOb N a b true true false false z1).reverse) := by cases z1 <;> kernel_rfl
theorem teRun_ttft (N : Ns) (a b : F) (z1 : Bool) : valR ((run Try.prog EG (OTE N) 60).1 4 [.agg [.fl a, .fl b]] [] (some ((teOb N a b true true false true z1).map (·.2)))) = some (.b true, some [], (teOb N a b true true false true z1).reverse) := by kernel_rfl
theorem teRun_tttf (N : Ns) (a b : F) (z1 : Bool) : valR ((run Try.prog EG (OTE N) 60).1 4 [.agg [.fl a, .fl b]] [] (some ((teOb N a b true true true false z1).map (·.2)))) = some (.b true, some [], (teOb N a b true true true false z1).reverse) := by cases z1 <;> kernel_rfl
theorem teRun_tttt (N : Ns) (a b : F) (z1 : Bool) : valR ((run Try.prog EG (OTE N) 60).1 4 [.agg [.fl a, .fl b]] [] (some ((teOb N a b true true true true z1).map (·.2)))) = some (.b true, some [], (teOb N a b true true true true z1).reverse) := by kernel_rfl
theorem teRun (N : Ns) (a b : F) (h1 h3 h2 z0 z1 : Bool) : valR ((run Try.prog EG (OTE N) 60).1 4 [.agg [.fl a, .fl b]] [] (some ((teOb N a b h1 h3 h2 z0 z1).map (·.2)))) = some (.b true, some [], (teOb N a b h1 h3 h2 z0 z1).reverse) := by
  cases h1 <;> cases h3 <;> cases h2 <;> cases z0
  · exact teRun_ffff N a b z1
  · exact teRun_ffft N a b z1
  · exact teRun_fftf N a b z1
  · exact teRun_fftt N a b z1
  · exact teRun_ftff N a b z1
  · exact teRun_ftft N a b z1
  · exact teRun_fttf N a b z1
  · exact teRun_fttt N a b z1
  · exact teRun_tfff N a b z1
  · exact teRun_tfft N a b z1
  · exact teRun_tftf N a b z1
  · exact teRun_tftt N a b z1
  · exact teRun_ttff N a b z1
  · exact teRun_ttft N a b z1
  · exact teRun_tttf N a b z1
  · exact teRun_tttt N a b z1
theorem teRun0 (N : Ns) (a b : F) : valR ((run Try.prog EG (OTE N) 60).1 4 [.agg [.fl a, .fl b]] [] (some [true, true, true, true, true, false])) = some (.b true, some [], (te5 N.ex ++ [(N.ib ⟨a, b⟩, false)]).reverse) := by kernel_rfl
def OTB (N : Ns) : OracleF := lookO [(20, plainO (kB3 N.ex)), (12, plainO (oConst (.b true))), (60, plainO oRight)]
theorem oracleTB : OracleOk Try.prog (OTB (NR atR)) := .cons exactK.of (.cons awakeG.of (.cons rightG.of (.nil _)))
theorem teRun1 (N : Ns) (a b : Nat) : valR ((run Try.prog EG (OTB N) 60).1 4 [.agg [.f a, .f b]] [] (some [true, true, true, true, true, false])) = some (.b true, some [], (Nat.blt a 18446744073709551616, true) :: (te5 N.ex ++ [(rightB a, false)]).reverse) := by kernel_rfl
theorem teRun2 (N : Ns) (a b : Nat) : valR ((run Try.prog EG (OTB N) 60).1 4 [.agg [.f a, .f b]] [] (some [true, true, true, true, true, true, false])) = some (.b true, some [], (Nat.blt b 18446744073709551616, true) :: (te5 N.ex ++ [(rightB a, true), (rightB b, false)]).reverse) := by kernel_rfl
theorem te5_ok : obsB (te5 (exactB atR)) = true := by
  have h := awake_ok
  simp only [awakeOb, obsB, List.all_cons, Bool.and_eq_true, beq_iff_eq] at h
  exact obsB_yes h.2.2.2.2.2.2.2.1 (obsB_yes h.2.2.2.2.2.2.1 (obsB_yes exact2 (obsB_yes exact3 (obsB_yes exact4 obsB_nil))))
theorem obsB_both {a b : Obs} (ha : obsB a = true) (hb : obsB b = true) : obsB (a ++ b) = true := by rw [obsB_app, ha, hb]; rfl
theorem obsB_bif {h : Bool} {a b : Obs} (ha : h = true → obsB a = true) (hb : h = false → obsB b = true) : obsB (bif h then a else b) = true := by
  cases h
  · exact hb rfl
  · exact ha rfl
theorem teOb_ok (a b : F) (h : inB a b = true) : obsB (teOb (NR atR) a b (hasB ⟨a, b⟩ q1) (hasB ⟨a, b⟩ q3) (hasB ⟨a, b⟩ q2) (decide (a.k = (toF 0).k)) (decide (b.k = one64.k))) = true := by
  have hr : rt ⟨a, b⟩ = true := by unfold inB at h; rw [Bool.and_eq_true, Bool.and_eq_true] at h; exact h.1.1
  have no : ∀ {p : Prop} [Decidable p], p → (!decide p) = false := fun hp => by simp [hp]
  refine obsB_both (obsB_both (obsB_both (obsB_both (obsB_both (obsB_both (obsB_both te5_ok (obsB_yes h (obsB_yes h (obsB_yes (inB_ends h).1 (obsB_yes (inB_ends h).2 obsB_nil)))))
    (obsB_yes rfl (obsB_bif (fun c => obsB_yes (no (sin_top c)) obsB_nil) fun _ => obsB_nil)))
    (obsB_yes rfl (obsB_bif (fun c => obsB_yes (no (sin_bot c)) obsB_nil) fun _ => obsB_nil)))
    (obsB_yes rfl (obsB_bif (fun c => obsB_yes (no (cos_bot c)) obsB_nil) fun _ => obsB_nil)))
    (obsB_yes rfl (obsB_bif (fun c => obsB_yes (no (cos_end (.inl (of_decide_eq_true c)))) obsB_nil) fun _ => obsB_yes rfl (obsB_bif (fun c => obsB_yes (no (cos_end (.inr (of_decide_eq_true c)))) obsB_nil) fun _ => obsB_nil))))
    (obsB_yes rfl (obsB_bif (fun _ => obsB_nil) fun c => obsB_yes rfl (obsB_bif (fun _ => obsB_nil) fun d => obsB_yes ((sameI_iff _ _).2 (sin_ends hr c d)) obsB_nil))))
    (obsB_yes rfl (obsB_bif (fun _ => obsB_nil) fun c => obsB_yes ((sameI_iff _ _).2 (cos_ends hr c)) obsB_nil))
theorem trigExact_row (a b : Nat) (ha : a < 18446744073709551616) (hb : b < 18446744073709551616) (w : World) :
    Calls Try.prog 4 #[.agg #[.float .f64 a, .float .f64 b]] w fun e w' => e = .returned (.bool true) ∧ Below w.heap.size w w' := by
  cases h1 : rightB a
  · exact calls_of_val goodG oracleTB 60 (teRun1 (NR atR) a b) (ObsOk.of_B (obsB_yes (Nat.blt_eq.mpr ha) (obsB_rev (obsB_both te5_ok (obsB_yes h1 obsB_nil))))) rfl rfl w
  · cases h2 : rightB b
    · exact calls_of_val goodG oracleTB 60 (teRun2 (NR atR) a b) (ObsOk.of_B (obsB_yes (Nat.blt_eq.mpr hb) (obsB_rev (obsB_both te5_ok (obsB_yes h1 (obsB_yes h2 obsB_nil)))))) rfl rfl w
    · obtain ⟨x, rfl⟩ := F_of_right h1
      obtain ⟨y, rfl⟩ := F_of_right h2
      cases h : inB x y
      · exact calls_of_val goodG oracleTE 60 (teRun0 (NR atR) x y) (ObsOk.of_B (obsB_rev (obsB_both te5_ok (obsB_yes h obsB_nil)))) rfl rfl w
      · exact calls_of_val goodG oracleTE 60 (teRun (NR atR) x y _ _ _ _ _) (ObsOk.of_B (obsB_rev (teOb_ok x y h))) rfl rfl w
end Go.Proofs.Ytiipaicbbmkagaa
namespace Go.Proofs.Ytiipaicbbmkagaa
set_option linter.all false
open Go.RowKit Bu Rx

theorem ldexpK : PlainOk Try.prog 17 (kLd ldF fun x n => decide (Sc x (ldF x n) n)) := by
  intro args ds x ds' ob h ho
  unfold kLd at h
  split at h
  · rename_i x n
    split at h
    · rename_i k hk
      simp only [Option.some.injEq, Prod.mk.injEq] at h; obtain ⟨rfl, _, rfl⟩ := h
      have hs := of_decide_eq_true (ho _ (List.mem_cons_self ..))
      refine ⟨[.float .f64 x.b, .int .i64 k], .float .f64 (ldF x k).b, plains_cons rfl (plains_cons (intS_plain hk) plains_nil), rfl, fun w => (Ldexp_exact x (ldF x k) k w hs).mono ?_⟩
      rintro e w' ⟨rfl, rfl⟩; exact ⟨rfl, Below.refl _ _⟩
    · cases h
  · cases h
def OWI (f : Bool → F → F → F × Int) : OracleF := lookO [(26, plainO oRt), (43, plainO (kTwo f))]
theorem oracleWI : OracleOk Try.prog (OWI dSub) := .cons irightG.of (.cons (two_ok sub_F_w).of (.nil _))
theorem widRun0 (f : Bool → F → F → F × Int) (a b : F) : valR ((run Try.prog EG (OWI f) 60).1 27 [.agg [.fl a, .fl b]] [] (some [false])) = some (.tup [.fl F.zero, .i .i64 20], some [], [(rt ⟨a, b⟩, false)]) := by kernel_rfl
theorem widRun1 (f : Bool → F → F → F × Int) (a b : F) : valR ((run Try.prog EG (OWI f) 60).1 27 [.agg [.fl a, .fl b]] [] (some [true])) = some (.tup [.fl (f true b a).1, .si .i64 (f true b a).2], some [], [(rt ⟨a, b⟩, true)]) := by kernel_rfl
theorem widK : PlainOk Try.prog 27 (kWid widM) := by
  intro args ds x ds' ob h ho
  unfold kWid at h
  split at h
  · rename_i a b
    simp only [Option.some.injEq, Prod.mk.injEq] at h
    obtain ⟨rfl, _, _⟩ := h
    refine ⟨[.agg #[.float .f64 a.b, .float .f64 b.b]], _, rfl, rfl, fun w => ?_⟩
    cases h1 : rt ⟨a, b⟩
    · rw [show widM ⟨a, b⟩ = (F.zero, 20) from by simp only [widM, h1, cond_false]]
      exact calls_of_val goodG oracleWI 60 (widRun0 dSub a b) (ObsOk.of_B (obsB_yes h1 obsB_nil)) rfl rfl w
    · rw [show widM ⟨a, b⟩ = dSub true b a from by simp only [widM, h1, cond_true]]
      exact calls_of_val goodG oracleWI 60 (widRun1 dSub a b) (ObsOk.of_B (obsB_yes h1 obsB_nil)) rfl rfl w
  · cases h
theorem irtK : PlainOk Try.prog 26 (kBI rt) := irightG
def OTC (N : Nc) : OracleF := lookO [(14, plainO (kSC N.ib N.si N.co)), (22, plainO (kBII N.sa)), (11, plainO (kBI N.ib)), (12, plainO (oConst (.b true))), (21, plainO (kBIF N.ha)), (26, plainO (kBI N.rt)), (24, kC (aII N.add)), (25, kC (aI N.sqr)), (27, plainO (kWid N.wid)), (17, plainO (kLd N.ld N.lo))]
theorem oracleTC : OracleOk Try.prog (OTC (NcR atR)) := .cons scK.of (.cons sameK.of (.cons fineK.of (.cons awakeG.of (.cons ihasK.of (.cons irtK.of (.cons addC (.cons sqrC (.cons widK.of (.cons ldexpK.of (.nil _))))))))))
def OTD (s : I → I → Bool) : OracleF := lookO [(22, plainO (kBII s)), (12, plainO (oConst (.b true))), (60, plainO oRight)]
theorem oracleTD : OracleOk Try.prog (OTD sameI) := .cons sameK.of (.cons awakeG.of (.cons rightG.of (.nil _)))
theorem tcRun (N : Nc) (a b : F) : valR ((run Try.prog EG (OTC N) 60).1 5 [.agg [.fl a, .fl b]] [] (some [true, true, false, true, true, false, false, false, false, true, true, true, true, true])) = some (.b true, some [], tcOb N a b) := by kernel_rfl
theorem tcRun0 (N : Nc) (a b : F) : valR ((run Try.prog EG (OTC N) 60).1 5 [.agg [.fl a, .fl b]] [] (some [false, false, true, true])) = some (.b true, some [], [(N.sa I.zero I.zero, true), (N.sa I.zero I.zero, true), (N.ib ⟨a, b⟩, false), (N.ib ⟨a, b⟩, false)]) := by kernel_rfl
theorem tcRun1 (s : I → I → Bool) (a b : Nat) : valR ((run Try.prog EG (OTD s) 60).1 5 [.agg [.f a, .f b]] [] (some [false, false, true, true])) = some (.b true, some [], [(s I.zero I.zero, true), (s I.zero I.zero, true), (Nat.blt a 18446744073709551616, true), (rightB a, false), (Nat.blt a 18446744073709551616, true), (rightB a, false)]) := by kernel_rfl
theorem tcRun2 (s : I → I → Bool) (a b : Nat) : valR ((run Try.prog EG (OTD s) 60).1 5 [.agg [.f a, .f b]] [] (some [true, false, true, false, true, true])) = some (.b true, some [], [(s I.zero I.zero, true), (s I.zero I.zero, true), (Nat.blt b 18446744073709551616, true), (rightB b, false), (rightB a, true), (Nat.blt b 18446744073709551616, true), (rightB b, false), (rightB a, true)]) := by kernel_rfl
theorem same0 : sameI I.zero I.zero = true := (sameI_iff _ _).2 rfl
theorem trigCircle_row (a b : Nat) (ha : a < 18446744073709551616) (hb : b < 18446744073709551616) (w : World) :
    Calls Try.prog 5 #[.agg #[.float .f64 a, .float .f64 b]] w fun e w' => e = .returned (.bool true) ∧ Below w.heap.size w w' := by
  have la := Nat.blt_eq.mpr ha
  have lb := Nat.blt_eq.mpr hb
  cases h1 : rightB a
  · exact calls_of_val goodG oracleTD 60 (tcRun1 sameI a b) (ObsOk.of_B (obsB_yes same0 (obsB_yes same0 (obsB_yes la (obsB_yes h1 (obsB_yes la (obsB_yes h1 obsB_nil))))))) rfl rfl w
  · cases h2 : rightB b
    · exact calls_of_val goodG oracleTD 60 (tcRun2 sameI a b) (ObsOk.of_B (obsB_yes same0 (obsB_yes same0 (obsB_yes lb (obsB_yes h2 (obsB_yes h1 (obsB_yes lb (obsB_yes h2 (obsB_yes h1 obsB_nil))))))))) rfl rfl w
    · obtain ⟨x, rfl⟩ := F_of_right h1
      obtain ⟨y, rfl⟩ := F_of_right h2
      cases h : inB x y
      · exact calls_of_val goodG oracleTC 60 (tcRun0 (NcR atR) x y) (ObsOk.of_B (obsB_yes same0 (obsB_yes same0 (obsB_yes h (obsB_yes h obsB_nil))))) rfl rfl w
      · exact calls_of_val goodG oracleTC 60 (tcRun (NcR atR) x y) (ObsOk.of_B (tcOb_ok h)) rfl rfl w
end Go.Proofs.Ytiipaicbbmkagaa
