/- Package dir by the reckoner: Sub, Mul. -/
import Derived.Test.YtiipaicbbmkagaaGc
import Derived.Test.YtiipaicbbmkagaaShelf
namespace Go.Proofs.Ytiipaicbbmkagaa
set_option linter.all false
open Go.RowKit Bu Rx

/-- a function of two numbers and a direction, that tells a number and an error -/
def kTwo (f : Bool → F → F → F × Int) : List SV → Dec → Option (SV × Dec × Obs)
  | [.fl x, .fl y, .b up], ds => some (.tup [.fl (f up x y).1, .si .i64 (f up x y).2], ds, [])
  | _, _ => none
theorem two_ok {g : FuncId} {f : Bool → F → F → F × Int} (h : ∀ x y up w, Calls Try.prog g #[.float .f64 x.b, .float .f64 y.b, .bool up] w fun e w' => e = .returned (.tuple #[.float .f64 (f up x y).1.b, .int .i64 (f up x y).2]) ∧ Below w.heap.size w w') : PlainOk Try.prog g (kTwo f) := by
  intro args ds x ds' ob h1 ho
  unfold kTwo at h1
  split at h1
  · rename_i x y up
    simp only [Option.some.injEq, Prod.mk.injEq] at h1
    obtain ⟨rfl, _, _⟩ := h1
    exact ⟨[.float .f64 x.b, .float .f64 y.b, .bool up], _, rfl, rfl, fun w => h x y up w⟩
  · cases h1

def OGA (f : Bool → F → F → F × Int) : OracleF := lookO [(60, plainO oRight), (45, plainO (kTwo f))]
theorem oracleGA : OracleOk Try.prog (OGA dAdd) := .cons rightG.of (.cons (two_ok add_F_w).of (.nil _))

theorem subRun0 (f : Bool → F → F → F × Int) (x y : F) (up : Bool) : valR ((run Try.prog EG (OGA f) 100).1 43 [.fl x, .fl y, .b up] [] (some [false])) = some (.tup [.fl (f up x y).1, .si .i64 (f up x y).2], some [], [(!decide (y.k = (toF 0).k), false)]) := by kernel_rfl
theorem subRun1 (f : Bool → F → F → F × Int) (x y : F) (up : Bool) : valR ((run Try.prog EG (OGA f) 100).1 43 [.fl x, .fl y, .b up] [] (some [true])) = some (.tup [.fl (f up x y.neg).1, .si .i64 (f up x y.neg).2], some [], [(!decide (y.k = 0), true), (!decide (y.k = (toF 0).k), true)]) := by kernel_rfl
theorem sub_F_w (x y : F) (up : Bool) (w : World) :
    Calls Try.prog 43 #[.float .f64 x.b, .float .f64 y.b, .bool up] w fun e w' => e = .returned (.tuple #[.float .f64 (dSub up x y).1.b, .int .i64 (dSub up x y).2]) ∧ Below w.heap.size w w' := by
  by_cases h : y.k = 0
  · rw [dSub_zero up x y h]
    exact calls_of_val goodG oracleGA 100 (subRun0 dAdd x y up) (ObsOk.of_B (obsB_yes (by rw [zero_k', h]; rfl) obsB_nil)) rfl rfl w
  · rw [dSub_neg]
    have e : (!decide (y.k = 0)) = true := by simp [h]
    exact calls_of_val goodG oracleGA 100 (subRun1 dAdd x y up) (ObsOk.of_B (obsB_yes e (obsB_yes (by rw [zero_k']; exact e) obsB_nil))) rfl rfl w

/-- two words, of a product -/
def kMul (f g : Int → Int → Int) (u : Int → Bool) : List SV → Dec → Option (SV × Dec × Obs)
  | [x, y], ds => match intS x, intS y with
    | some (.u64, a), some (.u64, b) => some (.tup [.si .u64 (f a b), .si .u64 (g a b)], ds, [(u a, true), (u b, true)])
    | _, _ => none
  | _, _ => none
def mulH (a b : Int) : Int := hi (a.toNat * b.toNat)
def mulL (a b : Int) : Int := lo (a.toNat * b.toNat)
theorem mulG : PlainOk Try.prog 80 (kMul mulH mulL u64B) := by
  intro args ds x ds' ob h ho
  unfold kMul at h
  split at h
  · rename_i x y
    split at h
    · rename_i a b ha hb
      simp only [Option.some.injEq, Prod.mk.injEq] at h
      obtain ⟨rfl, rfl, rfl⟩ := h
      have k1 := u64_of (ho (u64B a, true) (by simp))
      have k2 := u64_of (ho (u64B b, true) (by simp))
      obtain ⟨p, rfl⟩ := Int.eq_ofNat_of_zero_le k1.1
      obtain ⟨q, rfl⟩ := Int.eq_ofNat_of_zero_le k2.1
      refine ⟨[.int .u64 p, .int .u64 q], _, plains_cons (intS_plain ha) (plains_cons (intS_plain hb) plains_nil), rfl, fun w => (Try.bits_Mul64 p q (by omega) (by omega) w).mono ?_⟩
      rintro e w' ⟨rfl, rfl⟩
      exact ⟨rfl, Below.refl _ _⟩
    · cases h
  · cases h
def OGM (K : Kd) (f g : Int → Int → Int) : OracleF := lookO [(60, plainO oRight), (79, plainO (kParts K)), (81, plainO (kRound K)), (80, plainO (kMul f g K.u))]
theorem oracleGM : OracleOk Try.prog (OGM KR mulH mulL) := .cons rightG.of (.cons partsG.of (.cons roundG.of (.cons mulG.of (.nil _))))
theorem mulRun (K : Kd) (f g : Int → Int → Int) (x y : F) (up p q : Bool) : valR ((run Try.prog EG (OGM K f g) 100).1 44 [.fl x, .fl y, .b up] [] (some [p, q])) =
    some (.tup [.fl (K.rF (p != q) (f (K.mn x) (K.mn y)) (g (K.mn x) (K.mn y)) false (IntKind.i64.wrap (K.ex x + K.ex y)) up), .si .i64 (K.rI (p != q) (f (K.mn x) (K.mn y)) (g (K.mn x) (K.mn y)) false (IntKind.i64.wrap (K.ex x + K.ex y)) up)],
      some [], rdK K (f (K.mn x) (K.mn y)) (g (K.mn x) (K.mn y)) (IntKind.i64.wrap (K.ex x + K.ex y)) ++ [(K.u (K.mn x), true), (K.u (K.mn y), true), (K.sg y, q), (K.sg x, p)]) := by cases p <;> cases q <;> kernel_rfl
theorem hi_u {n : Nat} (h : n < W128) : u64B (hi n) = true := u64_mk (hi_nonneg _) (hi_le _ h)
theorem lo_u (n : Nat) : u64B (lo n) = true := u64_mk (lo_nonneg _) (lo_le _)
theorem wn_back (n : Nat) : wn (hi n) (lo n) = n := by
  unfold wn hi lo
  rw [Int.toNat_natCast, Int.toNat_natCast]
  omega
theorem mn_mul_lt (x y : F) : mn x * mn y < W128 := by
  rw [W128_q]
  exact Nat.mul_lt_mul'' (by have := mn_lt x; omega) (by have := mn_lt y; omega)
theorem mul_F_w (x y : F) (up : Bool) (w : World) :
    Calls Try.prog 44 #[.float .f64 x.b, .float .f64 y.b, .bool up] w fun e w' => e = .returned (.tuple #[.float .f64 (dMul up x y).1.b, .int .i64 (dMul up x y).2]) ∧ Below w.heap.size w w' := by
  have h1 := ex_le x
  have h2 := ex_le y
  have he : IntKind.i64.wrap ((ex x : Int) - 1074 + ((ex y : Int) - 1074)) = (ex x : Int) - 1074 + ((ex y : Int) - 1074) := Bu.wrap_small (by omega) (by omega)
  have hH : mulH (KR.mn x) (KR.mn y) = hi (mn x * mn y) := by show hi ((mn x : Int).toNat * (mn y : Int).toNat) = _; rw [Int.toNat_natCast, Int.toNat_natCast]
  have hL : mulL (KR.mn x) (KR.mn y) = lo (mn x * mn y) := by show lo ((mn x : Int).toNat * (mn y : Int).toNat) = _; rw [Int.toNat_natCast, Int.toNat_natCast]
  have hr := mulRun KR mulH mulL x y up (sg x) (sg y)
  rw [show IntKind.i64.wrap (KR.ex x + KR.ex y) = _ from he, hH, hL] at hr
  have hv : rndG (sg x != sg y) (wn (hi (mn x * mn y)) (lo (mn x * mn y))) false ((ex x : Int) - 1074 + ((ex y : Int) - 1074)) up = dMul up x y := by rw [wn_back, rndG_mul]
  rw [← hv]
  refine calls_of_val goodG oracleGM 100 hr (ObsOk.of_B ?_) rfl rfl w
  rw [obsB_app]
  have o1 : obsB (rdK KR (hi (mn x * mn y)) (lo (mn x * mn y)) ((ex x : Int) - 1074 + ((ex y : Int) - 1074))) = true :=
    obsB_yes (hi_u (mn_mul_lt x y)) (obsB_yes (lo_u _) (obsB_yes (decide_eq_true (by omega)) obsB_nil))
  have o2 : obsB [(KR.u (KR.mn x), true), (KR.u (KR.mn y), true), (KR.sg y, sg y), (KR.sg x, sg x)] = true := obsB_yes (mn_u64 x) (obsB_yes (mn_u64 y) (obsB_yes rfl (obsB_yes rfl obsB_nil)))
  rw [o1, o2]; rfl
end Go.Proofs.Ytiipaicbbmkagaa
