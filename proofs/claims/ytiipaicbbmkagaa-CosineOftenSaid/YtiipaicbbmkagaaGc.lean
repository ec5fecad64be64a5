/- Package dir by the reckoner: Add, Sub. -/
import Derived.Test.YtiipaicbbmkagaaGl
namespace Go.Proofs.Ytiipaicbbmkagaa
set_option linter.all false
open Go.RowKit Bu Rx

def kP (K : Kd) (a b : F) (same more up sa : Bool) : SV := .tup [.fl (K.rF sa (hK K same more a b) (lK K same more a b) more (eK K a) up), .si .i64 (K.rI sa (hK K same more a b) (lK K same more a b) more (eK K a) up)]
def gtK (a b : Int) (d : Bool) : Bool × Bool := (decide (a > b), d)
def eqK (a b : Int) (d : Bool) : Bool × Bool := (decide (a = b), d)

theorem addRun (x y a b : F) (up : Bool) {ds : List Bool} {ob : Obs} {same more sa : Bool} (h : valR ((run Try.prog EG (OGK KR) 100).1 45 [.fl x, .fl y, .b up] [] (some ds)) = some (kP KR a b same more up sa, some [], ob)) (ho : obsB ob = true)
    (hq : rndG sa (wn (hA same more a b) (lA same more a b)) more (eI a) up = dAdd up x y) (w : World) :
    Calls Try.prog 45 #[.float .f64 x.b, .float .f64 y.b, .bool up] w fun e w' => e = .returned (.tuple #[.float .f64 (dAdd up x y).1.b, .int .i64 (dAdd up x y).2]) ∧ Below w.heap.size w w' := by
  rw [← hq]
  exact calls_of_val goodG oracleGK 100 h (ObsOk.of_B ho) rfl rfl w

def ob_far (K : Kd) (x y : F) : Obs := [gtK (K.ex y) (K.ex x) true]
theorem run_far_000 (K : Kd) (x y : F) (up : Bool) : valR ((run Try.prog EG (OGK K) 100).1 45 [.fl x, .fl y, .b up] [] (some [false, false, true, false])) = some (kP K y x true false up false, some [], obK K true false y x ++ ob_far K x y ++ [(K.sg y, false), (K.sg x, false)]) := by kernel_rfl
theorem run_far_001 (K : Kd) (x y : F) (up : Bool) : valR ((run Try.prog EG (OGK K) 100).1 45 [.fl x, .fl y, .b up] [] (some [false, true, true, false])) = some (kP K y x false false up true, some [], obK K false false y x ++ ob_far K x y ++ [(K.sg y, true), (K.sg x, false)]) := by kernel_rfl
theorem run_far_010 (K : Kd) (x y : F) (up : Bool) : valR ((run Try.prog EG (OGK K) 100).1 45 [.fl x, .fl y, .b up] [] (some [true, false, true, false])) = some (kP K y x false false up false, some [], obK K false false y x ++ ob_far K x y ++ [(K.sg y, false), (K.sg x, true)]) := by kernel_rfl
theorem run_far_011 (K : Kd) (x y : F) (up : Bool) : valR ((run Try.prog EG (OGK K) 100).1 45 [.fl x, .fl y, .b up] [] (some [true, true, true, false])) = some (kP K y x true false up true, some [], obK K true false y x ++ ob_far K x y ++ [(K.sg y, true), (K.sg x, true)]) := by kernel_rfl
theorem run_far_100 (K : Kd) (x y : F) (up : Bool) : valR ((run Try.prog EG (OGK K) 100).1 45 [.fl x, .fl y, .b up] [] (some [false, false, true, true])) = some (kP K y x true true up false, some [], obK K true true y x ++ ob_far K x y ++ [(K.sg y, false), (K.sg x, false)]) := by kernel_rfl
theorem run_far_101 (K : Kd) (x y : F) (up : Bool) : valR ((run Try.prog EG (OGK K) 100).1 45 [.fl x, .fl y, .b up] [] (some [false, true, true, true])) = some (kP K y x false true up true, some [], obK K false true y x ++ ob_far K x y ++ [(K.sg y, true), (K.sg x, false)]) := by kernel_rfl
theorem run_far_110 (K : Kd) (x y : F) (up : Bool) : valR ((run Try.prog EG (OGK K) 100).1 45 [.fl x, .fl y, .b up] [] (some [true, false, true, true])) = some (kP K y x false true up false, some [], obK K false true y x ++ ob_far K x y ++ [(K.sg y, false), (K.sg x, true)]) := by kernel_rfl
theorem run_far_111 (K : Kd) (x y : F) (up : Bool) : valR ((run Try.prog EG (OGK K) 100).1 45 [.fl x, .fl y, .b up] [] (some [true, true, true, true])) = some (kP K y x true true up true, some [], obK K true true y x ++ ob_far K x y ++ [(K.sg y, true), (K.sg x, true)]) := by kernel_rfl
theorem add_far (x y : F) (up : Bool) (h : Fst y x) (ho : obsB (ob_far KR x y) = true) (w : World) :
    Calls Try.prog 45 #[.float .f64 x.b, .float .f64 y.b, .bool up] w fun e w' => e = .returned (.tuple #[.float .f64 (dAdd up x y).1.b, .int .i64 (dAdd up x y).2]) ∧ Below w.heap.size w w' := by
  have hv := add_val up h
  rw [dAdd_comm] at hv
  have hk : ∀ same, obsB (obA same (moreN (mn x) (ex y - ex x)) y x) = true := fun same => obA_ok same h
  have hob : ∀ s m p q, obsB (obA s m y x) = true → sg y = q → sg x = p → obsB (obK KR s m y x ++ ob_far KR x y ++ [(KR.sg y, q), (KR.sg x, p)]) = true := by
    intro s m p q h1 h2 h3
    rw [obsB_app, obsB_app, obK_R, h1, ho]
    exact obsB_yes h2 (obsB_yes h3 obsB_nil)
  cases hm : moreN (mn x) (ex y - ex x) <;> cases hx : sg x <;> cases hy : sg y <;> rw [hm] at hk hv <;> rw [hx, hy] at hv
  · exact addRun x y y x up (run_far_000 KR x y up) (hob _ _ _ _ (hk _) hy hx) hv w
  · exact addRun x y y x up (run_far_001 KR x y up) (hob _ _ _ _ (hk _) hy hx) hv w
  · exact addRun x y y x up (run_far_010 KR x y up) (hob _ _ _ _ (hk _) hy hx) hv w
  · exact addRun x y y x up (run_far_011 KR x y up) (hob _ _ _ _ (hk _) hy hx) hv w
  · exact addRun x y y x up (run_far_100 KR x y up) (hob _ _ _ _ (hk _) hy hx) hv w
  · exact addRun x y y x up (run_far_101 KR x y up) (hob _ _ _ _ (hk _) hy hx) hv w
  · exact addRun x y y x up (run_far_110 KR x y up) (hob _ _ _ _ (hk _) hy hx) hv w
  · exact addRun x y y x up (run_far_111 KR x y up) (hob _ _ _ _ (hk _) hy hx) hv w
def ob_low (K : Kd) (x y : F) : Obs := [eqK (K.ex y) (K.ex x) false, gtK (K.ex y) (K.ex x) false]
theorem run_low_000 (K : Kd) (x y : F) (up : Bool) : valR ((run Try.prog EG (OGK K) 100).1 45 [.fl x, .fl y, .b up] [] (some [false, false, false, false, false])) = some (kP K x y true false up false, some [], obK K true false x y ++ ob_low K x y ++ [(K.sg y, false), (K.sg x, false)]) := by kernel_rfl
theorem run_low_001 (K : Kd) (x y : F) (up : Bool) : valR ((run Try.prog EG (OGK K) 100).1 45 [.fl x, .fl y, .b up] [] (some [false, true, false, false, false])) = some (kP K x y false false up false, some [], obK K false false x y ++ ob_low K x y ++ [(K.sg y, true), (K.sg x, false)]) := by kernel_rfl
theorem run_low_010 (K : Kd) (x y : F) (up : Bool) : valR ((run Try.prog EG (OGK K) 100).1 45 [.fl x, .fl y, .b up] [] (some [true, false, false, false, false])) = some (kP K x y false false up true, some [], obK K false false x y ++ ob_low K x y ++ [(K.sg y, false), (K.sg x, true)]) := by kernel_rfl
theorem run_low_011 (K : Kd) (x y : F) (up : Bool) : valR ((run Try.prog EG (OGK K) 100).1 45 [.fl x, .fl y, .b up] [] (some [true, true, false, false, false])) = some (kP K x y true false up true, some [], obK K true false x y ++ ob_low K x y ++ [(K.sg y, true), (K.sg x, true)]) := by kernel_rfl
theorem run_low_100 (K : Kd) (x y : F) (up : Bool) : valR ((run Try.prog EG (OGK K) 100).1 45 [.fl x, .fl y, .b up] [] (some [false, false, false, false, true])) = some (kP K x y true true up false, some [], obK K true true x y ++ ob_low K x y ++ [(K.sg y, false), (K.sg x, false)]) := by kernel_rfl
theorem run_low_101 (K : Kd) (x y : F) (up : Bool) : valR ((run Try.prog EG (OGK K) 100).1 45 [.fl x, .fl y, .b up] [] (some [false, true, false, false, true])) = some (kP K x y false true up false, some [], obK K false true x y ++ ob_low K x y ++ [(K.sg y, true), (K.sg x, false)]) := by kernel_rfl
theorem run_low_110 (K : Kd) (x y : F) (up : Bool) : valR ((run Try.prog EG (OGK K) 100).1 45 [.fl x, .fl y, .b up] [] (some [true, false, false, false, true])) = some (kP K x y false true up true, some [], obK K false true x y ++ ob_low K x y ++ [(K.sg y, false), (K.sg x, true)]) := by kernel_rfl
theorem run_low_111 (K : Kd) (x y : F) (up : Bool) : valR ((run Try.prog EG (OGK K) 100).1 45 [.fl x, .fl y, .b up] [] (some [true, true, false, false, true])) = some (kP K x y true true up true, some [], obK K true true x y ++ ob_low K x y ++ [(K.sg y, true), (K.sg x, true)]) := by kernel_rfl
theorem add_low (x y : F) (up : Bool) (h : Fst x y) (ho : obsB (ob_low KR x y) = true) (w : World) :
    Calls Try.prog 45 #[.float .f64 x.b, .float .f64 y.b, .bool up] w fun e w' => e = .returned (.tuple #[.float .f64 (dAdd up x y).1.b, .int .i64 (dAdd up x y).2]) ∧ Below w.heap.size w w' := by
  have hv := add_val up h
  have hk : ∀ same, obsB (obA same (moreN (mn y) (ex x - ex y)) x y) = true := fun same => obA_ok same h
  have hob : ∀ s m p q, obsB (obA s m x y) = true → sg y = q → sg x = p → obsB (obK KR s m x y ++ ob_low KR x y ++ [(KR.sg y, q), (KR.sg x, p)]) = true := by
    intro s m p q h1 h2 h3
    rw [obsB_app, obsB_app, obK_R, h1, ho]
    exact obsB_yes h2 (obsB_yes h3 obsB_nil)
  cases hm : moreN (mn y) (ex x - ex y) <;> cases hx : sg x <;> cases hy : sg y <;> rw [hm] at hk hv <;> rw [hx, hy] at hv
  · exact addRun x y x y up (run_low_000 KR x y up) (hob _ _ _ _ (hk _) hy hx) hv w
  · exact addRun x y x y up (run_low_001 KR x y up) (hob _ _ _ _ (hk _) hy hx) hv w
  · exact addRun x y x y up (run_low_010 KR x y up) (hob _ _ _ _ (hk _) hy hx) hv w
  · exact addRun x y x y up (run_low_011 KR x y up) (hob _ _ _ _ (hk _) hy hx) hv w
  · exact addRun x y x y up (run_low_100 KR x y up) (hob _ _ _ _ (hk _) hy hx) hv w
  · exact addRun x y x y up (run_low_101 KR x y up) (hob _ _ _ _ (hk _) hy hx) hv w
  · exact addRun x y x y up (run_low_110 KR x y up) (hob _ _ _ _ (hk _) hy hx) hv w
  · exact addRun x y x y up (run_low_111 KR x y up) (hob _ _ _ _ (hk _) hy hx) hv w
def ob_top (K : Kd) (x y : F) : Obs := [gtK (K.mn y) (K.mn x) true, eqK (K.ex y) (K.ex x) true, gtK (K.ex y) (K.ex x) false]
theorem run_top_000 (K : Kd) (x y : F) (up : Bool) : valR ((run Try.prog EG (OGK K) 100).1 45 [.fl x, .fl y, .b up] [] (some [false, false, false, true, true, false])) = some (kP K y x true false up false, some [], obK K true false y x ++ ob_top K x y ++ [(K.sg y, false), (K.sg x, false)]) := by kernel_rfl
theorem run_top_001 (K : Kd) (x y : F) (up : Bool) : valR ((run Try.prog EG (OGK K) 100).1 45 [.fl x, .fl y, .b up] [] (some [false, true, false, true, true, false])) = some (kP K y x false false up true, some [], obK K false false y x ++ ob_top K x y ++ [(K.sg y, true), (K.sg x, false)]) := by kernel_rfl
theorem run_top_010 (K : Kd) (x y : F) (up : Bool) : valR ((run Try.prog EG (OGK K) 100).1 45 [.fl x, .fl y, .b up] [] (some [true, false, false, true, true, false])) = some (kP K y x false false up false, some [], obK K false false y x ++ ob_top K x y ++ [(K.sg y, false), (K.sg x, true)]) := by kernel_rfl
theorem run_top_011 (K : Kd) (x y : F) (up : Bool) : valR ((run Try.prog EG (OGK K) 100).1 45 [.fl x, .fl y, .b up] [] (some [true, true, false, true, true, false])) = some (kP K y x true false up true, some [], obK K true false y x ++ ob_top K x y ++ [(K.sg y, true), (K.sg x, true)]) := by kernel_rfl
theorem run_top_100 (K : Kd) (x y : F) (up : Bool) : valR ((run Try.prog EG (OGK K) 100).1 45 [.fl x, .fl y, .b up] [] (some [false, false, false, true, true, true])) = some (kP K y x true true up false, some [], obK K true true y x ++ ob_top K x y ++ [(K.sg y, false), (K.sg x, false)]) := by kernel_rfl
theorem run_top_101 (K : Kd) (x y : F) (up : Bool) : valR ((run Try.prog EG (OGK K) 100).1 45 [.fl x, .fl y, .b up] [] (some [false, true, false, true, true, true])) = some (kP K y x false true up true, some [], obK K false true y x ++ ob_top K x y ++ [(K.sg y, true), (K.sg x, false)]) := by kernel_rfl
theorem run_top_110 (K : Kd) (x y : F) (up : Bool) : valR ((run Try.prog EG (OGK K) 100).1 45 [.fl x, .fl y, .b up] [] (some [true, false, false, true, true, true])) = some (kP K y x false true up false, some [], obK K false true y x ++ ob_top K x y ++ [(K.sg y, false), (K.sg x, true)]) := by kernel_rfl
theorem run_top_111 (K : Kd) (x y : F) (up : Bool) : valR ((run Try.prog EG (OGK K) 100).1 45 [.fl x, .fl y, .b up] [] (some [true, true, false, true, true, true])) = some (kP K y x true true up true, some [], obK K true true y x ++ ob_top K x y ++ [(K.sg y, true), (K.sg x, true)]) := by kernel_rfl
theorem add_top (x y : F) (up : Bool) (h : Fst y x) (ho : obsB (ob_top KR x y) = true) (w : World) :
    Calls Try.prog 45 #[.float .f64 x.b, .float .f64 y.b, .bool up] w fun e w' => e = .returned (.tuple #[.float .f64 (dAdd up x y).1.b, .int .i64 (dAdd up x y).2]) ∧ Below w.heap.size w w' := by
  have hv := add_val up h
  rw [dAdd_comm] at hv
  have hk : ∀ same, obsB (obA same (moreN (mn x) (ex y - ex x)) y x) = true := fun same => obA_ok same h
  have hob : ∀ s m p q, obsB (obA s m y x) = true → sg y = q → sg x = p → obsB (obK KR s m y x ++ ob_top KR x y ++ [(KR.sg y, q), (KR.sg x, p)]) = true := by
    intro s m p q h1 h2 h3
    rw [obsB_app, obsB_app, obK_R, h1, ho]
    exact obsB_yes h2 (obsB_yes h3 obsB_nil)
  cases hm : moreN (mn x) (ex y - ex x) <;> cases hx : sg x <;> cases hy : sg y <;> rw [hm] at hk hv <;> rw [hx, hy] at hv
  · exact addRun x y y x up (run_top_000 KR x y up) (hob _ _ _ _ (hk _) hy hx) hv w
  · exact addRun x y y x up (run_top_001 KR x y up) (hob _ _ _ _ (hk _) hy hx) hv w
  · exact addRun x y y x up (run_top_010 KR x y up) (hob _ _ _ _ (hk _) hy hx) hv w
  · exact addRun x y y x up (run_top_011 KR x y up) (hob _ _ _ _ (hk _) hy hx) hv w
  · exact addRun x y y x up (run_top_100 KR x y up) (hob _ _ _ _ (hk _) hy hx) hv w
  · exact addRun x y y x up (run_top_101 KR x y up) (hob _ _ _ _ (hk _) hy hx) hv w
  · exact addRun x y y x up (run_top_110 KR x y up) (hob _ _ _ _ (hk _) hy hx) hv w
  · exact addRun x y y x up (run_top_111 KR x y up) (hob _ _ _ _ (hk _) hy hx) hv w
def ob_eq (K : Kd) (x y : F) : Obs := [gtK (K.mn y) (K.mn x) false, eqK (K.ex y) (K.ex x) true, gtK (K.ex y) (K.ex x) false]
theorem run_eq_000 (K : Kd) (x y : F) (up : Bool) : valR ((run Try.prog EG (OGK K) 100).1 45 [.fl x, .fl y, .b up] [] (some [false, false, false, true, false, false])) = some (kP K x y true false up false, some [], obK K true false x y ++ ob_eq K x y ++ [(K.sg y, false), (K.sg x, false)]) := by kernel_rfl
theorem run_eq_001 (K : Kd) (x y : F) (up : Bool) : valR ((run Try.prog EG (OGK K) 100).1 45 [.fl x, .fl y, .b up] [] (some [false, true, false, true, false, false])) = some (kP K x y false false up false, some [], obK K false false x y ++ ob_eq K x y ++ [(K.sg y, true), (K.sg x, false)]) := by kernel_rfl
theorem run_eq_010 (K : Kd) (x y : F) (up : Bool) : valR ((run Try.prog EG (OGK K) 100).1 45 [.fl x, .fl y, .b up] [] (some [true, false, false, true, false, false])) = some (kP K x y false false up true, some [], obK K false false x y ++ ob_eq K x y ++ [(K.sg y, false), (K.sg x, true)]) := by kernel_rfl
theorem run_eq_011 (K : Kd) (x y : F) (up : Bool) : valR ((run Try.prog EG (OGK K) 100).1 45 [.fl x, .fl y, .b up] [] (some [true, true, false, true, false, false])) = some (kP K x y true false up true, some [], obK K true false x y ++ ob_eq K x y ++ [(K.sg y, true), (K.sg x, true)]) := by kernel_rfl
theorem run_eq_100 (K : Kd) (x y : F) (up : Bool) : valR ((run Try.prog EG (OGK K) 100).1 45 [.fl x, .fl y, .b up] [] (some [false, false, false, true, false, true])) = some (kP K x y true true up false, some [], obK K true true x y ++ ob_eq K x y ++ [(K.sg y, false), (K.sg x, false)]) := by kernel_rfl
theorem run_eq_101 (K : Kd) (x y : F) (up : Bool) : valR ((run Try.prog EG (OGK K) 100).1 45 [.fl x, .fl y, .b up] [] (some [false, true, false, true, false, true])) = some (kP K x y false true up false, some [], obK K false true x y ++ ob_eq K x y ++ [(K.sg y, true), (K.sg x, false)]) := by kernel_rfl
theorem run_eq_110 (K : Kd) (x y : F) (up : Bool) : valR ((run Try.prog EG (OGK K) 100).1 45 [.fl x, .fl y, .b up] [] (some [true, false, false, true, false, true])) = some (kP K x y false true up true, some [], obK K false true x y ++ ob_eq K x y ++ [(K.sg y, false), (K.sg x, true)]) := by kernel_rfl
theorem run_eq_111 (K : Kd) (x y : F) (up : Bool) : valR ((run Try.prog EG (OGK K) 100).1 45 [.fl x, .fl y, .b up] [] (some [true, true, false, true, false, true])) = some (kP K x y true true up true, some [], obK K true true x y ++ ob_eq K x y ++ [(K.sg y, true), (K.sg x, true)]) := by kernel_rfl
theorem add_eq (x y : F) (up : Bool) (h : Fst x y) (ho : obsB (ob_eq KR x y) = true) (w : World) :
    Calls Try.prog 45 #[.float .f64 x.b, .float .f64 y.b, .bool up] w fun e w' => e = .returned (.tuple #[.float .f64 (dAdd up x y).1.b, .int .i64 (dAdd up x y).2]) ∧ Below w.heap.size w w' := by
  have hv := add_val up h
  have hk : ∀ same, obsB (obA same (moreN (mn y) (ex x - ex y)) x y) = true := fun same => obA_ok same h
  have hob : ∀ s m p q, obsB (obA s m x y) = true → sg y = q → sg x = p → obsB (obK KR s m x y ++ ob_eq KR x y ++ [(KR.sg y, q), (KR.sg x, p)]) = true := by
    intro s m p q h1 h2 h3
    rw [obsB_app, obsB_app, obK_R, h1, ho]
    exact obsB_yes h2 (obsB_yes h3 obsB_nil)
  cases hm : moreN (mn y) (ex x - ex y) <;> cases hx : sg x <;> cases hy : sg y <;> rw [hm] at hk hv <;> rw [hx, hy] at hv
  · exact addRun x y x y up (run_eq_000 KR x y up) (hob _ _ _ _ (hk _) hy hx) hv w
  · exact addRun x y x y up (run_eq_001 KR x y up) (hob _ _ _ _ (hk _) hy hx) hv w
  · exact addRun x y x y up (run_eq_010 KR x y up) (hob _ _ _ _ (hk _) hy hx) hv w
  · exact addRun x y x y up (run_eq_011 KR x y up) (hob _ _ _ _ (hk _) hy hx) hv w
  · exact addRun x y x y up (run_eq_100 KR x y up) (hob _ _ _ _ (hk _) hy hx) hv w
  · exact addRun x y x y up (run_eq_101 KR x y up) (hob _ _ _ _ (hk _) hy hx) hv w
  · exact addRun x y x y up (run_eq_110 KR x y up) (hob _ _ _ _ (hk _) hy hx) hv w
  · exact addRun x y x y up (run_eq_111 KR x y up) (hob _ _ _ _ (hk _) hy hx) hv w

theorem add_F_w (x y : F) (up : Bool) (w : World) :
    Calls Try.prog 45 #[.float .f64 x.b, .float .f64 y.b, .bool up] w fun e w' => e = .returned (.tuple #[.float .f64 (dAdd up x y).1.b, .int .i64 (dAdd up x y).2]) ∧ Below w.heap.size w w' := by
  by_cases h1 : ex x < ex y
  · exact add_far x y up (Or.inl h1) (obsB_yes (decide_eq_true (show (ex y : Int) - 1074 > (ex x : Int) - 1074 by omega)) obsB_nil) w
  · have g1 := decide_eq_false (show ¬ (ex y : Int) - 1074 > (ex x : Int) - 1074 by omega)
    by_cases h2 : ex y = ex x
    · have g2 := decide_eq_true (show (ex y : Int) - 1074 = (ex x : Int) - 1074 by omega)
      by_cases h3 : mn x < mn y
      · exact add_top x y up (Or.inr ⟨h2, by omega⟩) (obsB_yes (decide_eq_true (show ((mn y : Nat) : Int) > ((mn x : Nat) : Int) by omega)) (obsB_yes g2 (obsB_yes g1 obsB_nil))) w
      · exact add_eq x y up (Or.inr ⟨h2.symm, by omega⟩) (obsB_yes (decide_eq_false (show ¬ ((mn y : Nat) : Int) > ((mn x : Nat) : Int) by omega)) (obsB_yes g2 (obsB_yes g1 obsB_nil))) w
    · have g2 := decide_eq_false (show ¬ (ex y : Int) - 1074 = (ex x : Int) - 1074 by omega)
      exact add_low x y up (Or.inl (by omega)) (obsB_yes g2 (obsB_yes g1 obsB_nil)) w
end Go.Proofs.Ytiipaicbbmkagaa
