/- Package dir by the reckoner: Sqrt. Package dir by the reckoner: Sqrt, whole. Draws on the unit interval, walked: unit.Of. Roots of intervals, and draws on the unit interval, by the reckoner. Package cosine by the reckoner: Draw, Mid. -/
import Derived.Test.YtlhlcefkmhhmjaaGreatZ11
import Derived.Test.YtlhlcefkmhhmjaaGreatZ08
import Derived.Test.YtlhlcefkmhhmjaaGreatZ06
import Derived.Test.YtlhlcefkmhhmjaaGreatZ10
import Derived.Test.YtlhlcefkmhhmjaaGreatZ16
import Derived.Test.YtlhlcefkmhhmjaaGreatZ09
import Derived.Test.YtlhlcefkmhhmjaaGreatZ15
namespace Go.Proofs.YtlhlcefkmhhmjaaGreat
set_option linter.all false
open Go.RowKit Bu Rx

structure Ks where
  lt : Int → Int → Int → Int → Bool
  h : Int → Int
  l : Int → Int
  u : Int → Bool
def kLess (K : Ks) : List SV → Dec → Option (SV × Dec × Obs)
  | [.agg [x, y], .agg [z, t]], ds => match intS x, intS y, intS z, intS t with
    | some (.u64, a), some (.u64, b), some (.u64, c), some (.u64, d) => (takeB ds (K.lt a b c d)).map fun r => (.b r.1, r.2.1, r.2.2)
    | _, _, _, _ => none
  | _, _ => none
def kSq (K : Ks) : List SV → Dec → Option (SV × Dec × Obs)
  | [x], ds => match intS x with
    | some (.u64, a) => some (.agg [.si .u64 (K.h a), .si .u64 (K.l a)], ds, [(K.u a, true)])
    | _ => none
  | _, _ => none
def OGS (K : Kd) (J : Ks) (L : Int → Int) : OracleF :=
  lookO [(50, plainO oRight), (69, plainO (kParts K)), (72, plainO (kRound K)), (70, plainO (kLz L K.u)), (110, plainO (kDown K)), (130, plainO (kLess J)), (131, plainO (kSq J))]
noncomputable def cS : Code := bodyOf Tryz.prog 114
noncomputable def cL : Code := seqL (seqR (seqR (seqR (seqR (seqR (seqR (seqR cS)))))))
/-- a round -/
noncomputable def cR : Code := inner (inner (seqR cL))
/-- all that stands there at the loop's head -/
def sT (v w : Nat → SV) (x b : SV) : List SV := [v 0, v 1, v 2, v 3, v 4, v 5, v 6, v 7, v 8, v 9, .p 0 0, x, b, v 10, v 11, v 12, v 13, v 14, v 15, v 16, v 17, v 18, v 19, v 20, v 21, v 22, v 23, v 24, v 25, v 26, v 27, v 28, v 29, v 30, v 31, v 32, v 33, v 34, v 35, v 36, v 37, v 38, v 39, v 40, v 41, v 42, v 43, v 44, v 45] ++ (List.range 27).map w
def sS (v w : Nat → SV) (x b : SV) (M : List Blk) (ds : Dec) (ob : Obs) : St := ⟨sT v w x b, M, ds, ob⟩
def afterW (r : Option (Ex × St)) : Nat → SV := fun i => match r with | some (_, s) => s.T.getD (i + 49) .np | none => .np
def orI (x b : Int) : Int := IntKind.u64.wrap ↑(BitVec.ofInt IntKind.u64.bits x ||| BitVec.ofInt IntKind.u64.bits b).toNat
def shI (b : Int) : Int := b.fdiv (2 ^ min (Int.toNat 1) IntKind.u64.bits)
def nM (a b : SV) : List Blk := [⟨110, [a, b]⟩]

theorem round_no (K : Kd) (J : Ks) (L : Int → Int) (n : Nat) (v w : Nat → SV) (x b N1 N2 : Int) (d : List Bool) (ob : Obs) :
    (run Tryz.prog EG (OGS K J L) (n + 20)).2 cR (sS v w (.si .u64 x) (.si .u64 b) (nM (.si .u64 N1) (.si .u64 N2)) (some (true :: true :: d)) ob) =
      some (.normal, sS v (afterW ((run Tryz.prog EG (OGS K J L) (n + 20)).2 cR (sS v w (.si .u64 x) (.si .u64 b) (nM (.si .u64 N1) (.si .u64 N2)) (some (true :: true :: d)) ob))) (.si .u64 x) (.si .u64 (shI b)) (nM (.si .u64 N1) (.si .u64 N2)) (some d)
        ((J.lt N1 N2 (J.h (orI x b)) (J.l (orI x b)), true) :: (J.u (orI x b), true) :: (decide (b > 0), true) :: ob)) := by kernel_rfl
theorem round_yes (K : Kd) (J : Ks) (L : Int → Int) (n : Nat) (v w : Nat → SV) (x b N1 N2 : Int) (d : List Bool) (ob : Obs) :
    (run Tryz.prog EG (OGS K J L) (n + 20)).2 cR (sS v w (.si .u64 x) (.si .u64 b) (nM (.si .u64 N1) (.si .u64 N2)) (some (true :: false :: d)) ob) =
      some (.normal, sS v (afterW ((run Tryz.prog EG (OGS K J L) (n + 20)).2 cR (sS v w (.si .u64 x) (.si .u64 b) (nM (.si .u64 N1) (.si .u64 N2)) (some (true :: false :: d)) ob))) (.si .u64 (orI x b)) (.si .u64 (shI b)) (nM (.si .u64 N1) (.si .u64 N2)) (some d)
        ((J.lt N1 N2 (J.h (orI x b)) (J.l (orI x b)), false) :: (J.u (orI x b), true) :: (decide (b > 0), true) :: ob)) := by kernel_rfl
def idB : Code → Nat | .block i _ => i | _ => 0
noncomputable def iB : Nat := idB (seqR cL)
theorem round_end (K : Kd) (J : Ks) (L : Int → Int) (n : Nat) (v w : Nat → SV) (x b N1 N2 : Int) (d : List Bool) (ob : Obs) :
    (run Tryz.prog EG (OGS K J L) (n + 20)).2 cR (sS v w (.si .u64 x) (.si .u64 b) (nM (.si .u64 N1) (.si .u64 N2)) (some (false :: d)) ob) =
      some (.exit iB, sS v (afterW ((run Tryz.prog EG (OGS K J L) (n + 20)).2 cR (sS v w (.si .u64 x) (.si .u64 b) (nM (.si .u64 N1) (.si .u64 N2)) (some (false :: d)) ob))) (.si .u64 x) (.si .u64 b) (nM (.si .u64 N1) (.si .u64 N2)) (some d)
        ((decide (b > 0), false) :: ob)) := by kernel_rfl
def lessI (a b c d : Int) : Bool := decide (a < c) || (decide (a = c) && decide (b < d))
def JR : Ks := ⟨lessI, fun x => mulH x x, fun x => mulL x x, u64B⟩
def OLS (f g : Int → Int → Int) (u : Int → Bool) : OracleF := lookO [(76, plainO (kMul f g u))]
theorem oracleLS : OracleOk Tryz.prog (OLS mulH mulL u64B) := .cons mulG.of (.nil _)
theorem lessRun0 (a b c d : Int) : valR ((run Tryz.prog EG (OLS mulH mulL u64B) 60).1 130 [.agg [.si .u64 a, .si .u64 b], .agg [.si .u64 c, .si .u64 d]] [] (some [true])) = some (.b true, some [], [(decide (a < c), true)]) := by kernel_rfl
theorem lessRun1 (a b c d : Int) : valR ((run Tryz.prog EG (OLS mulH mulL u64B) 60).1 130 [.agg [.si .u64 a, .si .u64 b], .agg [.si .u64 c, .si .u64 d]] [] (some [false, false])) = some (.b false, some [], [(decide (a = c), false), (decide (a < c), false)]) := by kernel_rfl
theorem lessRun2 (a b c d : Int) (h : Bool) : valR ((run Tryz.prog EG (OLS mulH mulL u64B) 60).1 130 [.agg [.si .u64 a, .si .u64 b], .agg [.si .u64 c, .si .u64 d]] [] (some [false, true, h])) = some (.b h, some [], [(decide (b < d), h), (decide (a = c), true), (decide (a < c), false)]) := by cases h <;> kernel_rfl
theorem sqRun (f g : Int → Int → Int) (u : Int → Bool) (a : Int) : valR ((run Tryz.prog EG (OLS f g u) 60).1 131 [.si .u64 a] [] (some [])) = some (.agg [.si .u64 (f a a), .si .u64 (g a a)], some [], [(u a, true), (u a, true)]) := by kernel_rfl
theorem lessG : PlainOk Tryz.prog 130 (kLess JR) := by
  intro args ds x ds' ob h ho
  unfold kLess at h
  split at h
  · rename_i y1 y2 y3 y4
    split at h
    · rename_i a b c d e1 e2 e3 e4
      simp only [Option.map_eq_some_iff, Prod.mk.injEq] at h
      obtain ⟨⟨r, e, o⟩, h1, rfl, rfl, rfl⟩ := h
      have hd : r = lessI a b c d := takeB_ok h1 ho
      refine ⟨[.agg #[.int .u64 a, .int .u64 b], .agg #[.int .u64 c, .int .u64 d]], .bool r, plains_cons (plain_agg (plains_cons (intS_plain e1) (plains_cons (intS_plain e2) plains_nil))) (plains_cons (plain_agg (plains_cons (intS_plain e3) (plains_cons (intS_plain e4) plains_nil))) plains_nil), rfl, fun w => ?_⟩
      subst hd
      cases g1 : decide (a < c)
      · cases g2 : decide (a = c)
        · rw [show lessI a b c d = false from by simp only [lessI, g1, g2, Bool.false_and, Bool.or_false]]
          exact calls_of_val goodG oracleLS 60 (lessRun1 a b c d) (ObsOk.of_B (obsB_yes g2 (obsB_yes g1 obsB_nil))) rfl rfl w
        · rw [show lessI a b c d = decide (b < d) from by simp only [lessI, g1, g2, Bool.true_and, Bool.false_or]]
          exact calls_of_val goodG oracleLS 60 (lessRun2 a b c d _) (ObsOk.of_B (obsB_yes rfl (obsB_yes g2 (obsB_yes g1 obsB_nil)))) rfl rfl w
      · rw [show lessI a b c d = true from by simp only [lessI, g1, Bool.true_or]]
        exact calls_of_val goodG oracleLS 60 (lessRun0 a b c d) (ObsOk.of_B (obsB_yes g1 obsB_nil)) rfl rfl w
    · cases h
  · cases h
theorem squareG : PlainOk Tryz.prog 131 (kSq JR) := by
  intro args ds x ds' ob h ho
  unfold kSq at h
  split at h
  · rename_i y1
    split at h
    · rename_i a e1
      simp only [Option.some.injEq, Prod.mk.injEq] at h
      obtain ⟨rfl, rfl, rfl⟩ := h
      have hu : u64B a = true := ho (JR.u a, true) (by simp)
      exact ⟨[.int .u64 a], _, plains_cons (intS_plain e1) plains_nil, rfl, fun w => calls_of_val goodG oracleLS 60 (sqRun mulH mulL u64B a) (ObsOk.of_B (obsB_yes hu (obsB_yes hu obsB_nil))) rfl rfl w⟩
    · cases h
  · cases h
theorem oracleGS : OracleOk Tryz.prog (OGS KR JR lzI) := .cons rightG.of (.cons partsG.of (.cons roundG.of (.cons lzG.of (.cons downG.of (.cons lessG.of (.cons squareG.of (.nil _)))))))

def chain (P : Program) (E : ExtF) (O : OracleF) (n : Nat) : List Code → St → Option St
  | [], s => some s
  | c :: l, s => match (run P E O n).2 c s with
    | some (.normal, s1) => chain P E O n l s1
    | _ => none
def seqs : List Code → Code → Code
  | [], c => c
  | a :: l, c => .seq a (seqs l c)
theorem chain_suf {P : Program} {E : ExtF} {O : OracleF} {n : Nat} (hP : Rx.Good P E) (hO : OracleOk P O) : ∀ {l : List Code} {s s' : St}, chain P E O n l s = some s' → Suf s.ob s'.ob
  | [], s, s', h => by simp only [chain, Option.some.injEq] at h; subst h; exact Suf.refl _
  | c :: l, s, s', h => by
    unfold chain at h
    split at h
    · rename_i s1 h1
      exact ((run_ok hP hO n).2.1 _ _ _ _ h1).1.trans (chain_suf hP hO h)
    · cases h
theorem chain_ok {P : Program} {E : ExtF} {O : OracleF} {n : Nat} (hP : Rx.Good P E) (hO : OracleOk P O) : ∀ {l : List Code} {s s' : St} {c : Code} {ex : Ex} {s2 : St}, chain P E O n l s = some s' → ObsOk s'.ob → RunsTo P c s' ex s2 → RunsTo P (seqs l c) s ex s2
  | [], s, s', c, ex, s2, h, _, k => by simp only [chain, Option.some.injEq] at h; subst h; exact k
  | c1 :: l, s, s', c, ex, s2, h, ho, k => by
    unfold chain at h
    split at h
    · rename_i s1 h1
      exact (RunsTo.of hP hO h1 ((chain_suf hP hO h).ok ho)).seq (chain_ok hP hO h ho k)
    · cases h
noncomputable def cHs : List Code := [seqL cS, seqL (seqR cS), seqL (seqR (seqR cS)), seqL (seqR (seqR (seqR cS))), seqL (seqR (seqR (seqR (seqR cS)))), seqL (seqR (seqR (seqR (seqR (seqR cS))))), seqL (seqR (seqR (seqR (seqR (seqR (seqR cS))))))]
noncomputable def cB : Code := seqR (seqR (seqR (seqR (seqR (seqR (seqR (seqR cS)))))))
theorem cS_eq : cS = seqs cHs (.seq (.seq (seqL cL) (.block iB (.loop cR))) cB) := by kernel_rfl
noncomputable def sA (x : F) (up : Bool) (d : List Bool) : St := ⟨[.fl x, .b up] ++ List.replicate 74 (.tup []), [], some d, []⟩
noncomputable def hS (K : Kd) (J : Ks) (L : Int → Int) (x : F) (up : Bool) (d : List Bool) : Option St := chain Tryz.prog EG (OGS K J L) 40 cHs (sA x up d)
noncomputable def hL (K : Kd) (J : Ks) (L : Int → Int) (x : F) (up : Bool) (d : List Bool) : Option St := chain Tryz.prog EG (OGS K J L) 40 (cHs ++ [seqL cL]) (sA x up d)
def tOf (r : Option St) (i : Nat) : SV := match r with | some s => s.T.getD i .np | none => .np
def vH (r : Option St) (i : Nat) : SV := tOf r (if Nat.blt i 10 then i else i + 3)
def wH (r : Option St) (i : Nat) : SV := tOf r (i + 49)
end Go.Proofs.YtlhlcefkmhhmjaaGreat
namespace Go.Proofs.YtlhlcefkmhhmjaaGreat
set_option linter.all false
open Go.RowKit Bu Rx

def nS (K : Kd) (L : Int → Int) (x : F) : Int := IntKind.u64.wrap (K.mn x * 2 ^ min (L (K.mn x)).toNat IntKind.u64.bits)
def eS (K : Kd) (L : Int → Int) (x : F) : Int := IntKind.i64.wrap (IntKind.i64.wrap (K.ex x - L (K.mn x)) - 64)
def ob4 (K : Kd) (L : Int → Int) (x : F) (odd : Bool) : Obs := [(!((eS K L x).tmod 2 == 0), odd), (decide (0 ≤ L (K.mn x)), true), (K.u (K.mn x), true), (K.sg x, false), (decide (x.k = (toF 0).k), false), (decide (x.k < (toF 0).k), false)]
theorem headE (K : Kd) (J : Ks) (L : Int → Int) (x : F) (up : Bool) : hL K J L x up [false, false, false, false] = some (sS (vH (hL K J L x up [false, false, false, false])) (wH (hL K J L x up [false, false, false, false])) (.i .u64 0) (.i .u64 9223372036854775808) (nM (.si .u64 (nS K L x)) (.i .u64 0)) (some []) (ob4 K L x false)) := by kernel_rfl
theorem headO (K : Kd) (J : Ks) (L : Int → Int) (x : F) (up : Bool) : hL K J L x up [false, false, false, true, false] = some (sS (vH (hL K J L x up [false, false, false, true, false])) (wH (hL K J L x up [false, false, false, true, false])) (.i .u64 0) (.i .u64 9223372036854775808) (nM (.si .u64 (K.dh (nS K L x) 0 1)) (.si .u64 (K.dl (nS K L x) 0 1))) (some [])
  ([(K.u (nS K L x), true), (K.u 0, true), (K.dn 1, true), (K.dm (nS K L x) 0 1, false)] ++ ob4 K L x true)) := by kernel_rfl
def retR (P : Program) (fn : Func) (r : Option (Ex × St)) : Option (SV × Obs) :=
  match r with
  | some (.ret, s) => match resultS P fn s with
    | some x => some (x, s.ob)
    | none => none
  | _ => none
def obT (K : Kd) (J : Ks) (X N1 N2 e : Int) (m : Bool) : Obs := [(K.u 0, true), (K.u X, true), (K.re e, true), (!(J.h X == N1 && (J.l X == N2 && true)), m), (J.u X, true)]
theorem tailE (K : Kd) (J : Ks) (L : Int → Int) (x : F) (up : Bool) (w : Nat → SV) (X N1 N2 : Int) (m : Bool) :
    retR Tryz.prog Tryz.f114 ((run Tryz.prog EG (OGS K J L) 40).2 cB (sS (vH (hL K J L x up [false, false, false, false])) w (.si .u64 X) (.si .u64 0) (nM (.si .u64 N1) (.si .u64 N2)) (some [m]) [])) =
      some (.tup [.fl (K.rF false 0 X m (IntKind.i64.wrap ((eS K L x).tdiv 2)) up), .si .i64 (K.rI false 0 X m (IntKind.i64.wrap ((eS K L x).tdiv 2)) up)], obT K J X N1 N2 (IntKind.i64.wrap ((eS K L x).tdiv 2)) m) := by cases m <;> kernel_rfl
theorem tailO (K : Kd) (J : Ks) (L : Int → Int) (x : F) (up : Bool) (w : Nat → SV) (X N1 N2 : Int) (m : Bool) :
    retR Tryz.prog Tryz.f114 ((run Tryz.prog EG (OGS K J L) 40).2 cB (sS (vH (hL K J L x up [false, false, false, true, false])) w (.si .u64 X) (.si .u64 0) (nM (.si .u64 N1) (.si .u64 N2)) (some [m]) [])) =
      some (.tup [.fl (K.rF false 0 X m (IntKind.i64.wrap ((IntKind.i64.wrap (eS K L x + 1)).tdiv 2)) up), .si .i64 (K.rI false 0 X m (IntKind.i64.wrap ((IntKind.i64.wrap (eS K L x + 1)).tdiv 2)) up)], obT K J X N1 N2 (IntKind.i64.wrap ((IntKind.i64.wrap (eS K L x + 1)).tdiv 2)) m) := by cases m <;> kernel_rfl
theorem sqRun0 (K : Kd) (J : Ks) (L : Int → Int) (x : F) (up : Bool) : valR ((run Tryz.prog EG (OGS K J L) 60).1 114 [.fl x, .b up] [] (some [true])) = some (.tup [.fl F.zero, .i .i64 12], some [], [(decide (x.k < (toF 0).k), true)]) := by kernel_rfl
theorem sqRun1 (K : Kd) (J : Ks) (L : Int → Int) (x : F) (up : Bool) : valR ((run Tryz.prog EG (OGS K J L) 60).1 114 [.fl x, .b up] [] (some [false, true])) = some (.tup [.fl F.zero, .i .i64 0], some [], [(decide (x.k = (toF 0).k), true), (decide (x.k < (toF 0).k), false)]) := by kernel_rfl

theorem u64_bits : IntKind.u64.bits = 64 := rfl
theorem orI_add {a k : Nat} (h : a * 2 ^ (k + 1) + 2 ^ k < 18446744073709551616) : orI ((a * 2 ^ (k + 1) : Nat) : Int) ((2 ^ k : Nat) : Int) = ((a * 2 ^ (k + 1) + 2 ^ k : Nat) : Int) := by
  have e1 : a * 2 ^ (k + 1) + 2 ^ k = a * 2 ^ (k + 1) ||| 2 ^ k := by
    rw [Nat.mul_comm]
    exact Nat.two_pow_add_eq_or_of_lt (Nat.pow_lt_pow_right (by omega) (by omega)) a
  have h1 : a * 2 ^ (k + 1) < 2 ^ 64 := Nat.lt_of_le_of_lt (Nat.le_add_right _ _) h
  have h2 : 2 ^ k < 2 ^ 64 := Nat.lt_of_le_of_lt (Nat.le_add_left _ _) h
  unfold orI
  rw [u64_bits, BitVec.toNat_or, BitVec.ofInt_natCast, BitVec.ofInt_natCast, BitVec.toNat_ofNat, BitVec.toNat_ofNat, Nat.mod_eq_of_lt h1, Nat.mod_eq_of_lt h2, ← e1, IntKind.wrap_u64]
  generalize a * 2 ^ (k + 1) + 2 ^ k = y at *
  omega
theorem shI_half (b : Nat) : shI (b : Int) = ((b / 2 : Nat) : Int) := by
  unfold shI
  rw [u64_bits, show min (Int.toNat 1) 64 = 1 from rfl, Int.pow_succ, Int.pow_zero, Int.one_mul]
  rw [Int.fdiv_eq_ediv_of_nonneg _ (by omega)]
  omega
theorem lessI_wn {N1 N2 : Int} {m : Nat} (a1 : 0 ≤ N1) (a2 : 0 ≤ N2 ∧ N2 ≤ 18446744073709551615) : lessI N1 N2 (hi m) (lo m) = decide (wn N1 N2 < m) := by
  unfold lessI wn hi lo
  rw [Bool.eq_iff_iff]
  simp only [Bool.or_eq_true, Bool.and_eq_true, decide_eq_true_eq]
  omega
theorem mulI (y : Nat) : mulH (y : Int) (y : Int) = hi (y * y) ∧ mulL (y : Int) (y : Int) = lo (y * y) := by
  unfold mulH mulL
  rw [Int.toNat_natCast]; exact ⟨rfl, rfl⟩
theorem rounds_ok {N1 N2 : Int} {n : Nat} (a1 : 0 ≤ N1) (a2 : 0 ≤ N2 ∧ N2 ≤ 18446744073709551615) (hn : wn N1 N2 = n) : ∀ (k x : Nat), (∃ a, x = a * 2 ^ k) → x + 2 ^ k ≤ 18446744073709551616 → ∀ (v w : Nat → SV) (d : Dec) (o : Obs),
    ∃ w', RoundsTo Tryz.prog cR (k + 1) (sS v w (.si .u64 (x : Int)) (.si .u64 ((2 ^ k / 2 : Nat) : Int)) (nM (.si .u64 N1) (.si .u64 N2)) d o) (.exit iB) (sS v w' (.si .u64 ((rootB n k x : Nat) : Int)) (.si .u64 0) (nM (.si .u64 N1) (.si .u64 N2)) none [])
  | 0, x, _, _, v, w, d, o => by
    have h := round_end KR JR lzI 20 v w (x : Int) ((2 ^ 0 / 2 : Nat) : Int) N1 N2 [] []
    have hr := RunsTo.of goodG oracleGS h (ObsOk.of_B (obsB_yes (by decide) obsB_nil))
    exact ⟨_, RoundsTo.out ((hr.fin (SameSt.same _ _ none _ [] _)).retell (SameSt.same _ _ _ _ _ _))⟩
  | k + 1, x, ha, hx, v, w, d, o => by
    obtain ⟨a, rfl⟩ := ha
    have hp := pow_pos' k
    have e2 : (2:Nat) ^ (k + 1) = 2 ^ k + 2 ^ k := by rw [Nat.pow_succ]; omega
    have hy : a * 2 ^ (k + 1) + 2 ^ k < 18446744073709551616 := by omega
    have eb : (2:Nat) ^ (k + 1) / 2 = 2 ^ k := by omega
    have eo := orI_add hy
    have es := shI_half (2 ^ k)
    have hlt : (a * 2 ^ (k + 1) + 2 ^ k) * (a * 2 ^ (k + 1) + 2 ^ k) < W128 := by
      have e : W128 = 18446744073709551616 * 18446744073709551616 := rfl
      rw [e]; exact Nat.mul_lt_mul'' hy hy
    have el : lessI N1 N2 (mulH ((a * 2 ^ (k + 1) + 2 ^ k : Nat) : Int) ((a * 2 ^ (k + 1) + 2 ^ k : Nat) : Int)) (mulL ((a * 2 ^ (k + 1) + 2 ^ k : Nat) : Int) ((a * 2 ^ (k + 1) + 2 ^ k : Nat) : Int)) = decide (n < (a * 2 ^ (k + 1) + 2 ^ k) * (a * 2 ^ (k + 1) + 2 ^ k)) := by
      rw [(mulI _).1, (mulI _).2, lessI_wn a1 a2, hn]
    have el2 : JR.lt N1 N2 (JR.h ((a * 2 ^ (k + 1) + 2 ^ k : Nat) : Int)) (JR.l ((a * 2 ^ (k + 1) + 2 ^ k : Nat) : Int)) = decide (n < (a * 2 ^ (k + 1) + 2 ^ k) * (a * 2 ^ (k + 1) + 2 ^ k)) := el
    have hu : u64B ((a * 2 ^ (k + 1) + 2 ^ k : Nat) : Int) = true := u64_mk (by omega) (by omega)
    have hb : decide (((2 ^ k : Nat) : Int) > 0) = true := decide_eq_true (by omega)
    rw [eb]
    by_cases c : (a * 2 ^ (k + 1) + 2 ^ k) * (a * 2 ^ (k + 1) + 2 ^ k) ≤ n
    · have h := round_yes KR JR lzI 20 v w ((a * 2 ^ (k + 1) : Nat) : Int) ((2 ^ k : Nat) : Int) N1 N2 [] []
      rw [eo, es] at h
      have hr := RunsTo.of goodG oracleGS h (ObsOk.of_B (obsB_yes (el2.trans (decide_eq_false (Nat.not_lt.2 c))) (obsB_yes hu (obsB_yes hb obsB_nil))))
      obtain ⟨w', hw⟩ := rounds_ok a1 a2 hn k (a * 2 ^ (k + 1) + 2 ^ k) ⟨2 * a + 1, by rw [Nat.pow_succ, Nat.add_mul, Nat.one_mul, Nat.mul_comm 2 a, Nat.mul_assoc, Nat.mul_comm 2 (2 ^ k)]⟩ (by omega) v _ (some []) _
      refine ⟨w', ?_⟩
      rw [show rootB n (k + 1) (a * 2 ^ (k + 1)) = rootB n k (a * 2 ^ (k + 1) + 2 ^ k) from by rw [rootB, if_pos c]]
      exact RoundsTo.next (hr.retell (SameSt.same _ _ _ _ _ _)) hw
    · have h := round_no KR JR lzI 20 v w ((a * 2 ^ (k + 1) : Nat) : Int) ((2 ^ k : Nat) : Int) N1 N2 [] []
      rw [eo, es] at h
      have hr := RunsTo.of goodG oracleGS h (ObsOk.of_B (obsB_yes (el2.trans (decide_eq_true (Nat.not_le.1 c))) (obsB_yes hu (obsB_yes hb obsB_nil))))
      obtain ⟨w', hw⟩ := rounds_ok a1 a2 hn k (a * 2 ^ (k + 1)) ⟨2 * a, by rw [Nat.pow_succ, Nat.mul_comm 2 a, Nat.mul_assoc, Nat.mul_comm 2 (2 ^ k)]⟩ (by omega) v _ (some []) _
      refine ⟨w', ?_⟩
      rw [show rootB n (k + 1) (a * 2 ^ (k + 1)) = rootB n k (a * 2 ^ (k + 1)) from by rw [rootB, if_neg c]]
      exact RoundsTo.next (hr.retell (SameSt.same _ _ _ _ _ _)) hw

theorem dens_mid {m : Nat → Option Nat} {x y : SV} {b c : List SV} (h : den m x = den m y) (hb : dens m b = dens m c) : ∀ a : List SV, dens m (a ++ x :: b) = dens m (a ++ y :: c)
  | [] => by simp only [List.nil_append, dens, h, hb]
  | z :: a => by simp only [List.cons_append, dens, dens_mid h hb a]
theorem den_i (m : Nat → Option Nat) (k : IntKind) (n : Int) : den m (.si k n) = den m (.i k n) := by simp only [den]
theorem same_head (v w : Nat → SV) (c1 c2 : SV) (N1 N2 : Int) (d : Dec) (o : Obs) (h : ∀ m, den m c1 = some (.int .u64 N1)) (h2 : ∀ m, den m c2 = some (.int .u64 N2)) :
    SameSt (sS v w (.si .u64 0) (.si .u64 9223372036854775808) (nM (.si .u64 N1) (.si .u64 N2)) d o) (sS v w (.i .u64 0) (.i .u64 9223372036854775808) (nM c1 c2) d o) := by
  refine ⟨fun m => ?_, rfl, ?_⟩
  · exact dens_mid (den_i m _ _) (dens_mid (a := []) (den_i m _ _) rfl) [v 0, v 1, v 2, v 3, v 4, v 5, v 6, v 7, v 8, v 9, .p 0 0]
  · intro i b hb
    have hi : i = 0 := by
      rcases Nat.lt_or_ge i 1 with h' | h'
      · omega
      · rw [List.getElem?_eq_none (by simpa [sS, nM] using h')] at hb; cases hb
    subst hi
    simp only [sS, nM, List.getElem?_cons_zero, Option.some.injEq] at hb
    subst hb
    refine ⟨_, rfl, rfl, fun m => ?_⟩
    simp only [dens, h, h2, den]
theorem chain_split {P : Program} {E : ExtF} {O : OracleF} {n : Nat} {c : Code} : ∀ {l : List Code} {s s2 : St}, chain P E O n (l ++ [c]) s = some s2 → ∃ s1, chain P E O n l s = some s1 ∧ (run P E O n).2 c s1 = some (.normal, s2)
  | [], s, s2, h => by
    refine ⟨s, rfl, ?_⟩
    simp only [List.nil_append, chain] at h
    split at h
    · rename_i s1 h1
      simp only [Option.some.injEq] at h; subst h; exact h1
    · cases h
  | a :: l, s, s2, h => by
    simp only [List.cons_append, chain] at h
    split at h
    · rename_i s1 h1
      obtain ⟨s3, h3, h4⟩ := chain_split h
      refine ⟨s3, ?_, h4⟩
      simp only [chain, h1]; exact h3
    · cases h
theorem retR_some {P : Program} {fn : Func} {r : Option (Ex × St)} {x : SV} {ob : Obs} (h : retR P fn r = some (x, ob)) : ∃ s, r = some (.ret, s) ∧ resultS P fn s = some x ∧ s.ob = ob := by
  unfold retR at h
  split at h
  · rename_i s
    split at h
    · rename_i y hy
      simp only [Option.some.injEq, Prod.mk.injEq] at h
      obtain ⟨rfl, rfl⟩ := h
      exact ⟨s, rfl, hy, rfl⟩
    · cases h
  · cases h
theorem sqBody : Tryz.f114.body = some cS := by kernel_rfl
/-- whole, out of its pieces -/
theorem sqrt_join {x : F} {up : Bool} {l : List Bool} {c1 c2 : SV} {N1 N2 : Int} {n : Nat} {ob o2 : Obs} {d : Dec} {y : SV} {val : Value} {m : Bool} (a1 : 0 ≤ N1) (a2 : 0 ≤ N2 ∧ N2 ≤ 18446744073709551615) (hn : wn N1 N2 = n)
    (hc1 : ∀ m, den m c1 = some (.int .u64 N1)) (hc2 : ∀ m, den m c2 = some (.int .u64 N2))
    (hh : hL KR JR lzI x up l = some (sS (vH (hL KR JR lzI x up l)) (wH (hL KR JR lzI x up l)) (.i .u64 0) (.i .u64 9223372036854775808) (nM c1 c2) d ob)) (ho : obsB ob = true)
    (ht : ∀ w, retR Tryz.prog Tryz.f114 ((run Tryz.prog EG (OGS KR JR lzI) 40).2 cB (sS (vH (hL KR JR lzI x up l)) w (.si .u64 ((root64 n : Nat) : Int)) (.si .u64 0) (nM (.si .u64 N1) (.si .u64 N2)) (some [m]) [])) = some (y, o2)) (ho2 : obsB o2 = true) (hy : plain y = some val) (w : World) :
    Calls Tryz.prog 114 #[.float .f64 x.b, .bool up] w fun e w' => e = .returned val ∧ Below w.heap.size w w' := by
  generalize vH (hL KR JR lzI x up l) = v at *
  generalize wH (hL KR JR lzI x up l) = w0 at *
  unfold hL at hh
  obtain ⟨s7, h7, h8⟩ := chain_split hh
  have r8 := RunsTo.of goodG oracleGS h8 (ObsOk.of_B ho)
  have o7 : ObsOk s7.ob := ((run_ok goodG oracleGS 40).2.1 _ _ _ _ h8).1.ok (ObsOk.of_B ho)
  obtain ⟨w', hw⟩ := rounds_ok a1 a2 hn 64 0 ⟨0, by simp⟩ (by decide) v w0 d ob
  have rl := RunsTo.block (RunsTo.loop hw)
  have rl2 := rl.retell (t := sS v w0 (.i .u64 0) (.i .u64 9223372036854775808) (nM c1 c2) d ob) (same_head v w0 c1 c2 N1 N2 d ob hc1 hc2)
  obtain ⟨s10, h10, hx, hob⟩ := retR_some (ht w')
  have r10 := (RunsTo.of goodG oracleGS h10 (by rw [hob]; exact ObsOk.of_B ho2)).retell (t := sS v w' (.si .u64 ((root64 n : Nat) : Int)) (.si .u64 0) (nM (.si .u64 N1) (.si .u64 N2)) none []) (SameSt.same _ _ _ _ _ _)
  have all := chain_ok goodG oracleGS h7 o7 ((r8.seq rl2).seq r10)
  rw [← cS_eq] at all
  exact calls_of_runs (args := [.fl x, .b up]) (vs := [.float .f64 x.b, .bool up]) Tryz.func114 sqBody (all.retell (SameSt.same _ _ _ _ _ _)) hx rfl hy w
theorem tm_odd (e : Int) : (!(e.tmod 2 == 0)) = decide (e % 2 ≠ 0) := by
  have h : e.tmod 2 = 0 ↔ e % 2 = 0 := by rw [← Int.dvd_iff_tmod_eq_zero, Int.dvd_iff_emod_eq_zero]
  rw [Bool.eq_iff_iff]
  simp only [Bool.not_eq_true', beq_eq_false_iff_ne, ne_eq, decide_eq_true_eq, h]
theorem td_half {e : Int} (h : e % 2 = 0) : e.tdiv 2 = e / 2 := Int.tdiv_eq_ediv_of_dvd (Int.dvd_iff_emod_eq_zero.2 h)
theorem neq_wn {N1 N2 : Int} {m : Nat} (hm : m < W128) (a1 : 0 ≤ N1 ∧ N1 ≤ 18446744073709551615) (a2 : 0 ≤ N2 ∧ N2 ≤ 18446744073709551615) : (!(hi m == N1 && (lo m == N2 && true))) = decide (m ≠ wn N1 N2) := by
  unfold wn hi lo
  rw [Bool.eq_iff_iff]
  simp only [Bool.not_eq_true', Bool.and_true, Bool.and_eq_false_iff, beq_eq_false_iff_ne, ne_eq, decide_eq_true_eq]
  omega
theorem eS_eq (x : F) : eS KR lzI x = (ex x : Int) - 1074 - nlz (mn x) - 64 := by
  have h1 := ex_le x
  have h3 := nlz_le (mn x)
  unfold eS
  show IntKind.i64.wrap (IntKind.i64.wrap ((ex x : Int) - 1074 - lzI (mn x)) - 64) = _
  rw [lzI_mn, Bu.wrap_small (n := (ex x : Int) - 1074 - nlz (mn x)) (by omega) (by omega), Bu.wrap_small (by omega) (by omega)]
theorem sqrt_F_w (x : F) (up : Bool) (w : World) :
    Calls Tryz.prog 114 #[.float .f64 x.b, .bool up] w fun e w' => e = .returned (.tuple #[.float .f64 (qSqrt up x).1.b, .int .i64 (qSqrt up x).2]) ∧ Below w.heap.size w w' := by
  unfold qSqrt
  by_cases h1 : x.k < 0
  · rw [if_pos h1]
    exact calls_of_val goodG oracleGS 60 (sqRun0 KR JR lzI x up) (ObsOk.of_B (obsB_yes (by rw [zero_k']; exact decide_eq_true h1) obsB_nil)) rfl rfl w
  rw [if_neg h1]
  have n1 : decide (x.k < (toF 0).k) = false := by rw [zero_k']; exact decide_eq_false h1
  by_cases h2 : x.k = 0
  · rw [if_pos h2]
    exact calls_of_val goodG oracleGS 60 (sqRun1 KR JR lzI x up) (ObsOk.of_B (obsB_yes (by rw [zero_k']; exact decide_eq_true h2) (obsB_yes n1 obsB_nil))) rfl rfl w
  rw [if_neg h2]
  have n2 : decide (x.k = (toF 0).k) = false := by rw [zero_k']; exact decide_eq_false h2
  have hpos : 0 < x.k := by omega
  obtain ⟨X, p, q, hP, hX⟩ := sqP hpos
  have hb := norm_bounds (mn_pos h2) (mn_64 x)
  have hM : 9223372036854775808 ≤ divM x ∧ divM x < 18446744073709551616 := hb
  have hS : nS KR lzI x = divM x := nA_eq h2
  have e1 := ex_le x
  have e3 := nlz_le (mn x)
  have hE := eS_eq x
  have hev := sqE_even x
  have hre : -5000 ≤ sqE x / 2 ∧ sqE x / 2 ≤ 5000 := by
    unfold sqE
    split <;> omega
  have hXl : X < 18446744073709551616 := by
    rcases Nat.lt_or_ge X 18446744073709551616 with c | c
    · exact c
    · exfalso
      have k1 := Nat.mul_le_mul c c
      have k2 := hP.root.le
      have k3 : sqN x < W128 := by
        have : W128 = 340282366920938463463374607431768211456 := rfl
        unfold sqN
        split <;> omega
      have e : W128 = 18446744073709551616 * 18446744073709551616 := rfl
      omega
  have hXX : X * X < W128 := by
    have e : W128 = 18446744073709551616 * 18446744073709551616 := rfl
    rw [e]; exact Nat.mul_lt_mul'' hXl hXl
  have uX : u64B ((X : Nat) : Int) = true := u64_mk (by omega) (by omega)
  have lz0 : decide (0 ≤ lzI (KR.mn x)) = true := by
    show decide (0 ≤ lzI (mn x)) = true
    rw [lzI_mn]; exact decide_eq_true (by omega)
  have sg0 : KR.sg x = false := decide_eq_false (by omega)
  have hw0 : ∀ m e, rndG false (wn 0 ((X : Nat) : Int)) m e up = rndG false X m e up := by
    intro m e
    have : wn 0 ((X : Nat) : Int) = X := by unfold wn; rw [Int.toNat_natCast]; omega
    rw [this]
  cases ho : sqO x
  · -- even
    have hN : sqN x = divM x * 18446744073709551616 := by unfold sqN; rw [ho]; rfl
    have hEv : sqE x = (ex x : Int) - 1074 - nlz (mn x) - 64 := by unfold sqE; rw [ho]; rfl
    have hee : IntKind.i64.wrap ((eS KR lzI x).tdiv 2) = sqE x / 2 := by rw [hE, ← hEv, td_half hev, Bu.wrap_small (by omega) (by omega)]
    have hodd : (!((eS KR lzI x).tmod 2 == 0)) = false := by rw [tm_odd, hE, ← hEv]; exact decide_eq_false (by omega)
    have hwn : wn ((divM x : Nat) : Int) 0 = sqN x := by rw [hN]; unfold wn; rw [Int.toNat_natCast, Int.toNat_zero, Nat.add_zero]
    have hh := headE KR JR lzI x up
    rw [hS] at hh
    have hd : dSqrt up x = rndG false (wn 0 ((X : Nat) : Int)) (decide (X * X ≠ sqN x)) (sqE x / 2) up := by rw [hw0]; unfold dSqrt; rw [hX]
    rw [hd]
    refine sqrt_join (o2 := obT KR JR ((X : Nat) : Int) ((divM x : Nat) : Int) 0 (sqE x / 2) (decide (X * X ≠ sqN x))) (y := .tup [.fl (rndG false (wn 0 ((X : Nat) : Int)) (decide (X * X ≠ sqN x)) (sqE x / 2) up).1, .si .i64 (rndG false (wn 0 ((X : Nat) : Int)) (decide (X * X ≠ sqN x)) (sqE x / 2) up).2]) (m := decide (X * X ≠ sqN x)) (n := sqN x) (N1 := ((divM x : Nat) : Int)) (N2 := 0) (by omega) ⟨by omega, by omega⟩ hwn (fun m => by simp only [den]) (fun m => by simp only [den]) hh ?_ (fun w' => ?_) ?_ rfl w
    · exact obsB_yes hodd (obsB_yes lz0 (obsB_yes (mn_u64 x) (obsB_yes sg0 (obsB_yes n2 (obsB_yes n1 obsB_nil)))))
    · rw [hX]
      have := tailE KR JR lzI x up w' ((X : Nat) : Int) ((divM x : Nat) : Int) 0 (decide (X * X ≠ sqN x))
      rw [hee] at this
      exact this
    · refine obsB_yes u64_0 (obsB_yes uX (obsB_yes (decide_eq_true hre) (obsB_yes ?_ (obsB_yes uX obsB_nil))))
      show (!(mulH _ _ == _ && (mulL _ _ == _ && true))) = _
      rw [(mulI X).1, (mulI X).2, neq_wn hXX ⟨by omega, by omega⟩ ⟨by omega, by omega⟩, hwn]
  · -- odd
    have hN : sqN x = divM x * 9223372036854775808 := by unfold sqN; rw [ho]; rfl
    have hEv : sqE x = (ex x : Int) - 1074 - nlz (mn x) - 63 := by unfold sqE; rw [ho]; rfl
    have hee : IntKind.i64.wrap ((IntKind.i64.wrap (eS KR lzI x + 1)).tdiv 2) = sqE x / 2 := by
      rw [hE, Bu.wrap_small (n := (ex x : Int) - 1074 - nlz (mn x) - 64 + 1) (by omega) (by omega), show (ex x : Int) - 1074 - nlz (mn x) - 64 + 1 = sqE x from by omega, td_half hev, Bu.wrap_small (by omega) (by omega)]
    have hodd : (!((eS KR lzI x).tmod 2 == 0)) = true := by rw [tm_odd, hE]; exact decide_eq_true (by omega)
    have hwd : wn ((divM x : Nat) : Int) 0 / 2 ^ (1 : Int).toNat = sqN x ∧ wn ((divM x : Nat) : Int) 0 % 2 ^ (1 : Int).toNat = 0 := by
      rw [hN]; unfold wn; rw [Int.toNat_natCast, show (1 : Int).toNat = 1 from rfl]
      constructor <;> omega
    have hDh : KR.dh (nS KR lzI x) 0 1 = hi (sqN x) := by rw [hS]; show hi (wn _ _ / _) = _; rw [hwd.1]
    have hDl : KR.dl (nS KR lzI x) 0 1 = lo (sqN x) := by rw [hS]; show lo (wn _ _ / _) = _; rw [hwd.1]
    have hDm : KR.dm (nS KR lzI x) 0 1 = false := by rw [hS]; show decide (wn _ _ % _ ≠ 0) = _; rw [hwd.2]; rfl
    have hNl : sqN x < W128 := by
      have : W128 = 340282366920938463463374607431768211456 := rfl
      omega
    have hh := headO KR JR lzI x up
    rw [hDh, hDl] at hh
    have hd : dSqrt up x = rndG false (wn 0 ((X : Nat) : Int)) (decide (X * X ≠ sqN x)) (sqE x / 2) up := by rw [hw0]; unfold dSqrt; rw [hX]
    rw [hd]
    have b1 := hi_nonneg (sqN x)
    have b2 := hi_le _ hNl
    have b3 := lo_nonneg (sqN x)
    have b4 := lo_le (sqN x)
    refine sqrt_join (o2 := obT KR JR ((X : Nat) : Int) (hi (sqN x)) (lo (sqN x)) (sqE x / 2) (decide (X * X ≠ sqN x))) (y := .tup [.fl (rndG false (wn 0 ((X : Nat) : Int)) (decide (X * X ≠ sqN x)) (sqE x / 2) up).1, .si .i64 (rndG false (wn 0 ((X : Nat) : Int)) (decide (X * X ≠ sqN x)) (sqE x / 2) up).2]) (m := decide (X * X ≠ sqN x)) (n := sqN x) (N1 := hi (sqN x)) (N2 := lo (sqN x)) b1 ⟨b3, b4⟩ (wn_back _) (fun m => by simp only [den]) (fun m => by simp only [den]) hh ?_ (fun w' => ?_) ?_ rfl w
    · exact obsB_yes (by rw [hS]; exact u64_mk (by omega) (by omega)) (obsB_yes u64_0 (obsB_yes rfl (obsB_yes hDm (obsB_yes hodd (obsB_yes lz0 (obsB_yes (mn_u64 x) (obsB_yes sg0 (obsB_yes n2 (obsB_yes n1 obsB_nil)))))))))
    · rw [hX]
      have := tailO KR JR lzI x up w' ((X : Nat) : Int) (hi (sqN x)) (lo (sqN x)) (decide (X * X ≠ sqN x))
      rw [hee] at this
      exact this
    · refine obsB_yes u64_0 (obsB_yes uX (obsB_yes (decide_eq_true hre) (obsB_yes ?_ (obsB_yes uX obsB_nil))))
      show (!(mulH _ _ == _ && (mulL _ _ == _ && true))) = _
      rw [(mulI X).1, (mulI X).2, neq_wn hXX ⟨b1, b2⟩ ⟨b3, b4⟩, wn_back]
end Go.Proofs.YtlhlcefkmhhmjaaGreat
namespace Go.Proofs.YtlhlcefkmhhmjaaGreat
set_option linter.all false
open Go.RowKit Bu

end Go.Proofs.YtlhlcefkmhhmjaaGreat
namespace Go.Proofs.YtlhlcefkmhhmjaaGreat
set_option linter.all false
open Go.RowKit Bu Rx

def kOne (f : Bool → F → F × Int) : List SV → Dec → Option (SV × Dec × Obs)
  | [.fl x, .b up], ds => some (.tup [.fl (f up x).1, .si .i64 (f up x).2], ds, [])
  | _, _ => none
theorem sqrtG : PlainOk Tryz.prog 114 (kOne qSqrt) := by
  intro args ds x ds' ob h1 ho
  unfold kOne at h1
  split at h1
  · rename_i x up
    simp only [Option.some.injEq, Prod.mk.injEq] at h1
    obtain ⟨rfl, _, _⟩ := h1
    exact ⟨[.float .f64 x.b, .bool up], _, rfl, rfl, fun w => sqrt_F_w x up w⟩
  · cases h1
def OISq (f : Bool → F → F × Int) : OracleF := lookO [(55, plainO oRt), (114, plainO (kOne f))]
theorem oracleISq : OracleOk Tryz.prog (OISq qSqrt) := .cons irightG.of (.cons sqrtG.of (.nil _))
theorem csqrt_p0 (f : Bool → F → F × Int) (t : Nat) (n : Int) (a b : F) : takeR 1 ((run Tryz.prog EG (OISq f) 60).1 82 (.p 0 0 :: [.agg [.fl a, .fl b]]) [⟨t, [.si .i64 n]⟩] (some [true])) = some (.agg [.fl F.zero, .fl F.zero], [⟨t, [.si .i64 n]⟩], some [], [((!(n == 0)), true)]) := by kernel_rfl
theorem csqrt_p1 (f : Bool → F → F × Int) (t : Nat) (n : Int) (a b : F) : takeR 1 ((run Tryz.prog EG (OISq f) 60).1 82 (.p 0 0 :: [.agg [.fl a, .fl b]]) [⟨t, [.si .i64 n]⟩] (some [false, false])) = some (.agg [.fl F.zero, .fl F.zero], [⟨t, [.i .i64 20]⟩], some [], [(rt ⟨a, b⟩, false), ((!(n == 0)), false)]) := by kernel_rfl
theorem csqrt_p2 (f : Bool → F → F × Int) (t : Nat) (n : Int) (a b : F) : takeR 1 ((run Tryz.prog EG (OISq f) 60).1 82 (.p 0 0 :: [.agg [.fl a, .fl b]]) [⟨t, [.si .i64 n]⟩] (some [false, true, true, true])) = some (.agg [.fl F.zero, .fl F.zero], [⟨t, [.si .i64 (f false a).2]⟩], some [], [((!((f false a).2 == 0)), true), ((!((f false a).2 == 0)), true), (rt ⟨a, b⟩, true), ((!(n == 0)), false)]) := by kernel_rfl
theorem csqrt_p3 (f : Bool → F → F × Int) (t : Nat) (n : Int) (a b : F) : takeR 1 ((run Tryz.prog EG (OISq f) 60).1 82 (.p 0 0 :: [.agg [.fl a, .fl b]]) [⟨t, [.si .i64 n]⟩] (some [false, true, false, true])) = some (.agg [.fl F.zero, .fl F.zero], [⟨t, [.si .i64 (f true b).2]⟩], some [], [((!((f true b).2 == 0)), true), ((!((f false a).2 == 0)), false), (rt ⟨a, b⟩, true), ((!(n == 0)), false)]) := by kernel_rfl
theorem csqrt_p4 (f : Bool → F → F × Int) (t : Nat) (n : Int) (a b : F) : takeR 1 ((run Tryz.prog EG (OISq f) 60).1 82 (.p 0 0 :: [.agg [.fl a, .fl b]]) [⟨t, [.si .i64 n]⟩] (some [false, true, false, false])) = some (.agg [.fl (f false a).1, .fl (f true b).1], [⟨t, [.si .i64 n]⟩], some [], [((!((f true b).2 == 0)), false), ((!((f false a).2 == 0)), false), (rt ⟨a, b⟩, true), ((!(n == 0)), false)]) := by kernel_rfl
theorem csqrt_I : OfOk Tryz.prog 82 (kC (aI (cSqrt qSqrt))) := by
  refine ofI fun a b t n => ?_
  cases h0 : (!(n == 0))
  · cases h1 : rt ⟨a, b⟩
    · exact calc_path goodG oracleISq (csqrt_p1 qSqrt t n a b) (obsB_yes h1 (obsB_yes h0 obsB_nil)) (by simp only [cSqrt, askI, I.zero, h0, h1, cond_true, cond_false]) rfl
    · cases h3 : (!((qSqrt false a).2 == 0))
      · cases h4 : (!((qSqrt true b).2 == 0))
        · exact calc_path goodG oracleISq (csqrt_p4 qSqrt t n a b) (obsB_yes h4 (obsB_yes h3 (obsB_yes h1 (obsB_yes h0 obsB_nil)))) (by simp only [cSqrt, askI, endsI, I.zero, h0, h1, h3, h4, cond_true, cond_false]) rfl
        · exact calc_path goodG oracleISq (csqrt_p3 qSqrt t n a b) (obsB_yes h4 (obsB_yes h3 (obsB_yes h1 (obsB_yes h0 obsB_nil)))) (by simp only [cSqrt, askI, endsI, I.zero, h0, h1, h3, h4, cond_true, cond_false]) rfl
      · exact calc_path goodG oracleISq (csqrt_p2 qSqrt t n a b) (obsB_yes h3 (obsB_yes h3 (obsB_yes h1 (obsB_yes h0 obsB_nil)))) (by simp only [cSqrt, askI, endsI, I.zero, h0, h1, h3, cond_true, cond_false]) rfl
  · exact calc_path goodG oracleISq (csqrt_p0 qSqrt t n a b) (obsB_yes h0 obsB_nil) (by simp only [cSqrt, askI, I.zero, h0, cond_true]) rfl
end Go.Proofs.YtlhlcefkmhhmjaaGreat
namespace Go.Proofs.YtlhlcefkmhhmjaaGreat
set_option linter.all false
open Go.RowKit Bu Rx

end Go.Proofs.YtlhlcefkmhhmjaaGreat
