/- Package dir by the reckoner: Sqrt. Package dir by the reckoner: Sqrt, whole. Package ival by the reckoner: the methods of Calc (written by gencalc.py). Package trig by the reckoner: row, within, at. Package trig by the reckoner: SinCos; and what its laws ask. Draws on the unit interval, walked: unit.Of. Roots of intervals, and draws on the unit interval, by the reckoner. Package cosine by the reckoner: Draw, Mid. -/
import Derived.Test.YtgjohjgmlleebaaGreatL07
import Derived.Test.YtgjohjgmlleebaaGreatL05
import Derived.Test.YtgjohjgmlleebaaGreatL06
import Derived.Test.YtgjohjgmlleebaaGreatL02
namespace Go.Proofs.YtgjohjgmlleebaaGreat
set_option linter.all false
open Go.RowKit Bu Rx

structure Ks where
  lt : Int → Int → Int → Int → Bool
  h : Int → Int
  l : Int → Int
  u : Int → Bool
def kLess (K : Ks) : List SV → Dec → Option (SV × Dec × Obs)
  | [.agg [x, y], .agg [z, t]], ds => match intS x, intS y, intS z, intS t with
    | some (.u64, a), some (.u64, b), some (.u64, c), some (.u64, d) => (takeB ds (K.lt a b c d)).map fun r => (.b r.1, r.2.1, r.2.2)
    | _, _, _, _ => none
  | _, _ => none
def kSq (K : Ks) : List SV → Dec → Option (SV × Dec × Obs)
  | [x], ds => match intS x with
    | some (.u64, a) => some (.agg [.si .u64 (K.h a), .si .u64 (K.l a)], ds, [(K.u a, true)])
    | _ => none
  | _, _ => none
def OGS (K : Kd) (J : Ks) (L : Int → Int) : OracleF :=
  lookO [(74, plainO oRight), (91, plainO (kParts K)), (92, plainO (kRound K)), (157, plainO (kLz L K.u)), (156, plainO (kDown K)), (158, plainO (kLess J)), (159, plainO (kSq J))]
noncomputable def cS : Code := bodyOf Tryz.prog 97
noncomputable def cL : Code := seqL (seqR (seqR (seqR (seqR (seqR (seqR (seqR cS)))))))
/-- a round -/
noncomputable def cR : Code := inner (inner (seqR cL))
/-- all that stands there at the loop's head -/
def sT (v w : Nat → SV) (x b : SV) : List SV := [v 0, v 1, v 2, v 3, v 4, v 5, v 6, v 7, v 8, v 9, .p 0 0, x, b, v 10, v 11, v 12, v 13, v 14, v 15, v 16, v 17, v 18, v 19, v 20, v 21, v 22, v 23, v 24, v 25, v 26, v 27, v 28, v 29, v 30, v 31, v 32, v 33, v 34, v 35, v 36, v 37, v 38, v 39, v 40, v 41, v 42, v 43, v 44, v 45] ++ (List.range 27).map w
def sS (v w : Nat → SV) (x b : SV) (M : List Blk) (ds : Dec) (ob : Obs) : St := ⟨sT v w x b, M, ds, ob⟩
def afterW (r : Option (Ex × St)) : Nat → SV := fun i => match r with | some (_, s) => s.T.getD (i + 49) .np | none => .np
def orI (x b : Int) : Int := IntKind.u64.wrap ↑(BitVec.ofInt IntKind.u64.bits x ||| BitVec.ofInt IntKind.u64.bits b).toNat
def shI (b : Int) : Int := b.fdiv (2 ^ min (Int.toNat 1) IntKind.u64.bits)
def nM (a b : SV) : List Blk := [⟨149, [a, b], .ex⟩]

theorem round_no (K : Kd) (J : Ks) (L : Int → Int) (n : Nat) (v w : Nat → SV) (x b N1 N2 : Int) (d : List Bool) (ob : Obs) :
    (run Tryz.prog EG (OGS K J L) (n + 20)).2 cR (sS v w (.si .u64 x) (.si .u64 b) (nM (.si .u64 N1) (.si .u64 N2)) (some (true :: true :: d)) ob) =
      some (.normal, sS v (afterW ((run Tryz.prog EG (OGS K J L) (n + 20)).2 cR (sS v w (.si .u64 x) (.si .u64 b) (nM (.si .u64 N1) (.si .u64 N2)) (some (true :: true :: d)) ob))) (.si .u64 x) (.si .u64 (shI b)) (nM (.si .u64 N1) (.si .u64 N2)) (some d)
        ((J.lt N1 N2 (J.h (orI x b)) (J.l (orI x b)), true) :: (J.u (orI x b), true) :: (decide (b > 0), true) :: ob)) := by kernel_rfl
theorem round_yes (K : Kd) (J : Ks) (L : Int → Int) (n : Nat) (v w : Nat → SV) (x b N1 N2 : Int) (d : List Bool) (ob : Obs) :
    (run Tryz.prog EG (OGS K J L) (n + 20)).2 cR (sS v w (.si .u64 x) (.si .u64 b) (nM (.si .u64 N1) (.si .u64 N2)) (some (true :: false :: d)) ob) =
      some (.normal, sS v (afterW ((run Tryz.prog EG (OGS K J L) (n + 20)).2 cR (sS v w (.si .u64 x) (.si .u64 b) (nM (.si .u64 N1) (.si .u64 N2)) (some (true :: false :: d)) ob))) (.si .u64 (orI x b)) (.si .u64 (shI b)) (nM (.si .u64 N1) (.si .u64 N2)) (some d)
        ((J.lt N1 N2 (J.h (orI x b)) (J.l (orI x b)), false) :: (J.u (orI x b), true) :: (decide (b > 0), true) :: ob)) := by kernel_rfl
def idB : Code → Nat | .block i _ => i | _ => 0
noncomputable def iB : Nat := idB (seqR cL)
theorem round_end (K : Kd) (J : Ks) (L : Int → Int) (n : Nat) (v w : Nat → SV) (x b N1 N2 : Int) (d : List Bool) (ob : Obs) :
    (run Tryz.prog EG (OGS K J L) (n + 20)).2 cR (sS v w (.si .u64 x) (.si .u64 b) (nM (.si .u64 N1) (.si .u64 N2)) (some (false :: d)) ob) =
      some (.exit iB, sS v (afterW ((run Tryz.prog EG (OGS K J L) (n + 20)).2 cR (sS v w (.si .u64 x) (.si .u64 b) (nM (.si .u64 N1) (.si .u64 N2)) (some (false :: d)) ob))) (.si .u64 x) (.si .u64 b) (nM (.si .u64 N1) (.si .u64 N2)) (some d)
        ((decide (b > 0), false) :: ob)) := by kernel_rfl
def lessI (a b c d : Int) : Bool := decide (a < c) || (decide (a = c) && decide (b < d))
def JR : Ks := ⟨lessI, fun x => mulH x x, fun x => mulL x x, u64B⟩
def OLS (f g : Int → Int → Int) (u : Int → Bool) : OracleF := lookO [(163, plainO (kMul f g u))]
theorem oracleLS : OracleOk Tryz.prog (OLS mulH mulL u64B) := .cons mulG.of (.nil _)
theorem lessRun0 (a b c d : Int) : valR ((run Tryz.prog EG (OLS mulH mulL u64B) 60).1 158 [.agg [.si .u64 a, .si .u64 b], .agg [.si .u64 c, .si .u64 d]] [] (some [true])) = some (.b true, some [], [(decide (a < c), true)]) := by kernel_rfl
theorem lessRun1 (a b c d : Int) : valR ((run Tryz.prog EG (OLS mulH mulL u64B) 60).1 158 [.agg [.si .u64 a, .si .u64 b], .agg [.si .u64 c, .si .u64 d]] [] (some [false, false])) = some (.b false, some [], [(decide (a = c), false), (decide (a < c), false)]) := by kernel_rfl
theorem lessRun2 (a b c d : Int) (h : Bool) : valR ((run Tryz.prog EG (OLS mulH mulL u64B) 60).1 158 [.agg [.si .u64 a, .si .u64 b], .agg [.si .u64 c, .si .u64 d]] [] (some [false, true, h])) = some (.b h, some [], [(decide (b < d), h), (decide (a = c), true), (decide (a < c), false)]) := by cases h <;> kernel_rfl
theorem sqRun (f g : Int → Int → Int) (u : Int → Bool) (a : Int) : valR ((run Tryz.prog EG (OLS f g u) 60).1 159 [.si .u64 a] [] (some [])) = some (.agg [.si .u64 (f a a), .si .u64 (g a a)], some [], [(u a, true), (u a, true)]) := by kernel_rfl
theorem lessG : PlainOk Tryz.prog 158 (kLess JR) := by
  intro args ds x ds' ob h ho
  unfold kLess at h
  split at h
  · rename_i y1 y2 y3 y4
    split at h
    · rename_i a b c d e1 e2 e3 e4
      simp only [Option.map_eq_some_iff, Prod.mk.injEq] at h
      obtain ⟨⟨r, e, o⟩, h1, rfl, rfl, rfl⟩ := h
      have hd : r = lessI a b c d := takeB_ok h1 ho
      refine ⟨[.agg #[.int .u64 a, .int .u64 b], .agg #[.int .u64 c, .int .u64 d]], .bool r, plains_cons (plain_agg (plains_cons (intS_plain e1) (plains_cons (intS_plain e2) plains_nil))) (plains_cons (plain_agg (plains_cons (intS_plain e3) (plains_cons (intS_plain e4) plains_nil))) plains_nil), rfl, fun w => ?_⟩
      subst hd
      cases g1 : decide (a < c)
      · cases g2 : decide (a = c)
        · rw [show lessI a b c d = false from by simp only [lessI, g1, g2, Bool.false_and, Bool.or_false]]
          exact calls_of_val goodG oracleLS 60 (lessRun1 a b c d) (ObsOk.of_B (obsB_yes g2 (obsB_yes g1 obsB_nil))) rfl rfl w
        · rw [show lessI a b c d = decide (b < d) from by simp only [lessI, g1, g2, Bool.true_and, Bool.false_or]]
          exact calls_of_val goodG oracleLS 60 (lessRun2 a b c d _) (ObsOk.of_B (obsB_yes rfl (obsB_yes g2 (obsB_yes g1 obsB_nil)))) rfl rfl w
      · rw [show lessI a b c d = true from by simp only [lessI, g1, Bool.true_or]]
        exact calls_of_val goodG oracleLS 60 (lessRun0 a b c d) (ObsOk.of_B (obsB_yes g1 obsB_nil)) rfl rfl w
    · cases h
  · cases h
theorem squareG : PlainOk Tryz.prog 159 (kSq JR) := by
  intro args ds x ds' ob h ho
  unfold kSq at h
  split at h
  · rename_i y1
    split at h
    · rename_i a e1
      simp only [Option.some.injEq, Prod.mk.injEq] at h
      obtain ⟨rfl, rfl, rfl⟩ := h
      have hu : u64B a = true := ho (JR.u a, true) (by simp)
      exact ⟨[.int .u64 a], _, plains_cons (intS_plain e1) plains_nil, rfl, fun w => calls_of_val goodG oracleLS 60 (sqRun mulH mulL u64B a) (ObsOk.of_B (obsB_yes hu (obsB_yes hu obsB_nil))) rfl rfl w⟩
    · cases h
  · cases h
theorem oracleGS : OracleOk Tryz.prog (OGS KR JR lzI) := .cons rightG.of (.cons partsG.of (.cons roundG.of (.cons lzG.of (.cons downG.of (.cons lessG.of (.cons squareG.of (.nil _)))))))

def chain (P : Program) (E : ExtF) (O : OracleF) (n : Nat) : List Code → St → Option St
  | [], s => some s
  | c :: l, s => match (run P E O n).2 c s with
    | some (.normal, s1) => chain P E O n l s1
    | _ => none
def seqs : List Code → Code → Code
  | [], c => c
  | a :: l, c => .seq a (seqs l c)
theorem chain_suf {P : Program} {E : ExtF} {O : OracleF} {n : Nat} (hP : Rx.Good P E) (hO : OracleOk P O) : ∀ {l : List Code} {s s' : St}, chain P E O n l s = some s' → Suf s.ob s'.ob
  | [], s, s', h => by simp only [chain, Option.some.injEq] at h; subst h; exact Suf.refl _
  | c :: l, s, s', h => by
    unfold chain at h
    split at h
    · rename_i s1 h1
      exact ((run_ok hP hO n).2.1 _ _ _ _ h1).1.trans (chain_suf hP hO h)
    · cases h
theorem chain_ok {P : Program} {E : ExtF} {O : OracleF} {n : Nat} (hP : Rx.Good P E) (hO : OracleOk P O) : ∀ {l : List Code} {s s' : St} {c : Code} {ex : Ex} {s2 : St}, chain P E O n l s = some s' → ObsOk s'.ob → RunsTo P c s' ex s2 → RunsTo P (seqs l c) s ex s2
  | [], s, s', c, ex, s2, h, _, k => by simp only [chain, Option.some.injEq] at h; subst h; exact k
  | c1 :: l, s, s', c, ex, s2, h, ho, k => by
    unfold chain at h
    split at h
    · rename_i s1 h1
      exact (RunsTo.of hP hO h1 ((chain_suf hP hO h).ok ho)).seq (chain_ok hP hO h ho k)
    · cases h
noncomputable def cHs : List Code := [seqL cS, seqL (seqR cS), seqL (seqR (seqR cS)), seqL (seqR (seqR (seqR cS))), seqL (seqR (seqR (seqR (seqR cS)))), seqL (seqR (seqR (seqR (seqR (seqR cS))))), seqL (seqR (seqR (seqR (seqR (seqR (seqR cS))))))]
noncomputable def cB : Code := seqR (seqR (seqR (seqR (seqR (seqR (seqR (seqR cS)))))))
theorem cS_eq : cS = seqs cHs (.seq (.seq (seqL cL) (.block iB (.loop cR))) cB) := by kernel_rfl
noncomputable def sA (x : F) (up : Bool) (d : List Bool) : St := ⟨[.fl x, .b up] ++ List.replicate 74 (.tup []), [], some d, []⟩
noncomputable def hS (K : Kd) (J : Ks) (L : Int → Int) (x : F) (up : Bool) (d : List Bool) : Option St := chain Tryz.prog EG (OGS K J L) 40 cHs (sA x up d)
noncomputable def hL (K : Kd) (J : Ks) (L : Int → Int) (x : F) (up : Bool) (d : List Bool) : Option St := chain Tryz.prog EG (OGS K J L) 40 (cHs ++ [seqL cL]) (sA x up d)
def tOf (r : Option St) (i : Nat) : SV := match r with | some s => s.T.getD i .np | none => .np
def vH (r : Option St) (i : Nat) : SV := tOf r (if Nat.blt i 10 then i else i + 3)
def wH (r : Option St) (i : Nat) : SV := tOf r (i + 49)
end Go.Proofs.YtgjohjgmlleebaaGreat
namespace Go.Proofs.YtgjohjgmlleebaaGreat
set_option linter.all false
open Go.RowKit Bu Rx

def nS (K : Kd) (L : Int → Int) (x : F) : Int := IntKind.u64.wrap (K.mn x * 2 ^ min (L (K.mn x)).toNat IntKind.u64.bits)
def eS (K : Kd) (L : Int → Int) (x : F) : Int := IntKind.i64.wrap (IntKind.i64.wrap (K.ex x - L (K.mn x)) - 64)
def ob4 (K : Kd) (L : Int → Int) (x : F) (odd : Bool) : Obs := [(!((eS K L x).tmod 2 == 0), odd), (decide (0 ≤ L (K.mn x)), true), (K.u (K.mn x), true), (K.sg x, false), (decide (x.k = (toF 0).k), false), (decide (x.k < (toF 0).k), false)]
theorem headE (K : Kd) (J : Ks) (L : Int → Int) (x : F) (up : Bool) : hL K J L x up [false, false, false, false] = some (sS (vH (hL K J L x up [false, false, false, false])) (wH (hL K J L x up [false, false, false, false])) (.i .u64 0) (.i .u64 9223372036854775808) (nM (.si .u64 (nS K L x)) (.i .u64 0)) (some []) (ob4 K L x false)) := by kernel_rfl
theorem headO (K : Kd) (J : Ks) (L : Int → Int) (x : F) (up : Bool) : hL K J L x up [false, false, false, true, false] = some (sS (vH (hL K J L x up [false, false, false, true, false])) (wH (hL K J L x up [false, false, false, true, false])) (.i .u64 0) (.i .u64 9223372036854775808) (nM (.si .u64 (K.dh (nS K L x) 0 1)) (.si .u64 (K.dl (nS K L x) 0 1))) (some [])
  ([(K.u (nS K L x), true), (K.u 0, true), (K.dn 1, true), (K.dm (nS K L x) 0 1, false)] ++ ob4 K L x true)) := by kernel_rfl
def retR (P : Program) (fn : Func) (r : Option (Ex × St)) : Option (SV × Obs) :=
  match r with
  | some (.ret, s) => match resultS P fn s with
    | some x => some (x, s.ob)
    | none => none
  | _ => none
def obT (K : Kd) (J : Ks) (X N1 N2 e : Int) (m : Bool) : Obs := [(K.u 0, true), (K.u X, true), (K.re e, true), (!(J.h X == N1 && (J.l X == N2 && true)), m), (J.u X, true)]
theorem tailE (K : Kd) (J : Ks) (L : Int → Int) (x : F) (up : Bool) (w : Nat → SV) (X N1 N2 : Int) (m : Bool) :
    retR Tryz.prog Tryz.f97 ((run Tryz.prog EG (OGS K J L) 40).2 cB (sS (vH (hL K J L x up [false, false, false, false])) w (.si .u64 X) (.si .u64 0) (nM (.si .u64 N1) (.si .u64 N2)) (some [m]) [])) =
      some (.tup [.fl (K.rF false 0 X m (IntKind.i64.wrap ((eS K L x).tdiv 2)) up), .si .i64 (K.rI false 0 X m (IntKind.i64.wrap ((eS K L x).tdiv 2)) up)], obT K J X N1 N2 (IntKind.i64.wrap ((eS K L x).tdiv 2)) m) := by cases m <;> kernel_rfl
theorem tailO (K : Kd) (J : Ks) (L : Int → Int) (x : F) (up : Bool) (w : Nat → SV) (X N1 N2 : Int) (m : Bool) :
    retR Tryz.prog Tryz.f97 ((run Tryz.prog EG (OGS K J L) 40).2 cB (sS (vH (hL K J L x up [false, false, false, true, false])) w (.si .u64 X) (.si .u64 0) (nM (.si .u64 N1) (.si .u64 N2)) (some [m]) [])) =
      some (.tup [.fl (K.rF false 0 X m (IntKind.i64.wrap ((IntKind.i64.wrap (eS K L x + 1)).tdiv 2)) up), .si .i64 (K.rI false 0 X m (IntKind.i64.wrap ((IntKind.i64.wrap (eS K L x + 1)).tdiv 2)) up)], obT K J X N1 N2 (IntKind.i64.wrap ((IntKind.i64.wrap (eS K L x + 1)).tdiv 2)) m) := by cases m <;> kernel_rfl
theorem sqRun0 (K : Kd) (J : Ks) (L : Int → Int) (x : F) (up : Bool) : valR ((run Tryz.prog EG (OGS K J L) 60).1 97 [.fl x, .b up] [] (some [true])) = some (.tup [.fl F.zero, .i .i64 12], some [], [(decide (x.k < (toF 0).k), true)]) := by kernel_rfl
theorem sqRun1 (K : Kd) (J : Ks) (L : Int → Int) (x : F) (up : Bool) : valR ((run Tryz.prog EG (OGS K J L) 60).1 97 [.fl x, .b up] [] (some [false, true])) = some (.tup [.fl F.zero, .i .i64 0], some [], [(decide (x.k = (toF 0).k), true), (decide (x.k < (toF 0).k), false)]) := by kernel_rfl

theorem u64_bits : IntKind.u64.bits = 64 := rfl
theorem orI_add {a k : Nat} (h : a * 2 ^ (k + 1) + 2 ^ k < 18446744073709551616) : orI ((a * 2 ^ (k + 1) : Nat) : Int) ((2 ^ k : Nat) : Int) = ((a * 2 ^ (k + 1) + 2 ^ k : Nat) : Int) := by
  have e1 : a * 2 ^ (k + 1) + 2 ^ k = a * 2 ^ (k + 1) ||| 2 ^ k := by
    rw [Nat.mul_comm]
    exact Nat.two_pow_add_eq_or_of_lt (Nat.pow_lt_pow_right (by omega) (by omega)) a
  have h1 : a * 2 ^ (k + 1) < 2 ^ 64 := Nat.lt_of_le_of_lt (Nat.le_add_right _ _) h
  have h2 : 2 ^ k < 2 ^ 64 := Nat.lt_of_le_of_lt (Nat.le_add_left _ _) h
  unfold orI
  rw [u64_bits, BitVec.toNat_or, BitVec.ofInt_natCast, BitVec.ofInt_natCast, BitVec.toNat_ofNat, BitVec.toNat_ofNat, Nat.mod_eq_of_lt h1, Nat.mod_eq_of_lt h2, ← e1, IntKind.wrap_u64]
  generalize a * 2 ^ (k + 1) + 2 ^ k = y at *
  omega
theorem shI_half (b : Nat) : shI (b : Int) = ((b / 2 : Nat) : Int) := by
  unfold shI
  rw [u64_bits, show min (Int.toNat 1) 64 = 1 from rfl, Int.pow_succ, Int.pow_zero, Int.one_mul]
  rw [Int.fdiv_eq_ediv_of_nonneg _ (by omega)]
  omega
theorem lessI_wn {N1 N2 : Int} {m : Nat} (a1 : 0 ≤ N1) (a2 : 0 ≤ N2 ∧ N2 ≤ 18446744073709551615) : lessI N1 N2 (hi m) (lo m) = decide (wn N1 N2 < m) := by
  unfold lessI wn hi lo
  rw [Bool.eq_iff_iff]
  simp only [Bool.or_eq_true, Bool.and_eq_true, decide_eq_true_eq]
  omega
theorem mulI (y : Nat) : mulH (y : Int) (y : Int) = hi (y * y) ∧ mulL (y : Int) (y : Int) = lo (y * y) := by
  unfold mulH mulL
  rw [Int.toNat_natCast]; exact ⟨rfl, rfl⟩
theorem rounds_ok {N1 N2 : Int} {n : Nat} (a1 : 0 ≤ N1) (a2 : 0 ≤ N2 ∧ N2 ≤ 18446744073709551615) (hn : wn N1 N2 = n) : ∀ (k x : Nat), (∃ a, x = a * 2 ^ k) → x + 2 ^ k ≤ 18446744073709551616 → ∀ (v w : Nat → SV) (d : Dec) (o : Obs),
    ∃ w', RoundsTo Tryz.prog cR (k + 1) (sS v w (.si .u64 (x : Int)) (.si .u64 ((2 ^ k / 2 : Nat) : Int)) (nM (.si .u64 N1) (.si .u64 N2)) d o) (.exit iB) (sS v w' (.si .u64 ((rootB n k x : Nat) : Int)) (.si .u64 0) (nM (.si .u64 N1) (.si .u64 N2)) none [])
  | 0, x, _, _, v, w, d, o => by
    have h := round_end KR JR lzI 20 v w (x : Int) ((2 ^ 0 / 2 : Nat) : Int) N1 N2 [] []
    have hr := RunsTo.of goodG oracleGS h (ObsOk.of_B (obsB_yes (by decide) obsB_nil))
    exact ⟨_, RoundsTo.out ((hr.fin (SameSt.same _ _ none _ [] _)).retell (SameSt.same _ _ _ _ _ _))⟩
  | k + 1, x, ha, hx, v, w, d, o => by
    obtain ⟨a, rfl⟩ := ha
    have hp := pow_pos' k
    have e2 : (2:Nat) ^ (k + 1) = 2 ^ k + 2 ^ k := by rw [Nat.pow_succ]; omega
    have hy : a * 2 ^ (k + 1) + 2 ^ k < 18446744073709551616 := by omega
    have eb : (2:Nat) ^ (k + 1) / 2 = 2 ^ k := by omega
    have eo := orI_add hy
    have es := shI_half (2 ^ k)
    have hlt : (a * 2 ^ (k + 1) + 2 ^ k) * (a * 2 ^ (k + 1) + 2 ^ k) < W128 := by
      have e : W128 = 18446744073709551616 * 18446744073709551616 := rfl
      rw [e]; exact Nat.mul_lt_mul'' hy hy
    have el : lessI N1 N2 (mulH ((a * 2 ^ (k + 1) + 2 ^ k : Nat) : Int) ((a * 2 ^ (k + 1) + 2 ^ k : Nat) : Int)) (mulL ((a * 2 ^ (k + 1) + 2 ^ k : Nat) : Int) ((a * 2 ^ (k + 1) + 2 ^ k : Nat) : Int)) = decide (n < (a * 2 ^ (k + 1) + 2 ^ k) * (a * 2 ^ (k + 1) + 2 ^ k)) := by
      rw [(mulI _).1, (mulI _).2, lessI_wn a1 a2, hn]
    have el2 : JR.lt N1 N2 (JR.h ((a * 2 ^ (k + 1) + 2 ^ k : Nat) : Int)) (JR.l ((a * 2 ^ (k + 1) + 2 ^ k : Nat) : Int)) = decide (n < (a * 2 ^ (k + 1) + 2 ^ k) * (a * 2 ^ (k + 1) + 2 ^ k)) := el
    have hu : u64B ((a * 2 ^ (k + 1) + 2 ^ k : Nat) : Int) = true := u64_mk (by omega) (by omega)
    have hb : decide (((2 ^ k : Nat) : Int) > 0) = true := decide_eq_true (by omega)
    rw [eb]
    by_cases c : (a * 2 ^ (k + 1) + 2 ^ k) * (a * 2 ^ (k + 1) + 2 ^ k) ≤ n
    · have h := round_yes KR JR lzI 20 v w ((a * 2 ^ (k + 1) : Nat) : Int) ((2 ^ k : Nat) : Int) N1 N2 [] []
      rw [eo, es] at h
      have hr := RunsTo.of goodG oracleGS h (ObsOk.of_B (obsB_yes (el2.trans (decide_eq_false (Nat.not_lt.2 c))) (obsB_yes hu (obsB_yes hb obsB_nil))))
      obtain ⟨w', hw⟩ := rounds_ok a1 a2 hn k (a * 2 ^ (k + 1) + 2 ^ k) ⟨2 * a + 1, by rw [Nat.pow_succ, Nat.add_mul, Nat.one_mul, Nat.mul_comm 2 a, Nat.mul_assoc, Nat.mul_comm 2 (2 ^ k)]⟩ (by omega) v _ (some []) _
      refine ⟨w', ?_⟩
      rw [show rootB n (k + 1) (a * 2 ^ (k + 1)) = rootB n k (a * 2 ^ (k + 1) + 2 ^ k) from by rw [rootB, if_pos c]]
      exact RoundsTo.next (hr.retell (SameSt.same _ _ _ _ _ _)) hw
    · have h := round_no KR JR lzI 20 v w ((a * 2 ^ (k + 1) : Nat) : Int) ((2 ^ k : Nat) : Int) N1 N2 [] []
      rw [eo, es] at h
      have hr := RunsTo.of goodG oracleGS h (ObsOk.of_B (obsB_yes (el2.trans (decide_eq_true (Nat.not_le.1 c))) (obsB_yes hu (obsB_yes hb obsB_nil))))
      obtain ⟨w', hw⟩ := rounds_ok a1 a2 hn k (a * 2 ^ (k + 1)) ⟨2 * a, by rw [Nat.pow_succ, Nat.mul_comm 2 a, Nat.mul_assoc, Nat.mul_comm 2 (2 ^ k)]⟩ (by omega) v _ (some []) _
      refine ⟨w', ?_⟩
      rw [show rootB n (k + 1) (a * 2 ^ (k + 1)) = rootB n k (a * 2 ^ (k + 1)) from by rw [rootB, if_neg c]]
      exact RoundsTo.next (hr.retell (SameSt.same _ _ _ _ _ _)) hw

theorem dens_mid {m : Nms} {x y : SV} {b c : List SV} (h : den m x = den m y) (hb : dens m b = dens m c) : ∀ a : List SV, dens m (a ++ x :: b) = dens m (a ++ y :: c)
  | [] => by simp only [List.nil_append, dens, h, hb]
  | z :: a => by simp only [List.cons_append, dens, dens_mid h hb a]
theorem den_i (m : Nms) (k : IntKind) (n : Int) : den m (.si k n) = den m (.i k n) := by simp only [den]
theorem same_head (v w : Nat → SV) (c1 c2 : SV) (N1 N2 : Int) (d : Dec) (o : Obs) (h : ∀ m, den m c1 = some (.int .u64 N1)) (h2 : ∀ m, den m c2 = some (.int .u64 N2)) :
    SameSt (sS v w (.si .u64 0) (.si .u64 9223372036854775808) (nM (.si .u64 N1) (.si .u64 N2)) d o) (sS v w (.i .u64 0) (.i .u64 9223372036854775808) (nM c1 c2) d o) := by
  refine ⟨fun m => ?_, rfl, ?_⟩
  · exact dens_mid (den_i m _ _) (dens_mid (a := []) (den_i m _ _) rfl) [v 0, v 1, v 2, v 3, v 4, v 5, v 6, v 7, v 8, v 9, .p 0 0]
  · intro i b hb
    have hi : i = 0 := by
      rcases Nat.lt_or_ge i 1 with h' | h'
      · omega
      · rw [List.getElem?_eq_none (by simpa [sS, nM] using h')] at hb; cases hb
    subst hi
    simp only [sS, nM, List.getElem?_cons_zero, Option.some.injEq] at hb
    subst hb
    refine ⟨_, rfl, rfl, rfl, fun _ => rfl, fun m => ?_⟩
    simp only [dens, h, h2, den]
theorem chain_split {P : Program} {E : ExtF} {O : OracleF} {n : Nat} {c : Code} : ∀ {l : List Code} {s s2 : St}, chain P E O n (l ++ [c]) s = some s2 → ∃ s1, chain P E O n l s = some s1 ∧ (run P E O n).2 c s1 = some (.normal, s2)
  | [], s, s2, h => by
    refine ⟨s, rfl, ?_⟩
    simp only [List.nil_append, chain] at h
    split at h
    · rename_i s1 h1
      simp only [Option.some.injEq] at h; subst h; exact h1
    · cases h
  | a :: l, s, s2, h => by
    simp only [List.cons_append, chain] at h
    split at h
    · rename_i s1 h1
      obtain ⟨s3, h3, h4⟩ := chain_split h
      refine ⟨s3, ?_, h4⟩
      simp only [chain, h1]; exact h3
    · cases h
theorem retR_some {P : Program} {fn : Func} {r : Option (Ex × St)} {x : SV} {ob : Obs} (h : retR P fn r = some (x, ob)) : ∃ s, r = some (.ret, s) ∧ resultS P fn s = some x ∧ s.ob = ob := by
  unfold retR at h
  split at h
  · rename_i s
    split at h
    · rename_i y hy
      simp only [Option.some.injEq, Prod.mk.injEq] at h
      obtain ⟨rfl, rfl⟩ := h
      exact ⟨s, rfl, hy, rfl⟩
    · cases h
  · cases h
theorem sqBody : Tryz.f97.body = some cS := by kernel_rfl
/-- whole, out of its pieces -/
theorem sqrt_join {x : F} {up : Bool} {l : List Bool} {c1 c2 : SV} {N1 N2 : Int} {n : Nat} {ob o2 : Obs} {d : Dec} {y : SV} {val : Value} {m : Bool} (a1 : 0 ≤ N1) (a2 : 0 ≤ N2 ∧ N2 ≤ 18446744073709551615) (hn : wn N1 N2 = n)
    (hc1 : ∀ m, den m c1 = some (.int .u64 N1)) (hc2 : ∀ m, den m c2 = some (.int .u64 N2))
    (hh : hL KR JR lzI x up l = some (sS (vH (hL KR JR lzI x up l)) (wH (hL KR JR lzI x up l)) (.i .u64 0) (.i .u64 9223372036854775808) (nM c1 c2) d ob)) (ho : obsB ob = true)
    (ht : ∀ w, retR Tryz.prog Tryz.f97 ((run Tryz.prog EG (OGS KR JR lzI) 40).2 cB (sS (vH (hL KR JR lzI x up l)) w (.si .u64 ((root64 n : Nat) : Int)) (.si .u64 0) (nM (.si .u64 N1) (.si .u64 N2)) (some [m]) [])) = some (y, o2)) (ho2 : obsB o2 = true) (hy : plain y = some val) (w : World) :
    Calls Tryz.prog 97 #[.float .f64 x.b, .bool up] w fun e w' => e = .returned val ∧ Below w.heap.size w w' := by
  generalize vH (hL KR JR lzI x up l) = v at *
  generalize wH (hL KR JR lzI x up l) = w0 at *
  unfold hL at hh
  obtain ⟨s7, h7, h8⟩ := chain_split hh
  have r8 := RunsTo.of goodG oracleGS h8 (ObsOk.of_B ho)
  have o7 : ObsOk s7.ob := ((run_ok goodG oracleGS 40).2.1 _ _ _ _ h8).1.ok (ObsOk.of_B ho)
  obtain ⟨w', hw⟩ := rounds_ok a1 a2 hn 64 0 ⟨0, by simp⟩ (by decide) v w0 d ob
  have rl := RunsTo.block (RunsTo.loop hw)
  have rl2 := rl.retell (t := sS v w0 (.i .u64 0) (.i .u64 9223372036854775808) (nM c1 c2) d ob) (same_head v w0 c1 c2 N1 N2 d ob hc1 hc2)
  obtain ⟨s10, h10, hx, hob⟩ := retR_some (ht w')
  have r10 := (RunsTo.of goodG oracleGS h10 (by rw [hob]; exact ObsOk.of_B ho2)).retell (t := sS v w' (.si .u64 ((root64 n : Nat) : Int)) (.si .u64 0) (nM (.si .u64 N1) (.si .u64 N2)) none []) (SameSt.same _ _ _ _ _ _)
  have all := chain_ok goodG oracleGS h7 o7 ((r8.seq rl2).seq r10)
  rw [← cS_eq] at all
  exact calls_of_runs (args := [.fl x, .b up]) (vs := [.float .f64 x.b, .bool up]) Tryz.func97 sqBody (all.retell (SameSt.same _ _ _ _ _ _)) hx rfl hy w
theorem tm_odd (e : Int) : (!(e.tmod 2 == 0)) = decide (e % 2 ≠ 0) := by
  have h : e.tmod 2 = 0 ↔ e % 2 = 0 := by rw [← Int.dvd_iff_tmod_eq_zero, Int.dvd_iff_emod_eq_zero]
  rw [Bool.eq_iff_iff]
  simp only [Bool.not_eq_true', beq_eq_false_iff_ne, ne_eq, decide_eq_true_eq, h]
theorem td_half {e : Int} (h : e % 2 = 0) : e.tdiv 2 = e / 2 := Int.tdiv_eq_ediv_of_dvd (Int.dvd_iff_emod_eq_zero.2 h)
theorem neq_wn {N1 N2 : Int} {m : Nat} (hm : m < W128) (a1 : 0 ≤ N1 ∧ N1 ≤ 18446744073709551615) (a2 : 0 ≤ N2 ∧ N2 ≤ 18446744073709551615) : (!(hi m == N1 && (lo m == N2 && true))) = decide (m ≠ wn N1 N2) := by
  unfold wn hi lo
  rw [Bool.eq_iff_iff]
  simp only [Bool.not_eq_true', Bool.and_true, Bool.and_eq_false_iff, beq_eq_false_iff_ne, ne_eq, decide_eq_true_eq]
  omega
theorem eS_eq (x : F) : eS KR lzI x = (ex x : Int) - 1074 - nlz (mn x) - 64 := by
  have h1 := ex_le x
  have h3 := nlz_le (mn x)
  unfold eS
  show IntKind.i64.wrap (IntKind.i64.wrap ((ex x : Int) - 1074 - lzI (mn x)) - 64) = _
  rw [lzI_mn, Bu.wrap_small (n := (ex x : Int) - 1074 - nlz (mn x)) (by omega) (by omega), Bu.wrap_small (by omega) (by omega)]
theorem sqrt_F_w (x : F) (up : Bool) (w : World) :
    Calls Tryz.prog 97 #[.float .f64 x.b, .bool up] w fun e w' => e = .returned (.tuple #[.float .f64 (qSqrt up x).1.b, .int .i64 (qSqrt up x).2]) ∧ Below w.heap.size w w' := by
  unfold qSqrt
  by_cases h1 : x.k < 0
  · rw [if_pos h1]
    exact calls_of_val goodG oracleGS 60 (sqRun0 KR JR lzI x up) (ObsOk.of_B (obsB_yes (by rw [zero_k']; exact decide_eq_true h1) obsB_nil)) rfl rfl w
  rw [if_neg h1]
  have n1 : decide (x.k < (toF 0).k) = false := by rw [zero_k']; exact decide_eq_false h1
  by_cases h2 : x.k = 0
  · rw [if_pos h2]
    exact calls_of_val goodG oracleGS 60 (sqRun1 KR JR lzI x up) (ObsOk.of_B (obsB_yes (by rw [zero_k']; exact decide_eq_true h2) (obsB_yes n1 obsB_nil))) rfl rfl w
  rw [if_neg h2]
  have n2 : decide (x.k = (toF 0).k) = false := by rw [zero_k']; exact decide_eq_false h2
  have hpos : 0 < x.k := by omega
  obtain ⟨X, p, q, hP, hX⟩ := sqP hpos
  have hb := norm_bounds (mn_pos h2) (mn_64 x)
  have hM : 9223372036854775808 ≤ divM x ∧ divM x < 18446744073709551616 := hb
  have hS : nS KR lzI x = divM x := nA_eq h2
  have e1 := ex_le x
  have e3 := nlz_le (mn x)
  have hE := eS_eq x
  have hev := sqE_even x
  have hre : -5000 ≤ sqE x / 2 ∧ sqE x / 2 ≤ 5000 := by
    unfold sqE
    split <;> omega
  have hXl : X < 18446744073709551616 := by
    rcases Nat.lt_or_ge X 18446744073709551616 with c | c
    · exact c
    · exfalso
      have k1 := Nat.mul_le_mul c c
      have k2 := hP.root.le
      have k3 : sqN x < W128 := by
        have : W128 = 340282366920938463463374607431768211456 := rfl
        unfold sqN
        split <;> omega
      have e : W128 = 18446744073709551616 * 18446744073709551616 := rfl
      omega
  have hXX : X * X < W128 := by
    have e : W128 = 18446744073709551616 * 18446744073709551616 := rfl
    rw [e]; exact Nat.mul_lt_mul'' hXl hXl
  have uX : u64B ((X : Nat) : Int) = true := u64_mk (by omega) (by omega)
  have lz0 : decide (0 ≤ lzI (KR.mn x)) = true := by
    show decide (0 ≤ lzI (mn x)) = true
    rw [lzI_mn]; exact decide_eq_true (by omega)
  have sg0 : KR.sg x = false := decide_eq_false (by omega)
  have hw0 : ∀ m e, rndG false (wn 0 ((X : Nat) : Int)) m e up = rndG false X m e up := by
    intro m e
    have : wn 0 ((X : Nat) : Int) = X := by unfold wn; rw [Int.toNat_natCast]; omega
    rw [this]
  cases ho : sqO x
  · -- even
    have hN : sqN x = divM x * 18446744073709551616 := by unfold sqN; rw [ho]; rfl
    have hEv : sqE x = (ex x : Int) - 1074 - nlz (mn x) - 64 := by unfold sqE; rw [ho]; rfl
    have hee : IntKind.i64.wrap ((eS KR lzI x).tdiv 2) = sqE x / 2 := by rw [hE, ← hEv, td_half hev, Bu.wrap_small (by omega) (by omega)]
    have hodd : (!((eS KR lzI x).tmod 2 == 0)) = false := by rw [tm_odd, hE, ← hEv]; exact decide_eq_false (by omega)
    have hwn : wn ((divM x : Nat) : Int) 0 = sqN x := by rw [hN]; unfold wn; rw [Int.toNat_natCast, Int.toNat_zero, Nat.add_zero]
    have hh := headE KR JR lzI x up
    rw [hS] at hh
    have hd : dSqrt up x = rndG false (wn 0 ((X : Nat) : Int)) (decide (X * X ≠ sqN x)) (sqE x / 2) up := by rw [hw0]; unfold dSqrt; rw [hX]
    rw [hd]
    refine sqrt_join (o2 := obT KR JR ((X : Nat) : Int) ((divM x : Nat) : Int) 0 (sqE x / 2) (decide (X * X ≠ sqN x))) (y := .tup [.fl (rndG false (wn 0 ((X : Nat) : Int)) (decide (X * X ≠ sqN x)) (sqE x / 2) up).1, .si .i64 (rndG false (wn 0 ((X : Nat) : Int)) (decide (X * X ≠ sqN x)) (sqE x / 2) up).2]) (m := decide (X * X ≠ sqN x)) (n := sqN x) (N1 := ((divM x : Nat) : Int)) (N2 := 0) (by omega) ⟨by omega, by omega⟩ hwn (fun m => by simp only [den]) (fun m => by simp only [den]) hh ?_ (fun w' => ?_) ?_ rfl w
    · exact obsB_yes hodd (obsB_yes lz0 (obsB_yes (mn_u64 x) (obsB_yes sg0 (obsB_yes n2 (obsB_yes n1 obsB_nil)))))
    · rw [hX]
      have := tailE KR JR lzI x up w' ((X : Nat) : Int) ((divM x : Nat) : Int) 0 (decide (X * X ≠ sqN x))
      rw [hee] at this
      exact this
    · refine obsB_yes u64_0 (obsB_yes uX (obsB_yes (decide_eq_true hre) (obsB_yes ?_ (obsB_yes uX obsB_nil))))
      show (!(mulH _ _ == _ && (mulL _ _ == _ && true))) = _
      rw [(mulI X).1, (mulI X).2, neq_wn hXX ⟨by omega, by omega⟩ ⟨by omega, by omega⟩, hwn]
  · -- odd
    have hN : sqN x = divM x * 9223372036854775808 := by unfold sqN; rw [ho]; rfl
    have hEv : sqE x = (ex x : Int) - 1074 - nlz (mn x) - 63 := by unfold sqE; rw [ho]; rfl
    have hee : IntKind.i64.wrap ((IntKind.i64.wrap (eS KR lzI x + 1)).tdiv 2) = sqE x / 2 := by
      rw [hE, Bu.wrap_small (n := (ex x : Int) - 1074 - nlz (mn x) - 64 + 1) (by omega) (by omega), show (ex x : Int) - 1074 - nlz (mn x) - 64 + 1 = sqE x from by omega, td_half hev, Bu.wrap_small (by omega) (by omega)]
    have hodd : (!((eS KR lzI x).tmod 2 == 0)) = true := by rw [tm_odd, hE]; exact decide_eq_true (by omega)
    have hwd : wn ((divM x : Nat) : Int) 0 / 2 ^ (1 : Int).toNat = sqN x ∧ wn ((divM x : Nat) : Int) 0 % 2 ^ (1 : Int).toNat = 0 := by
      rw [hN]; unfold wn; rw [Int.toNat_natCast, show (1 : Int).toNat = 1 from rfl]
      constructor <;> omega
    have hDh : KR.dh (nS KR lzI x) 0 1 = hi (sqN x) := by rw [hS]; show hi (wn _ _ / _) = _; rw [hwd.1]
    have hDl : KR.dl (nS KR lzI x) 0 1 = lo (sqN x) := by rw [hS]; show lo (wn _ _ / _) = _; rw [hwd.1]
    have hDm : KR.dm (nS KR lzI x) 0 1 = false := by rw [hS]; show decide (wn _ _ % _ ≠ 0) = _; rw [hwd.2]; rfl
    have hNl : sqN x < W128 := by
      have : W128 = 340282366920938463463374607431768211456 := rfl
      omega
    have hh := headO KR JR lzI x up
    rw [hDh, hDl] at hh
    have hd : dSqrt up x = rndG false (wn 0 ((X : Nat) : Int)) (decide (X * X ≠ sqN x)) (sqE x / 2) up := by rw [hw0]; unfold dSqrt; rw [hX]
    rw [hd]
    have b1 := hi_nonneg (sqN x)
    have b2 := hi_le _ hNl
    have b3 := lo_nonneg (sqN x)
    have b4 := lo_le (sqN x)
    refine sqrt_join (o2 := obT KR JR ((X : Nat) : Int) (hi (sqN x)) (lo (sqN x)) (sqE x / 2) (decide (X * X ≠ sqN x))) (y := .tup [.fl (rndG false (wn 0 ((X : Nat) : Int)) (decide (X * X ≠ sqN x)) (sqE x / 2) up).1, .si .i64 (rndG false (wn 0 ((X : Nat) : Int)) (decide (X * X ≠ sqN x)) (sqE x / 2) up).2]) (m := decide (X * X ≠ sqN x)) (n := sqN x) (N1 := hi (sqN x)) (N2 := lo (sqN x)) b1 ⟨b3, b4⟩ (wn_back _) (fun m => by simp only [den]) (fun m => by simp only [den]) hh ?_ (fun w' => ?_) ?_ rfl w
    · exact obsB_yes (by rw [hS]; exact u64_mk (by omega) (by omega)) (obsB_yes u64_0 (obsB_yes rfl (obsB_yes hDm (obsB_yes hodd (obsB_yes lz0 (obsB_yes (mn_u64 x) (obsB_yes sg0 (obsB_yes n2 (obsB_yes n1 obsB_nil)))))))))
    · rw [hX]
      have := tailO KR JR lzI x up w' ((X : Nat) : Int) (hi (sqN x)) (lo (sqN x)) (decide (X * X ≠ sqN x))
      rw [hee] at this
      exact this
    · refine obsB_yes u64_0 (obsB_yes uX (obsB_yes (decide_eq_true hre) (obsB_yes ?_ (obsB_yes uX obsB_nil))))
      show (!(mulH _ _ == _ && (mulL _ _ == _ && true))) = _
      rw [(mulI X).1, (mulI X).2, neq_wn hXX ⟨b1, b2⟩ ⟨b3, b4⟩, wn_back]
end Go.Proofs.YtgjohjgmlleebaaGreat
namespace Go.Proofs.YtgjohjgmlleebaaGreat
set_option linter.all false
open Go.RowKit Bu Rx

theorem toF0 : toF 0 = F.zero := F.ext' zero_k'
def OIR : OracleF := lookO [(74, plainO oRight)]
theorem oracleIR : OracleOk Tryz.prog OIR := .cons rightG.of (.nil _)
theorem irightRun (a b : F) (d : Bool) : valR ((run Tryz.prog EG OIR 60).1 42 [.agg [.fl a, .fl b]] [] (some [d])) = some (.b d, some [], [(decide (a.k ≤ b.k), d)]) := by cases d <;> kernel_rfl
theorem irightG : PlainOk Tryz.prog 42 oRt := by
  intro args ds x ds' ob h ho
  unfold oRt at h
  split at h
  · rename_i a b
    simp only [Option.map_eq_some_iff, Prod.mk.injEq] at h
    obtain ⟨⟨d, e, o⟩, h1, rfl, rfl, rfl⟩ := h
    have hd : d = decide (a.k ≤ b.k) := takeB_ok h1 ho
    refine ⟨[.agg #[.float .f64 a.b, .float .f64 b.b]], .bool d, rfl, rfl, fun w => ?_⟩
    exact calls_of_val goodG oracleIR 60 (irightRun a b d) (ObsOk.of_B (obsB_yes hd.symm obsB_nil)) rfl rfl w
  · cases h
def OIH : OracleF := lookO [(42, plainO oRt)]
theorem oracleIH : OracleOk Tryz.prog OIH := .cons irightG.of (.nil _)
theorem ihasRun0 (a b x : F) : valR ((run Tryz.prog EG OIH 60).1 109 [.agg [.fl a, .fl b], .fl x] [] (some [false])) = some (.b false, some [], [(rt ⟨a, b⟩, false)]) := by kernel_rfl
theorem ihasRun1 (a b x : F) : valR ((run Tryz.prog EG OIH 60).1 109 [.agg [.fl a, .fl b], .fl x] [] (some [true, false])) = some (.b false, some [], [(decide (a.k ≤ x.k), false), (rt ⟨a, b⟩, true)]) := by kernel_rfl
theorem ihasRun2 (a b x : F) (d : Bool) : valR ((run Tryz.prog EG OIH 60).1 109 [.agg [.fl a, .fl b], .fl x] [] (some [true, true, d])) = some (.b d, some [], [(decide (x.k ≤ b.k), d), (decide (a.k ≤ x.k), true), (rt ⟨a, b⟩, true)]) := by cases d <;> kernel_rfl
theorem ihasG : PlainOk Tryz.prog 109 oHas := by
  intro args ds x ds' ob h ho
  unfold oHas at h
  split at h
  · rename_i a b z
    simp only [Option.map_eq_some_iff, Prod.mk.injEq] at h
    obtain ⟨⟨d, e, o⟩, h1, rfl, rfl, rfl⟩ := h
    have hd : d = hasB ⟨a, b⟩ z := takeB_ok h1 ho
    refine ⟨[.agg #[.float .f64 a.b, .float .f64 b.b], .float .f64 z.b], .bool d, rfl, rfl, fun w => ?_⟩
    subst hd
    cases h1 : rt ⟨a, b⟩
    · rw [show hasB ⟨a, b⟩ z = false from by simp [hasB, h1]]
      exact calls_of_val goodG oracleIH 60 (ihasRun0 a b z) (ObsOk.of_B (obsB_yes h1 obsB_nil)) rfl rfl w
    · cases h2 : decide (a.k ≤ z.k)
      · rw [show hasB ⟨a, b⟩ z = false from by simp [hasB, h1, h2]]
        exact calls_of_val goodG oracleIH 60 (ihasRun1 a b z) (ObsOk.of_B (obsB_yes h2 (obsB_yes h1 obsB_nil))) rfl rfl w
      · rw [show hasB ⟨a, b⟩ z = decide (z.k ≤ b.k) from by simp [hasB, h1, h2]]
        exact calls_of_val goodG oracleIH 60 (ihasRun2 a b z (decide (z.k ≤ b.k))) (ObsOk.of_B (obsB_yes rfl (obsB_yes h2 (obsB_yes h1 obsB_nil)))) rfl rfl w
  · cases h
def subZ (s : Nat → Option Nat) (b : F) : F := toF ((s b.b).getD 0)
def obZ (s : Nat → Option Nat) (b : F) : Obs := [((s b.b).isSome, true), (rightB ((s b.b).getD 0), true)]
theorem subZ_neg (b : F) : subZ (Ieee.double.sub (toF 0).b) b = b.neg := by unfold subZ; rw [toF0, sub_zero_F, Option.getD_some, toF_F]
theorem obZ_ok (b : F) : obsB (obZ (Ieee.double.sub (toF 0).b) b) = true := by
  unfold obZ; rw [toF0, sub_zero_F]; exact obsB_yes rfl (obsB_yes (right_F _) obsB_nil)
theorem turnRun (a b : F) : valR ((run Tryz.prog EG OIH 60).1 115 [.agg [.fl a, .fl b]] [] (some [])) = some (.agg [.fl (subZ (Ieee.double.sub (toF 0).b) b), .fl (subZ (Ieee.double.sub (toF 0).b) a)], some [], obZ (Ieee.double.sub (toF 0).b) a ++ obZ (Ieee.double.sub (toF 0).b) b) := by kernel_rfl
theorem turnG : PlainOk Tryz.prog 115 (oI1 turnI) := by
  intro args ds x ds' ob h ho
  unfold oI1 at h
  split at h
  · rename_i a b
    simp only [Option.some.injEq, Prod.mk.injEq] at h
    obtain ⟨rfl, _, _⟩ := h
    refine ⟨[.agg #[.float .f64 a.b, .float .f64 b.b]], _, rfl, rfl, fun w => ?_⟩
    have hr := turnRun a b
    rw [subZ_neg, subZ_neg] at hr
    exact calls_of_val goodG oracleIH 60 hr (ObsOk.of_B (by rw [obsB_app, obZ_ok, obZ_ok]; rfl)) rfl rfl w
  · cases h
def OIB : OracleF := lookO [(115, plainO (oI1 turnI))]
theorem oracleIB : OracleOk Tryz.prog OIB := .cons turnG.of (.nil _)
theorem bareRun0 (a b : F) : valR ((run Tryz.prog EG OIB 60).1 106 [.agg [.fl a, .fl b]] [] (some [true])) = some (.agg [.fl a, .fl b], some [], [(decide ((toF 0).k ≤ a.k), true)]) := by kernel_rfl
theorem bareRun1 (a b : F) : valR ((run Tryz.prog EG OIB 60).1 106 [.agg [.fl a, .fl b]] [] (some [false, true])) = some (.agg [.fl b.neg, .fl a.neg], some [], [(decide (b.k ≤ (toF 0).k), true), (decide ((toF 0).k ≤ a.k), false)]) := by kernel_rfl
theorem bareRun2 (a b : F) : valR ((run Tryz.prog EG OIB 60).1 106 [.agg [.fl a, .fl b]] [] (some [false, false])) = some (.agg [.fl F.zero, .fl (mxF b a.neg)], some [], [(!decide (a.k = 0), true), (decide (b.k ≤ (toF 0).k), false), (decide ((toF 0).k ≤ a.k), false)]) := by kernel_rfl
theorem bareG : PlainOk Tryz.prog 106 (oI1 bareI) := by
  intro args ds x ds' ob h ho
  unfold oI1 at h
  split at h
  · rename_i a b
    simp only [Option.some.injEq, Prod.mk.injEq] at h
    obtain ⟨rfl, _, _⟩ := h
    refine ⟨[.agg #[.float .f64 a.b, .float .f64 b.b]], _, rfl, rfl, fun w => ?_⟩
    cases h1 : decide (0 ≤ a.k)
    · cases h2 : decide (b.k ≤ 0)
      · rw [show bareI ⟨a, b⟩ = ⟨F.zero, mxF b a.neg⟩ from by simp only [bareI, h1, h2, cond_false]]
        exact calls_of_val goodG oracleIB 60 (bareRun2 a b) (ObsOk.of_B (obsB_yes (by have := of_decide_eq_false h1; simp; omega) (obsB_yes (by rw [zero_k']; exact h2) (obsB_yes (by rw [zero_k']; exact h1) obsB_nil)))) rfl rfl w
      · rw [show bareI ⟨a, b⟩ = ⟨b.neg, a.neg⟩ from by simp only [bareI, turnI, h1, h2, cond_false, cond_true]]
        exact calls_of_val goodG oracleIB 60 (bareRun1 a b) (ObsOk.of_B (obsB_yes (by rw [zero_k']; exact h2) (obsB_yes (by rw [zero_k']; exact h1) obsB_nil))) rfl rfl w
    · rw [show bareI ⟨a, b⟩ = ⟨a, b⟩ from by simp only [bareI, h1, cond_true]]
      exact calls_of_val goodG oracleIB 60 (bareRun0 a b) (ObsOk.of_B (obsB_yes (by rw [zero_k']; exact h1) obsB_nil)) rfl rfl w
  · cases h
theorem hullRun (a b c d : F) : valR ((run Tryz.prog EG OIR 60).1 165 [.agg [.fl a, .fl b], .agg [.fl c, .fl d]] [] (some [])) = some (.agg [.fl (mnF a c), .fl (mxF b d)], some [], []) := by kernel_rfl
theorem hullG : PlainOk Tryz.prog 165 (oI2 hullI) := by
  intro args ds x ds' ob h ho
  unfold oI2 at h
  split at h
  · rename_i a b c d
    simp only [Option.some.injEq, Prod.mk.injEq] at h
    obtain ⟨rfl, _, _⟩ := h
    exact ⟨[.agg #[.float .f64 a.b, .float .f64 b.b], .agg #[.float .f64 c.b, .float .f64 d.b]], _, rfl, rfl, fun w => calls_of_val goodG oracleIR 60 (hullRun a b c d) (ObsOk.of_B obsB_nil) rfl rfl w⟩
  · cases h

def OIAdd (f : Bool → F → F → F × Int) : OracleF := lookO [(42, plainO oRt), (101, plainO (kTwo f))]
theorem oracleIAdd {f : Bool → F → F → F × Int} (hf : PlainOk Tryz.prog 101 (kTwo f)) : OracleOk Tryz.prog (OIAdd f) := .cons irightG.of (.cons hf.of (.nil _))
theorem cadd_p0 (f : Bool → F → F → F × Int) (t : Nat) (n : Int) (a b c d : F) : takeR 1 ((run Tryz.prog EG (OIAdd f) 60).1 57 (.p 0 0 :: [.agg [.fl a, .fl b], .agg [.fl c, .fl d]]) [⟨t, [.si .i64 n], .ex⟩] (some [false, false])) = some (.agg [.fl F.zero, .fl F.zero], [⟨t, [.i .i64 20], .ex⟩], some [], [(rt ⟨a, b⟩, false), ((!(n == 0)), false)]) := by kernel_rfl
theorem cadd_p1 (f : Bool → F → F → F × Int) (t : Nat) (n : Int) (a b c d : F) : takeR 1 ((run Tryz.prog EG (OIAdd f) 60).1 57 (.p 0 0 :: [.agg [.fl a, .fl b], .agg [.fl c, .fl d]]) [⟨t, [.si .i64 n], .ex⟩] (some [false, true, false])) = some (.agg [.fl F.zero, .fl F.zero], [⟨t, [.i .i64 20], .ex⟩], some [], [(rt ⟨c, d⟩, false), (rt ⟨a, b⟩, true), ((!(n == 0)), false)]) := by kernel_rfl
theorem cadd_p2 (f : Bool → F → F → F × Int) (t : Nat) (n : Int) (a b c d : F) : takeR 1 ((run Tryz.prog EG (OIAdd f) 60).1 57 (.p 0 0 :: [.agg [.fl a, .fl b], .agg [.fl c, .fl d]]) [⟨t, [.si .i64 n], .ex⟩] (some [false, true, true, false, false])) = some (.agg [.fl (f false a c).1, .fl (f true b d).1], [⟨t, [.si .i64 n], .ex⟩], some [], [((!((f true b d).2 == 0)), false), ((!((f false a c).2 == 0)), false), (rt ⟨c, d⟩, true), (rt ⟨a, b⟩, true), ((!(n == 0)), false)]) := by kernel_rfl
theorem cadd_p3 (f : Bool → F → F → F × Int) (t : Nat) (n : Int) (a b c d : F) : takeR 1 ((run Tryz.prog EG (OIAdd f) 60).1 57 (.p 0 0 :: [.agg [.fl a, .fl b], .agg [.fl c, .fl d]]) [⟨t, [.si .i64 n], .ex⟩] (some [false, true, true, false, true])) = some (.agg [.fl F.zero, .fl F.zero], [⟨t, [.si .i64 (f true b d).2], .ex⟩], some [], [((!((f true b d).2 == 0)), true), ((!((f false a c).2 == 0)), false), (rt ⟨c, d⟩, true), (rt ⟨a, b⟩, true), ((!(n == 0)), false)]) := by kernel_rfl
theorem cadd_p4 (f : Bool → F → F → F × Int) (t : Nat) (n : Int) (a b c d : F) : takeR 1 ((run Tryz.prog EG (OIAdd f) 60).1 57 (.p 0 0 :: [.agg [.fl a, .fl b], .agg [.fl c, .fl d]]) [⟨t, [.si .i64 n], .ex⟩] (some [false, true, true, true, true])) = some (.agg [.fl F.zero, .fl F.zero], [⟨t, [.si .i64 (f false a c).2], .ex⟩], some [], [((!((f false a c).2 == 0)), true), ((!((f false a c).2 == 0)), true), (rt ⟨c, d⟩, true), (rt ⟨a, b⟩, true), ((!(n == 0)), false)]) := by kernel_rfl
theorem cadd_p5 (f : Bool → F → F → F × Int) (t : Nat) (n : Int) (a b c d : F) : takeR 1 ((run Tryz.prog EG (OIAdd f) 60).1 57 (.p 0 0 :: [.agg [.fl a, .fl b], .agg [.fl c, .fl d]]) [⟨t, [.si .i64 n], .ex⟩] (some [true])) = some (.agg [.fl F.zero, .fl F.zero], [⟨t, [.si .i64 n], .ex⟩], some [], [((!(n == 0)), true)]) := by kernel_rfl
theorem cadd_I {f : Bool → F → F → F × Int} (hf : PlainOk Tryz.prog 101 (kTwo f)) : OfOk Tryz.prog 57 (kC (aII (cAdd f))) := by
  refine ofII fun a b c d t n => ?_
  cases h0 : (!(n == 0))
  · skip
    cases h1 : rt ⟨a, b⟩
    · skip
      exact calc_path goodG (oracleIAdd hf) (cadd_p0 f t n a b c d) (obsB_yes h1 (obsB_yes h0 obsB_nil)) (by simp only [cAdd, askI, endsI, I.zero, h0, h1, cond_true, cond_false, Bool.and_true, Bool.true_and, Bool.and_false, Bool.false_and]) rfl
    · skip
      cases h2 : rt ⟨c, d⟩
      · skip
        exact calc_path goodG (oracleIAdd hf) (cadd_p1 f t n a b c d) (obsB_yes h2 (obsB_yes h1 (obsB_yes h0 obsB_nil))) (by simp only [cAdd, askI, endsI, I.zero, h0, h1, h2, cond_true, cond_false, Bool.and_true, Bool.true_and, Bool.and_false, Bool.false_and]) rfl
      · skip
        cases h3 : (!((f false a c).2 == 0))
        · skip
          cases h4 : (!((f true b d).2 == 0))
          · skip
            exact calc_path goodG (oracleIAdd hf) (cadd_p2 f t n a b c d) (obsB_yes h4 (obsB_yes h3 (obsB_yes h2 (obsB_yes h1 (obsB_yes h0 obsB_nil))))) (by simp only [cAdd, askI, endsI, I.zero, h0, h1, h2, h3, h4, cond_true, cond_false, Bool.and_true, Bool.true_and, Bool.and_false, Bool.false_and]) rfl
          · skip
            exact calc_path goodG (oracleIAdd hf) (cadd_p3 f t n a b c d) (obsB_yes h4 (obsB_yes h3 (obsB_yes h2 (obsB_yes h1 (obsB_yes h0 obsB_nil))))) (by simp only [cAdd, askI, endsI, I.zero, h0, h1, h2, h3, h4, cond_true, cond_false, Bool.and_true, Bool.true_and, Bool.and_false, Bool.false_and]) rfl
        · skip
          exact calc_path goodG (oracleIAdd hf) (cadd_p4 f t n a b c d) (obsB_yes h3 (obsB_yes h3 (obsB_yes h2 (obsB_yes h1 (obsB_yes h0 obsB_nil))))) (by simp only [cAdd, askI, endsI, I.zero, h0, h1, h2, h3, cond_true, cond_false, Bool.and_true, Bool.true_and, Bool.and_false, Bool.false_and]) rfl
  · skip
    exact calc_path goodG (oracleIAdd hf) (cadd_p5 f t n a b c d) (obsB_yes h0 obsB_nil) (by simp only [cAdd, askI, endsI, I.zero, h0, cond_true, cond_false, Bool.and_true, Bool.true_and, Bool.and_false, Bool.false_and]) rfl
def OISub (f : Bool → F → F → F × Int) : OracleF := lookO [(42, plainO oRt), (103, plainO (kTwo f))]
theorem oracleISub {f : Bool → F → F → F × Int} (hf : PlainOk Tryz.prog 103 (kTwo f)) : OracleOk Tryz.prog (OISub f) := .cons irightG.of (.cons hf.of (.nil _))
theorem csub_p0 (f : Bool → F → F → F × Int) (t : Nat) (n : Int) (a b c d : F) : takeR 1 ((run Tryz.prog EG (OISub f) 60).1 58 (.p 0 0 :: [.agg [.fl a, .fl b], .agg [.fl c, .fl d]]) [⟨t, [.si .i64 n], .ex⟩] (some [false, false])) = some (.agg [.fl F.zero, .fl F.zero], [⟨t, [.i .i64 20], .ex⟩], some [], [(rt ⟨a, b⟩, false), ((!(n == 0)), false)]) := by kernel_rfl
theorem csub_p1 (f : Bool → F → F → F × Int) (t : Nat) (n : Int) (a b c d : F) : takeR 1 ((run Tryz.prog EG (OISub f) 60).1 58 (.p 0 0 :: [.agg [.fl a, .fl b], .agg [.fl c, .fl d]]) [⟨t, [.si .i64 n], .ex⟩] (some [false, true, false])) = some (.agg [.fl F.zero, .fl F.zero], [⟨t, [.i .i64 20], .ex⟩], some [], [(rt ⟨c, d⟩, false), (rt ⟨a, b⟩, true), ((!(n == 0)), false)]) := by kernel_rfl
theorem csub_p2 (f : Bool → F → F → F × Int) (t : Nat) (n : Int) (a b c d : F) : takeR 1 ((run Tryz.prog EG (OISub f) 60).1 58 (.p 0 0 :: [.agg [.fl a, .fl b], .agg [.fl c, .fl d]]) [⟨t, [.si .i64 n], .ex⟩] (some [false, true, true, false, false])) = some (.agg [.fl (f false a d).1, .fl (f true b c).1], [⟨t, [.si .i64 n], .ex⟩], some [], [((!((f true b c).2 == 0)), false), ((!((f false a d).2 == 0)), false), (rt ⟨c, d⟩, true), (rt ⟨a, b⟩, true), ((!(n == 0)), false)]) := by kernel_rfl
theorem csub_p3 (f : Bool → F → F → F × Int) (t : Nat) (n : Int) (a b c d : F) : takeR 1 ((run Tryz.prog EG (OISub f) 60).1 58 (.p 0 0 :: [.agg [.fl a, .fl b], .agg [.fl c, .fl d]]) [⟨t, [.si .i64 n], .ex⟩] (some [false, true, true, false, true])) = some (.agg [.fl F.zero, .fl F.zero], [⟨t, [.si .i64 (f true b c).2], .ex⟩], some [], [((!((f true b c).2 == 0)), true), ((!((f false a d).2 == 0)), false), (rt ⟨c, d⟩, true), (rt ⟨a, b⟩, true), ((!(n == 0)), false)]) := by kernel_rfl
theorem csub_p4 (f : Bool → F → F → F × Int) (t : Nat) (n : Int) (a b c d : F) : takeR 1 ((run Tryz.prog EG (OISub f) 60).1 58 (.p 0 0 :: [.agg [.fl a, .fl b], .agg [.fl c, .fl d]]) [⟨t, [.si .i64 n], .ex⟩] (some [false, true, true, true, true])) = some (.agg [.fl F.zero, .fl F.zero], [⟨t, [.si .i64 (f false a d).2], .ex⟩], some [], [((!((f false a d).2 == 0)), true), ((!((f false a d).2 == 0)), true), (rt ⟨c, d⟩, true), (rt ⟨a, b⟩, true), ((!(n == 0)), false)]) := by kernel_rfl
theorem csub_p5 (f : Bool → F → F → F × Int) (t : Nat) (n : Int) (a b c d : F) : takeR 1 ((run Tryz.prog EG (OISub f) 60).1 58 (.p 0 0 :: [.agg [.fl a, .fl b], .agg [.fl c, .fl d]]) [⟨t, [.si .i64 n], .ex⟩] (some [true])) = some (.agg [.fl F.zero, .fl F.zero], [⟨t, [.si .i64 n], .ex⟩], some [], [((!(n == 0)), true)]) := by kernel_rfl
theorem csub_I {f : Bool → F → F → F × Int} (hf : PlainOk Tryz.prog 103 (kTwo f)) : OfOk Tryz.prog 58 (kC (aII (cSub f))) := by
  refine ofII fun a b c d t n => ?_
  cases h0 : (!(n == 0))
  · skip
    cases h1 : rt ⟨a, b⟩
    · skip
      exact calc_path goodG (oracleISub hf) (csub_p0 f t n a b c d) (obsB_yes h1 (obsB_yes h0 obsB_nil)) (by simp only [cSub, askI, endsI, I.zero, h0, h1, cond_true, cond_false, Bool.and_true, Bool.true_and, Bool.and_false, Bool.false_and]) rfl
    · skip
      cases h2 : rt ⟨c, d⟩
      · skip
        exact calc_path goodG (oracleISub hf) (csub_p1 f t n a b c d) (obsB_yes h2 (obsB_yes h1 (obsB_yes h0 obsB_nil))) (by simp only [cSub, askI, endsI, I.zero, h0, h1, h2, cond_true, cond_false, Bool.and_true, Bool.true_and, Bool.and_false, Bool.false_and]) rfl
      · skip
        cases h3 : (!((f false a d).2 == 0))
        · skip
          cases h4 : (!((f true b c).2 == 0))
          · skip
            exact calc_path goodG (oracleISub hf) (csub_p2 f t n a b c d) (obsB_yes h4 (obsB_yes h3 (obsB_yes h2 (obsB_yes h1 (obsB_yes h0 obsB_nil))))) (by simp only [cSub, askI, endsI, I.zero, h0, h1, h2, h3, h4, cond_true, cond_false, Bool.and_true, Bool.true_and, Bool.and_false, Bool.false_and]) rfl
          · skip
            exact calc_path goodG (oracleISub hf) (csub_p3 f t n a b c d) (obsB_yes h4 (obsB_yes h3 (obsB_yes h2 (obsB_yes h1 (obsB_yes h0 obsB_nil))))) (by simp only [cSub, askI, endsI, I.zero, h0, h1, h2, h3, h4, cond_true, cond_false, Bool.and_true, Bool.true_and, Bool.and_false, Bool.false_and]) rfl
        · skip
          exact calc_path goodG (oracleISub hf) (csub_p4 f t n a b c d) (obsB_yes h3 (obsB_yes h3 (obsB_yes h2 (obsB_yes h1 (obsB_yes h0 obsB_nil))))) (by simp only [cSub, askI, endsI, I.zero, h0, h1, h2, h3, cond_true, cond_false, Bool.and_true, Bool.true_and, Bool.and_false, Bool.false_and]) rfl
  · skip
    exact calc_path goodG (oracleISub hf) (csub_p5 f t n a b c d) (obsB_yes h0 obsB_nil) (by simp only [cSub, askI, endsI, I.zero, h0, cond_true, cond_false, Bool.and_true, Bool.true_and, Bool.and_false, Bool.false_and]) rfl
def OIMul (f : Bool → F → F → F × Int) : OracleF := lookO [(42, plainO oRt), (165, plainO (oI2 hullI)), (107, plainO (kTwo f))]
theorem oracleIMul {f : Bool → F → F → F × Int} (hf : PlainOk Tryz.prog 107 (kTwo f)) : OracleOk Tryz.prog (OIMul f) := .cons irightG.of (.cons hullG.of (.cons hf.of (.nil _)))
theorem cmul_p0 (f : Bool → F → F → F × Int) (t : Nat) (n : Int) (a b c d : F) : takeR 1 ((run Tryz.prog EG (OIMul f) 60).1 61 (.p 0 0 :: [.agg [.fl a, .fl b], .agg [.fl c, .fl d]]) [⟨t, [.si .i64 n], .ex⟩] (some [false, false])) = some (.agg [.fl F.zero, .fl F.zero], [⟨t, [.i .i64 20], .ex⟩], some [], [(rt ⟨a, b⟩, false), ((!(n == 0)), false)]) := by kernel_rfl
theorem cmul_p1 (f : Bool → F → F → F × Int) (t : Nat) (n : Int) (a b c d : F) : takeR 1 ((run Tryz.prog EG (OIMul f) 60).1 61 (.p 0 0 :: [.agg [.fl a, .fl b], .agg [.fl c, .fl d]]) [⟨t, [.si .i64 n], .ex⟩] (some [false, true, false])) = some (.agg [.fl F.zero, .fl F.zero], [⟨t, [.i .i64 20], .ex⟩], some [], [(rt ⟨c, d⟩, false), (rt ⟨a, b⟩, true), ((!(n == 0)), false)]) := by kernel_rfl
theorem cmul_p2 (f : Bool → F → F → F × Int) (t : Nat) (n : Int) (a b c d : F) : takeR 1 ((run Tryz.prog EG (OIMul f) 60).1 61 (.p 0 0 :: [.agg [.fl a, .fl b], .agg [.fl c, .fl d]]) [⟨t, [.si .i64 n], .ex⟩] (some [false, true, true, false, false, false, false, false, false, false, false])) = some (.agg [.fl (mnF (mnF (mnF (mnF (f false a c).1 (f false a c).1) (f false a d).1) (f false b c).1) (f false b d).1), .fl (mxF (mxF (mxF (mxF (f true a c).1 (f true a c).1) (f true a d).1) (f true b c).1) (f true b d).1)], [⟨t, [.si .i64 n], .ex⟩], some [], [((!((f true b d).2 == 0)), false), ((!((f false b d).2 == 0)), false), ((!((f true b c).2 == 0)), false), ((!((f false b c).2 == 0)), false), ((!((f true a d).2 == 0)), false), ((!((f false a d).2 == 0)), false), ((!((f true a c).2 == 0)), false), ((!((f false a c).2 == 0)), false), (rt ⟨c, d⟩, true), (rt ⟨a, b⟩, true), ((!(n == 0)), false)]) := by kernel_rfl
theorem cmul_p3 (f : Bool → F → F → F × Int) (t : Nat) (n : Int) (a b c d : F) : takeR 1 ((run Tryz.prog EG (OIMul f) 60).1 61 (.p 0 0 :: [.agg [.fl a, .fl b], .agg [.fl c, .fl d]]) [⟨t, [.si .i64 n], .ex⟩] (some [false, true, true, false, false, false, false, false, false, false, true, true])) = some (.agg [.fl F.zero, .fl F.zero], [⟨t, [.si .i64 (f true b d).2], .ex⟩], some [], [((!((f true b d).2 == 0)), true), ((!((f true b d).2 == 0)), true), ((!((f false b d).2 == 0)), false), ((!((f true b c).2 == 0)), false), ((!((f false b c).2 == 0)), false), ((!((f true a d).2 == 0)), false), ((!((f false a d).2 == 0)), false), ((!((f true a c).2 == 0)), false), ((!((f false a c).2 == 0)), false), (rt ⟨c, d⟩, true), (rt ⟨a, b⟩, true), ((!(n == 0)), false)]) := by kernel_rfl
theorem cmul_p4 (f : Bool → F → F → F × Int) (t : Nat) (n : Int) (a b c d : F) : takeR 1 ((run Tryz.prog EG (OIMul f) 60).1 61 (.p 0 0 :: [.agg [.fl a, .fl b], .agg [.fl c, .fl d]]) [⟨t, [.si .i64 n], .ex⟩] (some [false, true, true, false, false, false, false, false, false, true, true, true])) = some (.agg [.fl F.zero, .fl F.zero], [⟨t, [.si .i64 (f false b d).2], .ex⟩], some [], [((!((f false b d).2 == 0)), true), ((!((f false b d).2 == 0)), true), ((!((f false b d).2 == 0)), true), ((!((f true b c).2 == 0)), false), ((!((f false b c).2 == 0)), false), ((!((f true a d).2 == 0)), false), ((!((f false a d).2 == 0)), false), ((!((f true a c).2 == 0)), false), ((!((f false a c).2 == 0)), false), (rt ⟨c, d⟩, true), (rt ⟨a, b⟩, true), ((!(n == 0)), false)]) := by kernel_rfl
theorem cmul_p5 (f : Bool → F → F → F × Int) (t : Nat) (n : Int) (a b c d : F) : takeR 1 ((run Tryz.prog EG (OIMul f) 60).1 61 (.p 0 0 :: [.agg [.fl a, .fl b], .agg [.fl c, .fl d]]) [⟨t, [.si .i64 n], .ex⟩] (some [false, true, true, false, false, false, false, false, true, true])) = some (.agg [.fl F.zero, .fl F.zero], [⟨t, [.si .i64 (f true b c).2], .ex⟩], some [], [((!((f true b c).2 == 0)), true), ((!((f true b c).2 == 0)), true), ((!((f false b c).2 == 0)), false), ((!((f true a d).2 == 0)), false), ((!((f false a d).2 == 0)), false), ((!((f true a c).2 == 0)), false), ((!((f false a c).2 == 0)), false), (rt ⟨c, d⟩, true), (rt ⟨a, b⟩, true), ((!(n == 0)), false)]) := by kernel_rfl
theorem cmul_p6 (f : Bool → F → F → F × Int) (t : Nat) (n : Int) (a b c d : F) : takeR 1 ((run Tryz.prog EG (OIMul f) 60).1 61 (.p 0 0 :: [.agg [.fl a, .fl b], .agg [.fl c, .fl d]]) [⟨t, [.si .i64 n], .ex⟩] (some [false, true, true, false, false, false, false, true, true, true])) = some (.agg [.fl F.zero, .fl F.zero], [⟨t, [.si .i64 (f false b c).2], .ex⟩], some [], [((!((f false b c).2 == 0)), true), ((!((f false b c).2 == 0)), true), ((!((f false b c).2 == 0)), true), ((!((f true a d).2 == 0)), false), ((!((f false a d).2 == 0)), false), ((!((f true a c).2 == 0)), false), ((!((f false a c).2 == 0)), false), (rt ⟨c, d⟩, true), (rt ⟨a, b⟩, true), ((!(n == 0)), false)]) := by kernel_rfl
theorem cmul_p7 (f : Bool → F → F → F × Int) (t : Nat) (n : Int) (a b c d : F) : takeR 1 ((run Tryz.prog EG (OIMul f) 60).1 61 (.p 0 0 :: [.agg [.fl a, .fl b], .agg [.fl c, .fl d]]) [⟨t, [.si .i64 n], .ex⟩] (some [false, true, true, false, false, false, true, true])) = some (.agg [.fl F.zero, .fl F.zero], [⟨t, [.si .i64 (f true a d).2], .ex⟩], some [], [((!((f true a d).2 == 0)), true), ((!((f true a d).2 == 0)), true), ((!((f false a d).2 == 0)), false), ((!((f true a c).2 == 0)), false), ((!((f false a c).2 == 0)), false), (rt ⟨c, d⟩, true), (rt ⟨a, b⟩, true), ((!(n == 0)), false)]) := by kernel_rfl
theorem cmul_p8 (f : Bool → F → F → F × Int) (t : Nat) (n : Int) (a b c d : F) : takeR 1 ((run Tryz.prog EG (OIMul f) 60).1 61 (.p 0 0 :: [.agg [.fl a, .fl b], .agg [.fl c, .fl d]]) [⟨t, [.si .i64 n], .ex⟩] (some [false, true, true, false, false, true, true, true])) = some (.agg [.fl F.zero, .fl F.zero], [⟨t, [.si .i64 (f false a d).2], .ex⟩], some [], [((!((f false a d).2 == 0)), true), ((!((f false a d).2 == 0)), true), ((!((f false a d).2 == 0)), true), ((!((f true a c).2 == 0)), false), ((!((f false a c).2 == 0)), false), (rt ⟨c, d⟩, true), (rt ⟨a, b⟩, true), ((!(n == 0)), false)]) := by kernel_rfl
theorem cmul_p9 (f : Bool → F → F → F × Int) (t : Nat) (n : Int) (a b c d : F) : takeR 1 ((run Tryz.prog EG (OIMul f) 60).1 61 (.p 0 0 :: [.agg [.fl a, .fl b], .agg [.fl c, .fl d]]) [⟨t, [.si .i64 n], .ex⟩] (some [false, true, true, false, true, true])) = some (.agg [.fl F.zero, .fl F.zero], [⟨t, [.si .i64 (f true a c).2], .ex⟩], some [], [((!((f true a c).2 == 0)), true), ((!((f true a c).2 == 0)), true), ((!((f false a c).2 == 0)), false), (rt ⟨c, d⟩, true), (rt ⟨a, b⟩, true), ((!(n == 0)), false)]) := by kernel_rfl
theorem cmul_p10 (f : Bool → F → F → F × Int) (t : Nat) (n : Int) (a b c d : F) : takeR 1 ((run Tryz.prog EG (OIMul f) 60).1 61 (.p 0 0 :: [.agg [.fl a, .fl b], .agg [.fl c, .fl d]]) [⟨t, [.si .i64 n], .ex⟩] (some [false, true, true, true, true, true])) = some (.agg [.fl F.zero, .fl F.zero], [⟨t, [.si .i64 (f false a c).2], .ex⟩], some [], [((!((f false a c).2 == 0)), true), ((!((f false a c).2 == 0)), true), ((!((f false a c).2 == 0)), true), (rt ⟨c, d⟩, true), (rt ⟨a, b⟩, true), ((!(n == 0)), false)]) := by kernel_rfl
theorem cmul_p11 (f : Bool → F → F → F × Int) (t : Nat) (n : Int) (a b c d : F) : takeR 1 ((run Tryz.prog EG (OIMul f) 60).1 61 (.p 0 0 :: [.agg [.fl a, .fl b], .agg [.fl c, .fl d]]) [⟨t, [.si .i64 n], .ex⟩] (some [true])) = some (.agg [.fl F.zero, .fl F.zero], [⟨t, [.si .i64 n], .ex⟩], some [], [((!(n == 0)), true)]) := by kernel_rfl
theorem cmul_I {f : Bool → F → F → F × Int} (hf : PlainOk Tryz.prog 107 (kTwo f)) : OfOk Tryz.prog 61 (kC (aII (cMul f))) := by
  refine ofII fun a b c d t n => ?_
  cases h0 : (!(n == 0))
  · skip
    cases h1 : rt ⟨a, b⟩
    · skip
      exact calc_path goodG (oracleIMul hf) (cmul_p0 f t n a b c d) (obsB_yes h1 (obsB_yes h0 obsB_nil)) (by simp only [cMul, askI, allI, thenI, oneI, endsI, hullI, show (!((0 : Int) == 0)) = false from rfl, show (!((11 : Int) == 0)) = true from rfl, I.zero, h0, h1, cond_true, cond_false, Bool.and_true, Bool.true_and, Bool.and_false, Bool.false_and]) rfl
    · skip
      cases h2 : rt ⟨c, d⟩
      · skip
        exact calc_path goodG (oracleIMul hf) (cmul_p1 f t n a b c d) (obsB_yes h2 (obsB_yes h1 (obsB_yes h0 obsB_nil))) (by simp only [cMul, askI, allI, thenI, oneI, endsI, hullI, show (!((0 : Int) == 0)) = false from rfl, show (!((11 : Int) == 0)) = true from rfl, I.zero, h0, h1, h2, cond_true, cond_false, Bool.and_true, Bool.true_and, Bool.and_false, Bool.false_and]) rfl
      · skip
        cases h10 : (!((f false a c).2 == 0))
        · skip
          cases h11 : (!((f true a c).2 == 0))
          · skip
            cases h12 : (!((f false a d).2 == 0))
            · skip
              cases h13 : (!((f true a d).2 == 0))
              · skip
                cases h14 : (!((f false b c).2 == 0))
                · skip
                  cases h15 : (!((f true b c).2 == 0))
                  · skip
                    cases h16 : (!((f false b d).2 == 0))
                    · skip
                      cases h17 : (!((f true b d).2 == 0))
                      · skip
                        exact calc_path goodG (oracleIMul hf) (cmul_p2 f t n a b c d) (obsB_yes h17 (obsB_yes h16 (obsB_yes h15 (obsB_yes h14 (obsB_yes h13 (obsB_yes h12 (obsB_yes h11 (obsB_yes h10 (obsB_yes h2 (obsB_yes h1 (obsB_yes h0 obsB_nil))))))))))) (by simp only [cMul, askI, allI, thenI, oneI, endsI, hullI, show (!((0 : Int) == 0)) = false from rfl, show (!((11 : Int) == 0)) = true from rfl, I.zero, h0, h1, h2, h10, h11, h12, h13, h14, h15, h16, h17, cond_true, cond_false, Bool.and_true, Bool.true_and, Bool.and_false, Bool.false_and]) rfl
                      · skip
                        exact calc_path goodG (oracleIMul hf) (cmul_p3 f t n a b c d) (obsB_yes h17 (obsB_yes h17 (obsB_yes h16 (obsB_yes h15 (obsB_yes h14 (obsB_yes h13 (obsB_yes h12 (obsB_yes h11 (obsB_yes h10 (obsB_yes h2 (obsB_yes h1 (obsB_yes h0 obsB_nil)))))))))))) (by simp only [cMul, askI, allI, thenI, oneI, endsI, hullI, show (!((0 : Int) == 0)) = false from rfl, show (!((11 : Int) == 0)) = true from rfl, I.zero, h0, h1, h2, h10, h11, h12, h13, h14, h15, h16, h17, cond_true, cond_false, Bool.and_true, Bool.true_and, Bool.and_false, Bool.false_and]) rfl
                    · skip
                      exact calc_path goodG (oracleIMul hf) (cmul_p4 f t n a b c d) (obsB_yes h16 (obsB_yes h16 (obsB_yes h16 (obsB_yes h15 (obsB_yes h14 (obsB_yes h13 (obsB_yes h12 (obsB_yes h11 (obsB_yes h10 (obsB_yes h2 (obsB_yes h1 (obsB_yes h0 obsB_nil)))))))))))) (by simp only [cMul, askI, allI, thenI, oneI, endsI, hullI, show (!((0 : Int) == 0)) = false from rfl, show (!((11 : Int) == 0)) = true from rfl, I.zero, h0, h1, h2, h10, h11, h12, h13, h14, h15, h16, cond_true, cond_false, Bool.and_true, Bool.true_and, Bool.and_false, Bool.false_and]) rfl
                  · skip
                    exact calc_path goodG (oracleIMul hf) (cmul_p5 f t n a b c d) (obsB_yes h15 (obsB_yes h15 (obsB_yes h14 (obsB_yes h13 (obsB_yes h12 (obsB_yes h11 (obsB_yes h10 (obsB_yes h2 (obsB_yes h1 (obsB_yes h0 obsB_nil)))))))))) (by simp only [cMul, askI, allI, thenI, oneI, endsI, hullI, show (!((0 : Int) == 0)) = false from rfl, show (!((11 : Int) == 0)) = true from rfl, I.zero, h0, h1, h2, h10, h11, h12, h13, h14, h15, cond_true, cond_false, Bool.and_true, Bool.true_and, Bool.and_false, Bool.false_and]) rfl
                · skip
                  exact calc_path goodG (oracleIMul hf) (cmul_p6 f t n a b c d) (obsB_yes h14 (obsB_yes h14 (obsB_yes h14 (obsB_yes h13 (obsB_yes h12 (obsB_yes h11 (obsB_yes h10 (obsB_yes h2 (obsB_yes h1 (obsB_yes h0 obsB_nil)))))))))) (by simp only [cMul, askI, allI, thenI, oneI, endsI, hullI, show (!((0 : Int) == 0)) = false from rfl, show (!((11 : Int) == 0)) = true from rfl, I.zero, h0, h1, h2, h10, h11, h12, h13, h14, cond_true, cond_false, Bool.and_true, Bool.true_and, Bool.and_false, Bool.false_and]) rfl
              · skip
                exact calc_path goodG (oracleIMul hf) (cmul_p7 f t n a b c d) (obsB_yes h13 (obsB_yes h13 (obsB_yes h12 (obsB_yes h11 (obsB_yes h10 (obsB_yes h2 (obsB_yes h1 (obsB_yes h0 obsB_nil)))))))) (by simp only [cMul, askI, allI, thenI, oneI, endsI, hullI, show (!((0 : Int) == 0)) = false from rfl, show (!((11 : Int) == 0)) = true from rfl, I.zero, h0, h1, h2, h10, h11, h12, h13, cond_true, cond_false, Bool.and_true, Bool.true_and, Bool.and_false, Bool.false_and]) rfl
            · skip
              exact calc_path goodG (oracleIMul hf) (cmul_p8 f t n a b c d) (obsB_yes h12 (obsB_yes h12 (obsB_yes h12 (obsB_yes h11 (obsB_yes h10 (obsB_yes h2 (obsB_yes h1 (obsB_yes h0 obsB_nil)))))))) (by simp only [cMul, askI, allI, thenI, oneI, endsI, hullI, show (!((0 : Int) == 0)) = false from rfl, show (!((11 : Int) == 0)) = true from rfl, I.zero, h0, h1, h2, h10, h11, h12, cond_true, cond_false, Bool.and_true, Bool.true_and, Bool.and_false, Bool.false_and]) rfl
          · skip
            exact calc_path goodG (oracleIMul hf) (cmul_p9 f t n a b c d) (obsB_yes h11 (obsB_yes h11 (obsB_yes h10 (obsB_yes h2 (obsB_yes h1 (obsB_yes h0 obsB_nil)))))) (by simp only [cMul, askI, allI, thenI, oneI, endsI, hullI, show (!((0 : Int) == 0)) = false from rfl, show (!((11 : Int) == 0)) = true from rfl, I.zero, h0, h1, h2, h10, h11, cond_true, cond_false, Bool.and_true, Bool.true_and, Bool.and_false, Bool.false_and]) rfl
        · skip
          exact calc_path goodG (oracleIMul hf) (cmul_p10 f t n a b c d) (obsB_yes h10 (obsB_yes h10 (obsB_yes h10 (obsB_yes h2 (obsB_yes h1 (obsB_yes h0 obsB_nil)))))) (by simp only [cMul, askI, allI, thenI, oneI, endsI, hullI, show (!((0 : Int) == 0)) = false from rfl, show (!((11 : Int) == 0)) = true from rfl, I.zero, h0, h1, h2, h10, cond_true, cond_false, Bool.and_true, Bool.true_and, Bool.and_false, Bool.false_and]) rfl
  · skip
    exact calc_path goodG (oracleIMul hf) (cmul_p11 f t n a b c d) (obsB_yes h0 obsB_nil) (by simp only [cMul, askI, allI, thenI, oneI, endsI, hullI, show (!((0 : Int) == 0)) = false from rfl, show (!((11 : Int) == 0)) = true from rfl, I.zero, h0, cond_true, cond_false, Bool.and_true, Bool.true_and, Bool.and_false, Bool.false_and]) rfl
def OIDiv (f : Bool → F → F → F × Int) : OracleF := lookO [(42, plainO oRt), (109, plainO oHas), (165, plainO (oI2 hullI)), (110, plainO (kTwo f))]
theorem oracleIDiv {f : Bool → F → F → F × Int} (hf : PlainOk Tryz.prog 110 (kTwo f)) : OracleOk Tryz.prog (OIDiv f) := .cons irightG.of (.cons ihasG.of (.cons hullG.of (.cons hf.of (.nil _))))
theorem cdiv_p0 (f : Bool → F → F → F × Int) (t : Nat) (n : Int) (a b c d : F) : takeR 1 ((run Tryz.prog EG (OIDiv f) 60).1 60 (.p 0 0 :: [.agg [.fl a, .fl b], .agg [.fl c, .fl d]]) [⟨t, [.si .i64 n], .ex⟩] (some [false, false])) = some (.agg [.fl F.zero, .fl F.zero], [⟨t, [.i .i64 20], .ex⟩], some [], [(rt ⟨a, b⟩, false), ((!(n == 0)), false)]) := by kernel_rfl
theorem cdiv_p1 (f : Bool → F → F → F × Int) (t : Nat) (n : Int) (a b c d : F) : takeR 1 ((run Tryz.prog EG (OIDiv f) 60).1 60 (.p 0 0 :: [.agg [.fl a, .fl b], .agg [.fl c, .fl d]]) [⟨t, [.si .i64 n], .ex⟩] (some [false, true, false])) = some (.agg [.fl F.zero, .fl F.zero], [⟨t, [.i .i64 20], .ex⟩], some [], [(rt ⟨c, d⟩, false), (rt ⟨a, b⟩, true), ((!(n == 0)), false)]) := by kernel_rfl
theorem cdiv_p2 (f : Bool → F → F → F × Int) (t : Nat) (n : Int) (a b c d : F) : takeR 1 ((run Tryz.prog EG (OIDiv f) 60).1 60 (.p 0 0 :: [.agg [.fl a, .fl b], .agg [.fl c, .fl d]]) [⟨t, [.si .i64 n], .ex⟩] (some [false, true, true, false, false, false, false, false, false, false, false, false])) = some (.agg [.fl (mnF (mnF (mnF (mnF (f false a c).1 (f false a c).1) (f false a d).1) (f false b c).1) (f false b d).1), .fl (mxF (mxF (mxF (mxF (f true a c).1 (f true a c).1) (f true a d).1) (f true b c).1) (f true b d).1)], [⟨t, [.si .i64 n], .ex⟩], some [], [((!((f true b d).2 == 0)), false), ((!((f false b d).2 == 0)), false), ((!((f true b c).2 == 0)), false), ((!((f false b c).2 == 0)), false), ((!((f true a d).2 == 0)), false), ((!((f false a d).2 == 0)), false), ((!((f true a c).2 == 0)), false), ((!((f false a c).2 == 0)), false), (hasB ⟨c, d⟩ F.zero, false), (rt ⟨c, d⟩, true), (rt ⟨a, b⟩, true), ((!(n == 0)), false)]) := by kernel_rfl
theorem cdiv_p3 (f : Bool → F → F → F × Int) (t : Nat) (n : Int) (a b c d : F) : takeR 1 ((run Tryz.prog EG (OIDiv f) 60).1 60 (.p 0 0 :: [.agg [.fl a, .fl b], .agg [.fl c, .fl d]]) [⟨t, [.si .i64 n], .ex⟩] (some [false, true, true, false, false, false, false, false, false, false, false, true, true])) = some (.agg [.fl F.zero, .fl F.zero], [⟨t, [.si .i64 (f true b d).2], .ex⟩], some [], [((!((f true b d).2 == 0)), true), ((!((f true b d).2 == 0)), true), ((!((f false b d).2 == 0)), false), ((!((f true b c).2 == 0)), false), ((!((f false b c).2 == 0)), false), ((!((f true a d).2 == 0)), false), ((!((f false a d).2 == 0)), false), ((!((f true a c).2 == 0)), false), ((!((f false a c).2 == 0)), false), (hasB ⟨c, d⟩ F.zero, false), (rt ⟨c, d⟩, true), (rt ⟨a, b⟩, true), ((!(n == 0)), false)]) := by kernel_rfl
theorem cdiv_p4 (f : Bool → F → F → F × Int) (t : Nat) (n : Int) (a b c d : F) : takeR 1 ((run Tryz.prog EG (OIDiv f) 60).1 60 (.p 0 0 :: [.agg [.fl a, .fl b], .agg [.fl c, .fl d]]) [⟨t, [.si .i64 n], .ex⟩] (some [false, true, true, false, false, false, false, false, false, false, true, true, true])) = some (.agg [.fl F.zero, .fl F.zero], [⟨t, [.si .i64 (f false b d).2], .ex⟩], some [], [((!((f false b d).2 == 0)), true), ((!((f false b d).2 == 0)), true), ((!((f false b d).2 == 0)), true), ((!((f true b c).2 == 0)), false), ((!((f false b c).2 == 0)), false), ((!((f true a d).2 == 0)), false), ((!((f false a d).2 == 0)), false), ((!((f true a c).2 == 0)), false), ((!((f false a c).2 == 0)), false), (hasB ⟨c, d⟩ F.zero, false), (rt ⟨c, d⟩, true), (rt ⟨a, b⟩, true), ((!(n == 0)), false)]) := by kernel_rfl
theorem cdiv_p5 (f : Bool → F → F → F × Int) (t : Nat) (n : Int) (a b c d : F) : takeR 1 ((run Tryz.prog EG (OIDiv f) 60).1 60 (.p 0 0 :: [.agg [.fl a, .fl b], .agg [.fl c, .fl d]]) [⟨t, [.si .i64 n], .ex⟩] (some [false, true, true, false, false, false, false, false, false, true, true])) = some (.agg [.fl F.zero, .fl F.zero], [⟨t, [.si .i64 (f true b c).2], .ex⟩], some [], [((!((f true b c).2 == 0)), true), ((!((f true b c).2 == 0)), true), ((!((f false b c).2 == 0)), false), ((!((f true a d).2 == 0)), false), ((!((f false a d).2 == 0)), false), ((!((f true a c).2 == 0)), false), ((!((f false a c).2 == 0)), false), (hasB ⟨c, d⟩ F.zero, false), (rt ⟨c, d⟩, true), (rt ⟨a, b⟩, true), ((!(n == 0)), false)]) := by kernel_rfl
theorem cdiv_p6 (f : Bool → F → F → F × Int) (t : Nat) (n : Int) (a b c d : F) : takeR 1 ((run Tryz.prog EG (OIDiv f) 60).1 60 (.p 0 0 :: [.agg [.fl a, .fl b], .agg [.fl c, .fl d]]) [⟨t, [.si .i64 n], .ex⟩] (some [false, true, true, false, false, false, false, false, true, true, true])) = some (.agg [.fl F.zero, .fl F.zero], [⟨t, [.si .i64 (f false b c).2], .ex⟩], some [], [((!((f false b c).2 == 0)), true), ((!((f false b c).2 == 0)), true), ((!((f false b c).2 == 0)), true), ((!((f true a d).2 == 0)), false), ((!((f false a d).2 == 0)), false), ((!((f true a c).2 == 0)), false), ((!((f false a c).2 == 0)), false), (hasB ⟨c, d⟩ F.zero, false), (rt ⟨c, d⟩, true), (rt ⟨a, b⟩, true), ((!(n == 0)), false)]) := by kernel_rfl
theorem cdiv_p7 (f : Bool → F → F → F × Int) (t : Nat) (n : Int) (a b c d : F) : takeR 1 ((run Tryz.prog EG (OIDiv f) 60).1 60 (.p 0 0 :: [.agg [.fl a, .fl b], .agg [.fl c, .fl d]]) [⟨t, [.si .i64 n], .ex⟩] (some [false, true, true, false, false, false, false, true, true])) = some (.agg [.fl F.zero, .fl F.zero], [⟨t, [.si .i64 (f true a d).2], .ex⟩], some [], [((!((f true a d).2 == 0)), true), ((!((f true a d).2 == 0)), true), ((!((f false a d).2 == 0)), false), ((!((f true a c).2 == 0)), false), ((!((f false a c).2 == 0)), false), (hasB ⟨c, d⟩ F.zero, false), (rt ⟨c, d⟩, true), (rt ⟨a, b⟩, true), ((!(n == 0)), false)]) := by kernel_rfl
theorem cdiv_p8 (f : Bool → F → F → F × Int) (t : Nat) (n : Int) (a b c d : F) : takeR 1 ((run Tryz.prog EG (OIDiv f) 60).1 60 (.p 0 0 :: [.agg [.fl a, .fl b], .agg [.fl c, .fl d]]) [⟨t, [.si .i64 n], .ex⟩] (some [false, true, true, false, false, false, true, true, true])) = some (.agg [.fl F.zero, .fl F.zero], [⟨t, [.si .i64 (f false a d).2], .ex⟩], some [], [((!((f false a d).2 == 0)), true), ((!((f false a d).2 == 0)), true), ((!((f false a d).2 == 0)), true), ((!((f true a c).2 == 0)), false), ((!((f false a c).2 == 0)), false), (hasB ⟨c, d⟩ F.zero, false), (rt ⟨c, d⟩, true), (rt ⟨a, b⟩, true), ((!(n == 0)), false)]) := by kernel_rfl
theorem cdiv_p9 (f : Bool → F → F → F × Int) (t : Nat) (n : Int) (a b c d : F) : takeR 1 ((run Tryz.prog EG (OIDiv f) 60).1 60 (.p 0 0 :: [.agg [.fl a, .fl b], .agg [.fl c, .fl d]]) [⟨t, [.si .i64 n], .ex⟩] (some [false, true, true, false, false, true, true])) = some (.agg [.fl F.zero, .fl F.zero], [⟨t, [.si .i64 (f true a c).2], .ex⟩], some [], [((!((f true a c).2 == 0)), true), ((!((f true a c).2 == 0)), true), ((!((f false a c).2 == 0)), false), (hasB ⟨c, d⟩ F.zero, false), (rt ⟨c, d⟩, true), (rt ⟨a, b⟩, true), ((!(n == 0)), false)]) := by kernel_rfl
theorem cdiv_p10 (f : Bool → F → F → F × Int) (t : Nat) (n : Int) (a b c d : F) : takeR 1 ((run Tryz.prog EG (OIDiv f) 60).1 60 (.p 0 0 :: [.agg [.fl a, .fl b], .agg [.fl c, .fl d]]) [⟨t, [.si .i64 n], .ex⟩] (some [false, true, true, false, true, true, true])) = some (.agg [.fl F.zero, .fl F.zero], [⟨t, [.si .i64 (f false a c).2], .ex⟩], some [], [((!((f false a c).2 == 0)), true), ((!((f false a c).2 == 0)), true), ((!((f false a c).2 == 0)), true), (hasB ⟨c, d⟩ F.zero, false), (rt ⟨c, d⟩, true), (rt ⟨a, b⟩, true), ((!(n == 0)), false)]) := by kernel_rfl
theorem cdiv_p11 (f : Bool → F → F → F × Int) (t : Nat) (n : Int) (a b c d : F) : takeR 1 ((run Tryz.prog EG (OIDiv f) 60).1 60 (.p 0 0 :: [.agg [.fl a, .fl b], .agg [.fl c, .fl d]]) [⟨t, [.si .i64 n], .ex⟩] (some [false, true, true, true])) = some (.agg [.fl F.zero, .fl F.zero], [⟨t, [.i .i64 11], .ex⟩], some [], [(hasB ⟨c, d⟩ F.zero, true), (rt ⟨c, d⟩, true), (rt ⟨a, b⟩, true), ((!(n == 0)), false)]) := by kernel_rfl
theorem cdiv_p12 (f : Bool → F → F → F × Int) (t : Nat) (n : Int) (a b c d : F) : takeR 1 ((run Tryz.prog EG (OIDiv f) 60).1 60 (.p 0 0 :: [.agg [.fl a, .fl b], .agg [.fl c, .fl d]]) [⟨t, [.si .i64 n], .ex⟩] (some [true])) = some (.agg [.fl F.zero, .fl F.zero], [⟨t, [.si .i64 n], .ex⟩], some [], [((!(n == 0)), true)]) := by kernel_rfl
theorem cdiv_I {f : Bool → F → F → F × Int} (hf : PlainOk Tryz.prog 110 (kTwo f)) : OfOk Tryz.prog 60 (kC (aII (cDiv f))) := by
  refine ofII fun a b c d t n => ?_
  cases h0 : (!(n == 0))
  · skip
    cases h1 : rt ⟨a, b⟩
    · skip
      exact calc_path goodG (oracleIDiv hf) (cdiv_p0 f t n a b c d) (obsB_yes h1 (obsB_yes h0 obsB_nil)) (by simp only [cDiv, askI, allI, thenI, oneI, endsI, hullI, show (!((0 : Int) == 0)) = false from rfl, show (!((11 : Int) == 0)) = true from rfl, I.zero, h0, h1, cond_true, cond_false, Bool.and_true, Bool.true_and, Bool.and_false, Bool.false_and]) rfl
    · skip
      cases h2 : rt ⟨c, d⟩
      · skip
        exact calc_path goodG (oracleIDiv hf) (cdiv_p1 f t n a b c d) (obsB_yes h2 (obsB_yes h1 (obsB_yes h0 obsB_nil))) (by simp only [cDiv, askI, allI, thenI, oneI, endsI, hullI, show (!((0 : Int) == 0)) = false from rfl, show (!((11 : Int) == 0)) = true from rfl, I.zero, h0, h1, h2, cond_true, cond_false, Bool.and_true, Bool.true_and, Bool.and_false, Bool.false_and]) rfl
      · skip
        cases h9 : hasB ⟨c, d⟩ F.zero
        · skip
          cases h10 : (!((f false a c).2 == 0))
          · skip
            cases h11 : (!((f true a c).2 == 0))
            · skip
              cases h12 : (!((f false a d).2 == 0))
              · skip
                cases h13 : (!((f true a d).2 == 0))
                · skip
                  cases h14 : (!((f false b c).2 == 0))
                  · skip
                    cases h15 : (!((f true b c).2 == 0))
                    · skip
                      cases h16 : (!((f false b d).2 == 0))
                      · skip
                        cases h17 : (!((f true b d).2 == 0))
                        · skip
                          exact calc_path goodG (oracleIDiv hf) (cdiv_p2 f t n a b c d) (obsB_yes h17 (obsB_yes h16 (obsB_yes h15 (obsB_yes h14 (obsB_yes h13 (obsB_yes h12 (obsB_yes h11 (obsB_yes h10 (obsB_yes h9 (obsB_yes h2 (obsB_yes h1 (obsB_yes h0 obsB_nil)))))))))))) (by simp only [cDiv, askI, allI, thenI, oneI, endsI, hullI, show (!((0 : Int) == 0)) = false from rfl, show (!((11 : Int) == 0)) = true from rfl, I.zero, h0, h1, h2, h9, h10, h11, h12, h13, h14, h15, h16, h17, cond_true, cond_false, Bool.and_true, Bool.true_and, Bool.and_false, Bool.false_and]) rfl
                        · skip
                          exact calc_path goodG (oracleIDiv hf) (cdiv_p3 f t n a b c d) (obsB_yes h17 (obsB_yes h17 (obsB_yes h16 (obsB_yes h15 (obsB_yes h14 (obsB_yes h13 (obsB_yes h12 (obsB_yes h11 (obsB_yes h10 (obsB_yes h9 (obsB_yes h2 (obsB_yes h1 (obsB_yes h0 obsB_nil))))))))))))) (by simp only [cDiv, askI, allI, thenI, oneI, endsI, hullI, show (!((0 : Int) == 0)) = false from rfl, show (!((11 : Int) == 0)) = true from rfl, I.zero, h0, h1, h2, h9, h10, h11, h12, h13, h14, h15, h16, h17, cond_true, cond_false, Bool.and_true, Bool.true_and, Bool.and_false, Bool.false_and]) rfl
                      · skip
                        exact calc_path goodG (oracleIDiv hf) (cdiv_p4 f t n a b c d) (obsB_yes h16 (obsB_yes h16 (obsB_yes h16 (obsB_yes h15 (obsB_yes h14 (obsB_yes h13 (obsB_yes h12 (obsB_yes h11 (obsB_yes h10 (obsB_yes h9 (obsB_yes h2 (obsB_yes h1 (obsB_yes h0 obsB_nil))))))))))))) (by simp only [cDiv, askI, allI, thenI, oneI, endsI, hullI, show (!((0 : Int) == 0)) = false from rfl, show (!((11 : Int) == 0)) = true from rfl, I.zero, h0, h1, h2, h9, h10, h11, h12, h13, h14, h15, h16, cond_true, cond_false, Bool.and_true, Bool.true_and, Bool.and_false, Bool.false_and]) rfl
                    · skip
                      exact calc_path goodG (oracleIDiv hf) (cdiv_p5 f t n a b c d) (obsB_yes h15 (obsB_yes h15 (obsB_yes h14 (obsB_yes h13 (obsB_yes h12 (obsB_yes h11 (obsB_yes h10 (obsB_yes h9 (obsB_yes h2 (obsB_yes h1 (obsB_yes h0 obsB_nil))))))))))) (by simp only [cDiv, askI, allI, thenI, oneI, endsI, hullI, show (!((0 : Int) == 0)) = false from rfl, show (!((11 : Int) == 0)) = true from rfl, I.zero, h0, h1, h2, h9, h10, h11, h12, h13, h14, h15, cond_true, cond_false, Bool.and_true, Bool.true_and, Bool.and_false, Bool.false_and]) rfl
                  · skip
                    exact calc_path goodG (oracleIDiv hf) (cdiv_p6 f t n a b c d) (obsB_yes h14 (obsB_yes h14 (obsB_yes h14 (obsB_yes h13 (obsB_yes h12 (obsB_yes h11 (obsB_yes h10 (obsB_yes h9 (obsB_yes h2 (obsB_yes h1 (obsB_yes h0 obsB_nil))))))))))) (by simp only [cDiv, askI, allI, thenI, oneI, endsI, hullI, show (!((0 : Int) == 0)) = false from rfl, show (!((11 : Int) == 0)) = true from rfl, I.zero, h0, h1, h2, h9, h10, h11, h12, h13, h14, cond_true, cond_false, Bool.and_true, Bool.true_and, Bool.and_false, Bool.false_and]) rfl
                · skip
                  exact calc_path goodG (oracleIDiv hf) (cdiv_p7 f t n a b c d) (obsB_yes h13 (obsB_yes h13 (obsB_yes h12 (obsB_yes h11 (obsB_yes h10 (obsB_yes h9 (obsB_yes h2 (obsB_yes h1 (obsB_yes h0 obsB_nil))))))))) (by simp only [cDiv, askI, allI, thenI, oneI, endsI, hullI, show (!((0 : Int) == 0)) = false from rfl, show (!((11 : Int) == 0)) = true from rfl, I.zero, h0, h1, h2, h9, h10, h11, h12, h13, cond_true, cond_false, Bool.and_true, Bool.true_and, Bool.and_false, Bool.false_and]) rfl
              · skip
                exact calc_path goodG (oracleIDiv hf) (cdiv_p8 f t n a b c d) (obsB_yes h12 (obsB_yes h12 (obsB_yes h12 (obsB_yes h11 (obsB_yes h10 (obsB_yes h9 (obsB_yes h2 (obsB_yes h1 (obsB_yes h0 obsB_nil))))))))) (by simp only [cDiv, askI, allI, thenI, oneI, endsI, hullI, show (!((0 : Int) == 0)) = false from rfl, show (!((11 : Int) == 0)) = true from rfl, I.zero, h0, h1, h2, h9, h10, h11, h12, cond_true, cond_false, Bool.and_true, Bool.true_and, Bool.and_false, Bool.false_and]) rfl
            · skip
              exact calc_path goodG (oracleIDiv hf) (cdiv_p9 f t n a b c d) (obsB_yes h11 (obsB_yes h11 (obsB_yes h10 (obsB_yes h9 (obsB_yes h2 (obsB_yes h1 (obsB_yes h0 obsB_nil))))))) (by simp only [cDiv, askI, allI, thenI, oneI, endsI, hullI, show (!((0 : Int) == 0)) = false from rfl, show (!((11 : Int) == 0)) = true from rfl, I.zero, h0, h1, h2, h9, h10, h11, cond_true, cond_false, Bool.and_true, Bool.true_and, Bool.and_false, Bool.false_and]) rfl
          · skip
            exact calc_path goodG (oracleIDiv hf) (cdiv_p10 f t n a b c d) (obsB_yes h10 (obsB_yes h10 (obsB_yes h10 (obsB_yes h9 (obsB_yes h2 (obsB_yes h1 (obsB_yes h0 obsB_nil))))))) (by simp only [cDiv, askI, allI, thenI, oneI, endsI, hullI, show (!((0 : Int) == 0)) = false from rfl, show (!((11 : Int) == 0)) = true from rfl, I.zero, h0, h1, h2, h9, h10, cond_true, cond_false, Bool.and_true, Bool.true_and, Bool.and_false, Bool.false_and]) rfl
        · skip
          exact calc_path goodG (oracleIDiv hf) (cdiv_p11 f t n a b c d) (obsB_yes h9 (obsB_yes h2 (obsB_yes h1 (obsB_yes h0 obsB_nil)))) (by simp only [cDiv, askI, allI, thenI, oneI, endsI, hullI, show (!((0 : Int) == 0)) = false from rfl, show (!((11 : Int) == 0)) = true from rfl, I.zero, h0, h1, h2, h9, cond_true, cond_false, Bool.and_true, Bool.true_and, Bool.and_false, Bool.false_and]) rfl
  · skip
    exact calc_path goodG (oracleIDiv hf) (cdiv_p12 f t n a b c d) (obsB_yes h0 obsB_nil) (by simp only [cDiv, askI, allI, thenI, oneI, endsI, hullI, show (!((0 : Int) == 0)) = false from rfl, show (!((11 : Int) == 0)) = true from rfl, I.zero, h0, cond_true, cond_false, Bool.and_true, Bool.true_and, Bool.and_false, Bool.false_and]) rfl
def OISqr (f : Bool → F → F → F × Int) : OracleF := lookO [(42, plainO oRt), (106, plainO (oI1 bareI)), (107, plainO (kTwo f))]
theorem oracleISqr {f : Bool → F → F → F × Int} (hf : PlainOk Tryz.prog 107 (kTwo f)) : OracleOk Tryz.prog (OISqr f) := .cons irightG.of (.cons bareG.of (.cons hf.of (.nil _)))
theorem csqr_p0 (f : Bool → F → F → F × Int) (t : Nat) (n : Int) (a b : F) : takeR 1 ((run Tryz.prog EG (OISqr f) 60).1 59 (.p 0 0 :: [.agg [.fl a, .fl b]]) [⟨t, [.si .i64 n], .ex⟩] (some [false, false])) = some (.agg [.fl F.zero, .fl F.zero], [⟨t, [.i .i64 20], .ex⟩], some [], [(rt ⟨a, b⟩, false), ((!(n == 0)), false)]) := by kernel_rfl
theorem csqr_p1 (f : Bool → F → F → F × Int) (t : Nat) (n : Int) (a b : F) : takeR 1 ((run Tryz.prog EG (OISqr f) 60).1 59 (.p 0 0 :: [.agg [.fl a, .fl b]]) [⟨t, [.si .i64 n], .ex⟩] (some [false, true, false, false])) = some (.agg [.fl (f false (bareI ⟨a, b⟩).lo (bareI ⟨a, b⟩).lo).1, .fl (f true (bareI ⟨a, b⟩).hi (bareI ⟨a, b⟩).hi).1], [⟨t, [.si .i64 n], .ex⟩], some [], [((!((f true (bareI ⟨a, b⟩).hi (bareI ⟨a, b⟩).hi).2 == 0)), false), ((!((f false (bareI ⟨a, b⟩).lo (bareI ⟨a, b⟩).lo).2 == 0)), false), (rt ⟨a, b⟩, true), ((!(n == 0)), false)]) := by kernel_rfl
theorem csqr_p2 (f : Bool → F → F → F × Int) (t : Nat) (n : Int) (a b : F) : takeR 1 ((run Tryz.prog EG (OISqr f) 60).1 59 (.p 0 0 :: [.agg [.fl a, .fl b]]) [⟨t, [.si .i64 n], .ex⟩] (some [false, true, false, true])) = some (.agg [.fl F.zero, .fl F.zero], [⟨t, [.si .i64 (f true (bareI ⟨a, b⟩).hi (bareI ⟨a, b⟩).hi).2], .ex⟩], some [], [((!((f true (bareI ⟨a, b⟩).hi (bareI ⟨a, b⟩).hi).2 == 0)), true), ((!((f false (bareI ⟨a, b⟩).lo (bareI ⟨a, b⟩).lo).2 == 0)), false), (rt ⟨a, b⟩, true), ((!(n == 0)), false)]) := by kernel_rfl
theorem csqr_p3 (f : Bool → F → F → F × Int) (t : Nat) (n : Int) (a b : F) : takeR 1 ((run Tryz.prog EG (OISqr f) 60).1 59 (.p 0 0 :: [.agg [.fl a, .fl b]]) [⟨t, [.si .i64 n], .ex⟩] (some [false, true, true, true])) = some (.agg [.fl F.zero, .fl F.zero], [⟨t, [.si .i64 (f false (bareI ⟨a, b⟩).lo (bareI ⟨a, b⟩).lo).2], .ex⟩], some [], [((!((f false (bareI ⟨a, b⟩).lo (bareI ⟨a, b⟩).lo).2 == 0)), true), ((!((f false (bareI ⟨a, b⟩).lo (bareI ⟨a, b⟩).lo).2 == 0)), true), (rt ⟨a, b⟩, true), ((!(n == 0)), false)]) := by kernel_rfl
theorem csqr_p4 (f : Bool → F → F → F × Int) (t : Nat) (n : Int) (a b : F) : takeR 1 ((run Tryz.prog EG (OISqr f) 60).1 59 (.p 0 0 :: [.agg [.fl a, .fl b]]) [⟨t, [.si .i64 n], .ex⟩] (some [true])) = some (.agg [.fl F.zero, .fl F.zero], [⟨t, [.si .i64 n], .ex⟩], some [], [((!(n == 0)), true)]) := by kernel_rfl
theorem csqr_I {f : Bool → F → F → F × Int} (hf : PlainOk Tryz.prog 107 (kTwo f)) : OfOk Tryz.prog 59 (kC (aI (cSqr f))) := by
  refine ofI fun a b t n => ?_
  cases h0 : (!(n == 0))
  · skip
    cases h1 : rt ⟨a, b⟩
    · skip
      exact calc_path goodG (oracleISqr hf) (csqr_p0 f t n a b) (obsB_yes h1 (obsB_yes h0 obsB_nil)) (by simp only [cSqr, askI, endsI, I.zero, h0, h1, cond_true, cond_false, Bool.and_true, Bool.true_and, Bool.and_false, Bool.false_and]) rfl
    · skip
      cases h3 : (!((f false (bareI ⟨a, b⟩).lo (bareI ⟨a, b⟩).lo).2 == 0))
      · skip
        cases h4 : (!((f true (bareI ⟨a, b⟩).hi (bareI ⟨a, b⟩).hi).2 == 0))
        · skip
          exact calc_path goodG (oracleISqr hf) (csqr_p1 f t n a b) (obsB_yes h4 (obsB_yes h3 (obsB_yes h1 (obsB_yes h0 obsB_nil)))) (by simp only [cSqr, askI, endsI, I.zero, h0, h1, h3, h4, cond_true, cond_false, Bool.and_true, Bool.true_and, Bool.and_false, Bool.false_and]) rfl
        · skip
          exact calc_path goodG (oracleISqr hf) (csqr_p2 f t n a b) (obsB_yes h4 (obsB_yes h3 (obsB_yes h1 (obsB_yes h0 obsB_nil)))) (by simp only [cSqr, askI, endsI, I.zero, h0, h1, h3, h4, cond_true, cond_false, Bool.and_true, Bool.true_and, Bool.and_false, Bool.false_and]) rfl
      · skip
        exact calc_path goodG (oracleISqr hf) (csqr_p3 f t n a b) (obsB_yes h3 (obsB_yes h3 (obsB_yes h1 (obsB_yes h0 obsB_nil)))) (by simp only [cSqr, askI, endsI, I.zero, h0, h1, h3, cond_true, cond_false, Bool.and_true, Bool.true_and, Bool.and_false, Bool.false_and]) rfl
  · skip
    exact calc_path goodG (oracleISqr hf) (csqr_p4 f t n a b) (obsB_yes h0 obsB_nil) (by simp only [cSqr, askI, endsI, I.zero, h0, cond_true, cond_false, Bool.and_true, Bool.true_and, Bool.and_false, Bool.false_and]) rfl
def OIN : OracleF := lookO [(74, plainO oRight), (42, plainO oRt), (115, plainO (oI1 turnI)), (106, plainO (oI1 bareI))]
theorem oracleIN : OracleOk Tryz.prog OIN := .cons rightG.of (.cons irightG.of (.cons turnG.of (.cons bareG.of (.nil _))))
theorem cnum_p0  (t : Nat) (n : Int) (a : F) : takeR 1 ((run Tryz.prog EG (OIN) 60).1 55 (.p 0 0 :: [.fl a]) [⟨t, [.si .i64 n], .ex⟩] (some [false])) = some (.agg [.fl a, .fl a], [⟨t, [.si .i64 n], .ex⟩], some [], [((!(n == 0)), false)]) := by kernel_rfl
theorem cnum_p1  (t : Nat) (n : Int) (a : F) : takeR 1 ((run Tryz.prog EG (OIN) 60).1 55 (.p 0 0 :: [.fl a]) [⟨t, [.si .i64 n], .ex⟩] (some [true])) = some (.agg [.fl F.zero, .fl F.zero], [⟨t, [.si .i64 n], .ex⟩], some [], [((!(n == 0)), true)]) := by kernel_rfl
theorem cnum_I  : OfOk Tryz.prog 55 (kC (aF cNum)) := by
  refine ofF fun a t n => ?_
  cases h0 : (!(n == 0))
  · skip
    exact calc_path goodG oracleIN (cnum_p0  t n a) (obsB_yes h0 obsB_nil) (by simp only [cNum, askI, show (!((0 : Int) == 0)) = false from rfl, I.zero, h0, cond_true, cond_false, Bool.and_true, Bool.true_and, Bool.and_false, Bool.false_and]) rfl
  · skip
    exact calc_path goodG oracleIN (cnum_p1  t n a) (obsB_yes h0 obsB_nil) (by simp only [cNum, askI, show (!((0 : Int) == 0)) = false from rfl, I.zero, h0, cond_true, cond_false, Bool.and_true, Bool.true_and, Bool.and_false, Bool.false_and]) rfl
theorem cneg_p0  (t : Nat) (n : Int) (a b : F) : takeR 1 ((run Tryz.prog EG (OIN) 60).1 68 (.p 0 0 :: [.agg [.fl a, .fl b]]) [⟨t, [.si .i64 n], .ex⟩] (some [false, false])) = some (.agg [.fl F.zero, .fl F.zero], [⟨t, [.i .i64 20], .ex⟩], some [], [(rt ⟨a, b⟩, false), ((!(n == 0)), false)]) := by kernel_rfl
theorem cneg_p1  (t : Nat) (n : Int) (a b : F) : takeR 1 ((run Tryz.prog EG (OIN) 60).1 68 (.p 0 0 :: [.agg [.fl a, .fl b]]) [⟨t, [.si .i64 n], .ex⟩] (some [false, true])) = some (.agg [.fl b.neg, .fl a.neg], [⟨t, [.si .i64 n], .ex⟩], some [], [(rt ⟨a, b⟩, true), ((!(n == 0)), false)]) := by kernel_rfl
theorem cneg_p2  (t : Nat) (n : Int) (a b : F) : takeR 1 ((run Tryz.prog EG (OIN) 60).1 68 (.p 0 0 :: [.agg [.fl a, .fl b]]) [⟨t, [.si .i64 n], .ex⟩] (some [true])) = some (.agg [.fl F.zero, .fl F.zero], [⟨t, [.si .i64 n], .ex⟩], some [], [((!(n == 0)), true)]) := by kernel_rfl
theorem cneg_I  : OfOk Tryz.prog 68 (kC (aI cNeg)) := by
  refine ofI fun a b t n => ?_
  cases h0 : (!(n == 0))
  · skip
    cases h1 : rt ⟨a, b⟩
    · skip
      exact calc_path goodG oracleIN (cneg_p0  t n a b) (obsB_yes h1 (obsB_yes h0 obsB_nil)) (by simp only [cNeg, turnI, askI, show (!((0 : Int) == 0)) = false from rfl, I.zero, h0, h1, cond_true, cond_false, Bool.and_true, Bool.true_and, Bool.and_false, Bool.false_and]) rfl
    · skip
      exact calc_path goodG oracleIN (cneg_p1  t n a b) (obsB_yes h1 (obsB_yes h0 obsB_nil)) (by simp only [cNeg, turnI, askI, show (!((0 : Int) == 0)) = false from rfl, I.zero, h0, h1, cond_true, cond_false, Bool.and_true, Bool.true_and, Bool.and_false, Bool.false_and]) rfl
  · skip
    exact calc_path goodG oracleIN (cneg_p2  t n a b) (obsB_yes h0 obsB_nil) (by simp only [cNeg, turnI, askI, show (!((0 : Int) == 0)) = false from rfl, I.zero, h0, cond_true, cond_false, Bool.and_true, Bool.true_and, Bool.and_false, Bool.false_and]) rfl
theorem cmax_p0  (t : Nat) (n : Int) (a b c d : F) : takeR 1 ((run Tryz.prog EG (OIN) 60).1 169 (.p 0 0 :: [.agg [.fl a, .fl b], .agg [.fl c, .fl d]]) [⟨t, [.si .i64 n], .ex⟩] (some [false, false])) = some (.agg [.fl F.zero, .fl F.zero], [⟨t, [.i .i64 20], .ex⟩], some [], [(rt ⟨a, b⟩, false), ((!(n == 0)), false)]) := by kernel_rfl
theorem cmax_p1  (t : Nat) (n : Int) (a b c d : F) : takeR 1 ((run Tryz.prog EG (OIN) 60).1 169 (.p 0 0 :: [.agg [.fl a, .fl b], .agg [.fl c, .fl d]]) [⟨t, [.si .i64 n], .ex⟩] (some [false, true, false])) = some (.agg [.fl F.zero, .fl F.zero], [⟨t, [.i .i64 20], .ex⟩], some [], [(rt ⟨c, d⟩, false), (rt ⟨a, b⟩, true), ((!(n == 0)), false)]) := by kernel_rfl
theorem cmax_p2  (t : Nat) (n : Int) (a b c d : F) : takeR 1 ((run Tryz.prog EG (OIN) 60).1 169 (.p 0 0 :: [.agg [.fl a, .fl b], .agg [.fl c, .fl d]]) [⟨t, [.si .i64 n], .ex⟩] (some [false, true, true])) = some (.agg [.fl (mxF a c), .fl (mxF b d)], [⟨t, [.si .i64 n], .ex⟩], some [], [(rt ⟨c, d⟩, true), (rt ⟨a, b⟩, true), ((!(n == 0)), false)]) := by kernel_rfl
theorem cmax_p3  (t : Nat) (n : Int) (a b c d : F) : takeR 1 ((run Tryz.prog EG (OIN) 60).1 169 (.p 0 0 :: [.agg [.fl a, .fl b], .agg [.fl c, .fl d]]) [⟨t, [.si .i64 n], .ex⟩] (some [true])) = some (.agg [.fl F.zero, .fl F.zero], [⟨t, [.si .i64 n], .ex⟩], some [], [((!(n == 0)), true)]) := by kernel_rfl
theorem cmax_I  : OfOk Tryz.prog 169 (kC (aII cMax)) := by
  refine ofII fun a b c d t n => ?_
  cases h0 : (!(n == 0))
  · skip
    cases h1 : rt ⟨a, b⟩
    · skip
      exact calc_path goodG oracleIN (cmax_p0  t n a b c d) (obsB_yes h1 (obsB_yes h0 obsB_nil)) (by simp only [cMax, maxI, askI, show (!((0 : Int) == 0)) = false from rfl, I.zero, h0, h1, cond_true, cond_false, Bool.and_true, Bool.true_and, Bool.and_false, Bool.false_and]) rfl
    · skip
      cases h2 : rt ⟨c, d⟩
      · skip
        exact calc_path goodG oracleIN (cmax_p1  t n a b c d) (obsB_yes h2 (obsB_yes h1 (obsB_yes h0 obsB_nil))) (by simp only [cMax, maxI, askI, show (!((0 : Int) == 0)) = false from rfl, I.zero, h0, h1, h2, cond_true, cond_false, Bool.and_true, Bool.true_and, Bool.and_false, Bool.false_and]) rfl
      · skip
        exact calc_path goodG oracleIN (cmax_p2  t n a b c d) (obsB_yes h2 (obsB_yes h1 (obsB_yes h0 obsB_nil))) (by simp only [cMax, maxI, askI, show (!((0 : Int) == 0)) = false from rfl, I.zero, h0, h1, h2, cond_true, cond_false, Bool.and_true, Bool.true_and, Bool.and_false, Bool.false_and]) rfl
  · skip
    exact calc_path goodG oracleIN (cmax_p3  t n a b c d) (obsB_yes h0 obsB_nil) (by simp only [cMax, maxI, askI, show (!((0 : Int) == 0)) = false from rfl, I.zero, h0, cond_true, cond_false, Bool.and_true, Bool.true_and, Bool.and_false, Bool.false_and]) rfl
end Go.Proofs.YtgjohjgmlleebaaGreat
namespace Go.Proofs.YtgjohjgmlleebaaGreat
set_option linter.all false
open Go.RowKit Bu Rx

def OGT (K : Kt) : OracleF := lookO [(57, kC (aII K.add)), (58, kC (aII K.sub)), (61, kC (aII K.mul)), (60, kC (aII K.div)), (59, kC (aI K.sqr)), (55, kC (aF K.num))]
theorem pdivG : PlainOk Tryz.prog 110 (kTwo pDiv) := two_ok div_F_w
theorem nextG : PlainOk Tryz.prog 52 (kNx nextF) := by
  intro args ds x ds' ob h1 ho
  unfold kNx at h1
  split at h1
  · rename_i x up
    simp only [Option.some.injEq, Prod.mk.injEq] at h1
    obtain ⟨rfl, _, _⟩ := h1
    exact ⟨[.float .f64 x.b, .bool up], _, rfl, rfl, fun w => next_F x up w⟩
  · cases h1
theorem addC : OfOk Tryz.prog 57 (kC (aII KTR.add)) := cadd_I (two_ok add_F_w)
theorem subC : OfOk Tryz.prog 58 (kC (aII KTR.sub)) := csub_I (two_ok sub_F_w)
theorem mulC : OfOk Tryz.prog 61 (kC (aII KTR.mul)) := cmul_I (two_ok mul_F_w)
theorem divC : OfOk Tryz.prog 60 (kC (aII KTR.div)) := cdiv_I pdivG
theorem sqrC : OfOk Tryz.prog 59 (kC (aI KTR.sqr)) := csqr_I (two_ok mul_F_w)
theorem numC : OfOk Tryz.prog 55 (kC (aF KTR.num)) := cnum_I
theorem negC : OfOk Tryz.prog 68 (kC (aI KTR.neg)) := cneg_I
theorem oracleGT : OracleOk Tryz.prog (OGT KTR) := .cons addC (.cons subC (.cons mulC (.cons divC (.cons sqrC (.cons numC (.nil _))))))
theorem row20Run (K : Kt) (a b : F) (t : Nat) (n : Int) : takeR 1 ((run Tryz.prog EG (OGT K) 100).1 226 [.p 0 0, .agg [.fl a, .fl b], .i .i64 20] [⟨t, [.si .i64 n], .ex⟩] (some [])) =
    some (.agg [.fl (row20 K n ⟨a, b⟩).1.lo, .fl (row20 K n ⟨a, b⟩).1.hi], [⟨t, [.si .i64 (row20 K n ⟨a, b⟩).2], .ex⟩], some [], []) := by kernel_rfl
theorem row19Run (K : Kt) (a b : F) (t : Nat) (n : Int) : takeR 1 ((run Tryz.prog EG (OGT K) 100).1 226 [.p 0 0, .agg [.fl a, .fl b], .i .i64 19] [⟨t, [.si .i64 n], .ex⟩] (some [])) =
    some (.agg [.fl (row19 K n ⟨a, b⟩).1.lo, .fl (row19 K n ⟨a, b⟩).1.hi], [⟨t, [.si .i64 (row19 K n ⟨a, b⟩).2], .ex⟩], some [], []) := by kernel_rfl
theorem pair_eta (r : I × Int) : r = (⟨r.1.lo, r.1.hi⟩, r.2) := rfl
theorem plain_si (k : IntKind) (n : Int) : plain (.si k n) = some (.int k n) := rfl
theorem calc_flow {O : OracleF} (hO : OracleOk Tryz.prog O) {k : Nat} {g : FuncId} {args : List SV} {t : Nat} {n : Int} {ds ds' : Dec} {ob : Obs} (r : I × Int)
    (h : takeR 1 ((run Tryz.prog EG O k).1 g (.p 0 0 :: args) [⟨t, [.si .i64 n], .ex⟩] ds) = some (.agg [.fl r.1.lo, .fl r.1.hi], [⟨t, [.si .i64 r.2], .ex⟩], ds', ob)) (ho : obsB ob = true) : CalcAt Tryz.prog g args t n r :=
  calc_path goodG hO h ho (pair_eta r) (plain_si _ _)
theorem rowC_of (R : Kr) (h20 : ∀ a b t n, CalcAt Tryz.prog 226 [.agg [.fl a, .fl b], .i .i64 20] t n (R.r20 n ⟨a, b⟩)) (h19 : ∀ a b t n, CalcAt Tryz.prog 226 [.agg [.fl a, .fl b], .i .i64 19] t n (R.r19 n ⟨a, b⟩)) : OfOk Tryz.prog 226 (kC (aRow R)) := by
  refine ofCalc fun l f hf t n => ?_
  unfold aRow at hf
  split at hf
  · rename_i a b m
    split at hf
    · rename_i e
      have e1 : Int.ofNat m = 20 := by rw [Nat.eq_of_beq_eq_true e]; rfl
      rw [e1]
      simp only [Option.some.injEq] at hf; subst hf
      exact h20 a b t n
    · split at hf
      · rename_i e
        have e1 : Int.ofNat m = 19 := by rw [Nat.eq_of_beq_eq_true e]; rfl
        rw [e1]
        simp only [Option.some.injEq] at hf; subst hf
        exact h19 a b t n
      · cases hf
  · cases hf
theorem row20C (a b : F) (t : Nat) (n : Int) : CalcAt Tryz.prog 226 [.agg [.fl a, .fl b], .i .i64 20] t n (row20 KTR n ⟨a, b⟩) := calc_flow oracleGT _ (row20Run KTR a b t n) obsB_nil
theorem row19C (a b : F) (t : Nat) (n : Int) : CalcAt Tryz.prog 226 [.agg [.fl a, .fl b], .i .i64 19] t n (row19 KTR n ⟨a, b⟩) := calc_flow oracleGT _ (row19Run KTR a b t n) obsB_nil
theorem rowC : OfOk Tryz.prog 226 (kC (aRow KRR)) := rowC_of ⟨row20 KTR, row19 KTR⟩ row20C row19C
def OIM : OracleF := lookO []
theorem oracleIM : OracleOk Tryz.prog OIM := .nil _
theorem withRun0 (a b : F) : valR ((run Tryz.prog EG OIM 60).1 227 [.agg [.fl a, .fl b]] [] (some [true])) = some (.agg [.fl F.zero, .fl F.zero], some [], [(decide ((mnF b one64).k < (mxF a mone64).k), true)]) := by kernel_rfl
theorem withRun1 (a b : F) : valR ((run Tryz.prog EG OIM 60).1 227 [.agg [.fl a, .fl b]] [] (some [false])) = some (.agg [.fl (mxF a mone64), .fl (mnF b one64)], some [], [(decide ((mnF b one64).k < (mxF a mone64).k), false)]) := by kernel_rfl
theorem withG : PlainOk Tryz.prog 227 (oI1 withI) := by
  intro args ds x ds' ob h ho
  unfold oI1 at h
  split at h
  · rename_i a b
    simp only [Option.some.injEq, Prod.mk.injEq] at h
    obtain ⟨rfl, _, _⟩ := h
    refine ⟨[.agg #[.float .f64 a.b, .float .f64 b.b]], _, rfl, rfl, fun w => ?_⟩
    cases h1 : decide ((mnF b one64).k < (mxF a mone64).k)
    · rw [show withI ⟨a, b⟩ = ⟨mxF a mone64, mnF b one64⟩ from by simp only [withI, h1, cond_false]]
      exact calls_of_val goodG oracleIM 60 (withRun1 a b) (ObsOk.of_B (obsB_yes h1 obsB_nil)) rfl rfl w
    · rw [show withI ⟨a, b⟩ = ⟨F.zero, F.zero⟩ from by simp only [withI, I.zero, h1, cond_true]]
      exact calls_of_val goodG oracleIM 60 (withRun0 a b) (ObsOk.of_B (obsB_yes h1 obsB_nil)) rfl rfl w
  · cases h
def OAT (K : Kt) (R : Kr) (W : I → I) : OracleF := lookO [(52, plainO (kNx K.nx)), (57, kC (aII K.add)), (58, kC (aII K.sub)), (61, kC (aII K.mul)), (68, kC (aI K.neg)), (55, kC (aF K.num)), (226, kC (aRow R)), (227, plainO (oI1 W))]
theorem oracleAT : OracleOk Tryz.prog (OAT KTR KRR withI) := .cons nextG.of (.cons addC (.cons subC (.cons mulC (.cons negC (.cons numC (.cons rowC (.cons withG.of (.nil _))))))))
theorem atRun1 (K : Kt) (R : Kr) (W : I → I) (x : F) : valR ((run Tryz.prog EG (OAT K R W) 100).1 209 [.fl x] [] (some [true, true, true])) = some (.agg [.fl (atP K R W 0 (toF 0) x).1.lo, .fl (atP K R W 0 (toF 0) x).1.hi, .fl (atP K R W 0 (toF 0) x).2.lo, .fl (atP K R W 0 (toF 0) x).2.hi], some [], [(true, true), (true, true), (decide (x.k < c1.k), true), (true, true), (true, true), (decide (x.k < c3.k), true), (true, true), (true, true), (decide (x.k < c5.k), true), (true, true), (true, true)]) := by kernel_rfl
theorem atRun2 (K : Kt) (R : Kr) (W : I → I) (x : F) : valR ((run Tryz.prog EG (OAT K R W) 100).1 209 [.fl x] [] (some [true, true, false])) = some (.agg [.fl (atP K R W 1 q1 x).1.lo, .fl (atP K R W 1 q1 x).1.hi, .fl (atP K R W 1 q1 x).2.lo, .fl (atP K R W 1 q1 x).2.hi], some [], [(true, true), (true, true), (decide (x.k < c1.k), false), (true, true), (true, true), (decide (x.k < c3.k), true), (true, true), (true, true), (decide (x.k < c5.k), true), (true, true), (true, true)]) := by kernel_rfl
theorem atRun3 (K : Kt) (R : Kr) (W : I → I) (x : F) : valR ((run Tryz.prog EG (OAT K R W) 100).1 209 [.fl x] [] (some [true, false])) = some (.agg [.fl (atP K R W 2 q2 x).1.lo, .fl (atP K R W 2 q2 x).1.hi, .fl (atP K R W 2 q2 x).2.lo, .fl (atP K R W 2 q2 x).2.hi], some [], [(true, true), (true, true), (decide (x.k < c3.k), false), (true, true), (true, true), (decide (x.k < c5.k), true), (true, true), (true, true)]) := by kernel_rfl
theorem atRun4 (K : Kt) (R : Kr) (W : I → I) (x : F) : valR ((run Tryz.prog EG (OAT K R W) 100).1 209 [.fl x] [] (some [false, true])) = some (.agg [.fl (atP K R W 3 q3 x).1.lo, .fl (atP K R W 3 q3 x).1.hi, .fl (atP K R W 3 q3 x).2.lo, .fl (atP K R W 3 q3 x).2.hi], some [], [(true, true), (true, true), (decide (x.k < c7.k), true), (true, true), (true, true), (decide (x.k < c5.k), false), (true, true), (true, true)]) := by kernel_rfl
theorem atRun5 (K : Kt) (R : Kr) (W : I → I) (x : F) : valR ((run Tryz.prog EG (OAT K R W) 100).1 209 [.fl x] [] (some [false, false])) = some (.agg [.fl (atP K R W 0 one64 x).1.lo, .fl (atP K R W 0 one64 x).1.hi, .fl (atP K R W 0 one64 x).2.lo, .fl (atP K R W 0 one64 x).2.hi], some [], [(true, true), (true, true), (decide (x.k < c7.k), false), (true, true), (true, true), (decide (x.k < c5.k), false), (true, true), (true, true)]) := by kernel_rfl
theorem atG : PlainOk Tryz.prog 209 (kAt atR) := by
  intro args ds x ds' ob h ho
  unfold kAt at h
  split at h
  · rename_i x
    simp only [Option.some.injEq, Prod.mk.injEq] at h
    obtain ⟨rfl, _, _⟩ := h
    refine ⟨[.float .f64 x.b], _, rfl, rfl, fun w => ?_⟩
    cases h5 : decide (x.k < c5.k)
    · cases h7 : decide (x.k < c7.k)
      · skip
        rw [show atR x = _ from (by simp only [atR, atM, h7, h5, cond_true, cond_false] : atR x = atP KTR KRR withI 0 one64 x)]
        exact calls_of_val goodG oracleAT 100 (atRun5 KTR KRR withI x) (ObsOk.of_B (obsB_yes rfl (obsB_yes rfl (obsB_yes h7 (obsB_yes rfl (obsB_yes rfl (obsB_yes h5 (obsB_yes rfl (obsB_yes rfl obsB_nil))))))))) rfl rfl w
      · skip
        rw [show atR x = _ from (by simp only [atR, atM, h7, h5, cond_true, cond_false] : atR x = atP KTR KRR withI 3 q3 x)]
        exact calls_of_val goodG oracleAT 100 (atRun4 KTR KRR withI x) (ObsOk.of_B (obsB_yes rfl (obsB_yes rfl (obsB_yes h7 (obsB_yes rfl (obsB_yes rfl (obsB_yes h5 (obsB_yes rfl (obsB_yes rfl obsB_nil))))))))) rfl rfl w
    · cases h3 : decide (x.k < c3.k)
      · skip
        rw [show atR x = _ from (by simp only [atR, atM, h3, h5, cond_true, cond_false] : atR x = atP KTR KRR withI 2 q2 x)]
        exact calls_of_val goodG oracleAT 100 (atRun3 KTR KRR withI x) (ObsOk.of_B (obsB_yes rfl (obsB_yes rfl (obsB_yes h3 (obsB_yes rfl (obsB_yes rfl (obsB_yes h5 (obsB_yes rfl (obsB_yes rfl obsB_nil))))))))) rfl rfl w
      · cases h1 : decide (x.k < c1.k)
        · skip
          rw [show atR x = _ from (by simp only [atR, atM, h1, h3, h5, cond_true, cond_false] : atR x = atP KTR KRR withI 1 q1 x)]
          exact calls_of_val goodG oracleAT 100 (atRun2 KTR KRR withI x) (ObsOk.of_B (obsB_yes rfl (obsB_yes rfl (obsB_yes h1 (obsB_yes rfl (obsB_yes rfl (obsB_yes h3 (obsB_yes rfl (obsB_yes rfl (obsB_yes h5 (obsB_yes rfl (obsB_yes rfl obsB_nil)))))))))))) rfl rfl w
        · skip
          rw [show atR x = _ from (by simp only [atR, atM, h1, h3, h5, cond_true, cond_false] : atR x = atP KTR KRR withI 0 (toF 0) x)]
          exact calls_of_val goodG oracleAT 100 (atRun1 KTR KRR withI x) (ObsOk.of_B (obsB_yes rfl (obsB_yes rfl (obsB_yes h1 (obsB_yes rfl (obsB_yes rfl (obsB_yes h3 (obsB_yes rfl (obsB_yes rfl (obsB_yes h5 (obsB_yes rfl (obsB_yes rfl obsB_nil)))))))))))) rfl rfl w
  · cases h
end Go.Proofs.YtgjohjgmlleebaaGreat
namespace Go.Proofs.YtgjohjgmlleebaaGreat
set_option linter.all false
open Go.RowKit Bu Rx

def OSI (f : F → I × I) : OracleF := lookO [(42, plainO oRt), (109, plainO oHas), (165, plainO (oI2 hullI)), (209, plainO (kAt f))]
theorem oracleSI : OracleOk Tryz.prog (OSI atR) := .cons irightG.of (.cons ihasG.of (.cons hullG.of (.cons atG.of (.nil _))))
def noSC : SV := .tup [.agg [.fl F.zero, .fl F.zero], .agg [.fl F.zero, .fl F.zero], .i .i64 2]
theorem scRun0 (f : F → I × I) (a b : F) : valR ((run Tryz.prog EG (OSI f) 100).1 167 [.agg [.fl a, .fl b]] [] (some [false])) = some (noSC, some [], [(rt ⟨a, b⟩, false)]) := by kernel_rfl
theorem scRun1 (f : F → I × I) (a b : F) : valR ((run Tryz.prog EG (OSI f) 100).1 167 [.agg [.fl a, .fl b]] [] (some [true, true])) = some (noSC, some [], [(decide (a.k < (toF 0).k), true), (rt ⟨a, b⟩, true)]) := by kernel_rfl
theorem scRun2 (f : F → I × I) (a b : F) : valR ((run Tryz.prog EG (OSI f) 100).1 167 [.agg [.fl a, .fl b]] [] (some [true, false, true])) = some (noSC, some [], [(decide (one64.k < b.k), true), (decide (a.k < (toF 0).k), false), (rt ⟨a, b⟩, true)]) := by kernel_rfl
theorem scRun3 (f : F → I × I) (a b : F) (h1 h2 h3 : Bool) : valR ((run Tryz.prog EG (OSI f) 100).1 167 [.agg [.fl a, .fl b]] [] (some [true, false, false, h1, h3, h2])) =
    some (.tup [.agg [.fl (sinT f h1 h3 a b).lo, .fl (sinT f h1 h3 a b).hi], .agg [.fl (cosT f h2 a b).lo, .fl (cosT f h2 a b).hi], .i .i64 0], some [],
      [(hasB ⟨a, b⟩ q2, h2), (hasB ⟨a, b⟩ q3, h3), (hasB ⟨a, b⟩ q1, h1), (decide (one64.k < b.k), false), (decide (a.k < (toF 0).k), false), (rt ⟨a, b⟩, true)]) := by cases h1 <;> cases h2 <;> cases h3 <;> kernel_rfl
theorem scG : PlainOk Tryz.prog 167 (oSC atR) := by
  intro args ds x ds' ob h ho
  unfold oSC at h
  split at h
  · rename_i a b
    simp only [Option.map_eq_some_iff, Prod.mk.injEq] at h
    obtain ⟨⟨d, e, o⟩, h1, rfl, rfl, rfl⟩ := h
    have hd : d = inB a b := takeB_ok h1 ho
    cases hi : inB a b
    · rw [hi] at hd; subst hd
      refine ⟨[.agg #[.float .f64 a.b, .float .f64 b.b]], _, rfl, rfl, fun w => ?_⟩
      cases g1 : rt ⟨a, b⟩
      · exact calls_of_val goodG oracleSI 100 (scRun0 atR a b) (ObsOk.of_B (obsB_yes g1 obsB_nil)) rfl rfl w
      · cases g2 : decide (a.k < (toF 0).k)
        · refine calls_of_val goodG oracleSI 100 (scRun2 atR a b) (ObsOk.of_B (obsB_yes ?_ (obsB_yes g2 (obsB_yes g1 obsB_nil)))) rfl rfl w
          have g3 := of_decide_eq_false g2
          unfold inB at hi
          rw [g1, show decide ((toF 0).k ≤ a.k) = true from decide_eq_true (by omega), Bool.true_and, Bool.true_and] at hi
          have g4 := of_decide_eq_false hi
          exact decide_eq_true (by omega)
        · exact calls_of_val goodG oracleSI 100 (scRun1 atR a b) (ObsOk.of_B (obsB_yes g2 (obsB_yes g1 obsB_nil))) rfl rfl w
    · rw [hi] at hd; subst hd
      refine ⟨[.agg #[.float .f64 a.b, .float .f64 b.b]], _, rfl, rfl, fun w => ?_⟩
      unfold inB at hi
      rw [Bool.and_eq_true, Bool.and_eq_true, decide_eq_true_iff, decide_eq_true_iff] at hi
      exact calls_of_val goodG oracleSI 100 (scRun3 atR a b _ _ _) (ObsOk.of_B (obsB_yes rfl (obsB_yes rfl (obsB_yes rfl (obsB_yes (decide_eq_false (by omega)) (obsB_yes (decide_eq_false (by omega)) (obsB_yes hi.1.1 obsB_nil))))))) rfl rfl w
  · cases h
theorem constG {P : Program} {g : FuncId} {x : SV} {v : Value} (hx : plain x = some v) (h : ∀ w, Calls P g #[] w fun e w' => e = .returned v ∧ Below w.heap.size w w') : PlainOk P g (oConst x) := by
  intro args ds y ds' ob hk ho
  unfold oConst at hk
  split at hk
  · simp only [Option.some.injEq, Prod.mk.injEq] at hk
    obtain ⟨rfl, _, _⟩ := hk
    exact ⟨[], v, rfl, hx, h⟩
  · cases hk
theorem scK : PlainOk Tryz.prog 167 (kSC (NR atR).ib (NR atR).si (NR atR).co) := scG
theorem irtK : PlainOk Tryz.prog 42 (kBI rt) := irightG
end Go.Proofs.YtgjohjgmlleebaaGreat
namespace Go.Proofs.YtgjohjgmlleebaaGreat
set_option linter.all false
open Go.RowKit Bu

theorem unit_back (u : Nat) (hu : u < 18446744073709551616) : (IntKind.u64.wrap ((u : Int) / 2 ^ unitCut u * 2 ^ unitCut u) == (u : Int)) = decide (u % 2 ^ unitCut u = 0) := by
  have hd := Nat.div_add_mod u (2 ^ unitCut u)
  have e1 : (u : Int) / 2 ^ unitCut u * 2 ^ unitCut u = ((u / 2 ^ unitCut u * 2 ^ unitCut u : Nat) : Int) := by simp
  rw [e1, IntKind.wrap_u64]
  rw [Nat.mul_comm] at hd
  generalize u / 2 ^ unitCut u * 2 ^ unitCut u = a at *
  generalize u % 2 ^ unitCut u = r at *
  rw [Bool.eq_iff_iff]
  simp only [beq_iff_eq, decide_eq_true_eq]
  omega

@[go_sem] theorem run_store_float {P : Program} {w : World} {a : Addr} {m : Mode} (k : FloatKind) (b : Nat) : (store a (.float k b) m).run P w = stored P w a (.float k b) m := run_store P w a _ m rfl

def ivV (a : Iv) : Value := .agg #[.float .f64 a.lo.b, .float .f64 a.hi.b]

theorem unit_pack (u : Nat) (hu : u < 18446744073709551616) : ∃ (c : Nat) (x0 y0 : F), unitCut u = c ∧ c ≤ 11 ∧ floatOfInt .f64 ((u : Int) / 2 ^ c) = x0.b ∧ Sc x0 y0 ((c : Int) - 64) ∧ unitLo u = y0 := by
  obtain ⟨g1, g2, g3⟩ := unit_m u (by omega)
  have h1 := Sc_dy (u / 2 ^ unitCut u) ((unitCut u : Int) - 64) (by have : P = 4503599627370496 := rfl; omega) (by omega) (by have := blen_m g2; omega)
  have h2 : floatOfInt .f64 ((u : Int) / 2 ^ unitCut u) = (F.dy (u / 2 ^ unitCut u) 0).b := by
    have h := floatOfInt_dy (u / 2 ^ unitCut u) (by have : P = 4503599627370496 := rfl; omega)
    rw [← h]; simp
  exact ⟨unitCut u, _, _, rfl, g1, h2, h1, rfl⟩
theorem unitOf_a {u : Nat} {y0 : F} (h : unitLo u = y0) (hx : u % 2 ^ unitCut u = 0) : unitOf u = ⟨y0, y0⟩ := by unfold unitOf; rw [if_pos hx, h]
theorem unitOf_b {u : Nat} {y0 : F} (h : unitLo u = y0) (hx : ¬ u % 2 ^ unitCut u = 0) : unitOf u = ⟨y0, (nextF y0 true).1⟩ := by unfold unitOf; rw [if_neg hx, h]

set_option maxRecDepth 100000 in
set_option maxHeartbeats 1000000 in
theorem unitOf_w (u : Nat) (hu : (u : Int) ≤ 18446744073709551615) (w : World) :
    Calls Tryz.prog 26 #[.int .u64 u] w fun e w' => e = .returned (ivV (unitOf u)) ∧ Below w.heap.size w w' := by
  obtain ⟨c, x0, y0, g0, g1, HC, hsc, hlo⟩ := unit_pack u (by omega)
  have HSc := Lib.hid hsc
  have hb := unit_back u (by omega)
  have ha := fun h => unitOf_a (u := u) hlo h
  have hbb' := fun h => unitOf_b (u := u) hlo h
  rw [g0] at hb ha hbb'
  have hC2 : max (wrap64 ((blen u : Int) - 53)) 0 = (c : Int) := by
    have hl : blen u ≤ 64 := blen_le (by omega)
    rw [IntWalk.wrap64_in _ (by omega), ← g0]
    unfold unitCut
    omega
  have H2 := Lib.hid hC2
  clear hsc hlo g0 hC2
  by_cases hx : u % 2 ^ c = 0
  · have T1 : (IntKind.u64.wrap ((u : Int) / 2 ^ c * 2 ^ c) == (u : Int)) = true := by rw [hb]; simpa using hx
    have HR := Lib.hid (ha hx)
    clear hx ha hbb' hb
    go_enter Tryz.func26, Tryz.ntmps26
    go_upto_region 2 with (go_at_call 50; refine (len64_w _ _ (by omega)).mono ?_; rintro e w' ⟨rfl, rfl⟩)
    rw [H2.out]
    go_wp2_with (first | (go_at_call 51; refine (Ldexp_exact _ _ _ _ HSc.out).mono ?_; rintro e w' ⟨rfl, rfl⟩))
    refine bodyPost_ret (v := ivV ⟨y0, y0⟩) (by simp [results, Tryz.results26, go_sem, ivV]) rfl ⟨?_, ?_⟩
    · rw [HR.out]
    · exact (Below.refl _ _).alloc (Nat.le_refl _) _
  · have T1 : (IntKind.u64.wrap ((u : Int) / 2 ^ c * 2 ^ c) == (u : Int)) = false := by rw [hb]; simpa using hx
    have HR := Lib.hid (hbb' hx)
    clear hx ha hbb' hb
    go_enter Tryz.func26, Tryz.ntmps26
    go_upto_region 2 with (go_at_call 50; refine (len64_w _ _ (by omega)).mono ?_; rintro e w' ⟨rfl, rfl⟩)
    rw [H2.out]
    go_wp2_with (first | (go_at_call 51; refine (Ldexp_exact _ _ _ _ HSc.out).mono ?_; rintro e w' ⟨rfl, rfl⟩) | (go_at_call 52; refine (next_F _ _ _).mono ?_; rintro e w1 ⟨rfl, hbb⟩; obtain ⟨hcc, hff⟩ := bcell hbb))
    have s5 : w1.cell? ⟨w.heap.size, 0, none⟩ = some (.float .f64 0) := by (rw [hcc _ _ (by simp)]; simp)
    have s6 : w1.cell? ⟨w.heap.size, 1, none⟩ = some (.float .f64 0) := by (rw [hcc _ _ (by simp)]; simp)
    refine bodyPost_ret (v := ivV ⟨y0, (nextF y0 true).1⟩) (by simp [results, Tryz.results26, go_sem, ivV, s5, s6]) rfl ⟨?_, ?_⟩
    · rw [HR.out]
    · exact ((((Below.refl _ _).alloc (Nat.le_refl _) _).trans (hbb.mono (by simp))).setCell (by simp) _).setCell (by simp) _
end Go.Proofs.YtgjohjgmlleebaaGreat
namespace Go.Proofs.YtgjohjgmlleebaaGreat
set_option linter.all false
open Go.RowKit Bu Rx

def kOne (f : Bool → F → F × Int) : List SV → Dec → Option (SV × Dec × Obs)
  | [.fl x, .b up], ds => some (.tup [.fl (f up x).1, .si .i64 (f up x).2], ds, [])
  | _, _ => none
theorem sqrtG : PlainOk Tryz.prog 97 (kOne qSqrt) := by
  intro args ds x ds' ob h1 ho
  unfold kOne at h1
  split at h1
  · rename_i x up
    simp only [Option.some.injEq, Prod.mk.injEq] at h1
    obtain ⟨rfl, _, _⟩ := h1
    exact ⟨[.float .f64 x.b, .bool up], _, rfl, rfl, fun w => sqrt_F_w x up w⟩
  · cases h1
def OISq (f : Bool → F → F × Int) : OracleF := lookO [(42, plainO oRt), (97, plainO (kOne f))]
theorem oracleISq : OracleOk Tryz.prog (OISq qSqrt) := .cons irightG.of (.cons sqrtG.of (.nil _))
theorem csqrt_p0 (f : Bool → F → F × Int) (t : Nat) (n : Int) (a b : F) : takeR 1 ((run Tryz.prog EG (OISq f) 60).1 56 (.p 0 0 :: [.agg [.fl a, .fl b]]) [⟨t, [.si .i64 n], .ex⟩] (some [true])) = some (.agg [.fl F.zero, .fl F.zero], [⟨t, [.si .i64 n], .ex⟩], some [], [((!(n == 0)), true)]) := by kernel_rfl
theorem csqrt_p1 (f : Bool → F → F × Int) (t : Nat) (n : Int) (a b : F) : takeR 1 ((run Tryz.prog EG (OISq f) 60).1 56 (.p 0 0 :: [.agg [.fl a, .fl b]]) [⟨t, [.si .i64 n], .ex⟩] (some [false, false])) = some (.agg [.fl F.zero, .fl F.zero], [⟨t, [.i .i64 20], .ex⟩], some [], [(rt ⟨a, b⟩, false), ((!(n == 0)), false)]) := by kernel_rfl
theorem csqrt_p2 (f : Bool → F → F × Int) (t : Nat) (n : Int) (a b : F) : takeR 1 ((run Tryz.prog EG (OISq f) 60).1 56 (.p 0 0 :: [.agg [.fl a, .fl b]]) [⟨t, [.si .i64 n], .ex⟩] (some [false, true, true, true])) = some (.agg [.fl F.zero, .fl F.zero], [⟨t, [.si .i64 (f false a).2], .ex⟩], some [], [((!((f false a).2 == 0)), true), ((!((f false a).2 == 0)), true), (rt ⟨a, b⟩, true), ((!(n == 0)), false)]) := by kernel_rfl
theorem csqrt_p3 (f : Bool → F → F × Int) (t : Nat) (n : Int) (a b : F) : takeR 1 ((run Tryz.prog EG (OISq f) 60).1 56 (.p 0 0 :: [.agg [.fl a, .fl b]]) [⟨t, [.si .i64 n], .ex⟩] (some [false, true, false, true])) = some (.agg [.fl F.zero, .fl F.zero], [⟨t, [.si .i64 (f true b).2], .ex⟩], some [], [((!((f true b).2 == 0)), true), ((!((f false a).2 == 0)), false), (rt ⟨a, b⟩, true), ((!(n == 0)), false)]) := by kernel_rfl
theorem csqrt_p4 (f : Bool → F → F × Int) (t : Nat) (n : Int) (a b : F) : takeR 1 ((run Tryz.prog EG (OISq f) 60).1 56 (.p 0 0 :: [.agg [.fl a, .fl b]]) [⟨t, [.si .i64 n], .ex⟩] (some [false, true, false, false])) = some (.agg [.fl (f false a).1, .fl (f true b).1], [⟨t, [.si .i64 n], .ex⟩], some [], [((!((f true b).2 == 0)), false), ((!((f false a).2 == 0)), false), (rt ⟨a, b⟩, true), ((!(n == 0)), false)]) := by kernel_rfl
theorem csqrt_I : OfOk Tryz.prog 56 (kC (aI (cSqrt qSqrt))) := by
  refine ofI fun a b t n => ?_
  cases h0 : (!(n == 0))
  · cases h1 : rt ⟨a, b⟩
    · exact calc_path goodG oracleISq (csqrt_p1 qSqrt t n a b) (obsB_yes h1 (obsB_yes h0 obsB_nil)) (by simp only [cSqrt, askI, I.zero, h0, h1, cond_true, cond_false]) rfl
    · cases h3 : (!((qSqrt false a).2 == 0))
      · cases h4 : (!((qSqrt true b).2 == 0))
        · exact calc_path goodG oracleISq (csqrt_p4 qSqrt t n a b) (obsB_yes h4 (obsB_yes h3 (obsB_yes h1 (obsB_yes h0 obsB_nil)))) (by simp only [cSqrt, askI, endsI, I.zero, h0, h1, h3, h4, cond_true, cond_false]) rfl
        · exact calc_path goodG oracleISq (csqrt_p3 qSqrt t n a b) (obsB_yes h4 (obsB_yes h3 (obsB_yes h1 (obsB_yes h0 obsB_nil)))) (by simp only [cSqrt, askI, endsI, I.zero, h0, h1, h3, h4, cond_true, cond_false]) rfl
      · exact calc_path goodG oracleISq (csqrt_p2 qSqrt t n a b) (obsB_yes h3 (obsB_yes h3 (obsB_yes h1 (obsB_yes h0 obsB_nil)))) (by simp only [cSqrt, askI, endsI, I.zero, h0, h1, h3, cond_true, cond_false]) rfl
  · exact calc_path goodG oracleISq (csqrt_p0 qSqrt t n a b) (obsB_yes h0 obsB_nil) (by simp only [cSqrt, askI, I.zero, h0, cond_true]) rfl
end Go.Proofs.YtgjohjgmlleebaaGreat
namespace Go.Proofs.YtgjohjgmlleebaaGreat
set_option linter.all false
open Go.RowKit Bu Rx

theorem unitG : PlainOk Tryz.prog 26 (kOf unI fun n => decide (0 ≤ n ∧ n ≤ 18446744073709551615)) := by
  intro args ds x ds' ob h ho
  unfold kOf at h
  split at h
  · rename_i u
    split at h
    · rename_i n hk
      simp only [Option.some.injEq, Prod.mk.injEq] at h; obtain ⟨rfl, _, rfl⟩ := h
      have hn := of_decide_eq_true (ho _ (List.mem_cons_self ..))
      obtain ⟨k, rfl⟩ := Int.eq_ofNat_of_zero_le hn.1
      refine ⟨[.int .u64 (k : Int)], _, plains_cons (intS_plain hk) plains_nil, rfl, fun w => (unitOf_w k (by omega) w).mono ?_⟩
      rintro e w' ⟨rfl, hb⟩
      exact ⟨by unfold unI; rw [Int.toNat_natCast]; rfl, hb⟩
    · cases h
  · cases h
def OQ (N : Kq) : OracleF := lookO [(167, plainO (kSC N.ib N.si N.co)), (26, plainO (kOf N.uo N.u)), (61, kC (aII N.mul)), (58, kC (aII N.sub)), (169, kC (aII N.max)), (56, kC (aI N.sqrt)), (55, kC (aF N.num))]
theorem oracleQ : OracleOk Tryz.prog (OQ (KqR atR)) := .cons scK.of (.cons unitG.of (.cons mulC (.cons subC (.cons cmax_I (.cons csqrt_I (.cons numC (.nil _)))))))
def drawS (v : I × I × I) : SV := .tup [.agg [.fl v.1.lo, .fl v.1.hi, .fl v.2.1.lo, .fl v.2.1.hi, .fl v.2.2.lo, .fl v.2.2.hi], .i .i64 0]
theorem drawRun (N : Kq) (a b : Int) : valR ((run Tryz.prog EG (OQ N) 60).1 116 [.si .u64 a, .si .u64 b] [] (some [true, false])) = some (drawS (dV N a b), some [], [(!((dZ N a b).2 == 0), false), (N.u a, true), (N.ib (N.uo b), true), (N.u b, true)]) := by kernel_rfl
def kDraw (v : Int → Int → I × I × I) (u : Int → Bool) : List SV → Dec → Option (SV × Dec × Obs)
  | [x, y], ds => match intS x, intS y with
    | some (.u64, a), some (.u64, b) => some (drawS (v a b), ds, [(u a, true), (u b, true)])
    | _, _ => none
  | _, _ => none
theorem drawG : PlainOk Tryz.prog 116 (kDraw (dV (KqR atR)) fun n => decide (0 ≤ n ∧ n ≤ 18446744073709551615)) := by
  intro args ds x ds' ob h ho
  unfold kDraw at h
  split at h
  · rename_i y1 y2
    split at h
    · rename_i a b ha hb
      simp only [Option.some.injEq, Prod.mk.injEq] at h; obtain ⟨rfl, _, rfl⟩ := h
      have h1 := ho _ (List.mem_cons_self ..)
      have h2 := ho (_, true) (List.mem_cons_of_mem _ (List.mem_cons_self ..))
      have g1 := of_decide_eq_true h1
      have g2 := of_decide_eq_true h2
      obtain ⟨D, hD⟩ := draw_ok (a := a) (b := b) g1.1 g1.2
      refine ⟨[.int .u64 a, .int .u64 b], _, plains_cons (intS_plain ha) (plains_cons (intS_plain hb) plains_nil), rfl, fun w => ?_⟩
      refine calls_of_val goodG oracleQ 60 (drawRun (KqR atR) a b) (ObsOk.of_B (obsB_yes ?_ (obsB_yes h1 (obsB_yes (unI_in b g2.1 g2.2) (obsB_yes h2 obsB_nil))))) rfl rfl w
      rw [hD.ez]; rfl
    · cases h
  · cases h
end Go.Proofs.YtgjohjgmlleebaaGreat
