/- burnishlow.Prog: pieces. burnishlow.Prog: the rounds. burnishlow.Prog: the entry. burnishlow.Prog: plain, and its loop. burnishlow.Prog as a known function. eval.Eval: what each node's light is; a round. eval.Eval: the contract. eval.Eval really; eval.At. burnishlow.Prog as a known function: the whole. burnishlow.Prog as a known function: the contract. chances: the mirror's part does not hang on the leaves. What leaves send, plain: gloss. Oren's value, plain: a slope, then one line. Oren's slope, plain: in cases; parts; both ways. Layer 11's laws, by the reckoner. Leaves, plain: values and densities of directions of numbers. -/
import Derived.Test.YtgjohjgmlleebaaGreatZ12
import Derived.Test.YtgjohjgmlleebaaGreatZ11
namespace Bu
set_option linter.all false
open Rx Go
def u32S (x : SV) : Option Int := match intS x with
  | some (.u32, n) => some n
  | _ => none
/-- eight numbers, however they are told -/
def u8Of : SV → Option U8
  | .agg [x0, x1, x2, x3, x4, x5, x6, x7] => match u32S x0, u32S x1, u32S x2, u32S x3, u32S x4, u32S x5, u32S x6, u32S x7 with
    | some a0, some a1, some a2, some a3, some a4, some a5, some a6, some a7 => some ⟨a0, a1, a2, a3, a4, a5, a6, a7⟩
    | _, _, _, _, _, _, _, _ => none
  | _ => none
theorem u32S_plain {x : SV} {n : Int} (h : u32S x = some n) : plain x = some (.int .u32 n) := by
  unfold u32S at h
  split at h
  · rename_i k e
    simp only [Option.some.injEq] at h; subst h
    exact intS_plain e
  · cases h
def U8.vs (u : U8) : List Value := [.int .u32 u.a0, .int .u32 u.a1, .int .u32 u.a2, .int .u32 u.a3, .int .u32 u.a4, .int .u32 u.a5, .int .u32 u.a6, .int .u32 u.a7]
theorem u8Of_plain {x : SV} {u : U8} (h : u8Of x = some u) : plain x = some (.agg u.vs.toArray) := by
  unfold u8Of at h
  split at h
  · split at h
    · rename_i e0 e1 e2 e3 e4 e5 e6 e7
      simp only [Option.some.injEq] at h; subst h
      exact plain_agg (plains_cons (u32S_plain e0) (plains_cons (u32S_plain e1) (plains_cons (u32S_plain e2) (plains_cons (u32S_plain e3) (plains_cons (u32S_plain e4) (plains_cons (u32S_plain e5) (plains_cons (u32S_plain e6) (plains_cons (u32S_plain e7) rfl))))))))
    · cases h
  · cases h
def kLe8 (k : U8 → Int) (f : U8 → Nat → F) (o : U8 → Bool) : List SV → Dec → Option (SV × Dec × Obs)
  | [x], ds => match u8Of x with
    | some u => some (nodeZ (k u) (f u), ds, [(o u, true)])
    | none => none
  | _, _ => none
end Bu
namespace Go.Proofs.YtgjohjgmlleebaaGreat
set_option linter.all false
open Go.RowKit Bu Rx
theorem le8G : PlainOk Tryz.prog 22 (kLe8 leK (leF bwF) U8.ok) := by
  intro args ds x ds' ob h ho
  unfold kLe8 at h
  split at h
  · rename_i y
    split at h
    · rename_i u hu
      simp only [Option.some.injEq, Prod.mk.injEq] at h
      obtain ⟨rfl, _, rfl⟩ := h
      have hy := u8Of_plain hu
      obtain ⟨vs, v, h5, h6, h7⟩ := leG [u.sv] ds _ ds _ rfl ho
      refine ⟨vs, v, ?_, h6, h7⟩
      rw [← h5]
      have e1 : plain u.sv = some (.agg u.vs.toArray) := rfl
      show plains [y] = plains [u.sv]
      unfold plains
      rw [hy, e1]
    · cases h
  · cases h
structure Npr where
  k : U8 → Int
  f : U8 → Nat → F
  o : U8 → Bool
  q : Int → F
  w : Int → Bool
  b : F → F → Int → F
  p : F → F → Bool
def OPr (N : Npr) : OracleF := lookO [(22, plainO (kLe8 N.k N.f N.o)), (25, plainO (kFq N.q N.w)), (19, plainO (kBw N.b N.p N.w))]
end Go.Proofs.YtgjohjgmlleebaaGreat
namespace Bu
set_option linter.all false
open Rx Go
def u8At (cs : List SV) (o : Nat) : U8 := ⟨inAt cs o, inAt cs (o + 1), inAt cs (o + 2), inAt cs (o + 3), inAt cs (o + 4), inAt cs (o + 5), inAt cs (o + 6), inAt cs (o + 7)⟩
def u8CK : List CK := [.i .u32, .i .u32, .i .u32, .i .u32, .i .u32, .i .u32, .i .u32, .i .u32]
def fz : SV := .fl F.zero
def nzC (k : Int) (f : Nat → F) : List SV := [.si .u8 k, .fl (f 0), .fl (f 1), .fl (f 2), .fl (f 3), .fl (f 4), .fl (f 5), .fl (f 6), .fl (f 7), .fl (f 8), .fl (f 9), .fl (f 10), .fl (f 11), .fl (f 12), .fl (f 13), .fl (f 14), .fl (f 15), .i .i64 0, .i .i64 0]
end Bu
namespace Go.Proofs.YtgjohjgmlleebaaGreat
set_option linter.all false
open Go.RowKit Bu Rx
def minIor_ : F := toF 4607463893776728064
def maxIor_ : F := toF 4616189618054758400
section
variable (N : Npr) (e : TypeId × (Nat × Nat)) (cells pc : List SV) (off len cap o1 l1 c1 n : Nat) (i : Int) (x : Nat → SV)
end
end Go.Proofs.YtgjohjgmlleebaaGreat
namespace Go.Proofs.YtgjohjgmlleebaaGreat
set_option linter.all false
open Go.RowKit Bu Rx
def u8Z : U8 := ⟨0, 0, 0, 0, 0, 0, 0, 0⟩
section
variable (N : Npr) (e : TypeId × (Nat × Nat)) (cells pc : List SV) (off len cap : Nat) (x : Nat → SV)
end
end Go.Proofs.YtgjohjgmlleebaaGreat
namespace Go.Proofs.YtgjohjgmlleebaaGreat
set_option linter.all false
open Go.RowKit Bu Rx
def prgB (N : Npr) (u : U8) : Bool := N.o u && (N.w u.a3 && (N.w u.a4 && (N.w u.a5 && N.w u.a6)))
theorem sel_M (s : St) (ids : List Nat) (M' : List Blk) (v : Nat → Value) : (s.sel ids M' v).M = M' := rfl
end Go.Proofs.YtgjohjgmlleebaaGreat
namespace Go.Proofs.YtgjohjgmlleebaaGreat
set_option linter.all false
open Go.RowKit Bu Rx
theorem LandsB.seq {P : Program} {E : ExtF} {O : OracleF} {B : Bs} (hP : Rx.Good P E) (hO : OracleOk P O) {n : Nat} {c d : Code} {s : St} {ex : Ex} {Ψ : St → Prop} (h : Lands P E O n c s .normal) (ho : ObsOk (aft P E O n c s).ob) (k : RunsB P B d (aft P E O n c s) ex Ψ) : RunsB P B (.seq c d) s ex Ψ :=
  RunsB.seq (RunsP.bs (h.runs hP hO ho)) fun _ ht => ht ▸ k
structure PrIn (N : Npr) (cs : List SV) (len : Nat) : Prop where
  row : ∀ j, j < len → j < 8 → ckAll cs (j * 8) u8CK = true
  ok : ∀ j, j < len → j < 8 → prgB N (u8At cs (j * 8)) = true
section
variable {N : Npr} (hO : OracleOk Tryz.prog (OPr N)) (hN : N.p minIor_ maxIor_ = true) (hZ : N.o u8Z = true) {e : TypeId × (Nat × Nat)} {cells cs : List SV} {off len cap : Nat} {B : Bs} (hB : B.M.length = 1) (hid : idsLts 0 cells = true) (hca : CellsAt cells off cs) (hcap : len ≤ cap) (K : PrIn N cs len)
include hO hN hB hca hcap K
end
end Go.Proofs.YtgjohjgmlleebaaGreat
namespace Bu
set_option linter.all false
open Rx Go
theorem lc_at {lc : List SV} {a : Nat} {c : Nat → Ch} (h : CellsAt lc (a * 12) (ltC c)) : ∀ k, k < 3 → lcAt lc k a = c k ∧ ckAll lc (a * 12 + k * 2) [.f, .f] = true ∧ ckAll lc (a * 12 + 6 + k * 2) [.f, .f] = true := by
  intro k hk
  have e0 := h 0 _ rfl
  have e1 := h 1 _ rfl
  have e2 := h 2 _ rfl
  have e3 := h 3 _ rfl
  have e4 := h 4 _ rfl
  have e5 := h 5 _ rfl
  have e6 := h 6 _ rfl
  have e7 := h 7 _ rfl
  have e8 := h 8 _ rfl
  have e9 := h 9 _ rfl
  have e10 := h 10 _ rfl
  have e11 := h 11 _ rfl
  rw [Nat.add_zero] at e0
  unfold lcAt
  rcases (by omega : k = 0 ∨ k = 1 ∨ k = 2) with rfl | rfl | rfl
  all_goals
    simp only [flAt, ckAll, ckOk, Nat.reduceMul, Nat.add_assoc, Nat.reduceAdd, Nat.add_zero, Nat.zero_mul, Nat.zero_add, e0, e1, e2, e3, e4, e5, e6, e7, e8, e9, e10, e11, Bool.and_self, Bool.and_true, and_self]
theorem lt_ck {lc : List SV} {a : Nat} {c : Nat → Ch} (h : CellsAt lc (a * 12) (ltC c)) : ckAll lc (a * 12) [.f, .f, .f, .f, .f, .f, .f, .f, .f, .f, .f, .f] = true := by
  have e0 := h 0 _ rfl
  have e1 := h 1 _ rfl
  have e2 := h 2 _ rfl
  have e3 := h 3 _ rfl
  have e4 := h 4 _ rfl
  have e5 := h 5 _ rfl
  have e6 := h 6 _ rfl
  have e7 := h 7 _ rfl
  have e8 := h 8 _ rfl
  have e9 := h 9 _ rfl
  have e10 := h 10 _ rfl
  have e11 := h 11 _ rfl
  rw [Nat.add_zero] at e0
  simp only [ckAll, ckOk, Nat.add_assoc, Nat.reduceAdd, e0, e1, e2, e3, e4, e5, e6, e7, e8, e9, e10, e11, Bool.and_self]
theorem ltC_ext {c d : Nat → Ch} (h : ∀ k, k < 3 → c k = d k) : ltC c = ltC d := by
  unfold ltC
  rw [h 0 (by decide), h 1 (by decide), h 2 (by decide)]
/-- the lights of the first nodes -/
def lights (F : Nat → Nat → Ch) : Nat → List SV
  | 0 => []
  | n + 1 => lights F n ++ ltC (fun k => F k n)
theorem lights_len (F : Nat → Nat → Ch) : ∀ n, (lights F n).length = n * 12
  | 0 => rfl
  | n + 1 => by unfold lights; rw [List.length_append, lights_len F n, show (ltC fun k => F k n).length = 12 from rfl]; omega
theorem lights_at (F : Nat → Nat → Ch) : ∀ {n j : Nat}, j < n → CellsAt (lights F n) (j * 12) (ltC (fun k => F k j))
  | n + 1, j, h => by
    unfold lights
    intro t x hx
    have ht : t < 12 := (List.getElem?_eq_some_iff.1 hx).1
    have hl := lights_len F n
    rcases Nat.lt_or_ge j n with h' | h'
    · rw [List.getElem?_append_left (by rw [hl]; omega)]
      exact lights_at F h' t x hx
    · obtain rfl : j = n := by omega
      rw [List.getElem?_append_right (by rw [hl]; omega), hl, show j * 12 + t - j * 12 = t by omega]
      exact hx
end Bu
namespace Go.Proofs.YtgjohjgmlleebaaGreat
set_option linter.all false
open Go.RowKit Bu Rx
def allE (N : Nde) (v u : V3) (cs : List SV) (k : Nat) : (Nat → Ch) → Nat → Ch × Int := fun l i => evN N v u k l (ndR cs (i * 19))
/-- the light of a node, a channel -/
def ltF (N : Nde) (v u : V3) (cs : List SV) (k i : Nat) : Ch := chF (allE N v u cs k) i
/-- no error, and what is asked of the parts of a node -/
def evNB (N : Nde) (v u : V3) (l : Nat → Nat → Ch) (n : Nd) : Bool :=
  (bif decide (n.k = 5) then true
  else bif decide (n.k = 6) then (Bu.obsB (N.dO v.z ⟨n.f 14, n.f 14⟩) && decide ((N.D v.z ⟨n.f 14, n.f 14⟩).2 = 0)) && (Bu.obsB (N.dO u.z ⟨n.f 14, n.f 14⟩) && decide ((N.D u.z ⟨n.f 14, n.f 14⟩).2 = 0))
  else Bu.obsB (lfOb N v u n 0) && (Bu.obsB (lfOb N v u n 1) && Bu.obsB (lfOb N v u n 2))) &&
  (decide ((evN N v u 0 (l 0) n).2 = 0) && (decide ((evN N v u 1 (l 1) n).2 = 0) && decide ((evN N v u 2 (l 2) n).2 = 0)))
def evB (N : Nde) (v u : V3) (cs : List SV) (len : Nat) : Bool :=
  (List.range len).all fun i => evNB N v u (fun k j => (chL (allE N v u cs k) i).getD j Ch.zero) (ndR cs (i * 19))
theorem evB_at {N : Nde} {v u : V3} {cs : List SV} {len : Nat} (h : evB N v u cs len = true) {i : Nat} (hi : i < len) : evNB N v u (fun k j => (chL (allE N v u cs k) i).getD j Ch.zero) (ndR cs (i * 19)) = true := List.all_eq_true.1 h i (List.mem_range.2 hi)
theorem ndOb_ok {e0 e1 e2 : Int} {o0 o1 o2 t : Obs} (h0 : e0 = 0) (h1 : e1 = 0) (h2 : e2 = 0) (k0 : ObsOk o0) (k1 : ObsOk o1) (k2 : ObsOk o2) (ht : ObsOk t) : ObsOk (ndOb e0 e1 e2 o0 o1 o2 t) := by
  subst h0 h1 h2
  exact ob_c rfl (ob_a (ob_a k2 ob_n) (ob_c rfl (ob_a (ob_a k1 ob_n) (ob_c rfl (ob_a (ob_a k0 ob_n) ht)))))
theorem rdOb_ok {F : Nat → Nat → Ch} {n : Nat} {a : Int} {k : Nat} (h0 : 0 ≤ a) (h : a < n) (hk : k < 3) : ObsOk (rdOb (lights F n) n a k) := by
  obtain ⟨_, c1, c2⟩ := lc_at (lights_at F (show a.toNat < n by omega)) k hk
  have ix := ix_of h0 h
  have ik := ix_of (a := (k : Int)) (n := 3) (by omega) (by omega)
  exact ob_c c2 (ob_c ik (ob_c ix (ob_c c1 (ob_c ik (ob_c ix ob_n)))))
theorem evHd_ok {cells : List SV} {off len i : Nat} (hc : ckAll cells (off + i * 19) ndCK = true) (hi : i < len) : ObsOk (evHd cells off len (i : Int)) := by
  unfold evHd
  rw [Int.toNat_natCast]
  exact ob_c hc (ob_c (ix_of (by omega) (by omega)) (ob_c (decide_eq_true (by omega)) ob_n))
theorem evAp_ok {F : Nat → Nat → Ch} {n : Nat} (h : n < 4096) : evAp (lights F n) n = true := by
  unfold evAp
  have hm : 4096 ≤ maxLen := by decide
  rw [lights_len, decide_eq_true (show (1 : Nat) ≤ 1 by omega), decide_eq_true (show n + 1 ≤ maxLen by omega), decide_eq_true (show (n + 1) * 96 ≤ 140737488355328 by omega), decide_eq_true (show 0 + 1 * 12 ≤ 12 by omega), decide_eq_true rfl]; rfl
theorem beq_t {a b : Int} (h : a = b) : (a == b) = true := by rw [h]; exact beq_self_eq_true b
theorem beq_f {a b : Int} (h : a ≠ b) : (a == b) = false := by simpa using h
section
variable {N : Nde} {o : List SV → Nat → Bool} (hO : OracleOk Tryz.prog (OE o N)) {e : TypeId} {cells cs : List SV} {v u : V3} {off len cap i : Nat} {x : Nat → SV} {B : Bs} (hB1 : B.M.length = 1) (K : OkPg cs len) (hca : CellsAt cells off cs) (hB : evB N v u cs len = true) (hi : i < len)
include hO hB1 K hca hB hi
theorem ev_round : RunsB Tryz.prog B eBd (evS e cells (lights (ltF N v u cs) i) v u off len cap i (i : Int) x none) .normal (fun t => ∃ x', t = evS e cells (lights (ltF N v u cs) (i + 1)) v u off len cap (i + 1) ((i + 1 : Nat) : Int) x' none) := by
  have hK := K.hi
  obtain ⟨hck, hnr⟩ := K.at hca hi
  have hw : IntKind.i64.wrap ((i : Int) + 1) = ((i + 1 : Nat) : Int) := wrap_s (by omega)
  have hk : ∀ (j : Nat), ∀ n, n < B.M.length → ([0, 1, 2, 3, j] : List Nat)[n]? = some n := fun j n hn => by
    rw [hB1] at hn
    have : n = 0 := by omega
    subst this; rfl
  have hnd0 : nd0 cells off (i : Int) = ndR cs (i * 19) := by unfold nd0; rw [Int.toNat_natCast]; exact hnr
  have hH := evHd_ok (len := len) hck hi
  have hA := evAp_ok (F := ltF N v u cs) (n := i) (by omega)
  have b := evB_at hB hi
  have hnd := K.nd i hi
  have hF : ∀ k, ltF N v u cs k i = (evN N v u k (fun j => (chL (allE N v u cs k) i).getD j Ch.zero) (ndR cs (i * 19))).1 := fun _ => rfl
  have g : ∀ {a : Int} (k : Nat), 0 ≤ a → a < i → (chL (allE N v u cs k) i).getD a.toNat Ch.zero = ltF N v u cs k a.toNat := fun _ _ _ => chL_get _ (by omega)
  have gl : ∀ {a : Int} (k : Nat), k < 3 → 0 ≤ a → a < i → lcAt (lights (ltF N v u cs) i) k a.toNat = ltF N v u cs k a.toNat := fun k h3 h0 h1 => (lc_at (lights_at (ltF N v u cs) (by omega)) k h3).1
  have hrow : lights (ltF N v u cs) (i + 1) = lights (ltF N v u cs) i ++ ltC (fun k => ltF N v u cs k i) := rfl
  rw [hrow]
  unfold evNB at b
  simp only [Bool.and_eq_true, decide_eq_true_eq] at b
  obtain ⟨b0, b1, b2, b3⟩ := b
  generalize ndR cs (i * 19) = n at hnd hnd0 b0 b1 b2 b3 hF
  by_cases h5 : n.k = 5
  · obtain ⟨⟨a0, a1⟩, c0, c1⟩ := okNd_mix hnd h5
    have ev : ∀ k, k < 3 → mixC N.K (n.f 15) (lcAt (lights (ltF N v u cs) i) k n.a.toNat) (lcAt (lights (ltF N v u cs) i) k n.b.toNat) = evN N v u k (fun j => (chL (allE N v u cs k) i).getD j Ch.zero) n := fun k h3 => by
      unfold evN
      rw [decide_eq_true h5, cond_true, gl k h3 a0 a1, gl k h3 c0 c1]
      show _ = mixC N.K (n.f 15) ((chL (allE N v u cs k) i).getD n.a.toNat Ch.zero) ((chL (allE N v u cs k) i).getD n.b.toNat Ch.zero)
      rw [g k a0 a1, g k c0 c1]
    have hob : ObsOk (evA N o e cells (lights (ltF N v u cs) i) v u off len cap i (i : Int) x dMx).ob := by
      rw [evOm]
      unfold mxObs
      rw [hnd0, ev 0 (by decide), ev 1 (by decide), ev 2 (by decide)]
      refine ob_c hA (ndOb_ok b1 b2 b3 (ob_a (rdOb_ok c0 c1 (by decide)) (rdOb_ok a0 a1 (by decide))) (ob_a (rdOb_ok c0 c1 (by decide)) (rdOb_ok a0 a1 (by decide))) (ob_a (rdOb_ok c0 c1 (by decide)) (rdOb_ok a0 a1 (by decide))) (ob_a (ob_c (beq_t h5) ob_n) hH))
    have hM := evMm N o e cells (lights (ltF N v u cs) i) v u off len cap i (i : Int) x
    rw [hnd0, ltC_ext (d := fun k => ltF N v u cs k i) (fun k h3 => by rw [ev k h3]; exact (hF k).symm)] at hM
    refine RunsB.re (d := some dMx) (o := []) (RunsB.sel (RunsP.bs (Lands.runs goodG hO (evLm N o e cells (lights (ltF N v u cs) i) v u off len cap i (i : Int) x) hob)) rfl hM (hk 19) fun vv => ?_)
    refine ⟨_, ⟨evXm N o e cells (lights (ltF N v u cs) i) v u off len cap i (i : Int) x vv, rfl⟩, same_eq ?_ ?_⟩
    · have hT := evTm N o e cells (lights (ltF N v u cs) i) v u off len cap i (i : Int) x vv
      rw [hw] at hT
      exact (hT _).symm
    · rw [sel_M]; rfl
  by_cases h6 : n.k = 6
  · obtain ⟨a0, a1⟩ := okNd_coat hnd h6
    rw [decide_eq_false h5, decide_eq_true h6, cond_false, cond_true] at b0
    simp only [Bool.and_eq_true, decide_eq_true_eq] at b0
    obtain ⟨⟨v1, v2⟩, u1, u2⟩ := b0
    have ev : ∀ k, k < 3 → overC N.K (N.D v.z ⟨n.f 14, n.f 14⟩).1 (N.D u.z ⟨n.f 14, n.f 14⟩).1 (n.f (3 + k)) (lcAt (lights (ltF N v u cs) i) k n.a.toNat) = evN N v u k (fun j => (chL (allE N v u cs k) i).getD j Ch.zero) n := fun k h3 => by
      unfold evN
      rw [decide_eq_false h5, decide_eq_true h6, cond_false, cond_true, gl k h3 a0 a1]
      show _ = overC N.K (N.D v.z ⟨n.f 14, n.f 14⟩).1 (N.D u.z ⟨n.f 14, n.f 14⟩).1 (n.f (3 + k)) ((chL (allE N v u cs k) i).getD n.a.toNat Ch.zero)
      rw [g k a0 a1]
    have hob : ObsOk (evA N o e cells (lights (ltF N v u cs) i) v u off len cap i (i : Int) x dCo).ob := by
      rw [evOc]
      unfold coObs ovE coO
      rw [hnd0, ev 0 (by decide), ev 1 (by decide), ev 2 (by decide)]
      refine ob_c hA (ndOb_ok b1 b2 b3 (rdOb_ok a0 a1 (by decide)) (rdOb_ok a0 a1 (by decide)) (rdOb_ok a0 a1 (by decide)) (ob_c (beq_t u2) (ob_a (ob_a (ob_a (Bu.obsB_ok u1) (ob_c (ne_0 v2) (ob_a (Bu.obsB_ok v1) ob_n))) (ob_c (beq_t h6) (ob_c (beq_f h5) ob_n))) hH)))
    have hM := evMc N o e cells (lights (ltF N v u cs) i) v u off len cap i (i : Int) x
    unfold ovE at hM
    rw [hnd0, ltC_ext (d := fun k => ltF N v u cs k i) (fun k h3 => by rw [ev k h3]; exact (hF k).symm)] at hM
    refine RunsB.re (d := some dCo) (o := []) (RunsB.sel (RunsP.bs (Lands.runs goodG hO (evLc N o e cells (lights (ltF N v u cs) i) v u off len cap i (i : Int) x) hob)) rfl hM (hk 20) fun vv => ?_)
    refine ⟨_, ⟨evXc N o e cells (lights (ltF N v u cs) i) v u off len cap i (i : Int) x vv, rfl⟩, same_eq ?_ ?_⟩
    · have hT := evTc N o e cells (lights (ltF N v u cs) i) v u off len cap i (i : Int) x vv
      rw [hw] at hT
      exact (hT _).symm
    · rw [sel_M]; rfl
  · rw [decide_eq_false h5, decide_eq_false h6, cond_false, cond_false] at b0
    simp only [Bool.and_eq_true] at b0
    obtain ⟨l0, l1, l2⟩ := b0
    have ev : ∀ k, evN N v u k (fun j => (chL (allE N v u cs k) i).getD j Ch.zero) n = (⟨(N.g (lfE v u k n)).1, I.zero⟩, (N.g (lfE v u k n)).2) := fun k => by
      unfold evN
      rw [decide_eq_false h5, decide_eq_false h6, cond_false, cond_false]
    rw [ev] at b1 b2 b3
    have hob : ObsOk (evA N o e cells (lights (ltF N v u cs) i) v u off len cap i (i : Int) x dLf).ob := by
      rw [evOl]
      unfold lfObs
      rw [hnd0]
      exact ob_c hA (ndOb_ok b1 b2 b3 (Bu.obsB_ok l0) (Bu.obsB_ok l1) (Bu.obsB_ok l2) (ob_a (ob_c (beq_f h6) (ob_c (beq_f h5) ob_n)) hH))
    have hM := evMl N o e cells (lights (ltF N v u cs) i) v u off len cap i (i : Int) x
    rw [hnd0, ltC_ext (d := fun k => ltF N v u cs k i) (fun k h3 => by rw [hF k, ev k])] at hM
    refine RunsB.re (d := some dLf) (o := []) (RunsB.sel (RunsP.bs (Lands.runs goodG hO (evLl N o e cells (lights (ltF N v u cs) i) v u off len cap i (i : Int) x) hob)) rfl hM (hk 19) fun vv => ?_)
    refine ⟨_, ⟨evXl N o e cells (lights (ltF N v u cs) i) v u off len cap i (i : Int) x vv, rfl⟩, same_eq ?_ ?_⟩
    · have hT := evTl N o e cells (lights (ltF N v u cs) i) v u off len cap i (i : Int) x vv
      rw [hw] at hT
      exact (hT _).symm
    · rw [sel_M]; rfl
end
end Go.Proofs.YtgjohjgmlleebaaGreat
namespace Rx
set_option linter.all false
open Go Go.RowKit
/-- a row made by append, of numbers alone, counts as such -/
theorem RunsB.numr {P : Program} {B : Bs} {c : Code} {s : St} {ex : Ex} {Φ Ψ : St → Prop} (h : RunsB P B c s ex Φ)
    (k : ∀ t, Φ t → ∃ n e cells z, t.M[n]? = some ⟨e, cells, .row z⟩ ∧ idsLts 0 cells = true ∧ Ψ ⟨t.T, t.M.set n ⟨e, cells, .rown z⟩, t.ds, t.ob⟩) : RunsB P B c s ex Ψ := by
  intro m a w Q hs hg hq
  refine h m a w Q hs hg fun t m' a' w' h1 hst hg' => ?_
  obtain ⟨n, e, cells, z, hb, hi, hΨ⟩ := k t h1
  have hnl : n < t.M.length := (List.getElem?_eq_some_iff.1 hb).1
  have lv : ∀ j, liveM (t.M.set n ⟨e, cells, .rown z⟩) j → liveM t.M j := fun j hl => by
    obtain ⟨b, h2, h3⟩ := hl
    rw [List.getElem?_set] at h2
    split at h2
    · rename_i e1
      subst e1
      exact ⟨_, hb, rfl⟩
    · exact ⟨b, h2, h3⟩
  refine hq _ m' a' w' hΨ ⟨hst.tm, hst.df, ⟨hst.mem.ok, fun j j' q l1 l2 h1 h2 => hst.mem.inj j j' q (lv j l1) (lv j' l2) h1 h2, fun j b hj => ?_, fun j q hj => ?_⟩⟩ ⟨hg'.ext, hg'.fr, hg'.new, fun j q hj hl => hg'.dd j q hj (lv j hl)⟩
  · have hj0 : (t.M.set n ⟨e, cells, .rown z⟩)[j]? = some b := hj
    rw [List.getElem?_set] at hj0
    split at hj0
    · rename_i e1
      subst e1
      simp only [Option.some.injEq] at hj0
      subst hj0
      obtain ⟨r, hr, hat⟩ := hst.mem.blk n _ hb
      refine ⟨r, hr, fun _ => ?_⟩
      obtain ⟨cv, sp, d1, h2, k1⟩ := hat rfl
      exact ⟨cv, sp, d1, h2, ⟨k1, hi⟩⟩
    · exact hst.mem.blk j b hj0
  · show j < (t.M.set n _).length
    rw [List.length_set]; exact hst.mem.dom j q hj
theorem RunsB.keep {P : Program} {B : Bs} {d : Code} {t : St} {ex : Ex} {Φ : St → Prop} {ids : List Nat} {M' : List Blk} (hn : nodupB ids = true) (hM : selM t.M ids = some M') (hk : ∀ (n : Nat), n < B.M.length → ids[n]? = some n) (h : ∀ v, RunsB P B d (t.sel ids M' v) ex Φ) : RunsB P B d t ex Φ :=
  fun m _ w Q hs hg hq => h _ (m.sel ids) _ w Q (hs.sel hn hM) (hg.sel hn hM hk) hq
theorem rd_of_runsB {P : Program} {g : FuncId} {fn : Func} {c : Code} (hg : P.funcs[g]? = some fn) (hb : fn.body = some c) {cs l : List SV} {len : Nat} {vc vs : List Value} {x : SV} {v : Value} (hc : plains cs = some vc) (hl : plains l = some vs) (hx : plain x = some v) {d : Dec}
    (h : ∀ (e : TypeId) (cells : List SV) (off cap : Nat), CellsAt cells off cs → idsLts 0 cells = true → ∀ B : Bs, B.M = [⟨e, cells, .num⟩] →
      RunsB P B c ⟨(.ssl 0 off len cap :: l) ++ List.replicate (fn.ntmps - (l.length + 1)) (.tup []), [⟨e, cells, .num⟩], d, []⟩ .ret (fun t => resultS P fn t = some x ∧ ∃ rest, t.M = ⟨e, cells, .num⟩ :: rest))
    (w : World) (r off cap : Nat) (hw : RowAt w r off vc) : Calls P g (Value.slice (some ⟨r, off, none⟩) len cap :: vs).toArray w fun e w' => e = .returned v ∧ Below w.heap.size w w' := by
  obtain ⟨m, e, cells, hM, h0, hca, hid⟩ := rd_cells hc hw
  have hd : dens m (.ssl 0 off len cap :: l) = some (Value.slice (some ⟨r, off, none⟩) len cap :: vs) := dens_cons (by simp only [den, h0, Option.map_some]) (dens_plains hl)
  refine Calls.mono (RunsB.call hg hb (args := .ssl 0 off len cap :: l) (x := fun _ => x) hd hM (h e cells off cap hca hid ⟨m, [⟨e, cells, .num⟩], w, hM⟩ rfl) (fun t ht => ht.1)) fun ex w' ⟨t, m', u, ⟨_, rest, hr⟩, he, hv, hM', hgo⟩ => ?_
  rw [den_plain hx] at hv
  have := Option.some.inj hv
  subst this
  rw [hr] at hM' hgo
  exact ⟨he, Goes.read hM hgo hM'⟩
end Rx
namespace Bu
set_option linter.all false
open Rx Go
theorem lt_s {lc : List SV} {a : Nat} {c : Nat → Ch} (h : CellsAt lc (a * 12) (ltC c)) : Go.Proofs.YtgjohjgmlleebaaGreat.ltS lc a = .agg (ltC c) := by
  have e0 := h 0 _ rfl
  have e1 := h 1 _ rfl
  have e2 := h 2 _ rfl
  have e3 := h 3 _ rfl
  have e4 := h 4 _ rfl
  have e5 := h 5 _ rfl
  have e6 := h 6 _ rfl
  have e7 := h 7 _ rfl
  have e8 := h 8 _ rfl
  have e9 := h 9 _ rfl
  have e10 := h 10 _ rfl
  have e11 := h 11 _ rfl
  rw [Nat.add_zero] at e0
  unfold Go.Proofs.YtgjohjgmlleebaaGreat.ltS
  simp only [flAt, e0, e1, e2, e3, e4, e5, e6, e7, e8, e9, e10, e11]
  rfl
end Bu
namespace Go.Proofs.YtgjohjgmlleebaaGreat
set_option linter.all false
open Go.RowKit Bu Rx
section
variable {N : Nde} {o : List SV → Nat → Bool} (hO : OracleOk Tryz.prog (OE o N)) {e : TypeId} {cells cs : List SV} {v u : V3} {off len cap : Nat} {B : Bs} (hB1 : B.M.length = 1) (K : OkPg cs len) (hca : CellsAt cells off cs) (hB : evB N v u cs len = true)
include hO hB1 K hca hB
set_option maxRecDepth 20000 in
theorem ev_first {x : Nat → SV} : RunsB Tryz.prog B eBd (evS0 e cells v u off len cap ((0 : Nat) : Int) x none) .normal (fun t => ∃ x', t = evS e cells (lights (ltF N v u cs) 1) v u off len cap 1 ((1 : Nat) : Int) x' none) := by
  have hi : 0 < len := K.lo
  obtain ⟨hck, hnr⟩ := K.at hca hi
  have hk : ∀ n, n < B.M.length → ([0, 1, 2, 3, 18] : List Nat)[n]? = some n := fun n hn => by
    rw [hB1] at hn
    have : n = 0 := by omega
    subst this; rfl
  have hnd0 : nd0 cells off ((0 : Nat) : Int) = ndR cs (0 * 19) := by unfold nd0; rw [Int.toNat_natCast]; exact hnr
  have hH := evHd_ok (len := len) hck hi
  have b := evB_at hB hi
  have hnd := K.nd 0 hi
  have hF : ∀ k, ltF N v u cs k 0 = (evN N v u k (fun j => (chL (allE N v u cs k) 0).getD j Ch.zero) (ndR cs (0 * 19))).1 := fun _ => rfl
  have hrow : lights (ltF N v u cs) 1 = ltC (fun k => ltF N v u cs k 0) := rfl
  rw [hrow]
  unfold evNB at b
  simp only [Bool.and_eq_true, decide_eq_true_eq] at b
  obtain ⟨b0, b1, b2, b3⟩ := b
  generalize ndR cs (0 * 19) = n at hnd hnd0 b0 b1 b2 b3 hF
  have h5 : n.k ≠ 5 := fun h5 => by
    obtain ⟨⟨a0, a1⟩, _⟩ := okNd_mix hnd h5
    have : ((0 : Nat) : Int) = 0 := rfl
    omega
  have h6 : n.k ≠ 6 := fun h6 => by
    obtain ⟨a0, a1⟩ := okNd_coat hnd h6
    have : ((0 : Nat) : Int) = 0 := rfl
    omega
  rw [decide_eq_false h5, decide_eq_false h6, cond_false, cond_false] at b0
  simp only [Bool.and_eq_true] at b0
  obtain ⟨l0, l1, l2⟩ := b0
  have ev : ∀ k, evN N v u k (fun j => (chL (allE N v u cs k) 0).getD j Ch.zero) n = (⟨(N.g (lfE v u k n)).1, I.zero⟩, (N.g (lfE v u k n)).2) := fun k => by
    unfold evN
    rw [decide_eq_false h5, decide_eq_false h6, cond_false, cond_false]
  rw [ev] at b1 b2 b3
  have hob : ObsOk (evZ N o e cells v u off len cap ((0 : Nat) : Int) x).ob := by
    rw [evOz]
    unfold lfObs
    rw [hnd0]
    exact ndOb_ok b1 b2 b3 (Bu.obsB_ok l0) (Bu.obsB_ok l1) (Bu.obsB_ok l2) (ob_a (ob_c (beq_f h6) (ob_c (beq_f h5) ob_n)) hH)
  have hM := evMz N o e cells v u off len cap ((0 : Nat) : Int) x
  rw [hnd0, ltC_ext (d := fun k => ltF N v u cs k 0) (fun k h3 => by rw [hF k, ev k])] at hM
  generalize ltF N v u cs = F at hM ⊢
  have hw : IntKind.i64.wrap (((0 : Nat) : Int) + 1) = ((1 : Nat) : Int) := by decide
  refine RunsB.fin (Φ := fun t => ∃ x', t = ⟨evT off len cap v u (.osl false 4 (0 + 1)) (.si .i64 ((1 : Nat) : Int)) x', evP e cells v u ++ [⟨77, ltC (fun k => F k 0), .rown 12⟩], none, []⟩) ?_ fun t ⟨x', ht⟩ => ?_
  · refine RunsB.numr (Φ := fun t => ∃ x', t = ⟨evT off len cap v u (.osl false 4 (0 + 1)) (.si .i64 ((1 : Nat) : Int)) x', evP e cells v u ++ [⟨77, ltC (fun k => F k 0), .row 12⟩], none, []⟩) ?_ fun t ⟨x', ht⟩ => ?_
    · refine RunsB.re (d := some [true, false, false, true, true, false]) (o := []) (RunsB.sel (RunsP.bs (Lands.runs goodG hO (evLz N o e cells v u off len cap ((0 : Nat) : Int) x) hob)) rfl hM hk fun vv => ?_)
      refine ⟨_, ⟨evXz N o e cells v u off len cap ((0 : Nat) : Int) x vv, rfl⟩, same_eq ?_ ?_⟩
      · have hT := evTz N o e cells v u off len cap ((0 : Nat) : Int) x vv
        rw [hw] at hT
        exact (hT _).symm
      · rw [sel_M]
    · subst ht
      exact ⟨4, 77, ltC (fun k => F k 0), 12, rfl, rfl, x', rfl⟩
  · subst ht
    exact ⟨_, ⟨x', rfl⟩, same_T (fun m => by simp only [evS, evT, dens, den, Nat.zero_add]) rfl⟩
theorem ev_loop {x : Nat → SV} : RunsB Tryz.prog B (.block 0 (.loop eBd)) (evS0 e cells v u off len cap ((0 : Nat) : Int) x none) .normal (fun t => ∃ y, t = evS e cells (lights (ltF N v u cs) len) v u off len cap len (len : Int) y none) := by
  have hlo := K.lo
  refine loop_invB (fun (j : Nat) (y : Nat → SV) => match j with
    | 0 => evS0 e cells v u off len cap ((0 : Nat) : Int) y none
    | j + 1 => evS e cells (lights (ltF N v u cs) (j + 1)) v u off len cap (j + 1) ((j + 1 : Nat) : Int) y none) (fun _ _ => True) len ?_ ?_ _ trivial
  · intro j y hj _
    cases j with
    | zero => exact RunsB.mono (ev_first hO hB1 K hca hB) fun t ⟨x', ht⟩ => ⟨x', trivial, ht⟩
    | succ j => exact RunsB.mono (ev_round hO hB1 K hca hB hj) fun t ⟨x', ht⟩ => ⟨x', trivial, ht⟩
  · intro y _
    obtain ⟨n, rfl⟩ : ∃ n, len = n + 1 := ⟨len - 1, by omega⟩
    have hob : ObsOk (aft Tryz.prog EG (OE o N) 60 eBd (evS e cells (lights (ltF N v u cs) (n + 1)) v u off (n + 1) cap (n + 1) ((n + 1 : Nat) : Int) y (some [false]))).ob := by rw [evXo]; exact ob_c (decide_eq_false (by omega)) ob_n
    refine RunsB.re (d := some [false]) (o := []) (RunsP.bs (Lands.fin goodG hO (evLx N o e cells _ v u off (n + 1) cap (n + 1) _ y) hob ?_))
    refine ⟨_, ⟨_, rfl⟩, same_eq (congrArg St.T (evXo N o e cells _ v u off (n + 1) cap (n + 1) _ y)).symm (congrArg St.M (evXo N o e cells _ v u off (n + 1) cap (n + 1) _ y)).symm⟩
set_option maxRecDepth 20000 in
theorem ev_all (ho : o ((cells.drop off).take (len * 19)) len = true) (hd : ObsOk (vcO u ++ vcO v)) (hBM : B.M = [⟨e, cells, .num⟩]) : RunsB Tryz.prog B eC (eEn e cells v u off len cap none) .ret
    (fun t => resultS Tryz.prog Tryz.f40 t = some (.tup [.agg (ltC (fun k => ltF N v u cs k (len - 1))), .i .i64 0]) ∧ ∃ rest, t.M = ⟨e, cells, .num⟩ :: rest) := by
  have hlo := K.lo
  have hhi := K.hi
  have hE : ObsOk (evEO o cells v u off len) := by
    have hu : ObsOk (vcO u) := fun p hp => hd p (List.mem_append_left _ hp)
    have hv : ObsOk (vcO v) := fun p hp => hd p (List.mem_append_right _ hp)
    exact ob_a hu (ob_a hv (ob_c ho ob_n))
  refine RunsB.re (d := some (List.replicate 18 true)) (o := []) ((evL4 N o e cells v u off len cap).ok goodG hO (by rw [evO4]; exact hE) ?_)
  rw [eC_cut]
  refine RunsB.seq (Φ := fun t => ∃ y, t = evS e cells (lights (ltF N v u cs) len) v u off len cap len (len : Int) y none) ?_ fun t ⟨y, ht⟩ => ?_
  · refine LandsB.seq goodG hO (evL5 N o e cells v u off len cap) (by rw [evO5]; exact hE) ?_
    refine RunsB.keep (ids := [0, 1, 2, 3]) rfl (evM5 N o e cells v u off len cap) (fun n hn => by
      rw [hB1] at hn
      have : n = 0 := by omega
      subst this; rfl) fun vv => ?_
    have hs : SameSt (evS0 e cells v u off len cap ((0 : Nat) : Int) (ev5X N o e cells v u off len cap vv) none) ((ev5 N o e cells v u off len cap).sel [0, 1, 2, 3] (evP e cells v u) vv) := by
      refine same_T (fun m => ?_) rfl
      rw [evT5]
      simp only [evS0, evT, dens, den, Int.natCast_zero]
    exact RunsB.retell hs (ev_loop hO hB1 K hca hB)
  · subst ht
    have hw : IntKind.i64.wrap ((len : Int) - 1) = ((len - 1 : Nat) : Int) := by rw [IntKind.wrap_i64]; omega
    have hat := lights_at (ltF N v u cs) (show len - 1 < len by omega)
    refine RunsP.bs (Lands.all goodG hO (evEL N o e cells _ v u off len cap len (len : Int) y) ?_ ⟨?_, evEM N o e cells _ v u off len cap len (len : Int) y⟩)
    · rw [evEO_, hw, Int.toNat_natCast]
      exact ob_c (lt_ck hat) (ob_c (ix_of (by omega) (by omega)) ob_n)
    · rw [evER, hw, Int.toNat_natCast, lt_s hat]
end
/-- eval.Eval of a right program, without an error -/
def kEv (N : Nde) : RdF := fun cs len l ds => match l with
  | [.agg [.fl x0, .fl x1, .fl x2, .fl x3, .fl x4, .fl x5], .agg [.fl y0, .fl y1, .fl y2, .fl y3, .fl y4, .fl y5]] =>
    some (.tup [.agg (ltC (fun k => ltF N ⟨⟨x0, x1⟩, ⟨x2, x3⟩, ⟨x4, x5⟩⟩ ⟨⟨y0, y1⟩, ⟨y2, y3⟩, ⟨y4, y5⟩⟩ cs k (len - 1))), .i .i64 0], ds,
      (decide (cs.length = len * 19), true) :: (okPg cs len, true) :: (evB N ⟨⟨x0, x1⟩, ⟨x2, x3⟩, ⟨x4, x5⟩⟩ ⟨⟨y0, y1⟩, ⟨y2, y3⟩, ⟨y4, y5⟩⟩ cs len, true) :: (vcO ⟨⟨y0, y1⟩, ⟨y2, y3⟩, ⟨y4, y5⟩⟩ ++ vcO ⟨⟨x0, x1⟩, ⟨x2, x3⟩, ⟨x4, x5⟩⟩))
  | _ => none
def ltV (c : Nat → Ch) : Value := .agg #[.float .f64 (c 0).p.lo.b, .float .f64 (c 0).p.hi.b, .float .f64 (c 1).p.lo.b, .float .f64 (c 1).p.hi.b, .float .f64 (c 2).p.lo.b, .float .f64 (c 2).p.hi.b, .float .f64 (c 0).m.lo.b, .float .f64 (c 0).m.hi.b, .float .f64 (c 1).m.lo.b, .float .f64 (c 1).m.hi.b, .float .f64 (c 2).m.lo.b, .float .f64 (c 2).m.hi.b]
theorem lt_plain (c : Nat → Ch) : plain (.tup [.agg (ltC c), .i .i64 0]) = some (.tuple #[ltV c, .int .i64 0]) := rfl
theorem evlRd {N : Nde} (hO : OracleOk Tryz.prog (OE okPg N)) : RdOk Tryz.prog 40 (kEv N) := by
  intro cs len l ds x ds' ob h ho
  unfold kEv at h
  split at h
  · rename_i x0 x1 x2 x3 x4 x5 y0 y1 y2 y3 y4 y5
    simp only [Option.some.injEq, Prod.mk.injEq] at h
    obtain ⟨rfl, _, rfl⟩ := h
    have hl : cs.length = len * 19 := of_decide_eq_true (ho _ (List.mem_cons_self ..))
    have hok := ho _ (List.mem_cons_of_mem _ (List.mem_cons_self ..))
    have K := okPg_ok hok
    have hB := ho _ (List.mem_cons_of_mem _ (List.mem_cons_of_mem _ (List.mem_cons_self ..)))
    have hd : ObsOk (vcO ⟨⟨y0, y1⟩, ⟨y2, y3⟩, ⟨y4, y5⟩⟩ ++ vcO ⟨⟨x0, x1⟩, ⟨x2, x3⟩, ⟨x4, x5⟩⟩) := fun p hp => ho p (List.mem_cons_of_mem _ (List.mem_cons_of_mem _ (List.mem_cons_of_mem _ hp)))
    obtain ⟨vc, hc⟩ := K.pl
    refine ⟨vc, _, _, hc, rfl, lt_plain _, fun w r off cap hw => ?_⟩
    refine rd_of_runsB (d := none) Tryz.func40 eBody hc (l := [.agg [.fl x0, .fl x1, .fl x2, .fl x3, .fl x4, .fl x5], .agg [.fl y0, .fl y1, .fl y2, .fl y3, .fl y4, .fl y5]]) rfl (lt_plain _) (fun e cells off cap hca hid B hBM => ?_) w r off cap hw
    exact ev_all (v := ⟨⟨x0, x1⟩, ⟨x2, x3⟩, ⟨x4, x5⟩⟩) (u := ⟨⟨y0, y1⟩, ⟨y2, y3⟩, ⟨y4, y5⟩⟩) hO (by rw [hBM]; rfl) K hca hB (by rw [← hl, at_take hca]; exact hok) hd hBM
  · cases h
end Go.Proofs.YtgjohjgmlleebaaGreat
namespace Go.Proofs.YtgjohjgmlleebaaGreat
set_option linter.all false
open Go.RowKit Bu Rx
theorem vnK : PlainOk Tryz.prog 142 (kVn (vlG GmR KkR) vlO) := by
  intro args ds x ds' ob h ho
  unfold kVn at h
  split at h
  · rename_i y ch p0 p1 p2 p3 p4 p5 r0 r1 r2 r3 r4 r5
    split at h
    · rename_i n c hn hc
      simp only [Option.some.injEq, Prod.mk.injEq] at h
      obtain ⟨rfl, _, rfl⟩ := h
      have ha : n.a = 0 := of_decide_eq_true (ho _ (List.mem_cons_self ..))
      have hb : n.b = 0 := of_decide_eq_true (ho _ (List.mem_cons_of_mem _ (List.mem_cons_self ..)))
      have h4 : ObsOk (vlO ⟨n.k, etaF n.f, c, ⟨⟨p0, p1⟩, ⟨p2, p3⟩, ⟨p4, p5⟩⟩, ⟨⟨r0, r1⟩, ⟨r2, r3⟩, ⟨r4, r5⟩⟩⟩) := fun p hp => ho p (List.mem_cons_of_mem _ (List.mem_cons_of_mem _ hp))
      have hy := ndOf_plain hn
      have hch := intS_plain hc
      have hnd : ndV n = nodeV n.k (etaF n.f) := by
        unfold ndV; rw [ha, hb]; rfl
      rw [hnd] at hy
      obtain ⟨vs, v, h5, h6, h7⟩ := valK (vArgs n.k (etaF n.f) c ⟨⟨p0, p1⟩, ⟨p2, p3⟩, ⟨p4, p5⟩⟩ ⟨⟨r0, r1⟩, ⟨r2, r3⟩, ⟨r4, r5⟩⟩) ds _ ds _ rfl h4
      refine ⟨vs, v, ?_, h6, h7⟩
      rw [← h5]
      have e1 : plain (nodeS n.k (etaF n.f)) = some (nodeV n.k (etaF n.f)) := (nd_pl _ _).1
      have e2 : plain (.si .i64 c) = some (.int .i64 c) := rfl
      show plains (y :: ch :: _) = plains (nodeS n.k (etaF n.f) :: .si .i64 c :: _)
      unfold plains plains
      rw [hy, e1, hch, e2]
      rfl
    · cases h
  · cases h
/-- names -/
structure Nee where
  o : List SV → Nat → Bool
  g : V3 → V3 → List SV → Nat → Nat → Ch
  b : V3 → V3 → List SV → Nat → Bool
def neE (N : Nde) : Nee := ⟨okPg, fun v u cs len k => ltF N v u cs k (len - 1), fun v u cs len => evB N v u cs len⟩
def kEw (E : Nee) : RdF := fun cs len l ds => match l with
  | [.agg [.fl x0, .fl x1, .fl x2, .fl x3, .fl x4, .fl x5], .agg [.fl y0, .fl y1, .fl y2, .fl y3, .fl y4, .fl y5]] =>
    some (.tup [.agg (ltC (E.g ⟨⟨x0, x1⟩, ⟨x2, x3⟩, ⟨x4, x5⟩⟩ ⟨⟨y0, y1⟩, ⟨y2, y3⟩, ⟨y4, y5⟩⟩ cs len)), .i .i64 0], ds,
      (decide (cs.length = len * 19), true) :: (E.o cs len, true) :: (E.b ⟨⟨x0, x1⟩, ⟨x2, x3⟩, ⟨x4, x5⟩⟩ ⟨⟨y0, y1⟩, ⟨y2, y3⟩, ⟨y4, y5⟩⟩ cs len, true) :: (vcO ⟨⟨y0, y1⟩, ⟨y2, y3⟩, ⟨y4, y5⟩⟩ ++ vcO ⟨⟨x0, x1⟩, ⟨x2, x3⟩, ⟨x4, x5⟩⟩))
  | _ => none
theorem kEv_w (N : Nde) : kEv N = kEw (neE N) := by
  funext cs len l ds
  unfold kEv kEw
  rfl
noncomputable def NeR : Nde := ⟨KkR, fun c n => lnR (fdK KkR c n) 0, fdO, vlG GmR KkR, vlO⟩
theorem oracleOE : OracleOk Tryz.prog (OE okPg NeR) :=
  .cons addC <| .cons subC <| .cons mulC <| .cons divC <| .cons cmax_I <| .cons sqrC <| .cons csqrt_I <|
  .cons negC <|
  .cons numC <| .cons irtK.of <| .cons rightG.of <| .cons absG.of <| .cons vwG.of <| .cons piG.of <| .cons rgtG.of <| .cons fdG.of <| .cons vnK.of <| .nil _
noncomputable def ER : Nee := neE NeR
theorem evwK : RdOk Tryz.prog 40 (kEw ER) := by
  have h := evlRd oracleOE
  rw [kEv_w] at h
  exact h
def OEt (E : Nee) (un : F → F → F → V3) (ub : F → F → F → Bool) : OracleF := lookO [(31, kRd 19 (kRgt E.o)), (33, plainO (kUn un ub)), (40, kRd 19 (kEw E))]
section
variable (E : Nee) (un : F → F → F → V3) (ub : F → F → F → Bool) (e : TypeId) (cells : List SV) (off len cap : Nat) (x y z r s t : F)
def etO (E : Nee) (un : F → F → F → V3) (ub : F → F → F → Bool) (cs : List SV) (len : Nat) (x y z r s t : F) : Obs :=
  ((decide (cs.length = len * 19), true) :: (E.o cs len, true) :: (E.b (un x y z) (un r s t) cs len, true) :: (vcO (un r s t) ++ vcO (un x y z))) ++ [(decide (t.k ≤ (toF 0).k), false), (decide (z.k ≤ (toF 0).k), false), (ub r s t, true), (ub x y z, true), (E.o cs len, true)]
theorem etRun : ((run Tryz.prog EG (OEt E un ub) 60).1 34 [.ssl 0 off len cap, .agg [.fl x, .fl y, .fl z], .agg [.fl r, .fl s, .fl t]] [⟨e, cells, .num⟩] (some [true, true, false, false])).map (fun q => (q.1, q.2.1.take 1, q.2.2)) =
    some (.tup [.agg (ltC (E.g (un x y z) (un r s t) (cutC cells off len) len)), .i .i64 0], [⟨e, cells, .num⟩], some [], etO E un ub (cutC cells off len) len x y z r s t) := by kernel_rfl
end
def kEt (E : Nee) (un : F → F → F → V3) (ub : F → F → F → Bool) : RdF := fun cs len l ds => match l with
  | [.agg [.fl x, .fl y, .fl z], .agg [.fl r, .fl s, .fl t]] => some (.tup [.agg (ltC (E.g (un x y z) (un r s t) cs len)), .i .i64 0], ds, etO E un ub cs len x y z r s t)
  | _ => none
theorem etG {E : Nee} {un : F → F → F → V3} {ub : F → F → F → Bool} (hO : OracleOk Tryz.prog (OEt E un ub)) (hD : E.o = okPg) : RdOk Tryz.prog 34 (kEt E un ub) := by
  intro cs len l ds x ds' ob h ho
  unfold kEt at h
  split at h
  · rename_i x y z r s t
    simp only [Option.some.injEq, Prod.mk.injEq] at h
    obtain ⟨rfl, _, rfl⟩ := h
    have h1 : cs.length = len * 19 := of_decide_eq_true (ho.left _ (List.mem_cons_self ..))
    have h2 : E.o cs len = true := ho.left _ (List.mem_cons_of_mem _ (List.mem_cons_self ..))
    obtain ⟨vc, hc⟩ := (okPg_ok (hD ▸ h2)).pl
    refine ⟨vc, _, _, hc, rfl, lt_plain _, fun w q off cap hw => ?_⟩
    refine rd_of_runT goodG hO 60 (l := [.agg [.fl x, .fl y, .fl z], .agg [.fl r, .fl s, .fl t]]) hc rfl (lt_plain _) (fun e cells off cap hca => ?_) w q off cap hw
    have hr := etRun E un ub e cells off len cap x y z r s t
    rw [cut_at hca h1] at hr
    exact ⟨_, _, _, hr, ho⟩
  · cases h
theorem rgtG3 {E : Nee} (hD : E.o = okPg) : RdOk Tryz.prog 31 (kRgt E.o) := by rw [hD]; exact rgtG
theorem oracleEt : OracleOk Tryz.prog (OEt ER (unV KkR) unB) := .cons (rgtG3 rfl).of <| .cons unG.of <| .cons evwK.of <| .nil _
theorem etK : RdOk Tryz.prog 34 (kEt ER (unV KkR) unB) := etG oracleEt rfl
end Go.Proofs.YtgjohjgmlleebaaGreat
namespace Go.Proofs.YtgjohjgmlleebaaGreat
set_option linter.all false
open Go.RowKit Bu Rx
section
variable (N : Npr) (e : TypeId × (Nat × Nat)) (cells : List SV) (off len cap : Nat)
end
end Go.Proofs.YtgjohjgmlleebaaGreat
namespace Go.Proofs.YtgjohjgmlleebaaGreat
set_option linter.all false
open Go.RowKit Bu Rx
section
variable (N : Npr)
end
def NprR : Npr := ⟨leK, leF bwF, U8.ok, frT, wN32, bwF, pairB⟩
end Go.Proofs.YtgjohjgmlleebaaGreat
namespace Go.Proofs.YtgjohjgmlleebaaGreat
set_option linter.all false
open Go.RowKit Bu Rx
end Go.Proofs.YtgjohjgmlleebaaGreat
namespace Go.Proofs.YtgjohjgmlleebaaGreat
set_option linter.all false
open Go.RowKit Bu Rx

theorem lnR_0 {E : List I × Int} {i : Nat} (h : E.2 = 0) : lnR E i = (gt E.1 i, 0) := by
  unfold lnR; rw [show neB E.2 = false by rw [h]; rfl]; rfl
theorem ggR_0 {p : List Bu.Op} {c al : I} (h : (evalK KkR p [c, al] 0).2 = 0) : ggR KkR p c al = (gt (evalK KkR p [c, al] 0).1 0, 0) := by
  unfold ggR ggE; rw [show neB (evalK KkR p [c, al] 0).2 = false by rw [h]; rfl]; rfl
set_option maxRecDepth 100000 in
theorem gl_of {v u : V3} {al : I} (h : (miE v u).2 = 0) (eD : (evalK KkR ggD [lnI v u, al] 0).2 = 0) (e2 : (evalK KkR gg2 [u.z, v.z, al] 0).2 = 0) (e1 : (evalK KkR gg1 [u.z, al] 0).2 = 0) (e : (giE v u al).2 = 0) : glR KkR GlR v u al = (⟨lnI v u, hfI v u, giV v u al, giD v u al⟩, 0) := by
  have eH : GlR.H v u = miE v u := rfl
  have h1 : glH GlR v u = (lnI v u, hfI v u) := by unfold glH; rw [eH, lnR_0 h, lnR_0 h]; rfl
  have h2 : GlR.d (lnI v u) al = (Da v u al, 0) := ggR_0 eD
  have h3 : GlR.b v.z u.z al = (Ga v u al, 0) := by
    have q : GlR.b = fun c d al => lnR (g2K KkR c d al) 0 := rfl
    rw [q]
    have e3 : (g2K KkR v.z u.z al).2 = 0 := e2
    show lnR (g2K KkR v.z u.z al) 0 = _
    rw [lnR_0 e3]
    rfl
  have h4 : GlR.o u.z al = (Gb u al, 0) := ggR_0 e1
  have h5 : glE KkR GlR v u al = giE v u al := by unfold glE; rw [h1, h2, h3, h4]; rfl
  unfold glR glErr glV
  rw [h1, h2, h3, h4, h5, eH, h, e]
  rfl
theorem gl_val {v u : V3} {al : I} (hv : OneP v) (hu : OneP u) (ha : InB al bal) : glR KkR GlR v u al = (⟨lnI v u, hfI v u, giV v u al, giD v u al⟩, 0) :=
  have g := gi_ok hv hu ha
  gl_of (mi_ok hv hu).1 g.eD g.e2 g.e1 g.e
def bV : I := gt (evalK KkR miV [bG1, bG2, bD, bzz, bzz] 0).1 3
def bVF : I := (cMul dMul 0 bV bz1).1
set_option maxRecDepth 100000 in
theorem boxes_f : bfD.lo = z64 ∧ bfD.hi.k ≤ one64.k ∧ z64.k ≤ bfC.lo.k ∧ bfC.hi.k ≤ one64.k ∧ (cMul dMul 0 bV bz1).2 = 0 ∧ z64.k ≤ (cMul dMul 0 bV bz1).1.lo.k ∧ z64.k = F.zero.k := by decide +kernel
theorem z64_0 : z64.k = 0 := by decide +kernel
/-- within 0 and 1 -/
structure Uz1 (a : I) : Prop where
  rt : rt a = true
  lo : z64.k ≤ a.lo.k
  hi : a.hi.k ≤ one64.k
theorem Uz1.box {a : I} (h : Uz1 a) : InB a bz1 := ⟨h.lo, h.hi, of_decide_eq_true h.rt⟩
theorem fd_ok {h n : I} (hh : InB h bhf) (hn : InB n bn) : ∃ f, lnR (fdK KkR h n) 0 = (f, 0) ∧ Uz1 f := by
  obtain ⟨_, c2, _⟩ := boxes_c
  obtain ⟨d1, d2, _⟩ := boxes_f
  have b := box (v := [h, n]) (w := [bhf, bn]) q_mono.2.2.2.2.2.1 ⟨hh, hn, trivial⟩ c2
  have k := (b.2 0).inB
  exact ⟨gt (evalK KkR frD [h, n] 0).1 0, lnR_0 (E := evalK KkR frD [h, n] 0) (i := 0) b.1, (b.2 0).rt, Int.le_trans (Int.le_of_eq (congrArg F.k d1.symm)) k.1, Int.le_trans k.2.1 d2⟩
set_option maxRecDepth 100000 in
theorem fc_ok {h e n : I} (hh : InB h bhf) (he : InB e bm) (hn : InB n bm) : ∃ f, lnR (fcK KkR h e n) 0 = (f, 0) ∧ Uz1 f := by
  obtain ⟨c1, _⟩ := boxes_c
  obtain ⟨_, _, d1, d2, _⟩ := boxes_f
  have b := box (v := [h, e, n]) (w := [bhf, bm, bm]) q_mono.2.2.2.2.2.2 ⟨hh, he, hn, trivial⟩ c1
  have k := (b.2 0).inB
  have b1 : (fcK KkR h e n).2 = 0 := b.1
  exact ⟨gt (fcK KkR h e n).1 0, lnR_0 b1, (b.2 0).rt, Int.le_trans d1 k.1, Int.le_trans k.2.1 d2⟩
theorem gv_box {v u : V3} {al : I} (hv : OneP v) (hu : OneP u) (ha : InB al bal) : InB (giV v u al) bV := by
  obtain ⟨_, _, v3⟩ := one_box hv
  obtain ⟨_, _, u3⟩ := one_box hu
  obtain ⟨_, _, l⟩ := mi_ok hv hu
  obtain ⟨m1, m2, m3, m4, m5, m6, m7⟩ := q_mono
  obtain ⟨c1, c2, c3, c4, c5, c6, c7⟩ := boxes_c
  have b2 := box (v := [u.z, v.z, al]) (w := [bzz, bzz, bal]) m2 ⟨u3, v3, ha, trivial⟩ boxes_q.2.2.1
  have b1 := box (v := [u.z, al]) (w := [bzz, bal]) m3 ⟨u3, ha, trivial⟩ c4
  have bd := box (v := [lnI v u, al]) (w := [bln, bal]) m4 ⟨l, ha, trivial⟩ c3
  have b := box (v := [Gb u al, Ga v u al, Da v u al, u.z, v.z]) (w := [bG1, bG2, bD, bzz, bzz]) m5 ⟨(b1.2 0).inB, (b2.2 0).inB, (bd.2 0).inB, u3, v3, trivial⟩ c5
  exact (b.2 _).inB
theorem gloss_ok {v u : V3} {al f : I} (hv : OneP v) (hu : OneP u) (ha : InB al bal) (hf : Uz1 f) : ∃ r, glM KkR (glR KkR GlR v u al) (f, 0) = (r, 0) ∧ rt r = true ∧ 0 ≤ r.lo.k ∧ (∀ x y, Mem (giV v u al) x → Mem f y → Mem r (x * y)) ∧ InB r bVF := by
  obtain ⟨_, _, _, _, e1, e2, _⟩ := boxes_f
  obtain ⟨r, e, hr⟩ := mul_inn (gv_box hv hu ha).inn hf.box.inn e1
  have k := hr.inB
  refine ⟨r, ?_, hr.rt, by have := z64_0; have := k.1; omega, ?_, k⟩
  · have e' : KkR.mul 0 (giV v u al) f = (r, 0) := e
    rw [gl_val hv hu ha]
    unfold glM
    simp only []
    rw [e']
    rfl
  · intro x y hx hy
    have s := step_fact (o := .mul 0 1) (v := [giV v u al, f]) (e := 0) (by show (cMul dMul 0 (giV v u al) f).2 = 0; rw [e])
    have s2 : Fact (.mul 0 1) [giV v u al, f] r := by
      have := s.2.2
      rwa [show (stepK KkR (.mul 0 1) [giV v u al, f] 0).1 = r from by show (cMul dMul 0 (giV v u al) f).1 = r; rw [e]] at this
    exact p_mul s2 hx hy
theorem mem_meets {a b : I} {x : Rat} (h : Mem a x) (k : Mem b x) : meetsB a b = true := by
  unfold meetsB
  rw [Bool.and_eq_true]
  exact ⟨decide_eq_true (q_le.1 (Rat.le_trans h.1 k.2)), decide_eq_true (q_le.1 (Rat.le_trans k.1 h.2))⟩
end Go.Proofs.YtgjohjgmlleebaaGreat
namespace Bu
set_option linter.all false
open Rx Go

def idxB (m : List Nat) (a i : Nat) : Bool := decide (a < m.length) && Nat.beq (m.getD a 0) i
/-- row o' with the registers told by m is row o -/
def okR (m : List Nat) : Bu.Op → Bu.Op → Bool
  | .add i j, .add a b => idxB m a i && idxB m b j
  | .sub i j, .sub a b => idxB m a i && idxB m b j
  | .mul i j, .mul a b => idxB m a i && idxB m b j
  | .div i j, .div a b => idxB m a i && idxB m b j
  | .max i j, .max a b => idxB m a i && idxB m b j
  | .sqr i, .sqr a => idxB m a i
  | .sqrt i, .sqrt a => idxB m a i
  | .num x, .num y => eqF x y
  | .lit x, .lit y => eqI x y
  | .kept l h i, .kept l' h' a => eqF l l' && eqF h h' && idxB m a i
  | _, _ => false
def agR : List Bu.Op → List Bu.Op → List Nat → Bool
  | [], [], _ => true
  | o :: l, o' :: l', m => okR m o o' && agR l l' (0 :: m.map (· + 1))
  | _, _, _ => false
def AgV (m : List Nat) (v w : List I) : Prop := ∀ a, a < m.length → gt w a = gt v (m.getD a 0)
theorem idx_ok {m : List Nat} {v w : List I} {a i : Nat} (h : AgV m v w) (k : idxB m a i = true) : gt v i = gt w a := by
  unfold idxB at k
  rw [Bool.and_eq_true] at k
  rw [h a (of_decide_eq_true k.1), Nat.eq_of_beq_eq_true k.2]
theorem okR_step {K : Kk} {m : List Nat} {v w : List I} {o o' : Bu.Op} {e : Int} (h : AgV m v w) (k : okR m o o' = true) : stepK K o v e = stepK K o' w e := by
  unfold okR at k
  split at k <;> (try simp only [Bool.and_eq_true] at k)
  all_goals first
    | (simp only [stepK, idx_ok h k.1, idx_ok h k.2]; done)
    | (simp only [stepK, idx_ok h k]; done)
    | (simp only [stepK, eqF_ok k]; done)
    | (simp only [stepK, eqI_ok k]; done)
    | (simp only [stepK, eqF_ok k.1.1, eqF_ok k.1.2, idx_ok h k.2]; done)
    | exact absurd k (by decide)
theorem agV_push {m : List Nat} {v w : List I} {r : I} (h : AgV m v w) : AgV (0 :: m.map (· + 1)) (r :: v) (r :: w) := by
  intro a ha
  cases a with
  | zero => rfl
  | succ a =>
    have ha' : a < m.length := by simpa using ha
    have e : (0 :: m.map (· + 1)).getD (a + 1) 0 = m.getD a 0 + 1 := by
      simp only [List.getD_eq_getElem?_getD, List.getElem?_cons_succ, List.getElem?_map, List.getElem?_eq_getElem ha', Option.map_some, Option.getD_some]
    rw [e]
    exact h a ha'
theorem eval_agR {K : Kk} : ∀ {l l' : List Bu.Op} {m : List Nat} {v w : List I} {e : Int}, agR l l' m = true → AgV m v w → (evalK K l v e).2 = (evalK K l' w e).2 ∧ ((l = [] → gt v 0 = gt w 0) → gt (evalK K l v e).1 0 = gt (evalK K l' w e).1 0)
  | [], [], m, v, w, e, _, _ => ⟨rfl, fun h => h rfl⟩
  | o :: l, o' :: l', m, v, w, e, h, k => by
    unfold agR at h
    rw [Bool.and_eq_true] at h
    have s := okR_step (K := K) (e := e) k h.1
    have t := eval_agR (K := K) (e := (stepK K o v e).2) h.2 (agV_push (r := (stepK K o v e).1) k)
    unfold evalK
    rw [← s]
    exact ⟨t.1, fun _ => t.2 fun _ => rfl⟩
  | [], _ :: _, _, _, _, _, h, _ => by cases h
  | _ :: _, [], _, _, _, _, h, _ => by cases h
theorem eval_app {K : Kk} : ∀ {a b : List Bu.Op} {v : List I} {e : Int}, evalK K (a ++ b) v e = evalK K b (evalK K a v e).1 (evalK K a v e).2
  | [], _, _, _ => rfl
  | o :: a, b, v, e => by
    show evalK K (a ++ b) ((stepK K o v e).1 :: v) (stepK K o v e).2 = _
    rw [eval_app]
    rfl
theorem eval_regs {K : Kk} : ∀ {l : List Bu.Op} {v : List I} {e : Int} (k : Nat), gt (evalK K l v e).1 (l.length + k) = gt v k
  | [], v, e, k => by rw [List.length_nil, Nat.zero_add]; rfl
  | o :: l, v, e, k => by
    have h := eval_regs (K := K) (l := l) (v := (stepK K o v e).1 :: v) (e := (stepK K o v e).2) (k + 1)
    show gt (evalK K l ((stepK K o v e).1 :: v) (stepK K o v e).2).1 (l.length + 1 + k) = _
    rw [show l.length + 1 + k = l.length + (k + 1) by omega, h]
    rfl
/-- of rho, sigma, sl -/
def orT : List Op := [.lit (PIc), .num (two64), .num (one64), .div 2 1, .num (three64), .div 3 0, .sub 2 0, .mul 0 8, .add 7 0, .div 6 0, .mul 11 0, .mul 0 11, .add 2 0, .mul 15 0, .kept z64 one64 0]
end Bu
namespace Go.Proofs.YtgjohjgmlleebaaGreat
set_option linter.all false
open Go.RowKit Bu Rx

theorem or_same : agR (orA.drop 3) orT [0, 6, 7] = true ∧ agR (orB.drop 5) orT [0, 8, 9] = true ∧ agR (orC.drop 8) orT [0, 11, 12] = true := by decide +kernel
set_option maxRecDepth 100000 in
theorem or_box : (evalK KkR orT [b11, bz1, bz1] 0).2 = 0 ∧ orT.all monoB = true ∧ (evalK KkR (orA.take 3) [b11, bzz, bzz, bz1, bz1] 0).2 = 0 ∧ (evalK KkR (orB.take 5) [b11, bzz, bzz, bz1, bz1] 0).2 = 0 ∧ (orA.take 3).all monoB = true ∧ (orB.take 5).all monoB = true := by decide +kernel
def orV (r s sl : I) : I := gt (evalK KkR orT [sl, s, r] 0).1 0
/-- the heads: the slope -/
def hdA (r s i o d : I) : List I × Int := evalK KkR (orA.take 3) [d, o, i, s, r] 0
def hdB (r s i o d : I) : List I × Int := evalK KkR (orB.take 5) [d, o, i, s, r] 0
def hdC (r s i o d : I) : List I × Int := evalK KkR (orC.take 8) [d, o, i, s, r] 0
def hdS (r s i o d : I) : List I × Int := bif decide ((orQ KkR i o d).hi.k ≤ z64.k) then hdA r s i o d else bif decide (z64.k ≤ (orQ KkR i o d).lo.k) then hdB r s i o d else hdC r s i o d
structure B11 (a : I) : Prop where
  rt : rt a = true
  lo : mone64.k ≤ a.lo.k
  hi : a.hi.k ≤ one64.k
theorem B11.box {a : I} (h : B11 a) : InB a b11 := ⟨h.lo, h.hi, of_decide_eq_true h.rt⟩
theorem kept_b11 {a : I} (h : rt a = true) : B11 (keptI a mone64 one64) := by
  obtain ⟨e1, e2⟩ := keptI_k a mone64 one64
  have zk : mone64.k ≤ one64.k := by decide +kernel
  exact ⟨keptI_rt h, by rw [e1]; omega, by rw [e2]; omega⟩
theorem orV_box {r s sl : I} (hr : Uz1 r) (hs : Uz1 s) (hl : B11 sl) : (evalK KkR orT [sl, s, r] 0).2 = 0 := (box (v := [sl, s, r]) (w := [b11, bz1, bz1]) or_box.2.1 ⟨hl.box, hs.box, hr.box, trivial⟩ or_box.1).1
theorem orV_in {r s sl : I} (hr : Uz1 r) (hs : Uz1 s) (hl : B11 sl) : Uz1 (orV r s sl) := by
  obtain ⟨_, k⟩ := eval_chain (orV_box hr hs hl)
  unfold orV
  generalize (evalK KkR orT [sl, s, r] 0).1 = w at *
  obtain ⟨pi, hpi, two, htwo, n1, hn1, d1, hd1, n3, hn3, d2, hd2, ss, hss, m, hm, ad, had, a, ha, b, hb, bs, hbs, abs, habs, rv, hrv, v, hv, hend⟩ := k
  subst hend
  have h := hv
  have e : v = keptI rv z64 one64 := h
  obtain ⟨e1, e2⟩ := keptI_k rv z64 one64
  have zk : z64.k ≤ one64.k := by decide +kernel
  have r0 : rt rv = true := AllR.rt hrv
  refine ⟨?_, ?_, ?_⟩
  · show rt v = true
    rw [e]; exact keptI_rt r0
  · show z64.k ≤ v.lo.k
    rw [e, e1]; omega
  · show v.hi.k ≤ one64.k
    rw [e, e2]; omega
theorem tail_of {n : Nat} {p : List Nat} {l : List Bu.Op} {r s i o d : I} (hl : l.length = n + (l.drop n).length) (ha : agR (l.drop n) orT [0, n + 3, n + 4] = true) (hr : Uz1 r) (hs : Uz1 s) (hh : (evalK KkR (l.take n) [d, o, i, s, r] 0).2 = 0 → B11 (gt (evalK KkR (l.take n) [d, o, i, s, r] 0).1 0)) :
    lnR (orE KkR l r s i o d) 0 = bif neB (evalK KkR (l.take n) [d, o, i, s, r] 0).2 then (I.zero, (evalK KkR (l.take n) [d, o, i, s, r] 0).2) else (orV r s (gt (evalK KkR (l.take n) [d, o, i, s, r] 0).1 0), 0) := by
  have e : orE KkR l r s i o d = evalK KkR (l.drop n) (evalK KkR (l.take n) [d, o, i, s, r] 0).1 (evalK KkR (l.take n) [d, o, i, s, r] 0).2 := by
    unfold orE
    rw [← eval_app, List.take_append_drop]
  have g := fun k => eval_regs (K := KkR) (l := l.take n) (v := [d, o, i, s, r]) (e := 0) k
  rw [List.length_take, Nat.min_eq_left (by omega)] at g
  rw [e]
  generalize hH : evalK KkR (l.take n) [d, o, i, s, r] 0 = H at *
  by_cases k : H.2 = 0
  · have av : AgV [0, n + 3, n + 4] H.1 [gt H.1 0, s, r] := by
      intro a ha
      match a, ha with
      | 0, _ => rfl
      | 1, _ => exact (g 3).symm
      | 2, _ => exact (g 4).symm
    obtain ⟨t1, t2⟩ := eval_agR (K := KkR) (e := 0) ha av
    have b := orV_box hr hs (hh k)
    rw [k]
    rw [lnR_0 (t1.trans b)]
    show _ = (orV r s (gt H.1 0), 0)
    unfold orV
    rw [t2 fun _ => rfl]
  · have q : neB H.2 = true := by unfold neB; simpa using k
    unfold lnR
    rw [eval_kept k, q]
    rfl
theorem hdA_b {r s i o d : I} (h : (hdA r s i o d).2 = 0) : B11 (gt (hdA r s i o d).1 0) := by
  have k := eval_chainR h
  unfold hdA at *
  generalize (evalK KkR (orA.take 3) [d, o, i, s, r] 0).1 = w at *
  obtain ⟨p, ⟨hp, _⟩, q, ⟨hq, hr⟩, sl, ⟨hsl, _⟩, hend⟩ := k
  subst hend
  have e : sl = keptI q mone64 one64 := hsl
  show B11 sl
  rw [e]
  have a := rt_le (show rt d = true from hr.1)
  have b := rt_le (show rt p = true from AllR.rt hp)
  exact kept_b11 (dn_up hq.1 hq.2 (by show d.lo.q - p.hi.q ≤ d.hi.q - p.lo.q; grind))
theorem hdB_b {r s i o d : I} (h : (hdB r s i o d).2 = 0) : B11 (gt (hdB r s i o d).1 0) := by
  obtain ⟨_, k⟩ := eval_chain h
  unfold hdB at *
  generalize (evalK KkR (orB.take 5) [d, o, i, s, r] 0).1 = w at *
  obtain ⟨p, hp, q, hq, mx, hmx, dv, hdv, sl, hsl, hend⟩ := k
  subst hend
  have e : sl = keptI dv mone64 one64 := hsl
  have r0 : rt dv = true := AllR.rt hdv.2
  show B11 sl
  rw [e]
  exact kept_b11 r0
theorem hull_rt {a b : I} (ha : rt a = true) (hb : rt b = true) : rt (hullI a b) = true := by
  have x := of_decide_eq_true ha; have y := of_decide_eq_true hb
  refine decide_eq_true ?_
  show (mnF a.lo b.lo).k ≤ (mxF a.hi b.hi).k
  rw [mnF_k, mxF_k]; omega
theorem hdC_b {r s i o d : I} (h : (hdC r s i o d).2 = 0) (h0 : (orQ KkR i o d).lo.k < z64.k) : B11 (gt (hdC r s i o d).1 0) := by
  have q0 : orQ KkR i o d = gt (hdC r s i o d).1 6 := by
    have e : hdC r s i o d = evalK KkR ((orC.take 8).drop 2) (evalK KkR ((orC.take 8).take 2) [d, o, i, s, r] 0).1 (evalK KkR ((orC.take 8).take 2) [d, o, i, s, r] 0).2 := by rw [← eval_app, List.take_append_drop]; rfl
    rw [e]
    have g := eval_regs (K := KkR) (l := (orC.take 8).drop 2) (v := (evalK KkR ((orC.take 8).take 2) [d, o, i, s, r] 0).1) (e := (evalK KkR ((orC.take 8).take 2) [d, o, i, s, r] 0).2) 0
    exact Eq.symm g
  rw [q0] at h0
  obtain ⟨_, k⟩ := eval_chain h
  unfold hdC at *
  generalize (evalK KkR (orC.take 8) [d, o, i, s, r] 0).1 = w at *
  obtain ⟨p, hp, q, hq, hp', hhp, mx, hmx, up, hup, hn, hhn, hu, hhu, sl, hsl, hend⟩ := k
  subst hend
  have e : sl = keptI hu mone64 one64 := hsl
  have e1 : hu = hullI hn up := hhu
  have e2 : hn = negH q := hhn
  have r0 : rt up = true := AllR.rt hup.2
  have r1 : rt hn = true := by
    rw [e2]; exact decide_eq_true (Int.le_of_lt h0)
  show B11 sl
  rw [e, e1]
  exact kept_b11 (hull_rt r1 r0)
/-- Oren's value by its slope -/
theorem or_val {r s i o d : I} (hr : Uz1 r) (hs : Uz1 s) : orR KkR r s i o d = bif neB (hdS r s i o d).2 then (I.zero, (hdS r s i o d).2) else (orV r s (gt (hdS r s i o d).1 0), 0) := by
  unfold orR hdS
  cases c1 : decide ((orQ KkR i o d).hi.k ≤ z64.k)
  · cases c2 : decide (z64.k ≤ (orQ KkR i o d).lo.k)
    · exact tail_of (n := 8) (p := []) rfl or_same.2.2 hr hs (fun h => hdC_b h (by have := of_decide_eq_false c2; omega))
    · exact tail_of (n := 5) (p := []) rfl or_same.2.1 hr hs hdB_b
  · exact tail_of (n := 3) (p := []) rfl or_same.1 hr hs hdA_b
theorem hdS_b {r s i o d : I} (h : (hdS r s i o d).2 = 0) : B11 (gt (hdS r s i o d).1 0) := by
  unfold hdS at *
  cases c1 : decide ((orQ KkR i o d).hi.k ≤ z64.k)
  · cases c2 : decide (z64.k ≤ (orQ KkR i o d).lo.k)
    · rw [c1, c2] at h
      exact hdC_b h (by have := of_decide_eq_false c2; omega)
    · rw [c1, c2] at h
      exact hdB_b h
  · rw [c1] at h
    exact hdA_b h
end Go.Proofs.YtgjohjgmlleebaaGreat
namespace Go.Proofs.YtgjohjgmlleebaaGreat
set_option linter.all false
open Go.RowKit Bu Rx

/-- the slope of i, o, d -/
structure SlH (i o d p q : I) : Prop where
  m : KkR.mul 0 i o = (p, 0)
  s : KkR.sub 0 d p = (q, 0)
def SlP (i o d sl : I) : Prop := ∃ p q, SlH i o d p q ∧
  ((q.hi.k ≤ z64.k ∧ sl = keptI q mone64 one64) ∨
   (z64.k < q.hi.k ∧ z64.k ≤ q.lo.k ∧ ∃ mx dv, KkR.max 0 i o = (mx, 0) ∧ KkR.div 0 q mx = (dv, 0) ∧ sl = keptI dv mone64 one64) ∨
   (z64.k < q.hi.k ∧ q.lo.k < z64.k ∧ ∃ mx up, KkR.max 0 i o = (mx, 0) ∧ KkR.div 0 (posH q) mx = (up, 0) ∧ sl = keptI (hullI (negH q) up) mone64 one64))
theorem orQ_of {i o d p q : I} (h : SlH i o d p q) : orQ KkR i o d = q := by
  unfold orQ; rw [h.m]; show (KkR.sub 0 d p).1 = q; rw [h.s]
section
variable {r s i o d p q mx dv : I}
theorem hdA_eq (h : SlH i o d p q) : hdA r s i o d = ([keptI q mone64 one64, q, p, d, o, i, s, r], 0) := by
  unfold hdA
  have e1 : stepK KkR (.mul 2 1) [d, o, i, s, r] 0 = (p, 0) := h.m
  have e2 : stepK KkR (.sub 1 0) [p, d, o, i, s, r] 0 = (q, 0) := h.s
  show evalK KkR [.mul 2 1, .sub 1 0, .kept mone64 one64 0] [d, o, i, s, r] 0 = _
  rw [eval_cons e1, eval_cons e2]
  rfl
theorem hdB_eq (h : SlH i o d p q) (hm : KkR.max 0 i o = (mx, 0)) (hd : KkR.div 0 q mx = (dv, 0)) : hdB r s i o d = ([keptI dv mone64 one64, dv, mx, q, p, d, o, i, s, r], 0) := by
  unfold hdB
  have e1 : stepK KkR (.mul 2 1) [d, o, i, s, r] 0 = (p, 0) := h.m
  have e2 : stepK KkR (.sub 1 0) [p, d, o, i, s, r] 0 = (q, 0) := h.s
  have e3 : stepK KkR (.max 4 3) [q, p, d, o, i, s, r] 0 = (mx, 0) := hm
  have e4 : stepK KkR (.div 1 0) [mx, q, p, d, o, i, s, r] 0 = (dv, 0) := hd
  show evalK KkR [.mul 2 1, .sub 1 0, .max 4 3, .div 1 0, .kept mone64 one64 0] [d, o, i, s, r] 0 = _
  rw [eval_cons e1, eval_cons e2, eval_cons e3, eval_cons e4]
  rfl
theorem hdC_eq (h : SlH i o d p q) (hm : KkR.max 0 i o = (mx, 0)) (hd : KkR.div 0 (posH q) mx = (dv, 0)) : hdC r s i o d = ([keptI (hullI (negH q) dv) mone64 one64, hullI (negH q) dv, negH q, dv, mx, posH q, q, p, d, o, i, s, r], 0) := by
  unfold hdC
  have e1 : stepK KkR (.mul 2 1) [d, o, i, s, r] 0 = (p, 0) := h.m
  have e2 : stepK KkR (.sub 1 0) [p, d, o, i, s, r] 0 = (q, 0) := h.s
  have e2' : stepK KkR (.fn posH 0) [q, p, d, o, i, s, r] 0 = (posH q, 0) := rfl
  have e3 : stepK KkR (.max 5 4) [posH q, q, p, d, o, i, s, r] 0 = (mx, 0) := hm
  have e4 : stepK KkR (.div 1 0) [mx, posH q, q, p, d, o, i, s, r] 0 = (dv, 0) := hd
  show evalK KkR [.mul 2 1, .sub 1 0, .fn posH 0, .max 5 4, .div 1 0, .fn negH 3, .fn2 hullI 0 1, .kept mone64 one64 0] [d, o, i, s, r] 0 = _
  rw [eval_cons e1, eval_cons e2, eval_cons e2', eval_cons e3, eval_cons e4]
  rfl
end
theorem pr_eq {x : I × Int} (h : x.2 = 0) : x = (x.1, 0) := Prod.ext rfl h
theorem hdS_of {r s i o d sl : I} (h : SlP i o d sl) : (hdS r s i o d).2 = 0 ∧ gt (hdS r s i o d).1 0 = sl := by
  obtain ⟨p, q, hh, c⟩ := h
  unfold hdS
  rw [orQ_of hh]
  rcases c with ⟨a, rfl⟩ | ⟨a, b, mx, dv, hm, hd, rfl⟩ | ⟨a, b, mx, dv, hm, hd, rfl⟩
  · rw [decide_eq_true a, cond_true, hdA_eq hh]; exact ⟨rfl, rfl⟩
  · rw [decide_eq_false (show ¬ q.hi.k ≤ z64.k by omega), decide_eq_true b, cond_false, cond_true, hdB_eq hh hm hd]; exact ⟨rfl, rfl⟩
  · rw [decide_eq_false (show ¬ q.hi.k ≤ z64.k by omega), decide_eq_false (show ¬ z64.k ≤ q.lo.k by omega), cond_false, cond_false, hdC_eq hh hm hd]; exact ⟨rfl, rfl⟩
theorem max_eq {i o : I} (hi : rt i = true) (ho : rt o = true) : KkR.max 0 i o = (maxI i o, 0) := by
  show cMax 0 i o = _
  unfold cMax
  rw [hi, ho]; rfl
theorem inn_tr {a b c : I} (h : Inn a b) (k : Inn b c) : Inn a c := ⟨Rat.le_trans k.lo h.lo, Rat.le_trans h.hi k.hi, h.rt⟩
theorem z_q0 : z64.q = 0 := zero0_q
/-- 0 by a divisor is 0 -/
theorem div_zero_in {a b r : I} (h : KkR.div 0 a b = (r, 0)) (h0 : a.lo.q ≤ 0) (h1 : 0 ≤ a.hi.q) : r.lo.q ≤ 0 ∧ 0 ≤ r.hi.q := by
  have st : (stepK KkR (.div 0 1) [a, b] 0).2 = 0 := by show (KkR.div 0 a b).2 = 0; rw [h]
  obtain ⟨_, g, f⟩ := step_fact st
  have f2 : Fact (.div 0 1) [a, b] r := by
    rwa [show (stepK KkR (.div 0 1) [a, b] 0).1 = r from by show (KkR.div 0 a b).1 = r; rw [h]] at f
  have hb : rt b = true := g.2
  have m := p_div (x := 0) (y := b.lo.q) f2 ⟨h0, h1⟩ ⟨Rat.le_refl, rt_le hb⟩
  rw [Rat.div_def, Rat.zero_mul] at m
  exact ⟨m.1, m.2⟩
theorem max_rt {a b c : I} (h : KkR.max 0 a b = (c, 0)) : rt a = true ∧ rt b = true ∧ c = maxI a b := by
  have st : (stepK KkR (.max 0 1) [a, b] 0).2 = 0 := by show (KkR.max 0 a b).2 = 0; rw [h]
  obtain ⟨_, g, f⟩ := step_fact st
  exact ⟨g.1, g.2, by have e : (KkR.max 0 a b).1 = maxI a b := f; rw [h] at e; exact e⟩
theorem hull_inn {a a' b b' : I} (ha : Inn a a') (hb : Inn b b') : Inn (hullI a b) (hullI a' b') := by
  have x := ha.inB; have y := hb.inB
  refine InB.inn ⟨?_, ?_, of_decide_eq_true (hull_rt ha.rt hb.rt)⟩
  · show (mnF a'.lo b'.lo).k ≤ (mnF a.lo b.lo).k
    have := x.1; have := y.1
    rw [mnF_k, mnF_k]; omega
  · show (mxF a.hi b.hi).k ≤ (mxF a'.hi b'.hi).k
    have := x.2.1; have := y.2.1
    rw [mxF_k, mxF_k]; omega
theorem hull_ri {a b : I} (hb : rt b = true) : Inn b (hullI a b) := by
  refine InB.inn ⟨?_, ?_, of_decide_eq_true hb⟩
  · show (mnF a.lo b.lo).k ≤ b.lo.k
    rw [mnF_k]; omega
  · show b.hi.k ≤ (mxF a.hi b.hi).k
    rw [mxF_k]; omega
theorem sl_inn {i o d i' o' d' sl' : I} (hi : Inn i i') (ho : Inn o o') (hd : Inn d d') (h : SlP i' o' d' sl') : ∃ sl, SlP i o d sl ∧ Inn sl sl' := by
  obtain ⟨p', q', hh, c⟩ := h
  obtain ⟨p, e1, n1⟩ := mul_inn hi ho (show (cMul dMul 0 i' o').2 = 0 by have := hh.m; show (KkR.mul 0 i' o').2 = 0; rw [this])
  rw [show (cMul dMul 0 i' o').1 = p' from congrArg Prod.fst hh.m] at n1
  obtain ⟨q, e2, n2⟩ := sub_inn hd n1 (show (cSub dSub 0 d' p').2 = 0 by have := hh.s; show (KkR.sub 0 d' p').2 = 0; rw [this])
  rw [show (cSub dSub 0 d' p').1 = q' from congrArg Prod.fst hh.s] at n2
  have H : SlH i o d p q := ⟨e1, e2⟩
  have b2 := n2.inB
  have mxe := max_eq hi.rt ho.rt
  have dv : ∀ {a a' mx' up' : I}, KkR.max 0 i' o' = (mx', 0) → KkR.div 0 a' mx' = (up', 0) → Inn a a' → ∃ up, KkR.div 0 a (maxI i o) = (up, 0) ∧ Inn up up' := by
    intro a a' mx' up' hm hdv ha
    obtain ⟨_, _, e⟩ := max_rt hm
    obtain ⟨r, e3, n3⟩ := div_inn ha (by rw [e]; exact max_inn hi ho : Inn (maxI i o) mx') (show (cDiv pDiv 0 a' mx').2 = 0 by show (KkR.div 0 a' mx').2 = 0; rw [hdv])
    rw [show (cDiv pDiv 0 a' mx').1 = up' from congrArg Prod.fst hdv] at n3
    exact ⟨r, e3, n3⟩
  rcases c with ⟨a, rfl⟩ | ⟨a, b, mx, dv', hm, hdv, rfl⟩ | ⟨a, b, mx, up', hm, hdv, rfl⟩
  · exact ⟨_, ⟨p, q, H, .inl ⟨by have := b2.2.1; omega, rfl⟩⟩, kept_inn _ _ n2⟩
  · by_cases g : q.hi.k ≤ z64.k
    · refine ⟨_, ⟨p, q, H, .inl ⟨g, rfl⟩⟩, kept_inn _ _ ?_⟩
      have g1 := q_le.2 g; have g2 := q_le.2 (show z64.k ≤ q.lo.k by have := b2.1; omega)
      have g3 := n2.lo; have g4 := n2.hi; have g5 := rt_le n2.rt
      have g6 := q_le.2 b
      rw [z_q0] at g1 g2 g6
      obtain ⟨w1, w2⟩ := div_zero_in hdv (by grind) (by grind)
      exact ⟨by grind, by grind, n2.rt⟩
    · obtain ⟨up, e3, n3⟩ := dv hm hdv n2
      exact ⟨_, ⟨p, q, H, .inr (.inl ⟨by omega, by have := b2.1; omega, _, _, mxe, e3, rfl⟩)⟩, kept_inn _ _ n3⟩
  · have pz : (posH q').lo.q ≤ 0 ∧ 0 ≤ (posH q').hi.q := by
      have := q_le.2 (Int.le_of_lt a)
      rw [z_q0] at this
      exact ⟨by show z64.q ≤ 0; rw [z_q0]; exact Rat.le_refl, this⟩
    obtain ⟨w1, w2⟩ := div_zero_in hdv pz.1 pz.2
    have rup : rt up' = true := rt_q (Rat.le_trans w1 w2)
    have nh : rt (negH q') = true := decide_eq_true (Int.le_of_lt b)
    by_cases g : q.hi.k ≤ z64.k
    · refine ⟨_, ⟨p, q, H, .inl ⟨g, rfl⟩⟩, kept_inn _ _ (InB.inn ⟨?_, ?_, b2.2.2⟩)⟩
      · show (mnF (negH q').lo up'.lo).k ≤ q.lo.k
        have := b2.1
        have e : (negH q').lo.k = q'.lo.k := rfl
        rw [mnF_k]; omega
      · show q.hi.k ≤ (mxF (negH q').hi up'.hi).k
        have e : (negH q').hi.k = z64.k := rfl
        rw [mxF_k]; omega
    · by_cases g2 : z64.k ≤ q.lo.k
      · have ni : Inn q (posH q') := InB.inn ⟨g2, b2.2.1, b2.2.2⟩
        obtain ⟨up, e3, n3⟩ := dv hm hdv ni
        exact ⟨_, ⟨p, q, H, .inr (.inl ⟨by omega, g2, _, _, mxe, e3, rfl⟩)⟩, kept_inn _ _ (inn_tr n3 (hull_ri rup))⟩
      · have ni : Inn (posH q) (posH q') := InB.inn ⟨Int.le_refl _, b2.2.1, by show z64.k ≤ q.hi.k; omega⟩
        obtain ⟨up, e3, n3⟩ := dv hm hdv ni
        have nn : Inn (negH q) (negH q') := InB.inn ⟨b2.1, Int.le_refl _, by show q.lo.k ≤ z64.k; omega⟩
        exact ⟨_, ⟨p, q, H, .inr (.inr ⟨by omega, by omega, _, _, mxe, e3, rfl⟩)⟩, kept_inn _ _ (hull_inn nn n3)⟩
def bQ : I := (cSub dSub 0 b11 (cMul dMul 0 bzz bzz).1).1
set_option maxRecDepth 100000 in
theorem box_sl : (cMul dMul 0 bzz bzz).2 = 0 ∧ (cSub dSub 0 b11 (cMul dMul 0 bzz bzz).1).2 = 0 ∧ (cDiv pDiv 0 bQ bzz).2 = 0 ∧ bQ.lo.k ≤ z64.k ∧ z64.k ≤ bQ.hi.k ∧ (cMax 0 bzz bzz).2 = 0 ∧ bQ.lo.k < z64.k ∧ z64.k < bQ.hi.k ∧ (cDiv pDiv 0 (posH bQ) (cMax 0 bzz bzz).1).2 = 0 := by decide +kernel
theorem sl_all : ∃ sl, SlP bzz bzz b11 sl := by
  obtain ⟨e1, e2, e3, h1, h2, e4, h3, h4, e5⟩ := box_sl
  have s1 : KkR.mul 0 bzz bzz = ((cMul dMul 0 bzz bzz).1, 0) := pr_eq e1
  have s2 : KkR.sub 0 b11 (cMul dMul 0 bzz bzz).1 = (bQ, 0) := pr_eq e2
  have s3 : KkR.max 0 bzz bzz = ((cMax 0 bzz bzz).1, 0) := pr_eq e4
  have s4 : KkR.div 0 (posH bQ) (cMax 0 bzz bzz).1 = ((cDiv pDiv 0 (posH bQ) (cMax 0 bzz bzz).1).1, 0) := pr_eq e5
  exact ⟨_, _, _, ⟨s1, s2⟩, .inr (.inr ⟨h4, h3, _, _, s3, s4, rfl⟩)⟩
/-- no errors above the horizon -/
theorem sl_ex {i o d : I} (hi : InB i bzz) (ho : InB o bzz) (hd : InB d b11) : ∃ sl, SlP i o d sl := by
  obtain ⟨w, h⟩ := sl_all
  obtain ⟨sl, k, _⟩ := sl_inn hi.inn ho.inn hd.inn h
  exact ⟨sl, k⟩
theorem mul_comm1 {i o p : I} (hi : rt i = true) (ho : rt o = true) (h : KkR.mul 0 i o = (p, 0)) (k : (KkR.mul 0 o i).2 = 0) : KkR.mul 0 o i = (p, 0) := by
  have a := step_fact (o := .mul 0 1) (v := [i, o]) (e := 0) (by show (KkR.mul 0 i o).2 = 0; rw [h])
  have b := step_fact (o := .mul 0 1) (v := [o, i]) (e := 0) k
  have f1 : AllR (KkR.mul 0 i o).1 (i.lo.q * o.lo.q) (i.lo.q * o.hi.q) (i.hi.q * o.lo.q) (i.hi.q * o.hi.q) := a.2.2
  have f2 : AllR (KkR.mul 0 o i).1 (o.lo.q * i.lo.q) (o.lo.q * i.hi.q) (o.hi.q * i.lo.q) (o.hi.q * i.hi.q) := b.2.2
  rw [Rat.mul_comm o.lo.q i.lo.q, Rat.mul_comm o.lo.q i.hi.q, Rat.mul_comm o.hi.q i.lo.q, Rat.mul_comm o.hi.q i.hi.q] at f2
  rw [h] at f1
  have e : p = (KkR.mul 0 o i).1 := f1.one f2 (by simp) (by simp)
  rw [e]
  exact pr_eq k
theorem maxI_comm (a b : I) : maxI a b = maxI b a := I.one (F.ext' (by show (mxF a.lo b.lo).k = (mxF b.lo a.lo).k; rw [mxF_k, mxF_k]; omega)) (F.ext' (by show (mxF a.hi b.hi).k = (mxF b.hi a.hi).k; rw [mxF_k, mxF_k]; omega))
theorem sl_comm {i o d sl : I} (hi : InB i bzz) (ho : InB o bzz) (h : SlP i o d sl) : SlP o i d sl := by
  obtain ⟨p, q, hh, c⟩ := h
  obtain ⟨r, e, _⟩ := mul_inn ho.inn hi.inn box_sl.1
  have m := mul_comm1 hi.inn.rt ho.inn.rt hh.m (congrArg Prod.snd e)
  have mx : ∀ {x : I}, KkR.max 0 i o = (x, 0) → KkR.max 0 o i = (x, 0) := by
    intro x hx
    rw [max_eq ho.inn.rt hi.inn.rt, maxI_comm, ← hx, max_eq hi.inn.rt ho.inn.rt]
  refine ⟨p, q, ⟨m, hh.s⟩, ?_⟩
  rcases c with c | ⟨a, b, x, y, hm, hd, e⟩ | ⟨a, b, x, y, hm, hd, e⟩
  · exact .inl c
  · exact .inr (.inl ⟨a, b, x, y, mx hm, hd, e⟩)
  · exact .inr (.inr ⟨a, b, x, y, mx hm, hd, e⟩)
theorem sl_b {i o d sl : I} (h : SlP i o d sl) : B11 sl := by
  obtain ⟨e1, e2⟩ := hdS_of (r := I.zero) (s := I.zero) h
  rw [← e2]
  exact hdS_b e1
/-- Oren's value -/
theorem or_eq {r s i o d sl : I} (hr : Uz1 r) (hs : Uz1 s) (h : SlP i o d sl) : orR KkR r s i o d = (orV r s sl, 0) := by
  obtain ⟨e1, e2⟩ := hdS_of (r := r) (s := s) h
  rw [or_val hr hs, e1, e2]
  rfl
end Go.Proofs.YtgjohjgmlleebaaGreat
namespace Bu
set_option linter.all false
open Rx Go

def Lf.sw (l : Lf) : Lf := ⟨l.k, l.f, l.c, l.u, l.v⟩
def Lf.c0 (l : Lf) : Lf := ⟨l.k, l.f, 0, l.v, l.u⟩
end Bu
namespace Go.Proofs.YtgjohjgmlleebaaGreat
set_option linter.all false
open Go.RowKit Bu Rx

end Go.Proofs.YtgjohjgmlleebaaGreat
namespace Go.Proofs.YtgjohjgmlleebaaGreat
set_option linter.all false
open Go.RowKit Bu Rx

theorem rng_in {x l h : F} {o : Obs} (k : ObsOk (rngO x l h o)) : (l.k ≤ x.k ∧ x.k ≤ h.k) ∧ ObsOk o := by
  have a := of_decide_eq_false (ob_h k)
  have b := of_decide_eq_false (ob_h (ob_t k))
  exact ⟨⟨by omega, by omega⟩, ob_t (ob_t k)⟩
theorem bnd_of {x l h : F} (k : l.k ≤ x.k ∧ x.k ≤ h.k) : ObsOk (bndO (pF x) l h) := ob_c (decide_eq_true k.2) (ob_c (decide_eq_true k.1) (ob_c (decide_eq_true (Int.le_refl _)) ob_n))
theorem uz_of {x : F} (k : z64.k ≤ x.k ∧ x.k ≤ one64.k) : Uz1 (pF x) := ⟨decide_eq_true (Int.le_refl _), k.1, k.2⟩
theorem lt3 {P : Nat → Prop} {c : Nat} (h : c < 3) (p0 : P 0) (p1 : P 1) (p2 : P 2) : P c := by
  rcases (by omega : c = 0 ∨ c = 1 ∨ c = 2) with rfl | rfl | rfl
  · exact p0
  · exact p1
  · exact p2
def Rn (l h : F) (x : F) : Prop := l.k ≤ x.k ∧ x.k ≤ h.k
theorem rt1_in {f : Nat → F} (h : ObsOk (rtOb 1 f)) {c : Nat} (hc : c < 3) : Rn z64 one64 (f c) := by
  have h : ObsOk (rtO1 f) := h
  obtain ⟨a2, h⟩ := rng_in (ob_t h)
  obtain ⟨a1, h⟩ := rng_in h
  obtain ⟨a0, _⟩ := rng_in h
  exact lt3 (P := fun c => Rn z64 one64 (f c)) hc a0 a1 a2
theorem rt2_in {f : Nat → F} (h : ObsOk (rtOb 2 f)) {c : Nat} (hc : c < 3) : Rn z64 one64 (f c) ∧ Rn z64 one64 (f 12) := by
  have h : ObsOk (rtO2 f) := h
  obtain ⟨a3, h⟩ := rng_in (ob_t h)
  obtain ⟨a2, h⟩ := rng_in h
  obtain ⟨a1, h⟩ := rng_in h
  obtain ⟨a0, _⟩ := rng_in h
  exact ⟨lt3 (P := fun c => Rn z64 one64 (f c)) hc a0 a1 a2, a3⟩
theorem rt3_in {f : Nat → F} (h : ObsOk (rtOb 3 f)) : Rn minA one64 (f 13) ∧ Rn minIo four64 (f 14) := by
  have h : ObsOk (rtO3 f) := h
  obtain ⟨a3, h⟩ := rng_in (ob_t h)
  obtain ⟨a2, _⟩ := rng_in h
  exact ⟨a2, a3⟩
theorem rt4_in {f : Nat → F} (h : ObsOk (rtOb 4 f)) {c : Nat} (hc : c < 3) : Rn minA one64 (f 13) ∧ Rn minMt maxMt (f (6 + c)) ∧ Rn minMt maxMt (f (9 + c)) := by
  have h : ObsOk (rtO4 f) := h
  obtain ⟨b2, h⟩ := rng_in (ob_t h)
  obtain ⟨b1, h⟩ := rng_in h
  obtain ⟨b0, h⟩ := rng_in h
  obtain ⟨a2, h⟩ := rng_in h
  obtain ⟨a1, h⟩ := rng_in h
  obtain ⟨a0, h⟩ := rng_in h
  obtain ⟨al, _⟩ := rng_in h
  exact ⟨al, lt3 (P := fun c => Rn minMt maxMt (f (6 + c))) hc a0 a1 a2, lt3 (P := fun c => Rn minMt maxMt (f (9 + c))) hc b0 b1 b2⟩
/-- kinds of a right node -/
theorem rt_kind {k : Int} {f : Nat → F} (h : ObsOk (rtOb k f)) : k = 1 ∨ k = 2 ∨ k = 3 ∨ k = 4 := by
  unfold rtOb at h
  split at h
  · exact .inl rfl
  · exact .inr (.inl rfl)
  · exact .inr (.inr (.inl rfl))
  · exact .inr (.inr (.inr rfl))
  · exact absurd (ob_h h) (by simp)
/-- a leaf that may be, two directions that may be, a channel -/
structure LfO (l : Lf) : Prop where
  r : ObsOk (rtOb l.k l.f)
  v : ObsOk (dirO l.v)
  u : ObsOk (dirO l.u)
  c0 : 0 ≤ l.c
  c3 : l.c < 3
theorem LfO.sw {l : Lf} (h : LfO l) : LfO l.sw := ⟨h.r, h.u, h.v, h.c0, h.c3⟩
theorem LfO.z {l : Lf} (h : LfO l) : LfO l.c0 := ⟨h.r, h.v, h.u, Int.le_refl _, by show (0 : Int) < 3; decide⟩
theorem LfO.n {l : Lf} (h : LfO l) : l.c.toNat < 3 := by have := h.c0; have := h.c3; omega
theorem LfO.ch {l : Lf} (h : LfO l) : ObsOk (chO l) := ob_c (decide_eq_true h.c3) (ob_c (decide_eq_true h.c0) ob_n)
theorem LfO.lk {l : Lf} (h : LfO l) : ObsOk (lkOl l) := ob_a h.u (ob_a h.v (ob_a (ob_c (decide_eq_true h.c3) (ob_c (decide_eq_true h.c0) ob_n)) h.r))
theorem LfO.gl {l : Lf} (h : LfO l) (a : Rn minA one64 (l.f 13)) : ObsOk (glO l.v l.u (pF (l.f 13))) := ob_a (bnd_of a) (ob_a h.v h.u)
theorem LfO.val {l : Lf} (h : LfO l) : ObsOk (vlO l) := by
  have r := h.r
  have lk := h.lk; have ch := h.ch; have n := h.n; have hv := h.v; have hu := h.u; have hg := h.gl
  unfold vlO
  rcases rt_kind r with e | e | e | e <;> rw [e] at r ⊢
  · exact ob_a lk (ob_a ch (bnd_of (rt1_in r n)))
  · obtain ⟨a, b⟩ := rt2_in r n
    exact ob_a lk (ob_a ch (ob_a (bnd_of a) (ob_a (bnd_of b) (ob_a hv hu))))
  · obtain ⟨a, b⟩ := rt3_in r
    exact ob_a lk (ob_a (hg a) (bnd_of b))
  · obtain ⟨a, b, c⟩ := rt4_in r n
    exact ob_a lk (ob_a ch (ob_a (hg a) (ob_a (bnd_of b) (bnd_of c))))
theorem LfO.den {l : Lf} (h : LfO l) : ObsOk (dnO4 l) := by
  have r := h.r
  have lk := h.lk; have ch := h.ch; have n := h.n; have hv := h.v; have hg := h.gl
  unfold dnO4
  rcases rt_kind r with e | e | e | e <;> rw [e] at r ⊢
  · exact ob_a lk (dir_z hv)
  · exact ob_a lk (dir_z hv)
  · exact ob_a lk (hg (rt3_in r).1)
  · exact ob_a lk (hg (rt4_in r n).1)
structure LfP (l : Lf) : Prop where
  r : ObsOk (rtOb l.k l.f)
  v : OneP l.v
  u : OneP l.u
  c0 : 0 ≤ l.c
  c3 : l.c < 3
theorem one_dir {v : V3} (h : OneP v) : ObsOk (dirO v) := by
  obtain ⟨a, b, c⟩ := one_box h
  have e : z64.k ≤ bzz.lo.k := by decide +kernel
  have r : ∀ {x : I}, x.lo.k ≤ x.hi.k → rt x = true := fun k => decide_eq_true k
  exact ob_c (decide_eq_true c.2.1) (ob_c (decide_eq_true (Int.le_trans e c.1)) (ob_c (decide_eq_true b.2.1) (ob_c (decide_eq_true b.1) (ob_c (decide_eq_true a.2.1) (ob_c (decide_eq_true a.1) (ob_c (r c.2.2) (ob_c (r b.2.2) (ob_c (r a.2.2) ob_n))))))))
theorem LfP.o {l : Lf} (h : LfP l) : LfO l := ⟨h.r, one_dir h.v, one_dir h.u, h.c0, h.c3⟩
theorem LfP.sw {l : Lf} (h : LfP l) : LfP l.sw := ⟨h.r, h.u, h.v, h.c0, h.c3⟩
theorem bal_of {x : F} (h : Rn minA one64 x) : InB (pF x) bal := ⟨h.1, h.2, Int.le_refl _⟩
theorem bn_of {x : F} (h : Rn minIo four64 x) : InB (pF x) bn := ⟨h.1, h.2, Int.le_refl _⟩
theorem bm_of {x : F} (h : Rn minMt maxMt x) : InB (pF x) bm := ⟨h.1, h.2, Int.le_refl _⟩
set_option maxRecDepth 100000 in
/-- a leaf of mirrors -/
theorem gl_leaf {l : Lf} (h : LfP l) (hk : l.k = 3 ∨ l.k = 4) : InB (pF (l.f 13)) bal ∧ ∃ f, Uz1 f ∧ vlG GmR KkR l = glM KkR (glR KkR GlR l.v l.u (pF (l.f 13))) (f, 0) ∧ vlG GmR KkR l.sw = glM KkR (glR KkR GlR l.u l.v (pF (l.f 13))) (f, 0) := by
  obtain ⟨k, f, c, v, u⟩ := l
  have r := h.r; have hv := h.v; have hu := h.u; have n := h.o.n
  simp only at *
  obtain ⟨_, bh, _⟩ := mi_ok hv hu
  rcases hk with rfl | rfl
  · obtain ⟨a, b⟩ := rt3_in r
    have ha := bal_of a
    obtain ⟨x, e, hx⟩ := fd_ok bh (bn_of b)
    refine ⟨ha, x, hx, ?_, ?_⟩
    · show glM KkR (glR KkR GlR v u (pF (f 13))) (lnR (fdK KkR (glR KkR GlR v u (pF (f 13))).1.hf (pF (f 14))) 0) = _
      rw [show (glR KkR GlR v u (pF (f 13))).1.hf = hfI v u by rw [gl_val hv hu ha], e]
    · show glM KkR (glR KkR GlR u v (pF (f 13))) (lnR (fdK KkR (glR KkR GlR u v (pF (f 13))).1.hf (pF (f 14))) 0) = _
      rw [show (glR KkR GlR u v (pF (f 13))).1.hf = hfI v u by rw [gl_val hu hv ha]; exact (mi_comm hv hu).1, e]
  · obtain ⟨a, b, d⟩ := rt4_in r n
    have ha := bal_of a
    obtain ⟨x, e, hx⟩ := fc_ok bh (bm_of b) (bm_of d)
    refine ⟨ha, x, hx, ?_, ?_⟩
    · show glM KkR (glR KkR GlR v u (pF (f 13))) (lnR (fcK KkR (glR KkR GlR v u (pF (f 13))).1.hf (pF (f (6 + c.toNat))) (pF (f (9 + c.toNat)))) 0) = _
      rw [show (glR KkR GlR v u (pF (f 13))).1.hf = hfI v u by rw [gl_val hv hu ha], e]
    · show glM KkR (glR KkR GlR u v (pF (f 13))) (lnR (fcK KkR (glR KkR GlR u v (pF (f 13))).1.hf (pF (f (6 + c.toNat))) (pF (f (9 + c.toNat)))) 0) = _
      rw [show (glR KkR GlR u v (pF (f 13))).1.hf = hfI v u by rw [gl_val hu hv ha]; exact (mi_comm hv hu).1, e]
set_option maxRecDepth 100000 in
theorem box_lb : lbV.all monoB = true ∧ (evalK KkR lbV [bz1] 0).2 = 0 ∧ z64.k ≤ (gt (evalK KkR lbV [bz1] 0).1 0).lo.k ∧ (evalK KkR lbV [bzz] 0).2 = 0 ∧ z64.k < (gt (evalK KkR lbV [bzz] 0).1 0).lo.k ∧ dtP.all monoB = true ∧ (evalK KkR dtP [bzz, b11, b11, bzz, b11, b11] 0).2 = 0 ∧ tw1 dtP dtP [3, 4, 5, 0, 1, 2] 0 0 = true := by decide +kernel
def dtV (v u : V3) : I := gt (dtK KkR v u).1 0
theorem dt_ok {v u : V3} (hv : OneP v) (hu : OneP u) : (dtK KkR v u).2 = 0 ∧ InB (dtV v u) b11 := by
  obtain ⟨v1, v2, v3⟩ := one_box hv
  obtain ⟨u1, u2, u3⟩ := one_box hu
  obtain ⟨_, _, _, _, _, m, e, _⟩ := box_lb
  have b := box (v := [u.z, u.y, u.x, v.z, v.y, v.x]) (w := [bzz, b11, b11, bzz, b11, b11]) m ⟨u3, u2, u1, v3, v2, v1, trivial⟩ e
  have z : (dtK KkR v u).2 = 0 := b.1
  have o := dt_in z
  exact ⟨z, of_decide_eq_true (ob_h (ob_t o)), of_decide_eq_true (ob_h o), of_decide_eq_true (ob_h (ob_t (ob_t o)))⟩
theorem dt_comm {v u : V3} (hv : OneP v) (hu : OneP u) : dtV u v = dtV v u := by
  have w : ∀ i, i < [3, 4, 5, 0, 1, 2].length → gt [v.z, v.y, v.x, u.z, u.y, u.x] i = gt [u.z, u.y, u.x, v.z, v.y, v.x] ([3, 4, 5, 0, 1, 2].getD i 0) := by
    intro i hi
    match i, hi with
    | 0, _ => rfl
    | 1, _ => rfl
    | 2, _ => rfl
    | 3, _ => rfl
    | 4, _ => rfl
    | 5, _ => rfl
  exact tw_get (dt_ok hv hu).1 (dt_ok hu hv).1 w box_lb.2.2.2.2.2.2.2
theorem meO_eq {f : Nat → F} {c : Nat} {v u : V3} (hz : (dtK KkR v u).2 = 0) : meO KkR GmR f c v u = orR KkR (pF (f c)) (pF (f 12)) v.z u.z (dtV v u) := by
  unfold meO
  rw [hz]
  rfl
theorem or_leaf {f : Nat → F} {c : Nat} {v u : V3} (hv : OneP v) (hu : OneP u) (h1 : Uz1 (pF (f c))) (h2 : Uz1 (pF (f 12))) : ∃ sl, B11 sl ∧ meO KkR GmR f c v u = (orV (pF (f c)) (pF (f 12)) sl, 0) ∧ meO KkR GmR f c u v = (orV (pF (f c)) (pF (f 12)) sl, 0) := by
  obtain ⟨_, _, v3⟩ := one_box hv
  obtain ⟨_, _, u3⟩ := one_box hu
  obtain ⟨z, b⟩ := dt_ok hv hu
  obtain ⟨sl, h⟩ := sl_ex v3 u3 b
  refine ⟨sl, sl_b h, ?_, ?_⟩
  · rw [meO_eq z]; exact or_eq h1 h2 h
  · rw [meO_eq (dt_ok hu hv).1, dt_comm hv hu]; exact or_eq h1 h2 (sl_comm v3 u3 h)
end Go.Proofs.YtgjohjgmlleebaaGreat
