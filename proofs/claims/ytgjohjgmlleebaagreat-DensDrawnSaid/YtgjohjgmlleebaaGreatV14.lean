/- DensMix by the reckoner; right programs of numbers. The chapter's examples of layer 22. DensMix, plain. Rows whose arguments lie in memory: what is read there; a function that changes nothing. burnishlow.Prog makes right programs. eval.Eval: what a program sends. eval.Eval: the rounds. eval.Eval: entry, slots, the end. eval.Eval: what each node's light is; a round. eval.Eval: the contract. eval.Eval really; eval.At. layer 21: the chapter's examples; EvalCoat's run. layer 21: the chapter's examples. EvalBack by the reckoner: pieces. DensDrawn by the reckoner: pieces. DensDrawn by the reckoner: the run. burnishlaw21.EvalCoat: the run. eval.Eval: no errors, boxes, for any right program. -/
import Derived.Test.YtgjohjgmlleebaaGreatV13
import Derived.Test.YtgjohjgmlleebaaGreatV01
import Derived.OpenVars
import Derived.Deep.Slices
import Derived.Test.YtgjohjgmlleebaaGreatV10
import Derived.Test.YtgjohjgmlleebaaGreatV12
import Derived.Test.YtgjohjgmlleebaaGreatV11
namespace Bu
set_option linter.all false
open Rx Go
theorem bw_rn {l h : F} {n : Int} (hl : l.k ≤ h.k) : rnB l h (bwF l h n) = true := by
  have := bwF_in (n := n) hl
  unfold rnB
  rw [decide_eq_true this.1, decide_eq_true this.2]; rfl
theorem zs_c (js : List Nat) : zsB (fun _ => z64) js = true := List.all_eq_true.2 fun _ _ => decide_eq_true zz_k.symm
theorem okNd_1 {x y z : F} (hx : rnB z64 one64 x = true) (hy : rnB z64 one64 y = true) (hz : rnB z64 one64 z = true) (p : Int) : okNd ⟨1, ndM x y z z64 z64 z64 z64 z64 z64 z64 z64 z64 z64 z64 z64 z64, 0, 0⟩ p = true := by
  show ((rnB z64 one64 x && (rnB z64 one64 y && (rnB z64 one64 z && true))) && (zsB (fun _ => z64) [3, 4, 5, 6, 7, 8, 9, 10, 11, 12, 13, 14, 15] && (decide ((0 : Int) = 0) && decide ((0 : Int) = 0)))) = true
  rw [hx, hy, hz, zs_c]; rfl
theorem okNd_2 {x y z s : F} (hx : rnB z64 one64 x = true) (hy : rnB z64 one64 y = true) (hz : rnB z64 one64 z = true) (hs : rnB z64 one64 s = true) (p : Int) : okNd ⟨2, ndM x y z z64 z64 z64 z64 z64 z64 z64 z64 z64 s z64 z64 z64, 0, 0⟩ p = true := by
  show ((rnB z64 one64 s && (rnB z64 one64 x && (rnB z64 one64 y && (rnB z64 one64 z && true)))) && (zsB (fun _ => z64) [3, 4, 5, 6, 7, 8, 9, 10, 11, 13, 14, 15] && (decide ((0 : Int) = 0) && decide ((0 : Int) = 0)))) = true
  rw [hx, hy, hz, hs, zs_c]; rfl
theorem okNd_3 {a n : F} (ha : rnB minA one64 a = true) (hn : rnB minIo four64 n = true) (p : Int) : okNd ⟨3, ndM z64 z64 z64 z64 z64 z64 z64 z64 z64 z64 z64 z64 z64 a n z64, 0, 0⟩ p = true := by
  show (rnB minA one64 a && (rnB minIo four64 n && (zsB (fun _ => z64) [0, 1, 2, 3, 4, 5, 6, 7, 8, 9, 10, 11, 12, 15] && (decide ((0 : Int) = 0) && decide ((0 : Int) = 0))))) = true
  rw [ha, hn, zs_c]; rfl
theorem okNd_4 {a e0 e1 e2 k0 k1 k2 : F} (ha : rnB minA one64 a = true) (h0 : rnB minMt maxMt e0 = true) (h1 : rnB minMt maxMt e1 = true) (h2 : rnB minMt maxMt e2 = true) (h3 : rnB minMt maxMt k0 = true) (h4 : rnB minMt maxMt k1 = true) (h5 : rnB minMt maxMt k2 = true) (p : Int) : okNd ⟨4, ndM z64 z64 z64 z64 z64 z64 e0 e1 e2 k0 k1 k2 z64 a z64 z64, 0, 0⟩ p = true := by
  show (rnB minA one64 a && ((rnB minMt maxMt e0 && (rnB minMt maxMt e1 && (rnB minMt maxMt e2 && (rnB minMt maxMt k0 && (rnB minMt maxMt k1 && (rnB minMt maxMt k2 && true)))))) && (zsB (fun _ => z64) [0, 1, 2, 3, 4, 5, 12, 14, 15] && (decide ((0 : Int) = 0) && decide ((0 : Int) = 0))))) = true
  rw [ha, h0, h1, h2, h3, h4, h5, zs_c]; rfl
def leNd (u : U8) : Nd := ⟨leK u, ndM (leF bwF u 0) (leF bwF u 1) (leF bwF u 2) (leF bwF u 3) (leF bwF u 4) (leF bwF u 5) (leF bwF u 6) (leF bwF u 7) (leF bwF u 8) (leF bwF u 9) (leF bwF u 10) (leF bwF u 11) (leF bwF u 12) (leF bwF u 13) (leF bwF u 14) (leF bwF u 15), 0, 0⟩
theorem okNd_le (u : U8) (p : Int) : okNd (leNd u) p = true := by
  obtain ⟨e1, e2, e3, e4⟩ := rk_le
  unfold leNd leK leF
  cases decide (u.a0.tmod 4 = 0)
  · cases decide (u.a0.tmod 4 = 1)
    · cases decide (u.a0.tmod 4 = 2)
      · exact okNd_4 (bw_rn e2) (bw_rn e4) (bw_rn e4) (bw_rn e4) (bw_rn e4) (bw_rn e4) (bw_rn e4) p
      · exact okNd_3 (bw_rn e2) (bw_rn e3) p
    · exact okNd_2 (bw_rn e1) (bw_rn e1) (bw_rn e1) (bw_rn e1) p
  · exact okNd_1 (bw_rn e1) (bw_rn e1) (bw_rn e1) p
theorem okNd_5 {w : F} {a b p : Int} (hw : rnB z64 one64 w = true) (a0 : 0 ≤ a) (a1 : a < p) (b0 : 0 ≤ b) (b1 : b < p) : okNd ⟨5, ndM z64 z64 z64 z64 z64 z64 z64 z64 z64 z64 z64 z64 z64 z64 z64 w, a, b⟩ p = true := by
  show (rnB z64 one64 w && (zsB (fun _ => z64) [0, 1, 2, 3, 4, 5, 6, 7, 8, 9, 10, 11, 12, 13, 14] && (decide (0 ≤ a) && (decide (a < p) && (decide (0 ≤ b) && decide (b < p)))))) = true
  rw [hw, zs_c, decide_eq_true a0, decide_eq_true a1, decide_eq_true b0, decide_eq_true b1]; rfl
theorem okNd_6 {n t0 t1 t2 : F} {a p : Int} (hn : rnB minIo four64 n = true) (h0 : rnB z64 one64 t0 = true) (h1 : rnB z64 one64 t1 = true) (h2 : rnB z64 one64 t2 = true) (a0 : 0 ≤ a) (a1 : a < p) : okNd ⟨6, ndM z64 z64 z64 t0 t1 t2 z64 z64 z64 z64 z64 z64 z64 z64 n z64, a, 0⟩ p = true := by
  show (decide ((6 : Int) = 6) && (rnB minIo four64 n && ((rnB z64 one64 t0 && (rnB z64 one64 t1 && (rnB z64 one64 t2 && true))) && (zsB (fun _ => z64) [0, 1, 2, 6, 7, 8, 9, 10, 11, 12, 13, 15] && (decide (0 ≤ a) && (decide (a < p) && decide ((0 : Int) = 0))))))) = true
  rw [hn, h0, h1, h2, zs_c, decide_eq_true a0, decide_eq_true a1]; rfl
theorem okPg_mk {cs : List SV} {len : Nat} (h1 : (plains cs).isSome = true) (h2 : 1 ≤ len) (h3 : len ≤ 4096) (h4 : ∀ i, i < len → okAt cs i = true) : okPg cs len = true := by
  unfold okPg
  rw [h1, decide_eq_true h2, decide_eq_true h3, List.all_eq_true.2 fun i hi => h4 i (List.mem_range.1 hi)]; rfl
theorem okAt_mk {cs : List SV} {i : Nat} (h1 : ckAll cs (i * 19) ndCK = true) (h2 : okNd (ndR cs (i * 19)) i = true) : okAt cs i = true := by
  unfold okAt; rw [h1, h2]; rfl
end Bu
namespace Go.Proofs.YtgjohjgmlleebaaGreat
set_option linter.all false
open Go.RowKit Bu Rx
/-- are two intervals the same? -/
def eqIv (a b : I) : Bool := decide (a.lo.k = b.lo.k) && (decide (a.hi.k = b.hi.k) && true)
def coJ (n t0 t1 t2 : F) (a : Int) : List SV := [.i .u8 6, fz, fz, fz, .fl t0, .fl t1, .fl t2, fz, fz, fz, fz, fz, fz, fz, fz, .fl n, fz, .i .i64 a, .i .i64 0]
/-- two directions of numbers -/
def atU (N : Npr) (D : Ndn) (un : F → F → F → V3) (ub : F → F → F → Bool) (u : U6) (cs : List SV) (len : Nat) : Obs :=
  atO D un ub cs len (N.b mone64 one64 u.a0) (N.b mone64 one64 u.a1) (N.b d64 one64 u.a2) (N.b mone64 one64 u.a3) (N.b mone64 one64 u.a4) (N.b d64 one64 u.a5)
def dirU (N : Npr) (x y z : Int) : Obs := [(N.p d64 one64, true), (N.w z, true), (N.p mone64 one64, true), (N.w y, true), (N.p mone64 one64, true), (N.w x, true)]
end Go.Proofs.YtgjohjgmlleebaaGreat
namespace Go.Proofs.YtgjohjgmlleebaaGreat
set_option linter.all false
open Go.RowKit Bu Rx
/-- one or the other -/
def eiO (f g : OF) : OF := fun a M ds => match f a M ds with
  | some r => some r
  | none => g a M ds
theorem eiO_ok {P : Program} {g : FuncId} {f h : OF} (hf : OfOk P g f) (hh : OfOk P g h) : OfOk P g (eiO f h) := by
  intro args M ds x M' ds' ob hk ho
  unfold eiO at hk
  split at hk
  · rename_i r hr
    cases hk
    exact hf args M ds x M' ds' ob hr ho
  · exact hh args M ds x M' ds' ob hk ho
def kNilR : List SV → Dec → Option (SV × Dec × Obs)
  | [.o (.slice none 0 0)], ds => some (.b false, ds, [])
  | _, _ => none
theorem rgtNil : valR ((run Tryz.prog EG (lookO []) 60).1 31 [.o (.slice none 0 0)] [] (some [])) = some (.b false, some [], []) := by kernel_rfl
theorem nilRG : PlainOk Tryz.prog 31 kNilR := by
  intro args ds x ds' ob h ho
  unfold kNilR at h
  split at h
  · simp only [Option.some.injEq, Prod.mk.injEq] at h
    obtain ⟨rfl, _, rfl⟩ := h
    exact ⟨[.slice none 0 0], _, rfl, rfl, fun w => calls_of_val goodG (OracleOk.nil _) 60 rgtNil ob_n rfl rfl w⟩
  · cases h
def rgtO (o : List SV → Nat → Bool) : OF := eiO (plainO kNilR) (kRd 19 (kRgt o))
theorem rgtOG : OfOk Tryz.prog 31 (rgtO okPg) := eiO_ok nilRG.of rgtG.of
def OA22 (D : Ndn) (un : F → F → F → V3) (ub : F → F → F → Bool) : OracleF := lookO [(31, rgtO D.o), (33, plainO (kUn un ub)), (17, kRd 19 (kCh D)), (18, kRd 19 (kMi D)), (20, plainO kPt)]
def half_ : F := toF 4602678819172646912
def gyA : List SV := [.i .u8 1, .fl half_, .fl half_, .fl half_, fz, fz, fz, fz, fz, fz, fz, fz, fz, fz, fz, fz, fz, .i .i64 0, .i .i64 0]
def gyB : List SV := gyA ++ coJ (toF 4609434218613702656) one64 one64 one64 0
def nrB (a : I) (l h : Nat) : Obs := [(decide (a.lo.k ≤ a.hi.k), true), (decide (a.hi.k ≤ (toF h).k), true), (decide ((toF l).k ≤ a.lo.k), true)]
def upA (D : Ndn) (un : F → F → F → V3) (cs : List SV) (len : Nat) : Ch := D.g (un z64 z64 one64).z (un z64 z64 one64) (un z64 z64 one64) cs len
def upO (D : Ndn) (un : F → F → F → V3) (ub : F → F → F → Bool) (cs : List SV) (len : Nat) : Obs := atO D un ub cs len z64 z64 one64 z64 z64 one64
def aw22 (D : Ndn) (un : F → F → F → V3) (ub : F → F → F → Bool) : Obs :=
  nrB (D.gm (pt z64) gyB 2).m 4607182418800009216 4607182418800017408 ++ (nrB (upA D un gyB 2).m 4585925428414713479 4585925428702943855 ++ (nrB (upA D un gyB 2).p 4599176414598293166 4599176414616307564 ++ ((eqIv (upA D un gyA 1).m I.zero, true) :: (nrB (upA D un gyA 1).p 4599405781053817700 4599405781071832099 ++
  ([(ub z64 z64 one64, true), (ub z64 z64 z64, false), (D.o gyB 2, true)] ++ (((decide (gyB.length = 2 * 19), true) :: (D.o gyB 2, true) :: (D.bm (pt z64) gyB 2, true) :: miO (pt z64)) ++ (upO D un ub gyB 2 ++ upO D un ub gyA 1)))))))
def awD : List Bool := [true, true, false, false, true, true, false, false, false, true] ++ List.replicate 13 true
theorem aw22Run (D : Ndn) (un : F → F → F → V3) (ub : F → F → F → Bool) : valR ((run Tryz.prog EG (OA22 D un ub) 120).1 21 [] [] (some awD)) = some (.b true, some [], aw22 D un ub) := by kernel_rfl
set_option maxRecDepth 100000 in
theorem aw22_B : Bu.obsB (aw22 DR (unV KkR) unB) = true := by decide +kernel
theorem oracleA22 : OracleOk Tryz.prog (OA22 DR (unV KkR) unB) := .cons rgtOG (.cons unG.of (.cons chK.of (.cons miK.of (.cons ptG.of (.nil _)))))
theorem awake22G : PlainOk Tryz.prog 21 (oConst (.b true)) := constG rfl fun w => calls_of_val goodG oracleA22 120 (aw22Run DR (unV KkR) unB) (obsB_ok aw22_B) rfl rfl w
end Go.Proofs.YtgjohjgmlleebaaGreat
namespace Bu
set_option linter.all false
open Rx Go
theorem mul_f {a b r : I} (h : KkR.mul 0 a b = (r, 0)) : Fact (.mul 0 1) [a, b] r := by
  have st : (stepK KkR (.mul 0 1) [a, b] 0).2 = 0 := by show (KkR.mul 0 a b).2 = 0; rw [h]
  have f := (step_fact st).2.2
  rwa [show (stepK KkR (.mul 0 1) [a, b] 0).1 = r from by show (KkR.mul 0 a b).1 = r; rw [h]] at f
theorem add_f {a b r : I} (h : KkR.add 0 a b = (r, 0)) : Fact (.add 0 1) [a, b] r := by
  have st : (stepK KkR (.add 0 1) [a, b] 0).2 = 0 := by show (KkR.add 0 a b).2 = 0; rw [h]
  have f := (step_fact st).2.2
  rwa [show (stepK KkR (.add 0 1) [a, b] 0).1 = r from by show (KkR.add 0 a b).1 = r; rw [h]] at f
theorem sub_f {a b r : I} (h : KkR.sub 0 a b = (r, 0)) : Fact (.sub 0 1) [a, b] r := by
  have st : (stepK KkR (.sub 0 1) [a, b] 0).2 = 0 := by show (KkR.sub 0 a b).2 = 0; rw [h]
  have f := (step_fact st).2.2
  rwa [show (stepK KkR (.sub 0 1) [a, b] 0).1 = r from by show (KkR.sub 0 a b).1 = r; rw [h]] at f
theorem mul_pt {a b r : I} {x y : Rat} (h : KkR.mul 0 a b = (r, 0)) (hx : Mem a x) (hy : Mem b y) : Mem r (x * y) := p_mul (mul_f h) hx hy
theorem add_pt {a b r : I} {x y : Rat} (h : KkR.add 0 a b = (r, 0)) (hx : Mem a x) (hy : Mem b y) : Mem r (x + y) := p_add (add_f h) hx hy
theorem sub_pt {a b r : I} {x y : Rat} (h : KkR.sub 0 a b = (r, 0)) (hx : Mem a x) (hy : Mem b y) : Mem r (x - y) := p_sub (sub_f h) hx hy
theorem pt_mem (x : F) : Mem (pt x) x.q := ⟨Rat.le_refl, Rat.le_refl⟩
theorem one_mem' : Mem (pt one64) 1 := by have := pt_mem one64; rwa [one_q] at this
theorem mixK_pt {w : F} {a b A C : I} (hw : z64.k ≤ w.k ∧ w.k ≤ one64.k) (ha : InB a A) (hb : InB b A) (h1 : byE A A = true) (h2 : adE A A C = true) : ∃ r, mixK KkR 0 w a b = (r, 0) ∧ InB r C ∧ ∀ x y, Mem a x → Mem b y → Mem r ((1 - w.q) * x + w.q * y) := by
  obtain ⟨s, e1, b1⟩ := less_in (pt_z1 hw)
  obtain ⟨m1, e2, b2⟩ := by_in b1 ha h1
  obtain ⟨m2, e3, b3⟩ := by_in (pt_z1 hw) hb h1
  obtain ⟨r, e4, b4⟩ := ad_in b2 b3 h2
  exact ⟨r, mixK_st e1 e2 e3 e4, b4, fun x y hx hy => add_pt e4 (mul_pt e2 (sub_pt e1 one_mem' (pt_mem w)) hx) (mul_pt e3 (pt_mem w) hy)⟩
theorem okAt_n {cs : List SV} {i : Nat} {n : Nd} (h1 : ckAll cs (i * 19) ndCK = true) (hn : ndR cs (i * 19) = n) (h2 : okNd n i = true) : okAt cs i = true := okAt_mk h1 (by rw [hn]; exact h2)
/-- nothing -/
def bZ : I := ⟨z64, z64⟩
theorem bZ_0 : InB I.zero bZ := ⟨Int.le_of_eq zz_k.symm, Int.le_of_eq zz_k, Int.le_refl _⟩
theorem bZ_eq {a : I} (h : InB a bZ) : a.lo.k = F.zero.k ∧ a.hi.k = F.zero.k := by
  have h1 : z64.k ≤ a.lo.k := h.1
  have h2 : a.hi.k ≤ z64.k := h.2.1
  have h3 := h.2.2
  have := zz_k
  omega
end Bu
namespace Go.Proofs.YtgjohjgmlleebaaGreat
set_option linter.all false
open Go.RowKit Bu Rx
theorem chF_leaf {cos : I} {lf : Nd → I × Int} {cs : List SV} {i : Nat} {n : Nd} {d : I} (hn : ndR cs (i * 19) = n) (h5 : n.k ≠ 5) (h6 : n.k ≠ 6) (hd : lf n = (d, 0)) : chF (allF NdR cos lf cs) i = ⟨d, Ch.zero.m⟩ := by
  show (nodC NdR cos lf _ (ndR cs (i * 19))).1 = _
  rw [hn]
  unfold nodC
  rw [decide_eq_false h5, decide_eq_false h6, cond_false, cond_false, hd]
theorem chF_mix {cos : I} {lf : Nd → I × Int} {cs : List SV} {i : Nat} {n : Nd} {p m : I} (hn : ndR cs (i * 19) = n) (h5 : n.k = 5) (ha : 0 ≤ n.a ∧ n.a < i) (hb : 0 ≤ n.b ∧ n.b < i)
    (hp : mixK KkR 0 (n.f 15) (chF (allF NdR cos lf cs) n.a.toNat).p (chF (allF NdR cos lf cs) n.b.toNat).p = (p, 0)) (hm : mixK KkR 0 (n.f 15) (chF (allF NdR cos lf cs) n.a.toNat).m (chF (allF NdR cos lf cs) n.b.toNat).m = (m, 0)) : chF (allF NdR cos lf cs) i = ⟨p, m⟩ := by
  show (nodC NdR cos lf (fun j => (chL (allF NdR cos lf cs) i).getD j Ch.zero) (ndR cs (i * 19))).1 = _
  rw [hn]
  unfold nodC
  rw [decide_eq_true h5, cond_true]
  simp only [chL_get _ (show n.a.toNat < i by omega), chL_get _ (show n.b.toNat < i by omega)]
  show (mixC KkR _ _ _).1 = _
  rw [mixC_st hp hm]
theorem chF_coat {cos : I} {lf : Nd → I × Int} {cs : List SV} {i : Nat} {n : Nd} {o s x y z : I} (hn : ndR cs (i * 19) = n) (h6 : n.k = 6) (ha : 0 ≤ n.a ∧ n.a < i) (ho : NdR.D cos ⟨n.f 14, n.f 14⟩ = (o, 0)) (h1 : KkR.sub 0 (pt one64) o = (s, 0))
    (h2 : KkR.mul 0 s (chF (allF NdR cos lf cs) n.a.toNat).p = (x, 0)) (h3 : KkR.mul 0 s (chF (allF NdR cos lf cs) n.a.toNat).m = (y, 0)) (h4 : KkR.add 0 o y = (z, 0)) : chF (allF NdR cos lf cs) i = ⟨x, z⟩ := by
  show (nodC NdR cos lf (fun j => (chL (allF NdR cos lf cs) i).getD j Ch.zero) (ndR cs (i * 19))).1 = _
  rw [hn]
  unfold nodC
  rw [decide_eq_false (show n.k ≠ 5 by omega), decide_eq_true h6, cond_false, cond_true, ho]
  simp only [chL_get _ (show n.a.toNat < i by omega)]
  show (coatC KkR _ _).1 = _
  rw [coatC_st h1 h2 h3 h4]
/-- directions of numbers -/
theorem bw_up (n : Int) : decide ((bwF d64 one64 n).k ≤ z64.k) = false := by
  refine decide_eq_false fun h => ?_
  have h1 := (bwN2 (n := n)).1
  have h2 := q_le.2 h
  have h3 : z64.q = 0 := zero0_q
  rw [h3] at h2
  grind
theorem at_ok {u : U6} {cs : List SV} {len : Nat} (h : okPg cs len = true) (hl : cs.length = len * 19) (hlen : len ≤ 20) : ObsOk (atU NprR DR (unV KkR) unB u cs len) := by
  have K := okPg_ok h
  have hv : OneP (twA (unV KkR) bwF u) := twP _ _ _
  have hu : OneP (twB (unV KkR) bwF u) := twP _ _ _
  have hB : allB NdR (twB (unV KkR) bwF u).z (lfR (dnG4 GmR) (twA (unV KkR) bwF u) (twB (unV KkR) bwF u)) (lfRo dnO4 (twA (unV KkR) bwF u) (twB (unV KkR) bwF u)) cs len = true :=
    chs_all (bzz_bz1 (one_box hu).2.2) K hlen (lfs_den K hv hu)
  exact ob_a (ob_c (decide_eq_true hl) (ob_c h (ob_c hB (ob_a (one_dir hu) (one_dir hv)))))
    (ob_c (bw_up _) (ob_c (bw_up _) (ob_c (twU _ _ _) (ob_c (twU _ _ _) (ob_c h ob_n)))))
theorem dirU_ok {x y z : Int} (hx : wN32 x = true) (hy : wN32 y = true) (hz : wN32 z = true) : ObsOk (dirU NprR x y z) := by
  obtain ⟨_, _, _, _, p1, p2⟩ := rk_p
  exact ob_c p2 (ob_c hz (ob_c p1 (ob_c hy (ob_c p1 (ob_c hx ob_n)))))
theorem u6_in {u : U6} (h : u.ok = true) : wN32 u.a0 = true ∧ wN32 u.a1 = true ∧ wN32 u.a2 = true ∧ wN32 u.a3 = true ∧ wN32 u.a4 = true ∧ wN32 u.a5 = true := by
  unfold U6.ok at h
  simpa only [Bool.and_eq_true] using h
theorem fr_rn {n : Int} (h : wN32 n = true) : rnB z64 one64 (frT n) = true := by
  obtain ⟨t, e1, t0, t1, _⟩ := frT_ok h
  have eT : frT n = t := by
    unfold frT
    rw [e1]
    exact toF_F t
  rw [eT]
  have zk : z64.k = 0 := z64_0
  unfold rnB
  rw [decide_eq_true (show z64.k ≤ t.k by omega), decide_eq_true t1]; rfl
theorem u32_w {n : Int} (h : (Lit.int .u32 n).wf = true) : wN32 n = true := by
  have : 0 ≤ n ∧ n ≤ 4294967295 := by simpa [Lit.wf, IntKind.min, IntKind.max, IntKind.signed, IntKind.bits] using h
  exact decide_eq_true this
theorem u6_mk {x0 x1 x2 x3 x4 x5 : Int} (h0 : (Lit.int .u32 x0).wf = true) (h1 : (Lit.int .u32 x1).wf = true) (h2 : (Lit.int .u32 x2).wf = true) (h3 : (Lit.int .u32 x3).wf = true) (h4 : (Lit.int .u32 x4).wf = true) (h5 : (Lit.int .u32 x5).wf = true) : (U6.mk x0 x1 x2 x3 x4 x5).ok = true := by
  unfold U6.ok
  simp only [u32_w h0, u32_w h1, u32_w h2, u32_w h3, u32_w h4, u32_w h5, Bool.and_self]
end Go.Proofs.YtgjohjgmlleebaaGreat
namespace Go.Proofs.YtgjohjgmlleebaaGreat
set_option linter.all false
open Go.ChangeShapes Go.WideShapes Go.ChangeAt Go.RowKit Go.Deep Go.WideElems
section
variable {H : Type} {enc : TypeId × Value → H} {P : Program}
theorem all_stays (hl : laidOutB P = true) {W W' : World} (hb : Below W.heap.size W W') {sp : Nat → Bool} : ∀ {ts : List TypeId} {vs : List Value} {ds : List (DataW H)} {ps : List MemPlace},
    (∀ t ∈ ts, P.readableRec t = true ∧ t < P.types.size) → DataW.TrodAll enc P W 0 (fun _ => true) true ts vs ds ps → (∀ p ∈ ps, sp p.block = true) → DataW.TrodAll enc P W' 0 sp true ts vs ds ps
  | [], _, _, _, _, h, _ => by
    obtain ⟨rfl, rfl, rfl⟩ := trodAll_nil h
    exact trodAll_mk0
  | t :: ts, _, _, _, ht, h, hs => by
    have hlt := h.lt
    obtain ⟨v, vs1, d, ds1, a, b, rfl, rfl, rfl, ⟨n, h1⟩, h2⟩ := trodAll_cons h
    have hr := ht t (List.mem_cons_self ..)
    exact ⟨a, b, ⟨n, DataW.trod_stays (kids_book hl hr.1) (book_sized hr.1) (fun h => by cases h) ⟨hr.2, book_self t⟩ h1 (fun x hx => hb.same (hlt x (List.mem_append_left _ hx))) (fun x hx => hs x (List.mem_append_left _ hx))⟩,
      all_stays hl hb (fun t h => ht t (List.mem_cons_of_mem _ h)) h2 (fun p hp => hs p (List.mem_append_right _ hp)), rfl⟩
theorem post_kept {f : Func} {s : ChangeSpec} {apart fresh handsOn again : Bool} {W W' : World} {args : Array Value} {v : Value} {ds gs : List (DataW H)} {before : List MemPlace}
    (hl : laidOutB P = true) (hts : ∀ t ∈ f.params.toList, P.readableRec t = true ∧ t < P.types.size) (hvs : s.vars = [])
    (hW : DataW.Whole enc P f.params.toList s.vars apart W args.toList ds gs before)
    (hres : ∀ (b : Nat) (sp : Nat → Bool) (hd : Bool), DataW.TrodAll enc P W' b sp hd f.resultTypes.toList (v.resultList f.resultTypes.size) (s.fn H (ds ++ gs)).results [])
    (hda : (s.fn H (ds ++ gs)).args = ds) (hdv : (s.fn H (ds ++ gs)).vars = [])
    (hb : Below W.heap.size W W')
    (hok : ∀ (j : Nat) (t : TypeId) (r : Value), f.resultTypes[j]? = some t → (v.resultList f.resultTypes.size)[j]? = some r → Value.okWide P W' .any 0 t r) :
    s.post enc P f apart fresh handsOn again W args v W' := by
  have hW' := hW
  obtain ⟨p, q, hA, hV, rfl, hfz, hnd⟩ := hW
  rw [hvs] at hV
  obtain ⟨rfl, rfl⟩ := trodVars_none hV
  have hlt : ∀ x ∈ p, x.block < W.heap.size := hA.lt
  have stay : ∀ sp : Nat → Bool, (∀ x ∈ p, sp x.block = true) → DataW.TrodAll enc P W' 0 sp true f.params.toList args.toList ds p := fun sp h => all_stays hl hb hts hA h
  have none_ : ∀ sp : Nat → Bool, DataW.TrodVars enc P W' sp s.vars [] [] := fun sp => by rw [hvs]; rfl
  refine ⟨ds, [], p ++ [], [], p, [], hW', hres _ _ _, ?_, ?_, World.keptBut_mono (fun x hx => ⟨hx, ?_⟩) (hb.frame (· ∈ p ++ [])), fun _ => ?_⟩
  · rw [hda]; exact stay _ (fun x hx => by simpa using hlt x hx)
  · rw [hdv]; exact none_ _
  · rw [List.append_nil] at hx
    exact .inr (.inl hx)
  · refine ⟨hok, _, _, ([] ++ p) ++ [], ⟨[] ++ p, [], trodAll_append (stay _ (fun _ _ => rfl)) (hres _ _ _), none_ _, rfl, ?_, ?_⟩, ?_⟩
    · intro b off hp
      have hp' : MemPlace.cell b off ∈ p ++ [] := by simpa using hp
      rw [hb.frozen (hlt _ (by simpa using hp))]
      exact hfz b off hp'
    · intro ha
      have := hnd ha
      simpa using this
    · intro x hx _
      simpa using hx
/-- a slice of arrays of whole numbers -/
theorem open_rows {t a e : TypeId} {n : Nat} {k : IntKind} (ht : P.underlying t = some (.slice a)) (hT : ArrT P a e n k) {W : World} {base : Nat} {v : Value} {d : DataW H} {ps : List MemPlace} (hval : Value.okWide P W .any base t v) (hd : DataW.Trod enc P W 0 (fun _ => true) true t v d ps) :
    v = .slice none 0 0 ∨ ∃ (r off len cap : Nat) (cv : Array Value) (el : TypeId) (z : Nat × Nat), v = .slice (some ⟨r, off, none⟩) len cap ∧ len ≤ cap ∧ W.heap[r]? = some (.cells cv el z) ∧ ∀ i, i < len → ∀ j, j < n → ∃ x : Int, cv[off + (i * n + j)]? = some (.int k x) ∧ (Lit.int k x).wf = true := by
  obtain ⟨fuel, hf⟩ := hd
  simp only [Value.okWide, ht] at hval
  rcases open_slice ht hf with ⟨hc, _⟩ | ⟨ad, len, cap, m, n', D, Pl, hc, hb, hlc, hm, hmm, hx, hel⟩
  · left
    cases v <;> simp_all [Cell.okWide, Cell.ok, Value.cells]
  · right
    have hv : v = .slice (some ad) len cap := by
      cases v <;> simp_all [Cell.okWide, Cell.ok, Value.cells]
    subst hv
    have hh : W.has P .any base ad a cap := by
      have : Cell.ok P W .any base t (.slice (some ad) len cap) := by simpa [Cell.okWide, ht] using hval
      simp only [Cell.ok, ht] at this
      exact this.2.2
    obtain ⟨_, hspot, row, cells, hshape, _⟩ := hh
    obtain ⟨r, off, spot⟩ := ad
    simp only at hspot
    subst hspot
    unfold World.shape? at hshape
    split at hshape
    · rename_i cv el z hheap
      refine ⟨r, off, len, cap, cv, el, z, rfl, hlc, hheap, fun i hi j hj => ?_⟩
      have hm' : m = cap := by simpa using hmm
      obtain ⟨cs', h1, h2⟩ := hel i (by omega)
      rw [hT.ct] at h1
      obtain ⟨_, hlen, hcell⟩ := World.cells?_some h1
      obtain ⟨xs, m2, _, hx2, hl2, hn2, he2⟩ := DataW.trod_array hT.ar h2
      have h3 := he2 j hj
      rw [hT.ce, Nat.mul_one] at h3
      obtain ⟨x, hx3⟩ : ∃ x, xs[j]? = some x := ⟨xs[j], List.getElem?_eq_getElem (by omega)⟩
      rw [hx3] at h3
      obtain ⟨y, c1, c2, c3⟩ := DataW.trod_int hT.el h3
      refine ⟨y, ?_, c3⟩
      have h4 := hcell j hj
      have h5 : cs'[j]? = some (.int k y) := by
        have := congrArg (·[0]?) c1
        simpa using this
      rw [h5, add_add] at h4
      have h6 : (⟨r, off, none⟩ : Addr).add (i * n + j) = ⟨r, off + (i * n + j), none⟩ := Rx.Addr_add _ _ _
      rw [h6] at h4
      simpa [World.cell?, hheap] using h4
    · cases hshape
end
end Go.Proofs.YtgjohjgmlleebaaGreat
namespace Go.Proofs.YtgjohjgmlleebaaGreat
set_option linter.all false
open Go.RowKit Bu Rx
theorem ofVs_get : ∀ (l : List Value) (j : Nat), (ofVs l)[j]? = (l[j]?).map ofV
  | [], j => by simp [ofVs]
  | v :: l, 0 => by simp [ofVs]
  | v :: l, j + 1 => by simp only [ofVs, List.getElem?_cons_succ]; exact ofVs_get l j
/-- rows of eight numbers -/
theorem u8_cells {cs : List SV} {o : Nat} (h : ∀ t, t < 8 → ∃ x : Int, cs[o + t]? = some (.i .u32 x) ∧ wN32 x = true) : ckAll cs o u8CK = true ∧ (u8At cs o).ok = true := by
  obtain ⟨x0, e0, w0⟩ := h 0 (by omega)
  obtain ⟨x1, e1, w1⟩ := h 1 (by omega)
  obtain ⟨x2, e2, w2⟩ := h 2 (by omega)
  obtain ⟨x3, e3, w3⟩ := h 3 (by omega)
  obtain ⟨x4, e4, w4⟩ := h 4 (by omega)
  obtain ⟨x5, e5, w5⟩ := h 5 (by omega)
  obtain ⟨x6, e6, w6⟩ := h 6 (by omega)
  obtain ⟨x7, e7, w7⟩ := h 7 (by omega)
  rw [Nat.add_zero] at e0
  constructor
  · unfold u8CK
    simp only [ckAll, ckOk, Nat.add_assoc, Nat.reduceAdd, e0, e1, e2, e3, e4, e5, e6, e7, decide_true, Bool.and_self]
  · unfold u8At U8.ok
    simp only [inAt, e0, e1, e2, e3, e4, e5, e6, e7, w0, w1, w2, w3, w4, w5, w6, w7, Bool.and_self]
theorem rows_mem {W : World} {r off len cap : Nat} {cv : Array Value} {el : TypeId} {z : Nat × Nat} (hh : W.heap[r]? = some (.cells cv el z)) (hc : ∀ i, i < len → ∀ j, j < 8 → ∃ x : Int, cv[off + (i * 8 + j)]? = some (.int .u32 x) ∧ (Lit.int .u32 x).wf = true) :
    ∃ (m : Nms) (cells : List SV), MemAt m W [⟨el, cells, .ro z⟩] ∧ m 0 = some r ∧ prInB NprR ((cells.drop off).take (len * 8)) len = true := by
  have hr : r < W.heap.size := (Array.getElem?_eq_some_iff.1 hh).1
  refine ⟨⟨fun n => if n = 0 then some r else none, fun _ => 0⟩, ofVs cv.toList, ⟨⟨fun n q hq => ?_⟩, fun n n' q _ _ h1 h2 => ?_, fun n b hb => ?_, fun n q hq => ?_⟩, rfl, ?_⟩
  · have hq' : (if n = 0 then some r else none) = some q := hq
    split at hq'
    · cases hq'; exact hr
    · cases hq'
  · have h1' : (if n = 0 then some r else none) = some q := h1
    have h2' : (if n' = 0 then some r else none) = some q := h2
    by_cases e1 : n = 0
    · by_cases e2 : n' = 0
      · rw [e1, e2]
      · rw [if_neg e2] at h2'; cases h2'
    · rw [if_neg e1] at h1'; cases h1'
  · have hn : n = 0 := by
      rcases Nat.lt_or_ge n 1 with h' | h'
      · omega
      · rw [List.getElem?_eq_none (by simpa using h')] at hb; cases hb
    subst hn
    simp only [List.getElem?_cons_zero, Option.some.injEq] at hb
    subst hb
    exact ⟨r, rfl, BlkAt.mk_ro (ofVs_ids _) (dens_ofVs _) (by simpa using hh)⟩
  · have hq' : (if n = 0 then some r else none) = some q := hq
    split at hq'
    · rename_i h0; subst h0; exact Nat.lt_add_one 0
    · cases hq'
  · refine List.all_eq_true.2 fun j hj => ?_
    have hj' := List.mem_range.1 hj
    have h := u8_cells (cs := ((ofVs cv.toList).drop off).take (len * 8)) (o := j * 8) fun t ht => by
      obtain ⟨x, h1, h2⟩ := hc j (by omega) t ht
      refine ⟨x, ?_, u32_w h2⟩
      rw [List.getElem?_take, if_pos (by omega), List.getElem?_drop, ofVs_get]
      have h3 : cv.toList[off + (j * 8 + t)]? = some (.int .u32 x) := by simpa using h1
      rw [h3]; rfl
    rw [Bool.and_eq_true]
    refine ⟨h.1, ?_⟩
    have h2 := h.2
    unfold prgB
    generalize u8At (((ofVs cv.toList).drop off).take (len * 8)) (j * 8) = u at h2
    have h3 := h2
    unfold U8.ok at h2
    simp only [Bool.and_eq_true] at h2
    obtain ⟨w0, w1, w2, w3, w4, w5, w6, w7⟩ := h2
    show (u.ok && (wN32 u.a3 && (wN32 u.a4 && (wN32 u.a5 && wN32 u.a6)))) = true
    rw [h3, w3, w4, w5, w6]; rfl
end Go.Proofs.YtgjohjgmlleebaaGreat
namespace Bu
set_option linter.all false
open Rx Go
theorem CellsAt.left {a b cs : List SV} {off : Nat} (h : CellsAt a off cs) : CellsAt (a ++ b) off cs := fun j x hx => by
  have := h j x hx
  rw [List.getElem?_append_left (List.getElem?_eq_some_iff.1 this).1]; exact this
theorem CellsAt.right (a b : List SV) : CellsAt (a ++ b) a.length b := fun j x hx => by
  rw [List.getElem?_append_right (by omega), show a.length + j - a.length = j by omega]; exact hx
theorem nd_of {cells cs : List SV} {off : Nat} (h : CellsAt cells off cs) (hk : ckAll cs 0 ndCK = true) : ckAll cells off ndCK = true ∧ ndR cells off = ndR cs 0 := by
  obtain ⟨a, b⟩ := at_row h hk
  rw [Nat.add_zero] at a b
  refine ⟨b, ?_⟩
  have e := nd_row cells off
  rw [a, nd_row cs 0] at e
  exact (Option.some.inj e).symm
end Bu
namespace Go.Proofs.YtgjohjgmlleebaaGreat
set_option linter.all false
open Go.RowKit Bu Rx
def rowP (N : Npr) (U : Nat → U8) : Nat → List SV
  | 0 => nzC (N.k (U 0)) (N.f (U 0))
  | j + 1 => rowN N (U (j + 1)) (j + 1)
theorem prgC_row (N : Npr) (U : Nat → U8) : ∀ {k j : Nat}, j ≤ k → CellsAt (prgC N U k) (j * 19) (rowP N U j)
  | 0, j, h => by
    obtain rfl : j = 0 := by omega
    intro i x hx
    rw [Nat.zero_mul, Nat.zero_add]; exact hx
  | k + 1, j, h => by
    rcases Nat.lt_or_ge j (k + 1) with h1 | h1
    · exact CellsAt.left (prgC_row N U (k := k) (j := j) (by omega))
    · obtain rfl : j = k + 1 := by omega
      have := CellsAt.right (prgC N U k) (rowN N (U (k + 1)) (k + 1))
      rw [prgC_len] at this
      exact this
theorem rowP_ck (N : Npr) (U : Nat → U8) : ∀ j, ckAll (rowP N U j) 0 ndCK = true
  | 0 => rfl
  | j + 1 => by
    show ckAll (rowN N (U (j + 1)) (j + 1)) 0 ndCK = true
    unfold rowN
    cases decide (prT (U (j + 1)) = 0)
    · cases decide (prT (U (j + 1)) = 1) || decide (prT (U (j + 1)) = 2) <;> rfl
    · rfl
theorem rowP_pl (N : Npr) (U : Nat → U8) : ∀ j, ∃ vs, plains (rowP N U j) = some vs
  | 0 => ⟨_, rfl⟩
  | j + 1 => by
    show ∃ vs, plains (rowN N (U (j + 1)) (j + 1)) = some vs
    unfold rowN
    cases decide (prT (U (j + 1)) = 0)
    · cases decide (prT (U (j + 1)) = 1) || decide (prT (U (j + 1)) = 2) <;> exact ⟨_, rfl⟩
    · exact ⟨_, rfl⟩
theorem prgC_pl (N : Npr) (U : Nat → U8) : ∀ k, ∃ vs, plains (prgC N U k) = some vs
  | 0 => rowP_pl N U 0
  | k + 1 => by
    obtain ⟨a, ha⟩ := prgC_pl N U k
    obtain ⟨b, hb⟩ := rowP_pl N U (k + 1)
    exact ⟨a ++ b, plains_app ha hb⟩
theorem tmod_in {a : Int} {n : Nat} (ha : 0 ≤ a) (h1 : 1 ≤ n) (h8 : n ≤ 8) : 0 ≤ IntKind.i64.wrap (a.tmod (IntKind.u32.wrap (n : Int))) ∧ IntKind.i64.wrap (a.tmod (IntKind.u32.wrap (n : Int))) < n := by
  rw [u32_small h8, Int.tmod_eq_emod_of_nonneg ha, IntKind.wrap_i64]
  have h2 := Int.emod_nonneg a (show (n : Int) ≠ 0 by omega)
  have h3 := Int.emod_lt_of_pos a (show 0 < (n : Int) by omega)
  omega
theorem w32_nn {n : Int} (h : wN32 n = true) : 0 ≤ n := (of_decide_eq_true h).1
theorem nd_co (n t0 t1 t2 : F) (a : Int) : ndR (coC n t0 t1 t2 a) 0 = ⟨6, ndM z64 z64 z64 t0 t1 t2 z64 z64 z64 z64 z64 z64 z64 z64 n z64, a, 0⟩ := by kernel_rfl
theorem nd_mx (w : F) (a b : Int) : ndR (mxC w a b) 0 = ⟨5, ndM z64 z64 z64 z64 z64 z64 z64 z64 z64 z64 z64 z64 z64 z64 z64 w, a, b⟩ := by kernel_rfl
theorem nd_lf (u : U8) : ndR (nzC (leK u) (leF bwF u)) 0 = leNd u := by kernel_rfl
theorem okNd_row {u : U8} {n : Nat} (hu : prgB NprR u = true) (h1 : 1 ≤ n) (h8 : n ≤ 8) : okNd (ndR (rowN NprR u n) 0) n = true := by
  unfold prgB at hu
  simp only [Bool.and_eq_true] at hu
  obtain ⟨o, w3, w4, w5, w6⟩ := hu
  have ok : u.ok = true := o
  unfold U8.ok at ok
  simp only [Bool.and_eq_true] at ok
  obtain ⟨_, a1, a2, _⟩ := ok
  have m1 := tmod_in (w32_nn a1) h1 h8
  have m2 := tmod_in (w32_nn a2) h1 h8
  unfold rowN
  cases decide (prT u = 0)
  · cases decide (prT u = 1) || decide (prT u = 2)
    · show okNd (ndR (coC (bwF minIo four64 u.a3) (frT u.a4) (frT u.a5) (frT u.a6) (prA u n)) 0) n = true
      rw [nd_co]
      exact okNd_6 (bw_rn rk_le.2.2.1) (fr_rn w4) (fr_rn w5) (fr_rn w6) m1.1 m1.2
    · show okNd (ndR (mxC (frT u.a3) (prA u n) (prB u n)) 0) n = true
      rw [nd_mx]
      exact okNd_5 (fr_rn w3) m1.1 m1.2 m2.1 m2.2
  · show okNd (ndR (nzC (leK u) (leF bwF u)) 0) n = true
    rw [nd_lf]
    exact okNd_le u n
theorem okPg_prg {U : Nat → U8} {k : Nat} (hk : k ≤ 8) (hU : ∀ j, j ≤ k → prgB NprR (U j) = true) : okPg (prgC NprR U k) (k + 1) = true := by
  obtain ⟨vs, hv⟩ := prgC_pl NprR U k
  refine okPg_mk (by rw [hv]; rfl) (by omega) (by omega) fun i hi => ?_
  obtain ⟨c1, c2⟩ := nd_of (prgC_row NprR U (k := k) (j := i) (by omega)) (rowP_ck NprR U i)
  refine okAt_n c1 c2 ?_
  cases i with
  | zero =>
    show okNd (ndR (nzC (leK (U 0)) (leF bwF (U 0))) 0) _ = true
    rw [nd_lf]
    exact okNd_le _ _
  | succ i => exact okNd_row (hU (i + 1) (by omega)) (by omega) (by omega)
theorem u8Z_B : prgB NprR u8Z = true := by decide +kernel
theorem prog_ok {cs : List SV} {len : Nat} (h : prInB NprR cs len = true) : okPg (prgC NprR (prU cs len) (prK len)) (prK len + 1) = true ∧ prK len ≤ 7 := by
  have K := prInB_ok h
  have h7 : prK len ≤ 7 := by
    rcases Nat.eq_zero_or_pos len with h0 | h0
    · subst h0; rw [prK_0]; omega
    · have := (prK_s h0).1; omega
  refine ⟨okPg_prg (by omega) fun j hj => ?_, h7⟩
  unfold prU
  cases len with
  | zero => exact u8Z_B
  | succ n =>
    have := (prK_s (len := n + 1) (by omega)).1
    exact K.ok j (by omega) (by omega)
end Go.Proofs.YtgjohjgmlleebaaGreat
namespace Bu
set_option linter.all false
open Rx Go
/-- what is sent, what is sent back, of each channel -/
structure Lt where
  f0 : I
  f1 : I
  f2 : I
  r0 : I
  r1 : I
  r2 : I
def Lt.cells (t : Lt) : List SV := [.fl t.f0.lo, .fl t.f0.hi, .fl t.f1.lo, .fl t.f1.hi, .fl t.f2.lo, .fl t.f2.hi, .fl t.r0.lo, .fl t.r0.hi, .fl t.r1.lo, .fl t.r1.hi, .fl t.r2.lo, .fl t.r2.hi]
def Lt.sv (t : Lt) : SV := .agg t.cells
def Lt.zero : Lt := ⟨I.zero, I.zero, I.zero, I.zero, I.zero, I.zero⟩
end Bu
namespace Go.Proofs.YtgjohjgmlleebaaGreat
set_option linter.all false
open Go.RowKit Bu Rx
/-- pairs.Value of a node of a program -/
def kVn (g : Lf → I × Int) (o : Lf → Obs) : List SV → Dec → Option (SV × Dec × Obs)
  | [x, ch, .agg [.fl p0, .fl p1, .fl p2, .fl p3, .fl p4, .fl p5], .agg [.fl r0, .fl r1, .fl r2, .fl r3, .fl r4, .fl r5]], ds => match ndOf x, intS ch with
    | some n, some (.i64, c) => some (.tup [.agg [.fl (g ⟨n.k, etaF n.f, c, ⟨⟨p0, p1⟩, ⟨p2, p3⟩, ⟨p4, p5⟩⟩, ⟨⟨r0, r1⟩, ⟨r2, r3⟩, ⟨r4, r5⟩⟩⟩).1.lo, .fl (g ⟨n.k, etaF n.f, c, ⟨⟨p0, p1⟩, ⟨p2, p3⟩, ⟨p4, p5⟩⟩, ⟨⟨r0, r1⟩, ⟨r2, r3⟩, ⟨r4, r5⟩⟩⟩).1.hi], .si .i64 (g ⟨n.k, etaF n.f, c, ⟨⟨p0, p1⟩, ⟨p2, p3⟩, ⟨p4, p5⟩⟩, ⟨⟨r0, r1⟩, ⟨r2, r3⟩, ⟨r4, r5⟩⟩⟩).2], ds, (decide (n.a = 0), true) :: (decide (n.b = 0), true) :: o ⟨n.k, etaF n.f, c, ⟨⟨p0, p1⟩, ⟨p2, p3⟩, ⟨p4, p5⟩⟩, ⟨⟨r0, r1⟩, ⟨r2, r3⟩, ⟨r4, r5⟩⟩⟩)
    | _, _ => none
  | _, _ => none
def OE (o : List SV → Nat → Bool) (N : Nde) : OracleF := lookO (OCL N.K ++ [(31, kRd 19 (kRgt o)), (27, plainO (kI2 N.D N.dO)), (142, plainO (kVn N.g N.go))])
noncomputable def eC : Code := bodyOf Tryz.prog 40
noncomputable def eR7 : Code := seqL (seqL (post 4 eC))
noncomputable def eBd : Code := inner (inner (seqR (seqL (post 4 eC))))
noncomputable def eTl : Code := seqR (post 4 eC)
theorem eBody : Tryz.f40.body = some eC := by kernel_rfl
theorem eC_cut : post 4 eC = .seq (.seq eR7 (.block 0 (.loop eBd))) eTl := by kernel_rfl
def evT (off len cap : Nat) (v u : V3) (l c : SV) (x : Nat → SV) : List SV :=
  [.ssl 0 off len cap, v.sv, u.sv, x 3, .p 1 0, .p 2 0, .p 3 0, x 7, x 8, l, x 10, x 11, x 12, x 13, x 14, x 15, x 16, x 17, x 18, x 19, x 20, x 21, x 22, x 23, x 24, x 25, x 26, x 27, x 28, .ssl 0 off len cap, .si .i64 len, c, x 32, x 33, x 34, x 35, x 36, x 37, x 38, x 39, x 40, x 41, x 42, x 43, x 44, x 45, x 46, x 47, x 48, x 49, x 50, x 51, x 52, x 53, x 54, x 55, x 56, x 57, x 58, x 59, x 60, x 61, x 62, x 63, x 64, x 65, x 66, x 67, x 68, x 69, x 70, x 71, x 72, x 73, x 74, x 75, x 76, x 77, x 78, x 79, x 80, x 81, x 82, x 83]
def evP (e : TypeId) (cells : List SV) (v u : V3) : List Blk := [⟨e, cells, .num⟩, vcB v, vcB u, ⟨77, Lt.zero.cells, .ex⟩]
/-- ahead of the rounds; ahead of a later round -/
def evS0 (e : TypeId) (cells : List SV) (v u : V3) (off len cap : Nat) (i : Int) (x : Nat → SV) (d : Dec) : St := ⟨evT off len cap v u (.o (.slice none 0 0)) (.si .i64 i) x, evP e cells v u, d, []⟩
def evS (e : TypeId) (cells lc : List SV) (v u : V3) (off len cap n : Nat) (i : Int) (x : Nat → SV) (d : Dec) : St := ⟨evT off len cap v u (.osl true 4 n) (.si .i64 i) x, evP e cells v u ++ [⟨77, lc, .rown 12⟩], d, []⟩
noncomputable def eEn (e : TypeId) (cells : List SV) (v u : V3) (off len cap : Nat) (d : Dec) : St := ⟨([.ssl 0 off len cap, v.sv, u.sv] : List SV) ++ List.replicate (Tryz.f40.ntmps - 3) (.tup []), [⟨e, cells, .num⟩], d, []⟩
end Go.Proofs.YtgjohjgmlleebaaGreat
namespace Bu
set_option linter.all false
open Rx Go
def ltC (c : Nat → Ch) : List SV := [.fl (c 0).p.lo, .fl (c 0).p.hi, .fl (c 1).p.lo, .fl (c 1).p.hi, .fl (c 2).p.lo, .fl (c 2).p.hi, .fl (c 0).m.lo, .fl (c 0).m.hi, .fl (c 1).m.lo, .fl (c 1).m.hi, .fl (c 2).m.lo, .fl (c 2).m.hi]
def lcAt (lc : List SV) (k a : Nat) : Ch := ⟨⟨flAt lc (a * 12 + k * 2), flAt lc (a * 12 + k * 2 + 1)⟩, ⟨flAt lc (a * 12 + 6 + k * 2), flAt lc (a * 12 + 6 + k * 2 + 1)⟩⟩
/-- a coat over a light -/
def overC (K : Kk) (i o : I) (w : F) (a : Ch) : Ch × Int :=
  let q1 := K.num 0 one_
  let qw := K.num q1.2 w
  let s := K.sub qw.2 q1.1 o
  let h := K.sub s.2 q1.1 i
  let x := K.mul h.2 h.1 s.1
  let y := K.mul x.2 x.1 qw.1
  let f := K.mul y.2 y.1 a.p
  let q := K.sqr f.2 s.1
  let t := K.mul q.2 q.1 qw.1
  let z := K.mul t.2 t.1 a.m
  let r := K.add z.2 o z.1
  (⟨f.1, r.1⟩, r.2)
end Bu
namespace Go.Proofs.YtgjohjgmlleebaaGreat
set_option linter.all false
open Go.RowKit Bu Rx
def lfE (v u : V3) (k : Nat) (n : Nd) : Lf := ⟨n.k, etaF n.f, (k : Int), v, u⟩
/-- a channel of a node, of those ahead of it -/
def evN (N : Nde) (v u : V3) (k : Nat) (l : Nat → Ch) (n : Nd) : Ch × Int :=
  bif decide (n.k = 5) then mixC N.K (n.f 15) (l n.a.toNat) (l n.b.toNat)
  else bif decide (n.k = 6) then overC N.K (N.D v.z ⟨n.f 14, n.f 14⟩).1 (N.D u.z ⟨n.f 14, n.f 14⟩).1 (n.f (3 + k)) (l n.a.toNat)
  else (⟨(N.g (lfE v u k n)).1, I.zero⟩, (N.g (lfE v u k n)).2)
def lfOb (N : Nde) (v u : V3) (n : Nd) (k : Nat) : Obs := (decide (n.a = 0), true) :: (decide (n.b = 0), true) :: N.go (lfE v u k n)
def ivCK : List CK := [.f, .f]
def rdOb (lc : List SV) (n : Nat) (a : Int) (k : Nat) : Obs := [(ckAll lc (a.toNat * 12 + 6 + k * 2) ivCK, true), (ixB (k : Int) 3, true), (ixB a n, true), (ckAll lc (a.toNat * 12 + k * 2) ivCK, true), (ixB (k : Int) 3, true), (ixB a n, true)]
def evHd (cells : List SV) (off len : Nat) (i : Int) : Obs := [(ckAll cells (off + i.toNat * 19) ndCK, true), (ixB i len, true), (decide (i < len), true)]
def evAp (lc : List SV) (n : Nat) : Bool := decide (1 ≤ 1) && (decide (n + 1 ≤ maxLen) && (decide ((n + 1) * 96 ≤ 140737488355328) && (decide (0 + 1 * 12 ≤ 12) && (true && decide (lc.length = n * 12)))))
/-- what is asked of a node behind its head -/
def ndOb (e0 e1 e2 : Int) (o0 o1 o2 t : Obs) : Obs := (e2 != 0, false) :: ((o2 ++ []) ++ ((e1 == 0, true) :: ((o1 ++ []) ++ ((e0 == 0, true) :: ((o0 ++ []) ++ t)))))
def nd0 (cells : List SV) (off : Nat) (i : Int) : Nd := ndR cells (off + i.toNat * 19)
section
variable (N : Nde) (o : List SV → Nat → Bool) (e : TypeId) (cells lc : List SV) (v u : V3) (off len cap n : Nat) (i : Int) (x : Nat → SV)
noncomputable abbrev evZ : St := aft Tryz.prog EG (OE o N) 60 eBd (evS0 e cells v u off len cap i x (some [true, false, false, true, true, false]))
noncomputable abbrev evA (d : List Bool) : St := aft Tryz.prog EG (OE o N) 60 eBd (evS e cells lc v u off len cap n i x (some d))
def dLf : List Bool := [true, false, false, true, true, false]
def dMx : List Bool := [true, true, true, true, false]
def dCo : List Bool := [true, false, true, false, true, true, true, false]
theorem evLz : Lands Tryz.prog EG (OE o N) 60 eBd (evS0 e cells v u off len cap i x (some [true, false, false, true, true, false])) .normal := by unfold Lands; kernel_rfl
theorem evLl : Lands Tryz.prog EG (OE o N) 60 eBd (evS e cells lc v u off len cap n i x (some dLf)) .normal := by unfold Lands; kernel_rfl
theorem evLm : Lands Tryz.prog EG (OE o N) 60 eBd (evS e cells lc v u off len cap n i x (some dMx)) .normal := by unfold Lands; kernel_rfl
theorem evLc : Lands Tryz.prog EG (OE o N) 60 eBd (evS e cells lc v u off len cap n i x (some dCo)) .normal := by unfold Lands; kernel_rfl
theorem evLx : Lands Tryz.prog EG (OE o N) 60 eBd (evS e cells lc v u off len cap n i x (some [false])) (.exit 0) := by unfold Lands; kernel_rfl
def lfObs (N : Nde) (cells : List SV) (v u : V3) (off : Nat) (i : Int) (t : Obs) : Obs := ndOb (N.g (lfE v u 0 (nd0 cells off i))).2 (N.g (lfE v u 1 (nd0 cells off i))).2 (N.g (lfE v u 2 (nd0 cells off i))).2 (lfOb N v u (nd0 cells off i) 0) (lfOb N v u (nd0 cells off i) 1) (lfOb N v u (nd0 cells off i) 2) ([((nd0 cells off i).k == 6, false), ((nd0 cells off i).k == 5, false)] ++ t)
theorem evOz : (evZ N o e cells v u off len cap i x).ob = lfObs N cells v u off i (evHd cells off len i) := by kernel_rfl
theorem evOl : (evA N o e cells lc v u off len cap n i x dLf).ob = (evAp lc n, true) :: (lfObs N cells v u off i (evHd cells off len i)) := by kernel_rfl
def mxObs (N : Nde) (cells lc : List SV) (off n : Nat) (i : Int) (t : Obs) : Obs := ndOb (mixC N.K ((nd0 cells off i).f 15) (lcAt lc 0 (nd0 cells off i).a.toNat) (lcAt lc 0 (nd0 cells off i).b.toNat)).2 (mixC N.K ((nd0 cells off i).f 15) (lcAt lc 1 (nd0 cells off i).a.toNat) (lcAt lc 1 (nd0 cells off i).b.toNat)).2 (mixC N.K ((nd0 cells off i).f 15) (lcAt lc 2 (nd0 cells off i).a.toNat) (lcAt lc 2 (nd0 cells off i).b.toNat)).2
  (rdOb lc n (nd0 cells off i).b 0 ++ rdOb lc n (nd0 cells off i).a 0) (rdOb lc n (nd0 cells off i).b 1 ++ rdOb lc n (nd0 cells off i).a 1) (rdOb lc n (nd0 cells off i).b 2 ++ rdOb lc n (nd0 cells off i).a 2) ([((nd0 cells off i).k == 5, true)] ++ t)
theorem evOm : (evA N o e cells lc v u off len cap n i x dMx).ob = (evAp lc n, true) :: (mxObs N cells lc off n i (evHd cells off len i)) := by kernel_rfl
def coO (N : Nde) (cells : List SV) (v u : V3) (off : Nat) (i : Int) (t : Obs) : Obs := ((N.D u.z ⟨(nd0 cells off i).f 14, (nd0 cells off i).f 14⟩).2 == 0, true) :: (((N.dO u.z ⟨(nd0 cells off i).f 14, (nd0 cells off i).f 14⟩ ++ (((N.D v.z ⟨(nd0 cells off i).f 14, (nd0 cells off i).f 14⟩).2 != 0, false) :: (N.dO v.z ⟨(nd0 cells off i).f 14, (nd0 cells off i).f 14⟩ ++ []))) ++ [((nd0 cells off i).k == 6, true), ((nd0 cells off i).k == 5, false)]) ++ t)
def ovE (N : Nde) (cells lc : List SV) (v u : V3) (off : Nat) (i : Int) (k : Nat) : Ch × Int := overC N.K (N.D v.z ⟨(nd0 cells off i).f 14, (nd0 cells off i).f 14⟩).1 (N.D u.z ⟨(nd0 cells off i).f 14, (nd0 cells off i).f 14⟩).1 ((nd0 cells off i).f (3 + k)) (lcAt lc k (nd0 cells off i).a.toNat)
def coObs (N : Nde) (cells lc : List SV) (v u : V3) (off n : Nat) (i : Int) (t : Obs) : Obs := ndOb (ovE N cells lc v u off i 0).2 (ovE N cells lc v u off i 1).2 (ovE N cells lc v u off i 2).2 (rdOb lc n (nd0 cells off i).a 0) (rdOb lc n (nd0 cells off i).a 1) (rdOb lc n (nd0 cells off i).a 2) (coO N cells v u off i t)
theorem evOc : (evA N o e cells lc v u off len cap n i x dCo).ob = (evAp lc n, true) :: (coObs N cells lc v u off n i (evHd cells off len i)) := by kernel_rfl
theorem evMz : selM (evZ N o e cells v u off len cap i x).M [0, 1, 2, 3, 18] = some (evP e cells v u ++ [⟨77, ltC (fun k => ⟨(N.g (lfE v u k (nd0 cells off i))).1, I.zero⟩), .row 12⟩]) := by kernel_rfl
theorem evMl : selM (evA N o e cells lc v u off len cap n i x dLf).M [0, 1, 2, 3, 19] = some (evP e cells v u ++ [⟨77, lc ++ ltC (fun k => ⟨(N.g (lfE v u k (nd0 cells off i))).1, I.zero⟩), .rown 12⟩]) := by kernel_rfl
theorem evMm : selM (evA N o e cells lc v u off len cap n i x dMx).M [0, 1, 2, 3, 19] = some (evP e cells v u ++ [⟨77, lc ++ ltC (fun k => (mixC N.K ((nd0 cells off i).f 15) (lcAt lc k (nd0 cells off i).a.toNat) (lcAt lc k (nd0 cells off i).b.toNat)).1), .rown 12⟩]) := by kernel_rfl
theorem evMc : selM (evA N o e cells lc v u off len cap n i x dCo).M [0, 1, 2, 3, 20] = some (evP e cells v u ++ [⟨77, lc ++ ltC (fun k => (ovE N cells lc v u off i k).1), .rown 12⟩]) := by kernel_rfl
end
end Go.Proofs.YtgjohjgmlleebaaGreat
namespace Go.Proofs.YtgjohjgmlleebaaGreat
set_option linter.all false
open Go.RowKit Bu Rx
def lt12 : List CK := [.f, .f, .f, .f, .f, .f, .f, .f, .f, .f, .f, .f]
def ltS (lc : List SV) (a : Nat) : SV := .agg [.fl (flAt lc (a * 12)), .fl (flAt lc (a * 12 + 1)), .fl (flAt lc (a * 12 + 2)), .fl (flAt lc (a * 12 + 3)), .fl (flAt lc (a * 12 + 4)), .fl (flAt lc (a * 12 + 5)), .fl (flAt lc (a * 12 + 6)), .fl (flAt lc (a * 12 + 7)), .fl (flAt lc (a * 12 + 8)), .fl (flAt lc (a * 12 + 9)), .fl (flAt lc (a * 12 + 10)), .fl (flAt lc (a * 12 + 11))]
section
variable (N : Nde) (o : List SV → Nat → Bool) (e : TypeId) (cells lc : List SV) (v u : V3) (off len cap n : Nat) (i : Int) (x : Nat → SV)
noncomputable abbrev ev4 : St := aftN Tryz.prog EG (OE o N) 60 4 eC (eEn e cells v u off len cap (some (List.replicate 18 true)))
noncomputable abbrev ev5 : St := aft Tryz.prog EG (OE o N) 60 eR7 (ev4 N o e cells v u off len cap)
theorem evL4 : LandsN Tryz.prog EG (OE o N) 60 4 eC (eEn e cells v u off len cap (some (List.replicate 18 true))) := by unfold LandsN; kernel_rfl
theorem evL5 : Lands Tryz.prog EG (OE o N) 60 eR7 (ev4 N o e cells v u off len cap) .normal := by unfold Lands; kernel_rfl
def evEO (o : List SV → Nat → Bool) (cells : List SV) (v u : V3) (off len : Nat) : Obs := vcO u ++ (vcO v ++ [(o ((cells.drop off).take (len * 19)) len, true)])
theorem evO4 : (ev4 N o e cells v u off len cap).ob = evEO o cells v u off len := by kernel_rfl
theorem evO5 : (ev5 N o e cells v u off len cap).ob = evEO o cells v u off len := by kernel_rfl
theorem evM5 : selM (ev5 N o e cells v u off len cap).M [0, 1, 2, 3] = some (evP e cells v u) := by kernel_rfl
noncomputable def ev5X (vv : Nat → Value) : Nat → SV := fun j => ((ev5 N o e cells v u off len cap).sel [0, 1, 2, 3] [] vv).T.getD j .np
theorem evT5 (vv : Nat → Value) (M' : List Blk) : ((ev5 N o e cells v u off len cap).sel [0, 1, 2, 3] M' vv).T = evT off len cap v u (.o (.slice none 0 0)) (.i .i64 0) (ev5X N o e cells v u off len cap vv) := by kernel_rfl
noncomputable def evXz (vv : Nat → Value) : Nat → SV := fun j => ((evZ N o e cells v u off len cap i x).sel [0, 1, 2, 3, 18] [] vv).T.getD j .np
theorem evTz (vv : Nat → Value) (M' : List Blk) : ((evZ N o e cells v u off len cap i x).sel [0, 1, 2, 3, 18] M' vv).T = evT off len cap v u (.osl false 4 (0 + 1)) (.si .i64 (IntKind.i64.wrap (i + 1))) (evXz N o e cells v u off len cap i x vv) := by kernel_rfl
noncomputable def evXl (vv : Nat → Value) : Nat → SV := fun j => ((evA N o e cells lc v u off len cap n i x dLf).sel [0, 1, 2, 3, 19] [] vv).T.getD j .np
theorem evTl (vv : Nat → Value) (M' : List Blk) : ((evA N o e cells lc v u off len cap n i x dLf).sel [0, 1, 2, 3, 19] M' vv).T = evT off len cap v u (.osl true 4 (n + 1)) (.si .i64 (IntKind.i64.wrap (i + 1))) (evXl N o e cells lc v u off len cap n i x vv) := by kernel_rfl
noncomputable def evXm (vv : Nat → Value) : Nat → SV := fun j => ((evA N o e cells lc v u off len cap n i x dMx).sel [0, 1, 2, 3, 19] [] vv).T.getD j .np
theorem evTm (vv : Nat → Value) (M' : List Blk) : ((evA N o e cells lc v u off len cap n i x dMx).sel [0, 1, 2, 3, 19] M' vv).T = evT off len cap v u (.osl true 4 (n + 1)) (.si .i64 (IntKind.i64.wrap (i + 1))) (evXm N o e cells lc v u off len cap n i x vv) := by kernel_rfl
noncomputable def evXc (vv : Nat → Value) : Nat → SV := fun j => ((evA N o e cells lc v u off len cap n i x dCo).sel [0, 1, 2, 3, 20] [] vv).T.getD j .np
theorem evTc (vv : Nat → Value) (M' : List Blk) : ((evA N o e cells lc v u off len cap n i x dCo).sel [0, 1, 2, 3, 20] M' vv).T = evT off len cap v u (.osl true 4 (n + 1)) (.si .i64 (IntKind.i64.wrap (i + 1))) (evXc N o e cells lc v u off len cap n i x vv) := by kernel_rfl
theorem evXo : aft Tryz.prog EG (OE o N) 60 eBd (evS e cells lc v u off len cap n i x (some [false])) = ⟨evT off len cap v u (.osl true 4 n) (.si .i64 i) (fun k => bif Nat.beq k 32 then .b false else x k), evP e cells v u ++ [⟨77, lc, .rown 12⟩], some [], [(decide (i < len), false)]⟩ := by kernel_rfl
theorem evEL : Lands Tryz.prog EG (OE o N) 60 eTl (evS e cells lc v u off len cap n i x none) .ret := by unfold Lands; kernel_rfl
theorem evEO_ : (aft Tryz.prog EG (OE o N) 60 eTl (evS e cells lc v u off len cap n i x none)).ob = [(ckAll lc ((IntKind.i64.wrap ((n : Int) - 1)).toNat * 12) lt12, true), (ixB (IntKind.i64.wrap ((n : Int) - 1)) n, true)] := by kernel_rfl
theorem evER : resultS Tryz.prog Tryz.f40 (aft Tryz.prog EG (OE o N) 60 eTl (evS e cells lc v u off len cap n i x none)) = some (.tup [ltS lc (IntKind.i64.wrap ((n : Int) - 1)).toNat, .i .i64 0]) := by kernel_rfl
theorem evEM : ∃ more, (aft Tryz.prog EG (OE o N) 60 eTl (evS e cells lc v u off len cap n i x none)).M = ⟨e, cells, .num⟩ :: more := ⟨[vcB v, vcB u, ⟨77, (match ltS lc (IntKind.i64.wrap ((n : Int) - 1)).toNat with | .agg l => l | _ => []), .ex⟩, ⟨77, lc, .rown 12⟩], by kernel_rfl⟩
end
end Go.Proofs.YtgjohjgmlleebaaGreat
namespace Bu
set_option linter.all false
open Rx Go
theorem lc_at {lc : List SV} {a : Nat} {c : Nat → Ch} (h : CellsAt lc (a * 12) (ltC c)) : ∀ k, k < 3 → lcAt lc k a = c k ∧ ckAll lc (a * 12 + k * 2) [.f, .f] = true ∧ ckAll lc (a * 12 + 6 + k * 2) [.f, .f] = true := by
  intro k hk
  have e0 := h 0 _ rfl
  have e1 := h 1 _ rfl
  have e2 := h 2 _ rfl
  have e3 := h 3 _ rfl
  have e4 := h 4 _ rfl
  have e5 := h 5 _ rfl
  have e6 := h 6 _ rfl
  have e7 := h 7 _ rfl
  have e8 := h 8 _ rfl
  have e9 := h 9 _ rfl
  have e10 := h 10 _ rfl
  have e11 := h 11 _ rfl
  rw [Nat.add_zero] at e0
  unfold lcAt
  rcases (by omega : k = 0 ∨ k = 1 ∨ k = 2) with rfl | rfl | rfl
  all_goals
    simp only [flAt, ckAll, ckOk, Nat.reduceMul, Nat.add_assoc, Nat.reduceAdd, Nat.add_zero, Nat.zero_mul, Nat.zero_add, e0, e1, e2, e3, e4, e5, e6, e7, e8, e9, e10, e11, Bool.and_self, Bool.and_true, and_self]
theorem lt_ck {lc : List SV} {a : Nat} {c : Nat → Ch} (h : CellsAt lc (a * 12) (ltC c)) : ckAll lc (a * 12) [.f, .f, .f, .f, .f, .f, .f, .f, .f, .f, .f, .f] = true := by
  have e0 := h 0 _ rfl
  have e1 := h 1 _ rfl
  have e2 := h 2 _ rfl
  have e3 := h 3 _ rfl
  have e4 := h 4 _ rfl
  have e5 := h 5 _ rfl
  have e6 := h 6 _ rfl
  have e7 := h 7 _ rfl
  have e8 := h 8 _ rfl
  have e9 := h 9 _ rfl
  have e10 := h 10 _ rfl
  have e11 := h 11 _ rfl
  rw [Nat.add_zero] at e0
  simp only [ckAll, ckOk, Nat.add_assoc, Nat.reduceAdd, e0, e1, e2, e3, e4, e5, e6, e7, e8, e9, e10, e11, Bool.and_self]
theorem ltC_ext {c d : Nat → Ch} (h : ∀ k, k < 3 → c k = d k) : ltC c = ltC d := by
  unfold ltC
  rw [h 0 (by decide), h 1 (by decide), h 2 (by decide)]
/-- the lights of the first nodes -/
def lights (F : Nat → Nat → Ch) : Nat → List SV
  | 0 => []
  | n + 1 => lights F n ++ ltC (fun k => F k n)
theorem lights_len (F : Nat → Nat → Ch) : ∀ n, (lights F n).length = n * 12
  | 0 => rfl
  | n + 1 => by unfold lights; rw [List.length_append, lights_len F n, show (ltC fun k => F k n).length = 12 from rfl]; omega
theorem lights_at (F : Nat → Nat → Ch) : ∀ {n j : Nat}, j < n → CellsAt (lights F n) (j * 12) (ltC (fun k => F k j))
  | n + 1, j, h => by
    unfold lights
    intro t x hx
    have ht : t < 12 := (List.getElem?_eq_some_iff.1 hx).1
    have hl := lights_len F n
    rcases Nat.lt_or_ge j n with h' | h'
    · rw [List.getElem?_append_left (by rw [hl]; omega)]
      exact lights_at F h' t x hx
    · obtain rfl : j = n := by omega
      rw [List.getElem?_append_right (by rw [hl]; omega), hl, show j * 12 + t - j * 12 = t by omega]
      exact hx
end Bu
namespace Go.Proofs.YtgjohjgmlleebaaGreat
set_option linter.all false
open Go.RowKit Bu Rx
def allE (N : Nde) (v u : V3) (cs : List SV) (k : Nat) : (Nat → Ch) → Nat → Ch × Int := fun l i => evN N v u k l (ndR cs (i * 19))
/-- the light of a node, a channel -/
def ltF (N : Nde) (v u : V3) (cs : List SV) (k i : Nat) : Ch := chF (allE N v u cs k) i
/-- no error, and what is asked of the parts of a node -/
def evNB (N : Nde) (v u : V3) (l : Nat → Nat → Ch) (n : Nd) : Bool :=
  (bif decide (n.k = 5) then true
  else bif decide (n.k = 6) then (Bu.obsB (N.dO v.z ⟨n.f 14, n.f 14⟩) && decide ((N.D v.z ⟨n.f 14, n.f 14⟩).2 = 0)) && (Bu.obsB (N.dO u.z ⟨n.f 14, n.f 14⟩) && decide ((N.D u.z ⟨n.f 14, n.f 14⟩).2 = 0))
  else Bu.obsB (lfOb N v u n 0) && (Bu.obsB (lfOb N v u n 1) && Bu.obsB (lfOb N v u n 2))) &&
  (decide ((evN N v u 0 (l 0) n).2 = 0) && (decide ((evN N v u 1 (l 1) n).2 = 0) && decide ((evN N v u 2 (l 2) n).2 = 0)))
def evB (N : Nde) (v u : V3) (cs : List SV) (len : Nat) : Bool :=
  (List.range len).all fun i => evNB N v u (fun k j => (chL (allE N v u cs k) i).getD j Ch.zero) (ndR cs (i * 19))
theorem evB_at {N : Nde} {v u : V3} {cs : List SV} {len : Nat} (h : evB N v u cs len = true) {i : Nat} (hi : i < len) : evNB N v u (fun k j => (chL (allE N v u cs k) i).getD j Ch.zero) (ndR cs (i * 19)) = true := List.all_eq_true.1 h i (List.mem_range.2 hi)
theorem ndOb_ok {e0 e1 e2 : Int} {o0 o1 o2 t : Obs} (h0 : e0 = 0) (h1 : e1 = 0) (h2 : e2 = 0) (k0 : ObsOk o0) (k1 : ObsOk o1) (k2 : ObsOk o2) (ht : ObsOk t) : ObsOk (ndOb e0 e1 e2 o0 o1 o2 t) := by
  subst h0 h1 h2
  exact ob_c rfl (ob_a (ob_a k2 ob_n) (ob_c rfl (ob_a (ob_a k1 ob_n) (ob_c rfl (ob_a (ob_a k0 ob_n) ht)))))
theorem rdOb_ok {F : Nat → Nat → Ch} {n : Nat} {a : Int} {k : Nat} (h0 : 0 ≤ a) (h : a < n) (hk : k < 3) : ObsOk (rdOb (lights F n) n a k) := by
  obtain ⟨_, c1, c2⟩ := lc_at (lights_at F (show a.toNat < n by omega)) k hk
  have ix := ix_of h0 h
  have ik := ix_of (a := (k : Int)) (n := 3) (by omega) (by omega)
  exact ob_c c2 (ob_c ik (ob_c ix (ob_c c1 (ob_c ik (ob_c ix ob_n)))))
theorem evHd_ok {cells : List SV} {off len i : Nat} (hc : ckAll cells (off + i * 19) ndCK = true) (hi : i < len) : ObsOk (evHd cells off len (i : Int)) := by
  unfold evHd
  rw [Int.toNat_natCast]
  exact ob_c hc (ob_c (ix_of (by omega) (by omega)) (ob_c (decide_eq_true (by omega)) ob_n))
theorem evAp_ok {F : Nat → Nat → Ch} {n : Nat} (h : n < 4096) : evAp (lights F n) n = true := by
  unfold evAp
  have hm : 4096 ≤ maxLen := by decide
  rw [lights_len, decide_eq_true (show (1 : Nat) ≤ 1 by omega), decide_eq_true (show n + 1 ≤ maxLen by omega), decide_eq_true (show (n + 1) * 96 ≤ 140737488355328 by omega), decide_eq_true (show 0 + 1 * 12 ≤ 12 by omega), decide_eq_true rfl]; rfl
theorem beq_t {a b : Int} (h : a = b) : (a == b) = true := by rw [h]; exact beq_self_eq_true b
theorem beq_f {a b : Int} (h : a ≠ b) : (a == b) = false := by simpa using h
section
variable {N : Nde} {o : List SV → Nat → Bool} (hO : OracleOk Tryz.prog (OE o N)) {e : TypeId} {cells cs : List SV} {v u : V3} {off len cap i : Nat} {x : Nat → SV} {B : Bs} (hB1 : B.M.length = 1) (K : OkPg cs len) (hca : CellsAt cells off cs) (hB : evB N v u cs len = true) (hi : i < len)
include hO hB1 K hca hB hi
theorem ev_round : RunsB Tryz.prog B eBd (evS e cells (lights (ltF N v u cs) i) v u off len cap i (i : Int) x none) .normal (fun t => ∃ x', t = evS e cells (lights (ltF N v u cs) (i + 1)) v u off len cap (i + 1) ((i + 1 : Nat) : Int) x' none) := by
  have hK := K.hi
  obtain ⟨hck, hnr⟩ := K.at hca hi
  have hw : IntKind.i64.wrap ((i : Int) + 1) = ((i + 1 : Nat) : Int) := wrap_s (by omega)
  have hk : ∀ (j : Nat), ∀ n, n < B.M.length → ([0, 1, 2, 3, j] : List Nat)[n]? = some n := fun j n hn => by
    rw [hB1] at hn
    have : n = 0 := by omega
    subst this; rfl
  have hnd0 : nd0 cells off (i : Int) = ndR cs (i * 19) := by unfold nd0; rw [Int.toNat_natCast]; exact hnr
  have hH := evHd_ok (len := len) hck hi
  have hA := evAp_ok (F := ltF N v u cs) (n := i) (by omega)
  have b := evB_at hB hi
  have hnd := K.nd i hi
  have hF : ∀ k, ltF N v u cs k i = (evN N v u k (fun j => (chL (allE N v u cs k) i).getD j Ch.zero) (ndR cs (i * 19))).1 := fun _ => rfl
  have g : ∀ {a : Int} (k : Nat), 0 ≤ a → a < i → (chL (allE N v u cs k) i).getD a.toNat Ch.zero = ltF N v u cs k a.toNat := fun _ _ _ => chL_get _ (by omega)
  have gl : ∀ {a : Int} (k : Nat), k < 3 → 0 ≤ a → a < i → lcAt (lights (ltF N v u cs) i) k a.toNat = ltF N v u cs k a.toNat := fun k h3 h0 h1 => (lc_at (lights_at (ltF N v u cs) (by omega)) k h3).1
  have hrow : lights (ltF N v u cs) (i + 1) = lights (ltF N v u cs) i ++ ltC (fun k => ltF N v u cs k i) := rfl
  rw [hrow]
  unfold evNB at b
  simp only [Bool.and_eq_true, decide_eq_true_eq] at b
  obtain ⟨b0, b1, b2, b3⟩ := b
  generalize ndR cs (i * 19) = n at hnd hnd0 b0 b1 b2 b3 hF
  by_cases h5 : n.k = 5
  · obtain ⟨⟨a0, a1⟩, c0, c1⟩ := okNd_mix hnd h5
    have ev : ∀ k, k < 3 → mixC N.K (n.f 15) (lcAt (lights (ltF N v u cs) i) k n.a.toNat) (lcAt (lights (ltF N v u cs) i) k n.b.toNat) = evN N v u k (fun j => (chL (allE N v u cs k) i).getD j Ch.zero) n := fun k h3 => by
      unfold evN
      rw [decide_eq_true h5, cond_true, gl k h3 a0 a1, gl k h3 c0 c1]
      show _ = mixC N.K (n.f 15) ((chL (allE N v u cs k) i).getD n.a.toNat Ch.zero) ((chL (allE N v u cs k) i).getD n.b.toNat Ch.zero)
      rw [g k a0 a1, g k c0 c1]
    have hob : ObsOk (evA N o e cells (lights (ltF N v u cs) i) v u off len cap i (i : Int) x dMx).ob := by
      rw [evOm]
      unfold mxObs
      rw [hnd0, ev 0 (by decide), ev 1 (by decide), ev 2 (by decide)]
      refine ob_c hA (ndOb_ok b1 b2 b3 (ob_a (rdOb_ok c0 c1 (by decide)) (rdOb_ok a0 a1 (by decide))) (ob_a (rdOb_ok c0 c1 (by decide)) (rdOb_ok a0 a1 (by decide))) (ob_a (rdOb_ok c0 c1 (by decide)) (rdOb_ok a0 a1 (by decide))) (ob_a (ob_c (beq_t h5) ob_n) hH))
    have hM := evMm N o e cells (lights (ltF N v u cs) i) v u off len cap i (i : Int) x
    rw [hnd0, ltC_ext (d := fun k => ltF N v u cs k i) (fun k h3 => by rw [ev k h3]; exact (hF k).symm)] at hM
    refine RunsB.re (d := some dMx) (o := []) (RunsB.sel (RunsP.bs (Lands.runs goodG hO (evLm N o e cells (lights (ltF N v u cs) i) v u off len cap i (i : Int) x) hob)) rfl hM (hk 19) fun vv => ?_)
    refine ⟨_, ⟨evXm N o e cells (lights (ltF N v u cs) i) v u off len cap i (i : Int) x vv, rfl⟩, same_eq ?_ ?_⟩
    · have hT := evTm N o e cells (lights (ltF N v u cs) i) v u off len cap i (i : Int) x vv
      rw [hw] at hT
      exact (hT _).symm
    · rw [sel_M]; rfl
  by_cases h6 : n.k = 6
  · obtain ⟨a0, a1⟩ := okNd_coat hnd h6
    rw [decide_eq_false h5, decide_eq_true h6, cond_false, cond_true] at b0
    simp only [Bool.and_eq_true, decide_eq_true_eq] at b0
    obtain ⟨⟨v1, v2⟩, u1, u2⟩ := b0
    have ev : ∀ k, k < 3 → overC N.K (N.D v.z ⟨n.f 14, n.f 14⟩).1 (N.D u.z ⟨n.f 14, n.f 14⟩).1 (n.f (3 + k)) (lcAt (lights (ltF N v u cs) i) k n.a.toNat) = evN N v u k (fun j => (chL (allE N v u cs k) i).getD j Ch.zero) n := fun k h3 => by
      unfold evN
      rw [decide_eq_false h5, decide_eq_true h6, cond_false, cond_true, gl k h3 a0 a1]
      show _ = overC N.K (N.D v.z ⟨n.f 14, n.f 14⟩).1 (N.D u.z ⟨n.f 14, n.f 14⟩).1 (n.f (3 + k)) ((chL (allE N v u cs k) i).getD n.a.toNat Ch.zero)
      rw [g k a0 a1]
    have hob : ObsOk (evA N o e cells (lights (ltF N v u cs) i) v u off len cap i (i : Int) x dCo).ob := by
      rw [evOc]
      unfold coObs ovE coO
      rw [hnd0, ev 0 (by decide), ev 1 (by decide), ev 2 (by decide)]
      refine ob_c hA (ndOb_ok b1 b2 b3 (rdOb_ok a0 a1 (by decide)) (rdOb_ok a0 a1 (by decide)) (rdOb_ok a0 a1 (by decide)) (ob_c (beq_t u2) (ob_a (ob_a (ob_a (Bu.obsB_ok u1) (ob_c (ne_0 v2) (ob_a (Bu.obsB_ok v1) ob_n))) (ob_c (beq_t h6) (ob_c (beq_f h5) ob_n))) hH)))
    have hM := evMc N o e cells (lights (ltF N v u cs) i) v u off len cap i (i : Int) x
    unfold ovE at hM
    rw [hnd0, ltC_ext (d := fun k => ltF N v u cs k i) (fun k h3 => by rw [ev k h3]; exact (hF k).symm)] at hM
    refine RunsB.re (d := some dCo) (o := []) (RunsB.sel (RunsP.bs (Lands.runs goodG hO (evLc N o e cells (lights (ltF N v u cs) i) v u off len cap i (i : Int) x) hob)) rfl hM (hk 20) fun vv => ?_)
    refine ⟨_, ⟨evXc N o e cells (lights (ltF N v u cs) i) v u off len cap i (i : Int) x vv, rfl⟩, same_eq ?_ ?_⟩
    · have hT := evTc N o e cells (lights (ltF N v u cs) i) v u off len cap i (i : Int) x vv
      rw [hw] at hT
      exact (hT _).symm
    · rw [sel_M]; rfl
  · rw [decide_eq_false h5, decide_eq_false h6, cond_false, cond_false] at b0
    simp only [Bool.and_eq_true] at b0
    obtain ⟨l0, l1, l2⟩ := b0
    have ev : ∀ k, evN N v u k (fun j => (chL (allE N v u cs k) i).getD j Ch.zero) n = (⟨(N.g (lfE v u k n)).1, I.zero⟩, (N.g (lfE v u k n)).2) := fun k => by
      unfold evN
      rw [decide_eq_false h5, decide_eq_false h6, cond_false, cond_false]
    rw [ev] at b1 b2 b3
    have hob : ObsOk (evA N o e cells (lights (ltF N v u cs) i) v u off len cap i (i : Int) x dLf).ob := by
      rw [evOl]
      unfold lfObs
      rw [hnd0]
      exact ob_c hA (ndOb_ok b1 b2 b3 (Bu.obsB_ok l0) (Bu.obsB_ok l1) (Bu.obsB_ok l2) (ob_a (ob_c (beq_f h6) (ob_c (beq_f h5) ob_n)) hH))
    have hM := evMl N o e cells (lights (ltF N v u cs) i) v u off len cap i (i : Int) x
    rw [hnd0, ltC_ext (d := fun k => ltF N v u cs k i) (fun k h3 => by rw [hF k, ev k])] at hM
    refine RunsB.re (d := some dLf) (o := []) (RunsB.sel (RunsP.bs (Lands.runs goodG hO (evLl N o e cells (lights (ltF N v u cs) i) v u off len cap i (i : Int) x) hob)) rfl hM (hk 19) fun vv => ?_)
    refine ⟨_, ⟨evXl N o e cells (lights (ltF N v u cs) i) v u off len cap i (i : Int) x vv, rfl⟩, same_eq ?_ ?_⟩
    · have hT := evTl N o e cells (lights (ltF N v u cs) i) v u off len cap i (i : Int) x vv
      rw [hw] at hT
      exact (hT _).symm
    · rw [sel_M]; rfl
end
end Go.Proofs.YtgjohjgmlleebaaGreat
namespace Rx
set_option linter.all false
open Go Go.RowKit
/-- a row made by append, of numbers alone, counts as such -/
theorem RunsB.numr {P : Program} {B : Bs} {c : Code} {s : St} {ex : Ex} {Φ Ψ : St → Prop} (h : RunsB P B c s ex Φ)
    (k : ∀ t, Φ t → ∃ n e cells z, t.M[n]? = some ⟨e, cells, .row z⟩ ∧ idsLts 0 cells = true ∧ Ψ ⟨t.T, t.M.set n ⟨e, cells, .rown z⟩, t.ds, t.ob⟩) : RunsB P B c s ex Ψ := by
  intro m a w Q hs hg hq
  refine h m a w Q hs hg fun t m' a' w' h1 hst hg' => ?_
  obtain ⟨n, e, cells, z, hb, hi, hΨ⟩ := k t h1
  have hnl : n < t.M.length := (List.getElem?_eq_some_iff.1 hb).1
  have lv : ∀ j, liveM (t.M.set n ⟨e, cells, .rown z⟩) j → liveM t.M j := fun j hl => by
    obtain ⟨b, h2, h3⟩ := hl
    rw [List.getElem?_set] at h2
    split at h2
    · rename_i e1
      subst e1
      exact ⟨_, hb, rfl⟩
    · exact ⟨b, h2, h3⟩
  refine hq _ m' a' w' hΨ ⟨hst.tm, hst.df, ⟨hst.mem.ok, fun j j' q l1 l2 h1 h2 => hst.mem.inj j j' q (lv j l1) (lv j' l2) h1 h2, fun j b hj => ?_, fun j q hj => ?_⟩⟩ ⟨hg'.ext, hg'.fr, hg'.new, fun j q hj hl => hg'.dd j q hj (lv j hl)⟩
  · have hj0 : (t.M.set n ⟨e, cells, .rown z⟩)[j]? = some b := hj
    rw [List.getElem?_set] at hj0
    split at hj0
    · rename_i e1
      subst e1
      simp only [Option.some.injEq] at hj0
      subst hj0
      obtain ⟨r, hr, hat⟩ := hst.mem.blk n _ hb
      refine ⟨r, hr, fun _ => ?_⟩
      obtain ⟨cv, sp, d1, h2, k1⟩ := hat rfl
      exact ⟨cv, sp, d1, h2, ⟨k1, hi⟩⟩
    · exact hst.mem.blk j b hj0
  · show j < (t.M.set n _).length
    rw [List.length_set]; exact hst.mem.dom j q hj
theorem RunsB.keep {P : Program} {B : Bs} {d : Code} {t : St} {ex : Ex} {Φ : St → Prop} {ids : List Nat} {M' : List Blk} (hn : nodupB ids = true) (hM : selM t.M ids = some M') (hk : ∀ (n : Nat), n < B.M.length → ids[n]? = some n) (h : ∀ v, RunsB P B d (t.sel ids M' v) ex Φ) : RunsB P B d t ex Φ :=
  fun m _ w Q hs hg hq => h _ (m.sel ids) _ w Q (hs.sel hn hM) (hg.sel hn hM hk) hq
theorem rd_of_runsB {P : Program} {g : FuncId} {fn : Func} {c : Code} (hg : P.funcs[g]? = some fn) (hb : fn.body = some c) {cs l : List SV} {len : Nat} {vc vs : List Value} {x : SV} {v : Value} (hc : plains cs = some vc) (hl : plains l = some vs) (hx : plain x = some v) {d : Dec}
    (h : ∀ (e : TypeId) (cells : List SV) (off cap : Nat), CellsAt cells off cs → idsLts 0 cells = true → ∀ B : Bs, B.M = [⟨e, cells, .num⟩] →
      RunsB P B c ⟨(.ssl 0 off len cap :: l) ++ List.replicate (fn.ntmps - (l.length + 1)) (.tup []), [⟨e, cells, .num⟩], d, []⟩ .ret (fun t => resultS P fn t = some x ∧ ∃ rest, t.M = ⟨e, cells, .num⟩ :: rest))
    (w : World) (r off cap : Nat) (hw : RowAt w r off vc) : Calls P g (Value.slice (some ⟨r, off, none⟩) len cap :: vs).toArray w fun e w' => e = .returned v ∧ Below w.heap.size w w' := by
  obtain ⟨m, e, cells, hM, h0, hca, hid⟩ := rd_cells hc hw
  have hd : dens m (.ssl 0 off len cap :: l) = some (Value.slice (some ⟨r, off, none⟩) len cap :: vs) := dens_cons (by simp only [den, h0, Option.map_some]) (dens_plains hl)
  refine Calls.mono (RunsB.call hg hb (args := .ssl 0 off len cap :: l) (x := fun _ => x) hd hM (h e cells off cap hca hid ⟨m, [⟨e, cells, .num⟩], w, hM⟩ rfl) (fun t ht => ht.1)) fun ex w' ⟨t, m', u, ⟨_, rest, hr⟩, he, hv, hM', hgo⟩ => ?_
  rw [den_plain hx] at hv
  have := Option.some.inj hv
  subst this
  rw [hr] at hM' hgo
  exact ⟨he, Goes.read hM hgo hM'⟩
end Rx
namespace Bu
set_option linter.all false
open Rx Go
theorem lt_s {lc : List SV} {a : Nat} {c : Nat → Ch} (h : CellsAt lc (a * 12) (ltC c)) : Go.Proofs.YtgjohjgmlleebaaGreat.ltS lc a = .agg (ltC c) := by
  have e0 := h 0 _ rfl
  have e1 := h 1 _ rfl
  have e2 := h 2 _ rfl
  have e3 := h 3 _ rfl
  have e4 := h 4 _ rfl
  have e5 := h 5 _ rfl
  have e6 := h 6 _ rfl
  have e7 := h 7 _ rfl
  have e8 := h 8 _ rfl
  have e9 := h 9 _ rfl
  have e10 := h 10 _ rfl
  have e11 := h 11 _ rfl
  rw [Nat.add_zero] at e0
  unfold Go.Proofs.YtgjohjgmlleebaaGreat.ltS
  simp only [flAt, e0, e1, e2, e3, e4, e5, e6, e7, e8, e9, e10, e11]
  rfl
end Bu
namespace Go.Proofs.YtgjohjgmlleebaaGreat
set_option linter.all false
open Go.RowKit Bu Rx
section
variable {N : Nde} {o : List SV → Nat → Bool} (hO : OracleOk Tryz.prog (OE o N)) {e : TypeId} {cells cs : List SV} {v u : V3} {off len cap : Nat} {B : Bs} (hB1 : B.M.length = 1) (K : OkPg cs len) (hca : CellsAt cells off cs) (hB : evB N v u cs len = true)
include hO hB1 K hca hB
set_option maxRecDepth 20000 in
theorem ev_first {x : Nat → SV} : RunsB Tryz.prog B eBd (evS0 e cells v u off len cap ((0 : Nat) : Int) x none) .normal (fun t => ∃ x', t = evS e cells (lights (ltF N v u cs) 1) v u off len cap 1 ((1 : Nat) : Int) x' none) := by
  have hi : 0 < len := K.lo
  obtain ⟨hck, hnr⟩ := K.at hca hi
  have hk : ∀ n, n < B.M.length → ([0, 1, 2, 3, 18] : List Nat)[n]? = some n := fun n hn => by
    rw [hB1] at hn
    have : n = 0 := by omega
    subst this; rfl
  have hnd0 : nd0 cells off ((0 : Nat) : Int) = ndR cs (0 * 19) := by unfold nd0; rw [Int.toNat_natCast]; exact hnr
  have hH := evHd_ok (len := len) hck hi
  have b := evB_at hB hi
  have hnd := K.nd 0 hi
  have hF : ∀ k, ltF N v u cs k 0 = (evN N v u k (fun j => (chL (allE N v u cs k) 0).getD j Ch.zero) (ndR cs (0 * 19))).1 := fun _ => rfl
  have hrow : lights (ltF N v u cs) 1 = ltC (fun k => ltF N v u cs k 0) := rfl
  rw [hrow]
  unfold evNB at b
  simp only [Bool.and_eq_true, decide_eq_true_eq] at b
  obtain ⟨b0, b1, b2, b3⟩ := b
  generalize ndR cs (0 * 19) = n at hnd hnd0 b0 b1 b2 b3 hF
  have h5 : n.k ≠ 5 := fun h5 => by
    obtain ⟨⟨a0, a1⟩, _⟩ := okNd_mix hnd h5
    have : ((0 : Nat) : Int) = 0 := rfl
    omega
  have h6 : n.k ≠ 6 := fun h6 => by
    obtain ⟨a0, a1⟩ := okNd_coat hnd h6
    have : ((0 : Nat) : Int) = 0 := rfl
    omega
  rw [decide_eq_false h5, decide_eq_false h6, cond_false, cond_false] at b0
  simp only [Bool.and_eq_true] at b0
  obtain ⟨l0, l1, l2⟩ := b0
  have ev : ∀ k, evN N v u k (fun j => (chL (allE N v u cs k) 0).getD j Ch.zero) n = (⟨(N.g (lfE v u k n)).1, I.zero⟩, (N.g (lfE v u k n)).2) := fun k => by
    unfold evN
    rw [decide_eq_false h5, decide_eq_false h6, cond_false, cond_false]
  rw [ev] at b1 b2 b3
  have hob : ObsOk (evZ N o e cells v u off len cap ((0 : Nat) : Int) x).ob := by
    rw [evOz]
    unfold lfObs
    rw [hnd0]
    exact ndOb_ok b1 b2 b3 (Bu.obsB_ok l0) (Bu.obsB_ok l1) (Bu.obsB_ok l2) (ob_a (ob_c (beq_f h6) (ob_c (beq_f h5) ob_n)) hH)
  have hM := evMz N o e cells v u off len cap ((0 : Nat) : Int) x
  rw [hnd0, ltC_ext (d := fun k => ltF N v u cs k 0) (fun k h3 => by rw [hF k, ev k])] at hM
  generalize ltF N v u cs = F at hM ⊢
  have hw : IntKind.i64.wrap (((0 : Nat) : Int) + 1) = ((1 : Nat) : Int) := by decide
  refine RunsB.fin (Φ := fun t => ∃ x', t = ⟨evT off len cap v u (.osl false 4 (0 + 1)) (.si .i64 ((1 : Nat) : Int)) x', evP e cells v u ++ [⟨77, ltC (fun k => F k 0), .rown 12⟩], none, []⟩) ?_ fun t ⟨x', ht⟩ => ?_
  · refine RunsB.numr (Φ := fun t => ∃ x', t = ⟨evT off len cap v u (.osl false 4 (0 + 1)) (.si .i64 ((1 : Nat) : Int)) x', evP e cells v u ++ [⟨77, ltC (fun k => F k 0), .row 12⟩], none, []⟩) ?_ fun t ⟨x', ht⟩ => ?_
    · refine RunsB.re (d := some [true, false, false, true, true, false]) (o := []) (RunsB.sel (RunsP.bs (Lands.runs goodG hO (evLz N o e cells v u off len cap ((0 : Nat) : Int) x) hob)) rfl hM hk fun vv => ?_)
      refine ⟨_, ⟨evXz N o e cells v u off len cap ((0 : Nat) : Int) x vv, rfl⟩, same_eq ?_ ?_⟩
      · have hT := evTz N o e cells v u off len cap ((0 : Nat) : Int) x vv
        rw [hw] at hT
        exact (hT _).symm
      · rw [sel_M]
    · subst ht
      exact ⟨4, 77, ltC (fun k => F k 0), 12, rfl, rfl, x', rfl⟩
  · subst ht
    exact ⟨_, ⟨x', rfl⟩, same_T (fun m => by simp only [evS, evT, dens, den, Nat.zero_add]) rfl⟩
theorem ev_loop {x : Nat → SV} : RunsB Tryz.prog B (.block 0 (.loop eBd)) (evS0 e cells v u off len cap ((0 : Nat) : Int) x none) .normal (fun t => ∃ y, t = evS e cells (lights (ltF N v u cs) len) v u off len cap len (len : Int) y none) := by
  have hlo := K.lo
  refine loop_invB (fun (j : Nat) (y : Nat → SV) => match j with
    | 0 => evS0 e cells v u off len cap ((0 : Nat) : Int) y none
    | j + 1 => evS e cells (lights (ltF N v u cs) (j + 1)) v u off len cap (j + 1) ((j + 1 : Nat) : Int) y none) (fun _ _ => True) len ?_ ?_ _ trivial
  · intro j y hj _
    cases j with
    | zero => exact RunsB.mono (ev_first hO hB1 K hca hB) fun t ⟨x', ht⟩ => ⟨x', trivial, ht⟩
    | succ j => exact RunsB.mono (ev_round hO hB1 K hca hB hj) fun t ⟨x', ht⟩ => ⟨x', trivial, ht⟩
  · intro y _
    obtain ⟨n, rfl⟩ : ∃ n, len = n + 1 := ⟨len - 1, by omega⟩
    have hob : ObsOk (aft Tryz.prog EG (OE o N) 60 eBd (evS e cells (lights (ltF N v u cs) (n + 1)) v u off (n + 1) cap (n + 1) ((n + 1 : Nat) : Int) y (some [false]))).ob := by rw [evXo]; exact ob_c (decide_eq_false (by omega)) ob_n
    refine RunsB.re (d := some [false]) (o := []) (RunsP.bs (Lands.fin goodG hO (evLx N o e cells _ v u off (n + 1) cap (n + 1) _ y) hob ?_))
    refine ⟨_, ⟨_, rfl⟩, same_eq (congrArg St.T (evXo N o e cells _ v u off (n + 1) cap (n + 1) _ y)).symm (congrArg St.M (evXo N o e cells _ v u off (n + 1) cap (n + 1) _ y)).symm⟩
set_option maxRecDepth 20000 in
theorem ev_all (ho : o ((cells.drop off).take (len * 19)) len = true) (hd : ObsOk (vcO u ++ vcO v)) (hBM : B.M = [⟨e, cells, .num⟩]) : RunsB Tryz.prog B eC (eEn e cells v u off len cap none) .ret
    (fun t => resultS Tryz.prog Tryz.f40 t = some (.tup [.agg (ltC (fun k => ltF N v u cs k (len - 1))), .i .i64 0]) ∧ ∃ rest, t.M = ⟨e, cells, .num⟩ :: rest) := by
  have hlo := K.lo
  have hhi := K.hi
  have hE : ObsOk (evEO o cells v u off len) := by
    have hu : ObsOk (vcO u) := fun p hp => hd p (List.mem_append_left _ hp)
    have hv : ObsOk (vcO v) := fun p hp => hd p (List.mem_append_right _ hp)
    exact ob_a hu (ob_a hv (ob_c ho ob_n))
  refine RunsB.re (d := some (List.replicate 18 true)) (o := []) ((evL4 N o e cells v u off len cap).ok goodG hO (by rw [evO4]; exact hE) ?_)
  rw [eC_cut]
  refine RunsB.seq (Φ := fun t => ∃ y, t = evS e cells (lights (ltF N v u cs) len) v u off len cap len (len : Int) y none) ?_ fun t ⟨y, ht⟩ => ?_
  · refine LandsB.seq goodG hO (evL5 N o e cells v u off len cap) (by rw [evO5]; exact hE) ?_
    refine RunsB.keep (ids := [0, 1, 2, 3]) rfl (evM5 N o e cells v u off len cap) (fun n hn => by
      rw [hB1] at hn
      have : n = 0 := by omega
      subst this; rfl) fun vv => ?_
    have hs : SameSt (evS0 e cells v u off len cap ((0 : Nat) : Int) (ev5X N o e cells v u off len cap vv) none) ((ev5 N o e cells v u off len cap).sel [0, 1, 2, 3] (evP e cells v u) vv) := by
      refine same_T (fun m => ?_) rfl
      rw [evT5]
      simp only [evS0, evT, dens, den, Int.natCast_zero]
    exact RunsB.retell hs (ev_loop hO hB1 K hca hB)
  · subst ht
    have hw : IntKind.i64.wrap ((len : Int) - 1) = ((len - 1 : Nat) : Int) := by rw [IntKind.wrap_i64]; omega
    have hat := lights_at (ltF N v u cs) (show len - 1 < len by omega)
    refine RunsP.bs (Lands.all goodG hO (evEL N o e cells _ v u off len cap len (len : Int) y) ?_ ⟨?_, evEM N o e cells _ v u off len cap len (len : Int) y⟩)
    · rw [evEO_, hw, Int.toNat_natCast]
      exact ob_c (lt_ck hat) (ob_c (ix_of (by omega) (by omega)) ob_n)
    · rw [evER, hw, Int.toNat_natCast, lt_s hat]
end
/-- eval.Eval of a right program, without an error -/
def kEv (N : Nde) : RdF := fun cs len l ds => match l with
  | [.agg [.fl x0, .fl x1, .fl x2, .fl x3, .fl x4, .fl x5], .agg [.fl y0, .fl y1, .fl y2, .fl y3, .fl y4, .fl y5]] =>
    some (.tup [.agg (ltC (fun k => ltF N ⟨⟨x0, x1⟩, ⟨x2, x3⟩, ⟨x4, x5⟩⟩ ⟨⟨y0, y1⟩, ⟨y2, y3⟩, ⟨y4, y5⟩⟩ cs k (len - 1))), .i .i64 0], ds,
      (decide (cs.length = len * 19), true) :: (okPg cs len, true) :: (evB N ⟨⟨x0, x1⟩, ⟨x2, x3⟩, ⟨x4, x5⟩⟩ ⟨⟨y0, y1⟩, ⟨y2, y3⟩, ⟨y4, y5⟩⟩ cs len, true) :: (vcO ⟨⟨y0, y1⟩, ⟨y2, y3⟩, ⟨y4, y5⟩⟩ ++ vcO ⟨⟨x0, x1⟩, ⟨x2, x3⟩, ⟨x4, x5⟩⟩))
  | _ => none
def ltV (c : Nat → Ch) : Value := .agg #[.float .f64 (c 0).p.lo.b, .float .f64 (c 0).p.hi.b, .float .f64 (c 1).p.lo.b, .float .f64 (c 1).p.hi.b, .float .f64 (c 2).p.lo.b, .float .f64 (c 2).p.hi.b, .float .f64 (c 0).m.lo.b, .float .f64 (c 0).m.hi.b, .float .f64 (c 1).m.lo.b, .float .f64 (c 1).m.hi.b, .float .f64 (c 2).m.lo.b, .float .f64 (c 2).m.hi.b]
theorem lt_plain (c : Nat → Ch) : plain (.tup [.agg (ltC c), .i .i64 0]) = some (.tuple #[ltV c, .int .i64 0]) := rfl
theorem evlRd {N : Nde} (hO : OracleOk Tryz.prog (OE okPg N)) : RdOk Tryz.prog 40 (kEv N) := by
  intro cs len l ds x ds' ob h ho
  unfold kEv at h
  split at h
  · rename_i x0 x1 x2 x3 x4 x5 y0 y1 y2 y3 y4 y5
    simp only [Option.some.injEq, Prod.mk.injEq] at h
    obtain ⟨rfl, _, rfl⟩ := h
    have hl : cs.length = len * 19 := of_decide_eq_true (ho _ (List.mem_cons_self ..))
    have hok := ho _ (List.mem_cons_of_mem _ (List.mem_cons_self ..))
    have K := okPg_ok hok
    have hB := ho _ (List.mem_cons_of_mem _ (List.mem_cons_of_mem _ (List.mem_cons_self ..)))
    have hd : ObsOk (vcO ⟨⟨y0, y1⟩, ⟨y2, y3⟩, ⟨y4, y5⟩⟩ ++ vcO ⟨⟨x0, x1⟩, ⟨x2, x3⟩, ⟨x4, x5⟩⟩) := fun p hp => ho p (List.mem_cons_of_mem _ (List.mem_cons_of_mem _ (List.mem_cons_of_mem _ hp)))
    obtain ⟨vc, hc⟩ := K.pl
    refine ⟨vc, _, _, hc, rfl, lt_plain _, fun w r off cap hw => ?_⟩
    refine rd_of_runsB (d := none) Tryz.func40 eBody hc (l := [.agg [.fl x0, .fl x1, .fl x2, .fl x3, .fl x4, .fl x5], .agg [.fl y0, .fl y1, .fl y2, .fl y3, .fl y4, .fl y5]]) rfl (lt_plain _) (fun e cells off cap hca hid B hBM => ?_) w r off cap hw
    exact ev_all (v := ⟨⟨x0, x1⟩, ⟨x2, x3⟩, ⟨x4, x5⟩⟩) (u := ⟨⟨y0, y1⟩, ⟨y2, y3⟩, ⟨y4, y5⟩⟩) hO (by rw [hBM]; rfl) K hca hB (by rw [← hl, at_take hca]; exact hok) hd hBM
  · cases h
end Go.Proofs.YtgjohjgmlleebaaGreat
namespace Go.Proofs.YtgjohjgmlleebaaGreat
set_option linter.all false
open Go.RowKit Bu Rx
theorem vnK : PlainOk Tryz.prog 142 (kVn (vlG GmR KkR) vlO) := by
  intro args ds x ds' ob h ho
  unfold kVn at h
  split at h
  · rename_i y ch p0 p1 p2 p3 p4 p5 r0 r1 r2 r3 r4 r5
    split at h
    · rename_i n c hn hc
      simp only [Option.some.injEq, Prod.mk.injEq] at h
      obtain ⟨rfl, _, rfl⟩ := h
      have ha : n.a = 0 := of_decide_eq_true (ho _ (List.mem_cons_self ..))
      have hb : n.b = 0 := of_decide_eq_true (ho _ (List.mem_cons_of_mem _ (List.mem_cons_self ..)))
      have h4 : ObsOk (vlO ⟨n.k, etaF n.f, c, ⟨⟨p0, p1⟩, ⟨p2, p3⟩, ⟨p4, p5⟩⟩, ⟨⟨r0, r1⟩, ⟨r2, r3⟩, ⟨r4, r5⟩⟩⟩) := fun p hp => ho p (List.mem_cons_of_mem _ (List.mem_cons_of_mem _ hp))
      have hy := ndOf_plain hn
      have hch := intS_plain hc
      have hnd : ndV n = nodeV n.k (etaF n.f) := by
        unfold ndV; rw [ha, hb]; rfl
      rw [hnd] at hy
      obtain ⟨vs, v, h5, h6, h7⟩ := valK (vArgs n.k (etaF n.f) c ⟨⟨p0, p1⟩, ⟨p2, p3⟩, ⟨p4, p5⟩⟩ ⟨⟨r0, r1⟩, ⟨r2, r3⟩, ⟨r4, r5⟩⟩) ds _ ds _ rfl h4
      refine ⟨vs, v, ?_, h6, h7⟩
      rw [← h5]
      have e1 : plain (nodeS n.k (etaF n.f)) = some (nodeV n.k (etaF n.f)) := (nd_pl _ _).1
      have e2 : plain (.si .i64 c) = some (.int .i64 c) := rfl
      show plains (y :: ch :: _) = plains (nodeS n.k (etaF n.f) :: .si .i64 c :: _)
      unfold plains plains
      rw [hy, e1, hch, e2]
      rfl
    · cases h
  · cases h
/-- names -/
structure Nee where
  o : List SV → Nat → Bool
  g : V3 → V3 → List SV → Nat → Nat → Ch
  b : V3 → V3 → List SV → Nat → Bool
def neE (N : Nde) : Nee := ⟨okPg, fun v u cs len k => ltF N v u cs k (len - 1), fun v u cs len => evB N v u cs len⟩
def kEw (E : Nee) : RdF := fun cs len l ds => match l with
  | [.agg [.fl x0, .fl x1, .fl x2, .fl x3, .fl x4, .fl x5], .agg [.fl y0, .fl y1, .fl y2, .fl y3, .fl y4, .fl y5]] =>
    some (.tup [.agg (ltC (E.g ⟨⟨x0, x1⟩, ⟨x2, x3⟩, ⟨x4, x5⟩⟩ ⟨⟨y0, y1⟩, ⟨y2, y3⟩, ⟨y4, y5⟩⟩ cs len)), .i .i64 0], ds,
      (decide (cs.length = len * 19), true) :: (E.o cs len, true) :: (E.b ⟨⟨x0, x1⟩, ⟨x2, x3⟩, ⟨x4, x5⟩⟩ ⟨⟨y0, y1⟩, ⟨y2, y3⟩, ⟨y4, y5⟩⟩ cs len, true) :: (vcO ⟨⟨y0, y1⟩, ⟨y2, y3⟩, ⟨y4, y5⟩⟩ ++ vcO ⟨⟨x0, x1⟩, ⟨x2, x3⟩, ⟨x4, x5⟩⟩))
  | _ => none
theorem kEv_w (N : Nde) : kEv N = kEw (neE N) := by
  funext cs len l ds
  unfold kEv kEw
  rfl
noncomputable def NeR : Nde := ⟨KkR, fun c n => lnR (fdK KkR c n) 0, fdO, vlG GmR KkR, vlO⟩
theorem oracleOE : OracleOk Tryz.prog (OE okPg NeR) :=
  .cons addC <| .cons subC <| .cons mulC <| .cons divC <| .cons cmax_I <| .cons sqrC <| .cons csqrt_I <|
  .cons negC <|
  .cons numC <| .cons irtK.of <| .cons rightG.of <| .cons absG.of <| .cons vwG.of <| .cons piG.of <| .cons rgtG.of <| .cons fdG.of <| .cons vnK.of <| .nil _
noncomputable def ER : Nee := neE NeR
theorem evwK : RdOk Tryz.prog 40 (kEw ER) := by
  have h := evlRd oracleOE
  rw [kEv_w] at h
  exact h
def OEt (E : Nee) (un : F → F → F → V3) (ub : F → F → F → Bool) : OracleF := lookO [(31, kRd 19 (kRgt E.o)), (33, plainO (kUn un ub)), (40, kRd 19 (kEw E))]
section
variable (E : Nee) (un : F → F → F → V3) (ub : F → F → F → Bool) (e : TypeId) (cells : List SV) (off len cap : Nat) (x y z r s t : F)
def etO (E : Nee) (un : F → F → F → V3) (ub : F → F → F → Bool) (cs : List SV) (len : Nat) (x y z r s t : F) : Obs :=
  ((decide (cs.length = len * 19), true) :: (E.o cs len, true) :: (E.b (un x y z) (un r s t) cs len, true) :: (vcO (un r s t) ++ vcO (un x y z))) ++ [(decide (t.k ≤ (toF 0).k), false), (decide (z.k ≤ (toF 0).k), false), (ub r s t, true), (ub x y z, true), (E.o cs len, true)]
theorem etRun : ((run Tryz.prog EG (OEt E un ub) 60).1 34 [.ssl 0 off len cap, .agg [.fl x, .fl y, .fl z], .agg [.fl r, .fl s, .fl t]] [⟨e, cells, .num⟩] (some [true, true, false, false])).map (fun q => (q.1, q.2.1.take 1, q.2.2)) =
    some (.tup [.agg (ltC (E.g (un x y z) (un r s t) (cutC cells off len) len)), .i .i64 0], [⟨e, cells, .num⟩], some [], etO E un ub (cutC cells off len) len x y z r s t) := by kernel_rfl
end
def kEt (E : Nee) (un : F → F → F → V3) (ub : F → F → F → Bool) : RdF := fun cs len l ds => match l with
  | [.agg [.fl x, .fl y, .fl z], .agg [.fl r, .fl s, .fl t]] => some (.tup [.agg (ltC (E.g (un x y z) (un r s t) cs len)), .i .i64 0], ds, etO E un ub cs len x y z r s t)
  | _ => none
theorem etG {E : Nee} {un : F → F → F → V3} {ub : F → F → F → Bool} (hO : OracleOk Tryz.prog (OEt E un ub)) (hD : E.o = okPg) : RdOk Tryz.prog 34 (kEt E un ub) := by
  intro cs len l ds x ds' ob h ho
  unfold kEt at h
  split at h
  · rename_i x y z r s t
    simp only [Option.some.injEq, Prod.mk.injEq] at h
    obtain ⟨rfl, _, rfl⟩ := h
    have h1 : cs.length = len * 19 := of_decide_eq_true (ho.left _ (List.mem_cons_self ..))
    have h2 : E.o cs len = true := ho.left _ (List.mem_cons_of_mem _ (List.mem_cons_self ..))
    obtain ⟨vc, hc⟩ := (okPg_ok (hD ▸ h2)).pl
    refine ⟨vc, _, _, hc, rfl, lt_plain _, fun w q off cap hw => ?_⟩
    refine rd_of_runT goodG hO 60 (l := [.agg [.fl x, .fl y, .fl z], .agg [.fl r, .fl s, .fl t]]) hc rfl (lt_plain _) (fun e cells off cap hca => ?_) w q off cap hw
    have hr := etRun E un ub e cells off len cap x y z r s t
    rw [cut_at hca h1] at hr
    exact ⟨_, _, _, hr, ho⟩
  · cases h
theorem rgtG3 {E : Nee} (hD : E.o = okPg) : RdOk Tryz.prog 31 (kRgt E.o) := by rw [hD]; exact rgtG
theorem oracleEt : OracleOk Tryz.prog (OEt ER (unV KkR) unB) := .cons (rgtG3 rfl).of <| .cons unG.of <| .cons evwK.of <| .nil _
theorem etK : RdOk Tryz.prog 34 (kEt ER (unV KkR) unB) := etG oracleEt rfl
end Go.Proofs.YtgjohjgmlleebaaGreat
namespace Go.Proofs.YtgjohjgmlleebaaGreat
set_option linter.all false
open Go.RowKit Bu Rx
end Go.Proofs.YtgjohjgmlleebaaGreat
namespace Go.Proofs.YtgjohjgmlleebaaGreat
set_option linter.all false
open Go.RowKit Bu Rx
end Go.Proofs.YtgjohjgmlleebaaGreat
namespace Go.Proofs.YtgjohjgmlleebaaGreat
set_option linter.all false
open Go.RowKit Bu Rx
structure Nlb where
  N : Npr
  g : List SV → Nat → List SV
  b : List SV → Nat → Bool
  E : Nee
  un : F → F → F → V3
  ub : F → F → F → Bool
  me : I → I → Bool
def prgB_O (g : List SV → Nat → List SV) (b : List SV → Nat → Bool) : OF := eiO (kPr g b) (kPz g)
def u6B (u : U6) : List SV := [.si .u32 u.a0, .si .u32 u.a1, .si .u32 u.a2, .si .u32 u.a3, .si .u32 u.a4, .si .u32 u.a5]
def ebM (pc : List SV) (u : U6) : List Blk := [⟨24, u6B u, .ex⟩, ⟨44, pc, .rown 19⟩]
section
variable (W : Nlb) (el : TypeId) (z : Nat × Nat) (cells : List SV) (off len cap : Nat) (u : U6) (i : Int)
end
end Go.Proofs.YtgjohjgmlleebaaGreat
namespace Go.Proofs.YtgjohjgmlleebaaGreat
set_option linter.all false
open Go.RowKit Bu Rx
def OLd (W : Nlb) (D : Ndn) : OracleF := lookO [(15, prgB_O W.g W.b), (19, plainO (kBw W.N.b W.N.p W.N.w)), (24, kRd 19 (kAtt D W.un W.ub)), (34, kRd 19 (kEt W.E W.un W.ub)), (31, kRd 19 (kRgt W.E.o)), (21, plainO (oConst (.b true)))]
noncomputable def ddC : Code := bodyOf Tryz.prog 14
theorem ddBody : Tryz.f14.body = some ddC := by kernel_rfl
noncomputable def ddA (el : TypeId) (z : Nat × Nat) (cells : List SV) (off len cap : Nat) (u : U6) : St := ⟨([.ssl 0 off len cap, u.sv] : List SV) ++ List.replicate (Tryz.f14.ntmps - 2) (.tup []), [⟨el, cells, .ro z⟩], none, []⟩
noncomputable def ddZ (u : U6) : St := ⟨([.o (.slice none 0 0), u.sv] : List SV) ++ List.replicate (Tryz.f14.ntmps - 2) (.tup []), [], none, []⟩
noncomputable abbrev ddA2 (W : Nlb) (D : Ndn) (el : TypeId) (z : Nat × Nat) (cells : List SV) (off len cap : Nat) (u : U6) : St := aftN Tryz.prog EG (OLd W D) 60 2 ddC (ddA el z cells off len cap u)
noncomputable abbrev ddZ2 (W : Nlb) (D : Ndn) (u : U6) : St := aftN Tryz.prog EG (OLd W D) 60 2 ddC (ddZ u)
theorem ddLa (W : Nlb) (D : Ndn) (el : TypeId) (z : Nat × Nat) (cells : List SV) (off len cap : Nat) (u : U6) : LandsN Tryz.prog EG (OLd W D) 60 2 ddC (ddA el z cells off len cap u) := by unfold LandsN; kernel_rfl
theorem ddLz (W : Nlb) (D : Ndn) (u : U6) : LandsN Tryz.prog EG (OLd W D) 60 2 ddC (ddZ u) := by unfold LandsN; kernel_rfl
def ddT (n : Nat) (u : U6) (x : Nat → SV) : List SV :=
  [x 0, u.sv, x 2, .p 0 0, .b false, .osl true 1 n, x 6, x 7, x 8, x 9, x 10, x 11, x 12, x 13, x 14, x 15, x 16, x 17, x 18, x 19, x 20, x 21, x 22, x 23, x 24, x 25, x 26, x 27, x 28, x 29, x 30, x 31, x 32, x 33, x 34, x 35, x 36, x 37, x 38, x 39, x 40, x 41, x 42, x 43, x 44, x 45, x 46, x 47, x 48, x 49, x 50, x 51, x 52, x 53, x 54, x 55, x 56, x 57, x 58, x 59, x 60, x 61, x 62, x 63, x 64, x 65, x 66, x 67, x 68, x 69, x 70, x 71, x 72, x 73, x 74, x 75, x 76, x 77, x 78, x 79, x 80, x 81, x 82, x 83, x 84, x 85, x 86, x 87, x 88, x 89, x 90, x 91, x 92, x 93, x 94, x 95, x 96, x 97, x 98, x 99, x 100, x 101, x 102, x 103, x 104, x 105, x 106, x 107, x 108, x 109, x 110, x 111, x 112, x 113]
def ddS (pc : List SV) (n : Nat) (u : U6) (x : Nat → SV) (d : Dec) : St := ⟨ddT n u x, ebM pc u, d, []⟩
section
variable (W : Nlb) (D : Ndn) (el : TypeId) (z : Nat × Nat) (cells : List SV) (off len cap : Nat) (u : U6)
theorem ddOa : (ddA2 W D el z cells off len cap u).ob = [(decide (len ≤ cap), true), (W.b ((cells.drop off).take (len * 8)) len, true)] := by kernel_rfl
theorem ddOz : (ddZ2 W D u).ob = [] := by kernel_rfl
theorem ddRa : ∃ rest, (ddA2 W D el z cells off len cap u).M = [⟨el, cells, .ro z⟩] ++ rest := ⟨[⟨24, u6B u, .ex⟩, ⟨44, W.g ((cells.drop off).take (len * 8)) len, .rown 19⟩], by kernel_rfl⟩
theorem ddMa : selM (ddA2 W D el z cells off len cap u).M [1, 2] = some (ebM (W.g ((cells.drop off).take (len * 8)) len) u) := by kernel_rfl
theorem ddMz : selM (ddZ2 W D u).M [0, 1] = some (ebM (W.g [] 0) u) := by kernel_rfl
noncomputable def ddXa (v : Nat → Value) : Nat → SV := fun j => ((ddA2 W D el z cells off len cap u).sel [1, 2] [] v).T.getD j .np
noncomputable def ddXz (v : Nat → Value) : Nat → SV := fun j => ((ddZ2 W D u).sel [0, 1] [] v).T.getD j .np
theorem ddTa (v : Nat → Value) (M' : List Blk) : ((ddA2 W D el z cells off len cap u).sel [1, 2] M' v).T = ddT (prK len + 1) u (ddXa W D el z cells off len cap u v) := by kernel_rfl
theorem ddTz (v : Nat → Value) (M' : List Blk) : ((ddZ2 W D u).sel [0, 1] M' v).T = ddT 1 u (ddXz W D u v) := by kernel_rfl
end
end Go.Proofs.YtgjohjgmlleebaaGreat
namespace Go.Proofs.YtgjohjgmlleebaaGreat
set_option linter.all false
open Go.RowKit Bu Rx
def ddCh1 (W : Nlb) (D : Ndn) (pc : List SV) (n : Nat) (u : U6) : Ch := D.g (twB W.un W.N.b u).z (twA W.un W.N.b u) (twB W.un W.N.b u) ((pc.drop 0).take (n * 19)) n
def ddLt (W : Nlb) (pc : List SV) (n : Nat) (u : U6) : Nat → Ch := W.E.g (twA W.un W.N.b u) (twB W.un W.N.b u) ((pc.drop 0).take (n * 19)) n
def ddT4 (n : Nat) (u : U6) (x : Nat → SV) : List SV :=
  [x 0, u.sv, x 2, .p 0 0, .b false, .osl true 1 n, x 6, x 7, .p 2 0, x 9, .p 3 0, x 11, x 12, x 13, x 14, x 15, x 16, x 17, x 18, x 19, x 20, x 21, x 22, x 23, x 24, x 25, x 26, x 27, x 28, x 29, x 30, x 31, x 32, x 33, x 34, x 35, x 36, x 37, x 38, x 39, x 40, x 41, x 42, x 43, x 44, x 45, x 46, x 47, x 48, x 49, x 50, x 51, x 52, x 53, x 54, x 55, x 56, x 57, x 58, x 59, x 60, x 61, x 62, x 63, x 64, x 65, x 66, x 67, x 68, x 69, x 70, x 71, x 72, x 73, x 74, x 75, x 76, x 77, x 78, x 79, x 80, x 81, x 82, x 83, x 84, x 85, x 86, x 87, x 88, x 89, x 90, x 91, x 92, x 93, x 94, x 95, x 96, x 97, x 98, x 99, x 100, x 101, x 102, x 103, x 104, x 105, x 106, x 107, x 108, x 109, x 110, x 111, x 112, x 113]
def ddTL (n : Nat) (u : U6) (j : SV) (x : Nat → SV) : List SV :=
  [x 0, u.sv, x 2, .p 0 0, .b false, .osl true 1 n, x 6, x 7, .p 2 0, x 9, .p 3 0, x 11, x 12, x 13, x 14, x 15, x 16, x 17, x 18, x 19, x 20, x 21, x 22, x 23, x 24, x 25, x 26, x 27, x 28, x 29, x 30, x 31, x 32, x 33, x 34, x 35, x 36, x 37, x 38, x 39, x 40, x 41, x 42, x 43, x 44, x 45, x 46, x 47, x 48, x 49, x 50, x 51, x 52, x 53, x 54, x 55, x 56, x 57, x 58, x 59, x 60, x 61, x 62, x 63, x 64, x 65, x 66, x 67, x 68, x 69, x 70, x 71, j, x 73, x 74, x 75, x 76, x 77, x 78, x 79, x 80, x 81, x 82, x 83, x 84, x 85, x 86, x 87, x 88, x 89, x 90, x 91, x 92, x 93, x 94, x 95, x 96, x 97, x 98, x 99, x 100, x 101, x 102, x 103, x 104, x 105, x 106, x 107, x 108, x 109, x 110, x 111, x 112, x 113]
def ddM4 (pc : List SV) (u : U6) (ch : Ch) (lt : Nat → Ch) : List Blk := ebM pc u ++ [⟨35, ch.cells, .ex⟩, ⟨77, ltC lt, .ex⟩]
def ddS4 (pc : List SV) (n : Nat) (u : U6) (ch : Ch) (lt : Nat → Ch) (x : Nat → SV) (d : Dec) : St := ⟨ddT4 n u x, ddM4 pc u ch lt, d, []⟩
def ddSL (pc : List SV) (n : Nat) (u : U6) (ch : Ch) (lt : Nat → Ch) (j : SV) (x : Nat → SV) (d : Dec) : St := ⟨ddTL n u j x, ddM4 pc u ch lt, d, []⟩
noncomputable def ddC6 : Code := post 4 (post 2 ddC)
noncomputable def ddR : Code := seqL (seqL ddC6)
noncomputable def ddBd : Code := inner (inner (seqR (seqL ddC6)))
noncomputable def ddTl : Code := seqR ddC6
theorem ddC6_cut : ddC6 = .seq (.seq ddR (.block 0 (.loop ddBd))) ddTl := by kernel_rfl
def ddO4 (W : Nlb) (D : Ndn) (pc : List SV) (n : Nat) (u : U6) : Obs :=
  [(decide (one64.k < (ddCh1 W D pc n u).m.lo.k), false), (decide ((ddCh1 W D pc n u).m.lo.k < z64.k), false), (decide ((ddCh1 W D pc n u).p.lo.k < z64.k), false), (W.E.o ((pc.drop 0).take (n * 19)) n, true)] ++
  (etO W.E W.un W.ub ((pc.drop 0).take (n * 19)) n (W.N.b mone64 one64 u.a0) (W.N.b mone64 one64 u.a1) (W.N.b d64 one64 u.a2) (W.N.b mone64 one64 u.a3) (W.N.b mone64 one64 u.a4) (W.N.b d64 one64 u.a5) ++
  (atU W.N D W.un W.ub u ((pc.drop 0).take (n * 19)) n ++ (dirU W.N u.a3 u.a4 u.a5 ++ dirU W.N u.a0 u.a1 u.a2)))
section
variable (W : Nlb) (D : Ndn) (pc : List SV) (n : Nat) (u : U6) (x : Nat → SV)
noncomputable abbrev dd4 : St := aftN Tryz.prog EG (OLd W D) 60 4 (post 2 ddC) (ddS pc n u x (some [false, false, false]))
theorem ddL4 : LandsN Tryz.prog EG (OLd W D) 60 4 (post 2 ddC) (ddS pc n u x (some [false, false, false])) := by unfold LandsN; kernel_rfl
theorem ddO4_eq : (dd4 W D pc n u x).ob = ddO4 W D pc n u := by kernel_rfl
theorem ddM4_eq : selM (dd4 W D pc n u x).M [0, 1, 4, 5] = some (ddM4 pc u (ddCh1 W D pc n u) (ddLt W pc n u)) := by kernel_rfl
noncomputable def ddX4 (v : Nat → Value) : Nat → SV := fun j => ((dd4 W D pc n u x).sel [0, 1, 4, 5] [] v).T.getD j .np
theorem ddT4_eq (v : Nat → Value) (M' : List Blk) : ((dd4 W D pc n u x).sel [0, 1, 4, 5] M' v).T = ddT4 n u (ddX4 W D pc n u x v) := by kernel_rfl
end
section
variable (W : Nlb) (D : Ndn) (pc : List SV) (n : Nat) (u : U6) (ch : Ch) (lt : Nat → Ch) (x : Nat → SV)
theorem ddLr : Lands Tryz.prog EG (OLd W D) 60 ddR (ddS4 pc n u ch lt x none) .normal := by unfold Lands; kernel_rfl
theorem ddOr : (aft Tryz.prog EG (OLd W D) 60 ddR (ddS4 pc n u ch lt x none)).ob = [] := by kernel_rfl
theorem ddTr : (aft Tryz.prog EG (OLd W D) 60 ddR (ddS4 pc n u ch lt x none)).T = ddTL n u (.i .i64 0) x := by kernel_rfl
theorem ddMr : (aft Tryz.prog EG (OLd W D) 60 ddR (ddS4 pc n u ch lt x none)).M = ddM4 pc u ch lt := by kernel_rfl
/-- where the counter stands -/
def ddJ : Nat → SV
  | 0 => .i .i64 0
  | 1 => .i .i64 1
  | 2 => .i .i64 2
  | _ => .i .i64 3
def ddD (a b : Bool) : List Bool := (bif a then [true, false] else [false]) ++ ((bif b then [true, false] else [false]) ++ [false])
def ddOb (ch l : Ch) (a b : Bool) : Obs :=
  (decide (ch.m.hi.k < l.m.lo.k), false) :: ((bif b then [(decide (ch.m.lo.k ≤ z64.k), false), (decide (z64.k < l.m.lo.k), true)] else [(decide (z64.k < l.m.lo.k), false)]) ++ (bif a then [(decide (ch.p.hi.k ≤ z64.k), false), (decide (z64.k < l.p.lo.k), true)] else [(decide (z64.k < l.p.lo.k), false)]))
noncomputable abbrev ddB (j : Nat) (a b : Bool) : St := aft Tryz.prog EG (OLd W D) 60 ddBd (ddSL pc n u ch lt (ddJ j) x (some (ddD a b)))
theorem ddLb0 (a b : Bool) : Lands Tryz.prog EG (OLd W D) 60 ddBd (ddSL pc n u ch lt (ddJ 0) x (some (ddD a b))) .normal := by cases a <;> cases b <;> (unfold Lands; kernel_rfl)
theorem ddOb0 (a b : Bool) : (ddB W D pc n u ch lt x 0 a b).ob = ddOb ch (lt 0) a b := by cases a <;> cases b <;> kernel_rfl
theorem ddMb0 (a b : Bool) : selM (ddB W D pc n u ch lt x 0 a b).M [0, 1, 2, 3] = some (ddM4 pc u ch lt) := by cases a <;> cases b <;> kernel_rfl
theorem ddTb0 (a b : Bool) (v : Nat → Value) (M' : List Blk) : ∃ y, ((ddB W D pc n u ch lt x 0 a b).sel [0, 1, 2, 3] M' v).T = ddTL n u (ddJ 1) y := ⟨fun k => ((ddB W D pc n u ch lt x 0 a b).sel [0, 1, 2, 3] [] v).T.getD k .np, by cases a <;> cases b <;> kernel_rfl⟩
theorem ddLb1 (a b : Bool) : Lands Tryz.prog EG (OLd W D) 60 ddBd (ddSL pc n u ch lt (ddJ 1) x (some (ddD a b))) .normal := by cases a <;> cases b <;> (unfold Lands; kernel_rfl)
theorem ddOb1 (a b : Bool) : (ddB W D pc n u ch lt x 1 a b).ob = ddOb ch (lt 1) a b := by cases a <;> cases b <;> kernel_rfl
theorem ddMb1 (a b : Bool) : selM (ddB W D pc n u ch lt x 1 a b).M [0, 1, 2, 3] = some (ddM4 pc u ch lt) := by cases a <;> cases b <;> kernel_rfl
theorem ddTb1 (a b : Bool) (v : Nat → Value) (M' : List Blk) : ∃ y, ((ddB W D pc n u ch lt x 1 a b).sel [0, 1, 2, 3] M' v).T = ddTL n u (ddJ 2) y := ⟨fun k => ((ddB W D pc n u ch lt x 1 a b).sel [0, 1, 2, 3] [] v).T.getD k .np, by cases a <;> cases b <;> kernel_rfl⟩
theorem ddLb2 (a b : Bool) : Lands Tryz.prog EG (OLd W D) 60 ddBd (ddSL pc n u ch lt (ddJ 2) x (some (ddD a b))) .normal := by cases a <;> cases b <;> (unfold Lands; kernel_rfl)
theorem ddOb2 (a b : Bool) : (ddB W D pc n u ch lt x 2 a b).ob = ddOb ch (lt 2) a b := by cases a <;> cases b <;> kernel_rfl
theorem ddMb2 (a b : Bool) : selM (ddB W D pc n u ch lt x 2 a b).M [0, 1, 2, 3] = some (ddM4 pc u ch lt) := by cases a <;> cases b <;> kernel_rfl
theorem ddTb2 (a b : Bool) (v : Nat → Value) (M' : List Blk) : ∃ y, ((ddB W D pc n u ch lt x 2 a b).sel [0, 1, 2, 3] M' v).T = ddTL n u (ddJ 3) y := ⟨fun k => ((ddB W D pc n u ch lt x 2 a b).sel [0, 1, 2, 3] [] v).T.getD k .np, by cases a <;> cases b <;> kernel_rfl⟩
theorem ddLx : Lands Tryz.prog EG (OLd W D) 60 ddBd (ddSL pc n u ch lt (ddJ 3) x none) (.exit 0) := by unfold Lands; kernel_rfl
theorem ddXo : aft Tryz.prog EG (OLd W D) 60 ddBd (ddSL pc n u ch lt (ddJ 3) x none) = ⟨ddTL n u (ddJ 3) (fun k => bif Nat.beq k 73 then .b false else x k), ddM4 pc u ch lt, none, []⟩ := by kernel_rfl
theorem ddLt_ : Lands Tryz.prog EG (OLd W D) 60 ddTl (ddSL pc n u ch lt (ddJ 3) x none) .ret := by unfold Lands; kernel_rfl
theorem ddOt : (aft Tryz.prog EG (OLd W D) 60 ddTl (ddSL pc n u ch lt (ddJ 3) x none)).ob = [] := by kernel_rfl
theorem ddRt : resultS Tryz.prog Tryz.f14 (aft Tryz.prog EG (OLd W D) 60 ddTl (ddSL pc n u ch lt (ddJ 3) x none)) = some (.b true) := by kernel_rfl
end
/-- what a channel asks -/
structure DdK (ch l : Ch) : Prop where
  m : l.m.lo.k ≤ ch.m.hi.k
  n : z64.k < l.m.lo.k → z64.k < ch.m.lo.k
  p : z64.k < l.p.lo.k → z64.k < ch.p.hi.k
theorem DdK.ob {ch l : Ch} (h : DdK ch l) : ObsOk (ddOb ch l (decide (z64.k < l.p.lo.k)) (decide (z64.k < l.m.lo.k))) := by
  refine ob_c (decide_eq_false (by have := h.m; omega)) (ob_a ?_ ?_)
  · by_cases g : z64.k < l.m.lo.k
    · rw [decide_eq_true g]
      exact ob_c (decide_eq_false (by have := h.n g; omega)) (ob_c rfl ob_n)
    · rw [decide_eq_false g]
      exact ob_c rfl ob_n
  · by_cases g : z64.k < l.p.lo.k
    · rw [decide_eq_true g]
      exact ob_c (decide_eq_false (by have := h.p g; omega)) (ob_c rfl ob_n)
    · rw [decide_eq_false g]
      exact ob_c rfl ob_n
theorem dd_loop {W : Nlb} {D : Ndn} (hO : OracleOk Tryz.prog (OLd W D)) {pc : List SV} {n : Nat} {u : U6} {ch : Ch} {lt : Nat → Ch} {x : Nat → SV} {B : Bs} (hB : B.M.length = 2) (K : ∀ k, k < 3 → DdK ch (lt k)) :
    RunsB Tryz.prog B (.block 0 (.loop ddBd)) (ddSL pc n u ch lt (ddJ 0) x none) .normal (fun t => ∃ y, t = ddSL pc n u ch lt (ddJ 3) y none) := by
  have hk : ∀ k, k < B.M.length → ([0, 1, 2, 3] : List Nat)[k]? = some k := fun k hk => by
    rw [hB] at hk
    have : k = 0 ∨ k = 1 := by omega
    rcases this with rfl | rfl <;> rfl
  refine loop_invB (fun (j : Nat) (y : Nat → SV) => ddSL pc n u ch lt (ddJ j) y none) (fun _ _ => True) 3 ?_ ?_ _ trivial
  · intro j y hj _
    have h3 := K j hj
    rcases (by omega : j = 0 ∨ j = 1 ∨ j = 2) with rfl | rfl | rfl
    · refine RunsB.re (d := some (ddD (decide (z64.k < (lt 0).p.lo.k)) (decide (z64.k < (lt 0).m.lo.k)))) (o := []) (RunsB.sel (RunsP.bs (Lands.runs goodG hO (ddLb0 W D pc n u ch lt y _ _) (by
        have h0 := ddOb0 W D pc n u ch lt y (decide (z64.k < (lt 0).p.lo.k)) (decide (z64.k < (lt 0).m.lo.k))
        exact h0 ▸ h3.ob))) rfl (ddMb0 W D pc n u ch lt y _ _) hk fun v => ?_)
      obtain ⟨z, hz⟩ := ddTb0 W D pc n u ch lt y (decide (z64.k < (lt 0).p.lo.k)) (decide (z64.k < (lt 0).m.lo.k)) v (ddM4 pc u ch lt)
      exact ⟨ddSL pc n u ch lt (ddJ 1) z none, ⟨_, trivial, rfl⟩, same_eq hz.symm rfl⟩
    · refine RunsB.re (d := some (ddD (decide (z64.k < (lt 1).p.lo.k)) (decide (z64.k < (lt 1).m.lo.k)))) (o := []) (RunsB.sel (RunsP.bs (Lands.runs goodG hO (ddLb1 W D pc n u ch lt y _ _) (by
        have h0 := ddOb1 W D pc n u ch lt y (decide (z64.k < (lt 1).p.lo.k)) (decide (z64.k < (lt 1).m.lo.k))
        exact h0 ▸ h3.ob))) rfl (ddMb1 W D pc n u ch lt y _ _) hk fun v => ?_)
      obtain ⟨z, hz⟩ := ddTb1 W D pc n u ch lt y (decide (z64.k < (lt 1).p.lo.k)) (decide (z64.k < (lt 1).m.lo.k)) v (ddM4 pc u ch lt)
      exact ⟨ddSL pc n u ch lt (ddJ 2) z none, ⟨_, trivial, rfl⟩, same_eq hz.symm rfl⟩
    · refine RunsB.re (d := some (ddD (decide (z64.k < (lt 2).p.lo.k)) (decide (z64.k < (lt 2).m.lo.k)))) (o := []) (RunsB.sel (RunsP.bs (Lands.runs goodG hO (ddLb2 W D pc n u ch lt y _ _) (by
        have h0 := ddOb2 W D pc n u ch lt y (decide (z64.k < (lt 2).p.lo.k)) (decide (z64.k < (lt 2).m.lo.k))
        exact h0 ▸ h3.ob))) rfl (ddMb2 W D pc n u ch lt y _ _) hk fun v => ?_)
      obtain ⟨z, hz⟩ := ddTb2 W D pc n u ch lt y (decide (z64.k < (lt 2).p.lo.k)) (decide (z64.k < (lt 2).m.lo.k)) v (ddM4 pc u ch lt)
      exact ⟨ddSL pc n u ch lt (ddJ 3) z none, ⟨_, trivial, rfl⟩, same_eq hz.symm rfl⟩
  · intro y _
    refine RunsP.bs (Lands.fin goodG hO (ddLx W D pc n u ch lt y) (by rw [ddXo]; exact ob_n) ?_)
    exact ⟨_, ⟨_, rfl⟩, same_eq (congrArg St.T (ddXo W D pc n u ch lt y)).symm (congrArg St.M (ddXo W D pc n u ch lt y)).symm⟩
structure DdOk (W : Nlb) (D : Ndn) (pc : List SV) (n : Nat) (u : U6) : Prop where
  o : ObsOk (ddO4 W D pc n u)
  k : ∀ k, k < 3 → DdK (ddCh1 W D pc n u) (ddLt W pc n u k)
theorem dd_run {W : Nlb} {D : Ndn} (hO : OracleOk Tryz.prog (OLd W D)) {pc : List SV} {n : Nat} {u : U6} {x : Nat → SV} {B : Bs} (hB : B.M.length = 2) (K : DdOk W D pc n u) :
    RunsB Tryz.prog B (post 2 ddC) (ddS pc n u x none) .ret (fun t => resultS Tryz.prog Tryz.f14 t = some (.b true)) := by
  refine RunsB.re (d := some [false, false, false]) (o := []) ((ddL4 W D pc n u x).ok goodG hO (by rw [ddO4_eq]; exact K.o) ?_)
  refine RunsB.keep (ids := [0, 1, 4, 5]) rfl (ddM4_eq W D pc n u x) (fun k hk => by
    rw [hB] at hk
    have : k = 0 ∨ k = 1 := by omega
    rcases this with rfl | rfl <;> rfl) fun v => ?_
  have hs : SameSt (ddS4 pc n u (ddCh1 W D pc n u) (ddLt W pc n u) (ddX4 W D pc n u x v) none) ((dd4 W D pc n u x).sel [0, 1, 4, 5] (ddM4 pc u (ddCh1 W D pc n u) (ddLt W pc n u)) v) := same_eq (ddT4_eq W D pc n u x v _).symm rfl
  have hkk := K.k
  generalize ddCh1 W D pc n u = ch at hs hkk
  generalize ddLt W pc n u = lt at hs hkk
  refine RunsB.retell hs ?_
  show RunsB Tryz.prog B ddC6 _ .ret _
  rw [ddC6_cut]
  refine RunsB.seq (Φ := fun t => ∃ y, t = ddSL pc n u ch lt (ddJ 3) y none) ?_ fun t ⟨y, ht⟩ => ?_
  · refine LandsB.seq goodG hO (ddLr W D pc n u ch lt _) (by rw [ddOr]; exact ob_n) ?_
    have hs2 : SameSt (ddSL pc n u ch lt (ddJ 0) (ddX4 W D pc n u x v) none) (aft Tryz.prog EG (OLd W D) 60 ddR (ddS4 pc n u ch lt (ddX4 W D pc n u x v) none)) := same_eq (ddTr W D pc n u ch lt _).symm (ddMr W D pc n u ch lt _).symm
    exact RunsB.retell hs2 (dd_loop hO hB hkk)
  · subst ht
    exact RunsP.bs (Lands.all goodG hO (ddLt_ W D pc n u ch lt y) (by rw [ddOt]; exact ob_n) (ddRt W D pc n u ch lt y))
set_option maxRecDepth 20000 in
/-- of any slice of rows -/
theorem dd_calls {W : Nlb} {D : Ndn} (hO : OracleOk Tryz.prog (OLd W D)) {el : TypeId} {z : Nat × Nat} {cells : List SV} {off len cap : Nat} {u : U6} {m : Nms} {w : World} {vs : List Value} (hM : MemAt m w [⟨el, cells, .ro z⟩]) (hvs : dens m [.ssl 0 off len cap, u.sv] = some vs)
    (hc : len ≤ cap) (hb : W.b ((cells.drop off).take (len * 8)) len = true) (K : DdOk W D (W.g ((cells.drop off).take (len * 8)) len) (prK len + 1) u) :
    Calls Tryz.prog 14 vs.toArray w fun e w' => e = .returned (.bool true) ∧ Below w.heap.size w w' := by
  refine RunsW.call (d := none) Tryz.func14 ddBody (x := .b true) rfl hvs hM ?_
  show RunsW Tryz.prog ⟨m, [⟨el, cells, .ro z⟩], w, hM⟩ ddC (ddA el z cells off len cap u) .ret _
  refine runW_ok goodG hO (ddLa W D el z cells off len cap u) (by rw [ddOa]; exact ob_c (decide_eq_true hc) (ob_c hb ob_n)) ?_
  obtain ⟨rest, hr⟩ := ddRa W D el z cells off len cap u
  refine RunsW.fresh (ids := [1, 2]) (fun b hb => by rw [List.mem_singleton] at hb; subst hb; rfl) hr rfl (ddMa W D el z cells off len cap u) (fun j n hj => by
    have hl : j < 2 := (List.getElem?_eq_some_iff.1 hj).1
    rcases (by omega : j = 0 ∨ j = 1) with rfl | rfl <;> simp at hj <;> subst hj <;> simp) (fun b hb => by
      simp only [ebM, List.mem_cons, List.not_mem_nil, or_false] at hb
      rcases hb with rfl | rfl <;> rfl) fun B' v hB' => ?_
  have hs : SameSt (ddS (W.g ((cells.drop off).take (len * 8)) len) (prK len + 1) u (ddXa W D el z cells off len cap u v) none) ((ddA2 W D el z cells off len cap u).sel [1, 2] (ebM (W.g ((cells.drop off).take (len * 8)) len) u) v) := same_eq (ddTa W D el z cells off len cap u v _).symm rfl
  exact RunsB.retell hs (dd_run hO (x := ddXa W D el z cells off len cap u v) (by rw [hB']; rfl) K)
set_option maxRecDepth 20000 in
/-- of no slice -/
theorem dd_nil {W : Nlb} {D : Ndn} (hO : OracleOk Tryz.prog (OLd W D)) {u : U6} {w : World} {vs : List Value} (hvs : dens Nms.no [.o (.slice none 0 0), u.sv] = some vs) (K : DdOk W D (W.g [] 0) 1 u) :
    Calls Tryz.prog 14 vs.toArray w fun e w' => e = .returned (.bool true) ∧ Below w.heap.size w w' := by
  refine RunsW.call (d := none) Tryz.func14 ddBody (x := .b true) rfl hvs (MemAt.no w) ?_
  show RunsW Tryz.prog ⟨Nms.no, [], w, MemAt.no w⟩ ddC (ddZ u) .ret _
  refine runW_ok goodG hO (ddLz W D u) (by rw [ddOz]; exact ob_n) ?_
  refine RunsW.fresh (rest := (ddZ2 W D u).M) (ids := [0, 1]) (fun b hb => by cases hb) (List.nil_append _).symm rfl (ddMz W D u) (fun j n hj => Nat.zero_le _) (fun b hb => by
      simp only [ebM, List.mem_cons, List.not_mem_nil, or_false] at hb
      rcases hb with rfl | rfl <;> rfl) fun B' v hB' => ?_
  have hs : SameSt (ddS (W.g [] 0) 1 u (ddXz W D u v) none) ((ddZ2 W D u).sel [0, 1] (ebM (W.g [] 0) u) v) := same_eq (ddTz W D u v _).symm rfl
  exact RunsB.retell hs (dd_run hO (x := ddXz W D u v) (by rw [hB']; rfl) K)
end Go.Proofs.YtgjohjgmlleebaaGreat
namespace Go.Proofs.YtgjohjgmlleebaaGreat
set_option linter.all false
open Go.RowKit Bu Rx
end Go.Proofs.YtgjohjgmlleebaaGreat
namespace Bu
set_option linter.all false
open Rx Go
/-- a coat's steps -/
structure OvP (i o : I) (w : F) (a : Ch) (s h x y f q t z r : I) : Prop where
  e1 : KkR.sub 0 (pt one64) o = (s, 0)
  e2 : KkR.sub 0 (pt one64) i = (h, 0)
  e3 : KkR.mul 0 h s = (x, 0)
  e4 : KkR.mul 0 x (pt w) = (y, 0)
  e5 : KkR.mul 0 y a.p = (f, 0)
  e6 : KkR.sqr 0 s = (q, 0)
  e7 : KkR.mul 0 q (pt w) = (t, 0)
  e8 : KkR.mul 0 t a.m = (z, 0)
  e9 : KkR.add 0 o z = (r, 0)
theorem OvP.eq {i o : I} {w : F} {a : Ch} {s h x y f q t z r : I} (k : OvP i o w a s h x y f q t z r) : overC KkR i o w a = (⟨f, r⟩, 0) := by
  unfold overC
  have n1 : KkR.num 0 one_ = (pt one64, 0) := rfl
  have n2 : KkR.num 0 w = (pt w, 0) := rfl
  simp only [n1, n2, k.e1, k.e2, k.e3, k.e4, k.e5, k.e6, k.e7, k.e8, k.e9]
end Bu
namespace Go.Proofs.YtgjohjgmlleebaaGreat
set_option linter.all false
open Go.RowKit Bu Rx
set_option maxRecDepth 100000 in
theorem bz1_B : byE bz1 bz1 = true ∧ (decide ((KTR.sqr 0 bz1).2 = 0) && inbB (KTR.sqr 0 bz1).1 bz1) = true := by decide +kernel
theorem sqr_in {x : I} (hx : InB x bz1) : ∃ r, KkR.sqr 0 x = (r, 0) ∧ InB r bz1 := by
  have k := bz1_B.2
  rw [Bool.and_eq_true, decide_eq_true_eq] at k
  obtain ⟨r, e, n⟩ := sqr_inn hx.inn k.1
  exact ⟨r, e, inB_tr n.inB k.2⟩
theorem ov_ok {i o : I} {w : F} {a : Ch} {j : Nat} (hj : j < 20) (hi : Uz1 i) (ho : Uz1 o) (hw : z64.k ≤ w.k ∧ w.k ≤ one64.k) (hp : InB a.p (Pb j)) (hm : InB a.m (Mb j)) :
    ∃ s h x y f q t z r, OvP i o w a s h x y f q t z r ∧ InB f (Pb j) ∧ InB r (Mb (j + 1)) ∧ InB s bz1 ∧ InB h bz1 ∧ InB x bz1 ∧ InB y bz1 ∧ InB q bz1 ∧ InB t bz1 ∧ InB z (Mb j) := by
  have L := lv_ok hj
  obtain ⟨s, e1, b1⟩ := less_in ho.box
  obtain ⟨h, e2, b2⟩ := less_in hi.box
  obtain ⟨x, e3, b3⟩ := by_in b2 b1 bz1_B.1
  obtain ⟨y, e4, b4⟩ := by_in b3 (pt_z1 hw) bz1_B.1
  obtain ⟨f, e5, b5⟩ := by_in b4 hp L.p
  obtain ⟨q, e6, b6⟩ := sqr_in b1
  obtain ⟨t, e7, b7⟩ := by_in b6 (pt_z1 hw) bz1_B.1
  obtain ⟨z, e8, b8⟩ := by_in b7 hm L.m
  obtain ⟨r, e9, b9⟩ := ad_in ho.box b8 L.om
  exact ⟨s, h, x, y, f, q, t, z, r, ⟨e1, e2, e3, e4, e5, e6, e7, e8, e9⟩, b5, b9, b1, b2, b3, b4, b6, b7, b8⟩
set_option maxRecDepth 100000 in
theorem val_bx : (gt (evalK KkR lbV [bz1] 0).1 0).hi.k ≤ (Pb 0).hi.k ∧ bVF.hi.k ≤ (Pb 0).hi.k ∧ one64.k ≤ (Pb 0).hi.k := by decide +kernel
set_option maxRecDepth 100000 in
theorem val_box {l : Lf} (h : LfP l) : ∃ a, vlG GmR KkR l = (a, 0) ∧ InB a (Pb 0) := by
  obtain ⟨x1, x2, x3⟩ := val_bx
  have z0 : (Pb 0).lo.k = z64.k := rfl
  rcases rt_kind h.r with e | e | e | e
  · obtain ⟨k, f, c, v, u⟩ := l
    simp only at e; subst e
    obtain ⟨m, ee, l, _⟩ := box_lb
    have b := box (v := [pF (f c.toNat)]) (w := [bz1]) m ⟨(uz_of (rt1_in h.r h.o.n)).box, trivial⟩ ee
    have b1 : (lbK KkR (pF (f c.toNat))).2 = 0 := b.1
    have k := (b.2 0).inB
    exact ⟨_, lnR_0 b1, Int.le_trans l k.1, Int.le_trans k.2.1 x1, k.2.2⟩
  · obtain ⟨k, f, c, v, u⟩ := l
    simp only at e; subst e
    obtain ⟨a, b⟩ := rt2_in h.r h.o.n
    obtain ⟨sl, hb, e1, e2⟩ := or_leaf h.v h.u (uz_of a) (uz_of b)
    have k := orV_in (uz_of a) (uz_of b) hb
    exact ⟨_, e1, k.lo, Int.le_trans k.hi x3, of_decide_eq_true k.rt⟩
  all_goals
    obtain ⟨ha, f, hf, e1, e2⟩ := gl_leaf h (by rw [e]; simp)
    obtain ⟨r, k1, _, r0, p, b⟩ := gloss_ok h.v h.u ha hf
    exact ⟨r, e1.trans k1, by rw [z0, z64_0]; exact r0, Int.le_trans b.2.1 x2, b.2.2⟩
theorem leaf_val {n : Nd} {p : Int} (h : okNd n p = true) (h5 : n.k ≠ 5) (h6 : n.k ≠ 6) {v u : V3} (hv : OneP v) (hu : OneP u) {k : Nat} (hk : k < 3) : ∃ a, NeR.g (lfE v u k n) = (a, 0) ∧ InB a (Pb 0) ∧ Bu.obsB (lfOb NeR v u n k) = true := by
  have L := leaf_lf h h5 h6 hv hu (k : Int) (by omega) (by omega)
  obtain ⟨a, e1, e2⟩ := val_box L
  obtain ⟨a0, b0⟩ := okNd_leaf h h5 h6
  exact ⟨a, e1, e2, obsB_of (ob_c (decide_eq_true a0) (ob_c (decide_eq_true b0) L.o.val))⟩
theorem zero_Mb {i : Nat} (h : i < 40) : InB I.zero (Mb i) := by
  have zk := zz_k
  refine ⟨?_, ?_, Int.le_refl _⟩
  · show z64.k ≤ F.zero.k; omega
  · show F.zero.k ≤ (Mb i).hi.k
    rw [Mb_k h]
    have : F.zero.k = 0 := rfl
    unfold Mk; omega
/-- no errors -/
theorem evs_ok {v u : V3} (hv : OneP v) (hu : OneP u) {cs : List SV} {len : Nat} (K : OkPg cs len) (hlen : len ≤ 20) {k : Nat} (hk : k < 3) :
    ∀ i, i < len → (evN NeR v u k (fun j => (chL (allE NeR v u cs k) i).getD j Ch.zero) (ndR cs (i * 19))).2 = 0 ∧ InB (ltF NeR v u cs k i).p (Pb i) ∧ InB (ltF NeR v u cs k i).m (Mb i) := by
  have hcv := bzz_bz1 (one_box hv).2.2
  have hcu := bzz_bz1 (one_box hu).2.2
  intro i
  induction i using Nat.strongRecOn with
  | _ i ih =>
    intro hi
    have hnd := K.nd i hi
    have g : ∀ {a : Int}, 0 ≤ a → a < i → (chL (allE NeR v u cs k) i).getD a.toNat Ch.zero = ltF NeR v u cs k a.toNat := fun _ _ => chL_get _ (by omega)
    have hF : ltF NeR v u cs k i = (evN NeR v u k (fun j => (chL (allE NeR v u cs k) i).getD j Ch.zero) (ndR cs (i * 19))).1 := rfl
    rw [hF]
    generalize ndR cs (i * 19) = n at hnd
    by_cases h5 : n.k = 5
    · obtain ⟨⟨a0, a1⟩, b0, b1⟩ := okNd_mix hnd h5
      have w := okNd_mixw hnd h5
      obtain ⟨_, pa, ma⟩ := ih n.a.toNat (by omega) (by omega)
      obtain ⟨_, pb, mb⟩ := ih n.b.toNat (by omega) (by omega)
      have L := lv_ok (i := i - 1) (by omega)
      have e1 : i - 1 + 1 = i := by omega
      obtain ⟨p, p1, p2⟩ := mixK_in w (Pb_le (i := n.a.toNat) (j := i - 1) (by omega) (by omega) pa) (Pb_le (i := n.b.toNat) (j := i - 1) (by omega) (by omega) pb) L.p L.pp
      obtain ⟨m, m1, m2⟩ := mixK_in w (Mb_le (i := n.a.toNat) (j := i - 1) (by omega) (by omega) ma) (Mb_le (i := n.b.toNat) (j := i - 1) (by omega) (by omega) mb) L.m L.mm
      rw [e1] at p2 m2
      have hn : evN NeR v u k (fun j => (chL (allE NeR v u cs k) i).getD j Ch.zero) n = (⟨p, m⟩, 0) := by
        unfold evN
        rw [decide_eq_true h5, cond_true]
        show mixC KkR (n.f 15) ((chL (allE NeR v u cs k) i).getD n.a.toNat Ch.zero) ((chL (allE NeR v u cs k) i).getD n.b.toNat Ch.zero) = _
        rw [g a0 a1, g b0 b1]
        exact mixC_st p1 m1
      rw [hn]
      exact ⟨rfl, p2, m2⟩
    · by_cases h6 : n.k = 6
      · obtain ⟨a0, a1⟩ := okNd_coat hnd h6
        obtain ⟨c1, ct⟩ := okNd_coatf hnd h6
        have hw : z64.k ≤ (n.f (3 + k)).k ∧ (n.f (3 + k)).k ≤ one64.k := ct (3 + k) (by rcases (by omega : k = 0 ∨ k = 1 ∨ k = 2) with rfl | rfl | rfl <;> decide)
        obtain ⟨_, pa, ma⟩ := ih n.a.toNat (by omega) (by omega)
        have e1 : i - 1 + 1 = i := by omega
        obtain ⟨fi, i1, i2⟩ := fd_all hcv (bn_of c1)
        obtain ⟨fo, o1, o2⟩ := fd_all hcu (bn_of c1)
        obtain ⟨s, h, x, y, f, q, t, z, r, O, bf, br, _⟩ := ov_ok (j := i - 1) (by omega) i2 o2 hw (Pb_le (i := n.a.toNat) (j := i - 1) (by omega) (by omega) pa) (Mb_le (i := n.a.toNat) (j := i - 1) (by omega) (by omega) ma)
        rw [e1] at br
        have hn : evN NeR v u k (fun j => (chL (allE NeR v u cs k) i).getD j Ch.zero) n = (⟨f, r⟩, 0) := by
          unfold evN
          rw [decide_eq_false h5, decide_eq_true h6, cond_false, cond_true]
          have d1 : NeR.D v.z ⟨n.f 14, n.f 14⟩ = (fi, 0) := i1
          have d2 : NeR.D u.z ⟨n.f 14, n.f 14⟩ = (fo, 0) := o1
          rw [d1, d2]
          show overC KkR fi fo (n.f (3 + k)) ((chL (allE NeR v u cs k) i).getD n.a.toNat Ch.zero) = _
          rw [g a0 a1]
          exact O.eq
        rw [hn]
        exact ⟨rfl, Pb_le (i := i - 1) (j := i) (by omega) (by omega) bf, br⟩
      · obtain ⟨d, d1, d2, d3⟩ := leaf_val hnd h5 h6 hv hu hk
        have hn : evN NeR v u k (fun j => (chL (allE NeR v u cs k) i).getD j Ch.zero) n = (⟨d, I.zero⟩, 0) := by
          unfold evN
          rw [decide_eq_false h5, decide_eq_false h6, cond_false, cond_false, d1]
        rw [hn]
        exact ⟨rfl, Pb_le (i := 0) (by omega) (by omega) d2, zero_Mb (by omega)⟩
theorem evs_all {v u : V3} (hv : OneP v) (hu : OneP u) {cs : List SV} {len : Nat} (K : OkPg cs len) (hlen : len ≤ 20) : evB NeR v u cs len = true := by
  have hcv := bzz_bz1 (one_box hv).2.2
  have hcu := bzz_bz1 (one_box hu).2.2
  refine List.all_eq_true.2 fun i hi => ?_
  have hi' := List.mem_range.1 hi
  have hnd := K.nd i hi'
  have k0 := (evs_ok hv hu K hlen (k := 0) (by omega) i hi').1
  have k1 := (evs_ok hv hu K hlen (k := 1) (by omega) i hi').1
  have k2 := (evs_ok hv hu K hlen (k := 2) (by omega) i hi').1
  unfold evNB
  simp only [k0, k1, k2, decide_true, Bool.and_true]
  generalize ndR cs (i * 19) = n at hnd
  by_cases h5 : n.k = 5
  · rw [decide_eq_true h5]; rfl
  · by_cases h6 : n.k = 6
    · obtain ⟨c1, _⟩ := okNd_coatf hnd h6
      obtain ⟨fi, i1, i2⟩ := fd_all hcv (bn_of c1)
      obtain ⟨fo, o1, o2⟩ := fd_all hcu (bn_of c1)
      have d1 : NeR.D v.z ⟨n.f 14, n.f 14⟩ = (fi, 0) := i1
      have d2 : NeR.D u.z ⟨n.f 14, n.f 14⟩ = (fo, 0) := o1
      have q1 : Bu.obsB (NeR.dO v.z ⟨n.f 14, n.f 14⟩) = true := obsB_of (fd_o hcv c1)
      have q2 : Bu.obsB (NeR.dO u.z ⟨n.f 14, n.f 14⟩) = true := obsB_of (fd_o hcu c1)
      rw [decide_eq_false h5, decide_eq_true h6, d1, d2, q1, q2]; rfl
    · obtain ⟨_, _, _, q0⟩ := leaf_val hnd h5 h6 hv hu (k := 0) (by omega)
      obtain ⟨_, _, _, q1⟩ := leaf_val hnd h5 h6 hv hu (k := 1) (by omega)
      obtain ⟨_, _, _, q2⟩ := leaf_val hnd h5 h6 hv hu (k := 2) (by omega)
      rw [decide_eq_false h5, decide_eq_false h6, q0, q1, q2]; rfl
end Go.Proofs.YtgjohjgmlleebaaGreat
