/- DensMix by the reckoner; right programs of numbers. The chapter's examples of layer 22. DensMix, plain. Rows whose arguments lie in memory: what is read there; a function that changes nothing. burnishlow.Prog makes right programs. DensMirror by the reckoner: pieces. DensMirror by the reckoner: the loop, the end. burnishlaw22.DensMirror: what the run asks for is so. -/
import Derived.Test.YtgjohjgmlleebaaGreatZ13
import Derived.Test.YtgjohjgmlleebaaGreatZ01
import Derived.OpenVars
import Derived.Deep.Slices
namespace Bu
set_option linter.all false
open Rx Go
theorem bw_rn {l h : F} {n : Int} (hl : l.k ≤ h.k) : rnB l h (bwF l h n) = true := by
  have := bwF_in (n := n) hl
  unfold rnB
  rw [decide_eq_true this.1, decide_eq_true this.2]; rfl
theorem zs_c (js : List Nat) : zsB (fun _ => z64) js = true := List.all_eq_true.2 fun _ _ => decide_eq_true zz_k.symm
theorem okNd_1 {x y z : F} (hx : rnB z64 one64 x = true) (hy : rnB z64 one64 y = true) (hz : rnB z64 one64 z = true) (p : Int) : okNd ⟨1, ndM x y z z64 z64 z64 z64 z64 z64 z64 z64 z64 z64 z64 z64 z64, 0, 0⟩ p = true := by
  show ((rnB z64 one64 x && (rnB z64 one64 y && (rnB z64 one64 z && true))) && (zsB (fun _ => z64) [3, 4, 5, 6, 7, 8, 9, 10, 11, 12, 13, 14, 15] && (decide ((0 : Int) = 0) && decide ((0 : Int) = 0)))) = true
  rw [hx, hy, hz, zs_c]; rfl
theorem okNd_2 {x y z s : F} (hx : rnB z64 one64 x = true) (hy : rnB z64 one64 y = true) (hz : rnB z64 one64 z = true) (hs : rnB z64 one64 s = true) (p : Int) : okNd ⟨2, ndM x y z z64 z64 z64 z64 z64 z64 z64 z64 z64 s z64 z64 z64, 0, 0⟩ p = true := by
  show ((rnB z64 one64 s && (rnB z64 one64 x && (rnB z64 one64 y && (rnB z64 one64 z && true)))) && (zsB (fun _ => z64) [3, 4, 5, 6, 7, 8, 9, 10, 11, 13, 14, 15] && (decide ((0 : Int) = 0) && decide ((0 : Int) = 0)))) = true
  rw [hx, hy, hz, hs, zs_c]; rfl
theorem okNd_3 {a n : F} (ha : rnB minA one64 a = true) (hn : rnB minIo four64 n = true) (p : Int) : okNd ⟨3, ndM z64 z64 z64 z64 z64 z64 z64 z64 z64 z64 z64 z64 z64 a n z64, 0, 0⟩ p = true := by
  show (rnB minA one64 a && (rnB minIo four64 n && (zsB (fun _ => z64) [0, 1, 2, 3, 4, 5, 6, 7, 8, 9, 10, 11, 12, 15] && (decide ((0 : Int) = 0) && decide ((0 : Int) = 0))))) = true
  rw [ha, hn, zs_c]; rfl
theorem okNd_4 {a e0 e1 e2 k0 k1 k2 : F} (ha : rnB minA one64 a = true) (h0 : rnB minMt maxMt e0 = true) (h1 : rnB minMt maxMt e1 = true) (h2 : rnB minMt maxMt e2 = true) (h3 : rnB minMt maxMt k0 = true) (h4 : rnB minMt maxMt k1 = true) (h5 : rnB minMt maxMt k2 = true) (p : Int) : okNd ⟨4, ndM z64 z64 z64 z64 z64 z64 e0 e1 e2 k0 k1 k2 z64 a z64 z64, 0, 0⟩ p = true := by
  show (rnB minA one64 a && ((rnB minMt maxMt e0 && (rnB minMt maxMt e1 && (rnB minMt maxMt e2 && (rnB minMt maxMt k0 && (rnB minMt maxMt k1 && (rnB minMt maxMt k2 && true)))))) && (zsB (fun _ => z64) [0, 1, 2, 3, 4, 5, 12, 14, 15] && (decide ((0 : Int) = 0) && decide ((0 : Int) = 0))))) = true
  rw [ha, h0, h1, h2, h3, h4, h5, zs_c]; rfl
def leNd (u : U8) : Nd := ⟨leK u, ndM (leF bwF u 0) (leF bwF u 1) (leF bwF u 2) (leF bwF u 3) (leF bwF u 4) (leF bwF u 5) (leF bwF u 6) (leF bwF u 7) (leF bwF u 8) (leF bwF u 9) (leF bwF u 10) (leF bwF u 11) (leF bwF u 12) (leF bwF u 13) (leF bwF u 14) (leF bwF u 15), 0, 0⟩
theorem okNd_le (u : U8) (p : Int) : okNd (leNd u) p = true := by
  obtain ⟨e1, e2, e3, e4⟩ := rk_le
  unfold leNd leK leF
  cases decide (u.a0.tmod 4 = 0)
  · cases decide (u.a0.tmod 4 = 1)
    · cases decide (u.a0.tmod 4 = 2)
      · exact okNd_4 (bw_rn e2) (bw_rn e4) (bw_rn e4) (bw_rn e4) (bw_rn e4) (bw_rn e4) (bw_rn e4) p
      · exact okNd_3 (bw_rn e2) (bw_rn e3) p
    · exact okNd_2 (bw_rn e1) (bw_rn e1) (bw_rn e1) (bw_rn e1) p
  · exact okNd_1 (bw_rn e1) (bw_rn e1) (bw_rn e1) p
theorem okNd_5 {w : F} {a b p : Int} (hw : rnB z64 one64 w = true) (a0 : 0 ≤ a) (a1 : a < p) (b0 : 0 ≤ b) (b1 : b < p) : okNd ⟨5, ndM z64 z64 z64 z64 z64 z64 z64 z64 z64 z64 z64 z64 z64 z64 z64 w, a, b⟩ p = true := by
  show (rnB z64 one64 w && (zsB (fun _ => z64) [0, 1, 2, 3, 4, 5, 6, 7, 8, 9, 10, 11, 12, 13, 14] && (decide (0 ≤ a) && (decide (a < p) && (decide (0 ≤ b) && decide (b < p)))))) = true
  rw [hw, zs_c, decide_eq_true a0, decide_eq_true a1, decide_eq_true b0, decide_eq_true b1]; rfl
theorem okNd_6 {n t0 t1 t2 : F} {a p : Int} (hn : rnB minIo four64 n = true) (h0 : rnB z64 one64 t0 = true) (h1 : rnB z64 one64 t1 = true) (h2 : rnB z64 one64 t2 = true) (a0 : 0 ≤ a) (a1 : a < p) : okNd ⟨6, ndM z64 z64 z64 t0 t1 t2 z64 z64 z64 z64 z64 z64 z64 z64 n z64, a, 0⟩ p = true := by
  show (decide ((6 : Int) = 6) && (rnB minIo four64 n && ((rnB z64 one64 t0 && (rnB z64 one64 t1 && (rnB z64 one64 t2 && true))) && (zsB (fun _ => z64) [0, 1, 2, 6, 7, 8, 9, 10, 11, 12, 13, 15] && (decide (0 ≤ a) && (decide (a < p) && decide ((0 : Int) = 0))))))) = true
  rw [hn, h0, h1, h2, zs_c, decide_eq_true a0, decide_eq_true a1]; rfl
theorem okPg_mk {cs : List SV} {len : Nat} (h1 : (plains cs).isSome = true) (h2 : 1 ≤ len) (h3 : len ≤ 4096) (h4 : ∀ i, i < len → okAt cs i = true) : okPg cs len = true := by
  unfold okPg
  rw [h1, decide_eq_true h2, decide_eq_true h3, List.all_eq_true.2 fun i hi => h4 i (List.mem_range.1 hi)]; rfl
theorem okAt_mk {cs : List SV} {i : Nat} (h1 : ckAll cs (i * 19) ndCK = true) (h2 : okNd (ndR cs (i * 19)) i = true) : okAt cs i = true := by
  unfold okAt; rw [h1, h2]; rfl
end Bu
namespace Go.Proofs.YtgjohjgmlleebaaGreat
set_option linter.all false
open Go.RowKit Bu Rx
/-- are two intervals the same? -/
def eqIv (a b : I) : Bool := decide (a.lo.k = b.lo.k) && (decide (a.hi.k = b.hi.k) && true)
def coJ (n t0 t1 t2 : F) (a : Int) : List SV := [.i .u8 6, fz, fz, fz, .fl t0, .fl t1, .fl t2, fz, fz, fz, fz, fz, fz, fz, fz, .fl n, fz, .i .i64 a, .i .i64 0]
end Go.Proofs.YtgjohjgmlleebaaGreat
namespace Go.Proofs.YtgjohjgmlleebaaGreat
set_option linter.all false
open Go.RowKit Bu Rx
/-- one or the other -/
def eiO (f g : OF) : OF := fun a M ds => match f a M ds with
  | some r => some r
  | none => g a M ds
theorem eiO_ok {P : Program} {g : FuncId} {f h : OF} (hf : OfOk P g f) (hh : OfOk P g h) : OfOk P g (eiO f h) := by
  intro args M ds x M' ds' ob hk ho
  unfold eiO at hk
  split at hk
  · rename_i r hr
    cases hk
    exact hf args M ds x M' ds' ob hr ho
  · exact hh args M ds x M' ds' ob hk ho
def kNilR : List SV → Dec → Option (SV × Dec × Obs)
  | [.o (.slice none 0 0)], ds => some (.b false, ds, [])
  | _, _ => none
theorem rgtNil : valR ((run Tryz.prog EG (lookO []) 60).1 31 [.o (.slice none 0 0)] [] (some [])) = some (.b false, some [], []) := by kernel_rfl
theorem nilRG : PlainOk Tryz.prog 31 kNilR := by
  intro args ds x ds' ob h ho
  unfold kNilR at h
  split at h
  · simp only [Option.some.injEq, Prod.mk.injEq] at h
    obtain ⟨rfl, _, rfl⟩ := h
    exact ⟨[.slice none 0 0], _, rfl, rfl, fun w => calls_of_val goodG (OracleOk.nil _) 60 rgtNil ob_n rfl rfl w⟩
  · cases h
def rgtO (o : List SV → Nat → Bool) : OF := eiO (plainO kNilR) (kRd 19 (kRgt o))
theorem rgtOG : OfOk Tryz.prog 31 (rgtO okPg) := eiO_ok nilRG.of rgtG.of
def OA22 (D : Ndn) (un : F → F → F → V3) (ub : F → F → F → Bool) : OracleF := lookO [(31, rgtO D.o), (33, plainO (kUn un ub)), (17, kRd 19 (kCh D)), (18, kRd 19 (kMi D)), (20, plainO kPt)]
def half_ : F := toF 4602678819172646912
def gyA : List SV := [.i .u8 1, .fl half_, .fl half_, .fl half_, fz, fz, fz, fz, fz, fz, fz, fz, fz, fz, fz, fz, fz, .i .i64 0, .i .i64 0]
def gyB : List SV := gyA ++ coJ (toF 4609434218613702656) one64 one64 one64 0
def nrB (a : I) (l h : Nat) : Obs := [(decide (a.lo.k ≤ a.hi.k), true), (decide (a.hi.k ≤ (toF h).k), true), (decide ((toF l).k ≤ a.lo.k), true)]
def upA (D : Ndn) (un : F → F → F → V3) (cs : List SV) (len : Nat) : Ch := D.g (un z64 z64 one64).z (un z64 z64 one64) (un z64 z64 one64) cs len
def upO (D : Ndn) (un : F → F → F → V3) (ub : F → F → F → Bool) (cs : List SV) (len : Nat) : Obs := atO D un ub cs len z64 z64 one64 z64 z64 one64
def aw22 (D : Ndn) (un : F → F → F → V3) (ub : F → F → F → Bool) : Obs :=
  nrB (D.gm (pt z64) gyB 2).m 4607182418800009216 4607182418800017408 ++ (nrB (upA D un gyB 2).m 4585925428414713479 4585925428702943855 ++ (nrB (upA D un gyB 2).p 4599176414598293166 4599176414616307564 ++ ((eqIv (upA D un gyA 1).m I.zero, true) :: (nrB (upA D un gyA 1).p 4599405781053817700 4599405781071832099 ++
  ([(ub z64 z64 one64, true), (ub z64 z64 z64, false), (D.o gyB 2, true)] ++ (((decide (gyB.length = 2 * 19), true) :: (D.o gyB 2, true) :: (D.bm (pt z64) gyB 2, true) :: miO (pt z64)) ++ (upO D un ub gyB 2 ++ upO D un ub gyA 1)))))))
def awD : List Bool := [true, true, false, false, true, true, false, false, false, true] ++ List.replicate 13 true
theorem aw22Run (D : Ndn) (un : F → F → F → V3) (ub : F → F → F → Bool) : valR ((run Tryz.prog EG (OA22 D un ub) 120).1 21 [] [] (some awD)) = some (.b true, some [], aw22 D un ub) := by kernel_rfl
set_option maxRecDepth 100000 in
theorem aw22_B : Bu.obsB (aw22 DR (unV KkR) unB) = true := by decide +kernel
theorem oracleA22 : OracleOk Tryz.prog (OA22 DR (unV KkR) unB) := .cons rgtOG (.cons unG.of (.cons chK.of (.cons miK.of (.cons ptG.of (.nil _)))))
theorem awake22G : PlainOk Tryz.prog 21 (oConst (.b true)) := constG rfl fun w => calls_of_val goodG oracleA22 120 (aw22Run DR (unV KkR) unB) (obsB_ok aw22_B) rfl rfl w
end Go.Proofs.YtgjohjgmlleebaaGreat
namespace Bu
set_option linter.all false
open Rx Go
theorem mul_f {a b r : I} (h : KkR.mul 0 a b = (r, 0)) : Fact (.mul 0 1) [a, b] r := by
  have st : (stepK KkR (.mul 0 1) [a, b] 0).2 = 0 := by show (KkR.mul 0 a b).2 = 0; rw [h]
  have f := (step_fact st).2.2
  rwa [show (stepK KkR (.mul 0 1) [a, b] 0).1 = r from by show (KkR.mul 0 a b).1 = r; rw [h]] at f
theorem add_f {a b r : I} (h : KkR.add 0 a b = (r, 0)) : Fact (.add 0 1) [a, b] r := by
  have st : (stepK KkR (.add 0 1) [a, b] 0).2 = 0 := by show (KkR.add 0 a b).2 = 0; rw [h]
  have f := (step_fact st).2.2
  rwa [show (stepK KkR (.add 0 1) [a, b] 0).1 = r from by show (KkR.add 0 a b).1 = r; rw [h]] at f
theorem sub_f {a b r : I} (h : KkR.sub 0 a b = (r, 0)) : Fact (.sub 0 1) [a, b] r := by
  have st : (stepK KkR (.sub 0 1) [a, b] 0).2 = 0 := by show (KkR.sub 0 a b).2 = 0; rw [h]
  have f := (step_fact st).2.2
  rwa [show (stepK KkR (.sub 0 1) [a, b] 0).1 = r from by show (KkR.sub 0 a b).1 = r; rw [h]] at f
theorem mul_pt {a b r : I} {x y : Rat} (h : KkR.mul 0 a b = (r, 0)) (hx : Mem a x) (hy : Mem b y) : Mem r (x * y) := p_mul (mul_f h) hx hy
theorem add_pt {a b r : I} {x y : Rat} (h : KkR.add 0 a b = (r, 0)) (hx : Mem a x) (hy : Mem b y) : Mem r (x + y) := p_add (add_f h) hx hy
theorem sub_pt {a b r : I} {x y : Rat} (h : KkR.sub 0 a b = (r, 0)) (hx : Mem a x) (hy : Mem b y) : Mem r (x - y) := p_sub (sub_f h) hx hy
theorem pt_mem (x : F) : Mem (pt x) x.q := ⟨Rat.le_refl, Rat.le_refl⟩
theorem one_mem' : Mem (pt one64) 1 := by have := pt_mem one64; rwa [one_q] at this
theorem mixK_pt {w : F} {a b A C : I} (hw : z64.k ≤ w.k ∧ w.k ≤ one64.k) (ha : InB a A) (hb : InB b A) (h1 : byE A A = true) (h2 : adE A A C = true) : ∃ r, mixK KkR 0 w a b = (r, 0) ∧ InB r C ∧ ∀ x y, Mem a x → Mem b y → Mem r ((1 - w.q) * x + w.q * y) := by
  obtain ⟨s, e1, b1⟩ := less_in (pt_z1 hw)
  obtain ⟨m1, e2, b2⟩ := by_in b1 ha h1
  obtain ⟨m2, e3, b3⟩ := by_in (pt_z1 hw) hb h1
  obtain ⟨r, e4, b4⟩ := ad_in b2 b3 h2
  exact ⟨r, mixK_st e1 e2 e3 e4, b4, fun x y hx hy => add_pt e4 (mul_pt e2 (sub_pt e1 one_mem' (pt_mem w)) hx) (mul_pt e3 (pt_mem w) hy)⟩
theorem okAt_n {cs : List SV} {i : Nat} {n : Nd} (h1 : ckAll cs (i * 19) ndCK = true) (hn : ndR cs (i * 19) = n) (h2 : okNd n i = true) : okAt cs i = true := okAt_mk h1 (by rw [hn]; exact h2)
/-- nothing -/
def bZ : I := ⟨z64, z64⟩
set_option maxRecDepth 100000 in
theorem bZ_B : byE bZ bZ = true ∧ adE bZ bZ bZ = true := by decide +kernel
theorem bZ_0 : InB I.zero bZ := ⟨Int.le_of_eq zz_k.symm, Int.le_of_eq zz_k, Int.le_refl _⟩
theorem bZ_eq {a : I} (h : InB a bZ) : a.lo.k = F.zero.k ∧ a.hi.k = F.zero.k := by
  have h1 : z64.k ≤ a.lo.k := h.1
  have h2 : a.hi.k ≤ z64.k := h.2.1
  have h3 := h.2.2
  have := zz_k
  omega
end Bu
namespace Go.Proofs.YtgjohjgmlleebaaGreat
set_option linter.all false
open Go.RowKit Bu Rx
theorem chF_coat {cos : I} {lf : Nd → I × Int} {cs : List SV} {i : Nat} {n : Nd} {o s x y z : I} (hn : ndR cs (i * 19) = n) (h6 : n.k = 6) (ha : 0 ≤ n.a ∧ n.a < i) (ho : NdR.D cos ⟨n.f 14, n.f 14⟩ = (o, 0)) (h1 : KkR.sub 0 (pt one64) o = (s, 0))
    (h2 : KkR.mul 0 s (chF (allF NdR cos lf cs) n.a.toNat).p = (x, 0)) (h3 : KkR.mul 0 s (chF (allF NdR cos lf cs) n.a.toNat).m = (y, 0)) (h4 : KkR.add 0 o y = (z, 0)) : chF (allF NdR cos lf cs) i = ⟨x, z⟩ := by
  show (nodC NdR cos lf (fun j => (chL (allF NdR cos lf cs) i).getD j Ch.zero) (ndR cs (i * 19))).1 = _
  rw [hn]
  unfold nodC
  rw [decide_eq_false (show n.k ≠ 5 by omega), decide_eq_true h6, cond_false, cond_true, ho]
  simp only [chL_get _ (show n.a.toNat < i by omega)]
  show (coatC KkR _ _).1 = _
  rw [coatC_st h1 h2 h3 h4]
theorem fr_rn {n : Int} (h : wN32 n = true) : rnB z64 one64 (frT n) = true := by
  obtain ⟨t, e1, t0, t1, _⟩ := frT_ok h
  have eT : frT n = t := by
    unfold frT
    rw [e1]
    exact toF_F t
  rw [eT]
  have zk : z64.k = 0 := z64_0
  unfold rnB
  rw [decide_eq_true (show z64.k ≤ t.k by omega), decide_eq_true t1]; rfl
theorem u32_w {n : Int} (h : (Lit.int .u32 n).wf = true) : wN32 n = true := by
  have : 0 ≤ n ∧ n ≤ 4294967295 := by simpa [Lit.wf, IntKind.min, IntKind.max, IntKind.signed, IntKind.bits] using h
  exact decide_eq_true this
theorem u6_mk {x0 x1 x2 x3 x4 x5 : Int} (h0 : (Lit.int .u32 x0).wf = true) (h1 : (Lit.int .u32 x1).wf = true) (h2 : (Lit.int .u32 x2).wf = true) (h3 : (Lit.int .u32 x3).wf = true) (h4 : (Lit.int .u32 x4).wf = true) (h5 : (Lit.int .u32 x5).wf = true) : (U6.mk x0 x1 x2 x3 x4 x5).ok = true := by
  unfold U6.ok
  simp only [u32_w h0, u32_w h1, u32_w h2, u32_w h3, u32_w h4, u32_w h5, Bool.and_self]
end Go.Proofs.YtgjohjgmlleebaaGreat
namespace Go.Proofs.YtgjohjgmlleebaaGreat
set_option linter.all false
open Go.ChangeShapes Go.WideShapes Go.ChangeAt Go.RowKit Go.Deep Go.WideElems
section
variable {H : Type} {enc : TypeId × Value → H} {P : Program}
theorem all_stays (hl : laidOutB P = true) {W W' : World} (hb : Below W.heap.size W W') {sp : Nat → Bool} : ∀ {ts : List TypeId} {vs : List Value} {ds : List (DataW H)} {ps : List MemPlace},
    (∀ t ∈ ts, P.readableRec t = true ∧ t < P.types.size) → DataW.TrodAll enc P W 0 (fun _ => true) true ts vs ds ps → (∀ p ∈ ps, sp p.block = true) → DataW.TrodAll enc P W' 0 sp true ts vs ds ps
  | [], _, _, _, _, h, _ => by
    obtain ⟨rfl, rfl, rfl⟩ := trodAll_nil h
    exact trodAll_mk0
  | t :: ts, _, _, _, ht, h, hs => by
    have hlt := h.lt
    obtain ⟨v, vs1, d, ds1, a, b, rfl, rfl, rfl, ⟨n, h1⟩, h2⟩ := trodAll_cons h
    have hr := ht t (List.mem_cons_self ..)
    exact ⟨a, b, ⟨n, DataW.trod_stays (kids_book hl hr.1) (book_sized hr.1) (fun h => by cases h) ⟨hr.2, book_self t⟩ h1 (fun x hx => hb.same (hlt x (List.mem_append_left _ hx))) (fun x hx => hs x (List.mem_append_left _ hx))⟩,
      all_stays hl hb (fun t h => ht t (List.mem_cons_of_mem _ h)) h2 (fun p hp => hs p (List.mem_append_right _ hp)), rfl⟩
theorem post_kept {f : Func} {s : ChangeSpec} {apart fresh handsOn again : Bool} {W W' : World} {args : Array Value} {v : Value} {ds gs : List (DataW H)} {before : List MemPlace}
    (hl : laidOutB P = true) (hts : ∀ t ∈ f.params.toList, P.readableRec t = true ∧ t < P.types.size) (hvs : s.vars = [])
    (hW : DataW.Whole enc P f.params.toList s.vars apart W args.toList ds gs before)
    (hres : ∀ (b : Nat) (sp : Nat → Bool) (hd : Bool), DataW.TrodAll enc P W' b sp hd f.resultTypes.toList (v.resultList f.resultTypes.size) (s.fn H (ds ++ gs)).results [])
    (hda : (s.fn H (ds ++ gs)).args = ds) (hdv : (s.fn H (ds ++ gs)).vars = [])
    (hb : Below W.heap.size W W')
    (hok : ∀ (j : Nat) (t : TypeId) (r : Value), f.resultTypes[j]? = some t → (v.resultList f.resultTypes.size)[j]? = some r → Value.okWide P W' .any 0 t r) :
    s.post enc P f apart fresh handsOn again W args v W' := by
  have hW' := hW
  obtain ⟨p, q, hA, hV, rfl, hfz, hnd⟩ := hW
  rw [hvs] at hV
  obtain ⟨rfl, rfl⟩ := trodVars_none hV
  have hlt : ∀ x ∈ p, x.block < W.heap.size := hA.lt
  have stay : ∀ sp : Nat → Bool, (∀ x ∈ p, sp x.block = true) → DataW.TrodAll enc P W' 0 sp true f.params.toList args.toList ds p := fun sp h => all_stays hl hb hts hA h
  have none_ : ∀ sp : Nat → Bool, DataW.TrodVars enc P W' sp s.vars [] [] := fun sp => by rw [hvs]; rfl
  refine ⟨ds, [], p ++ [], [], p, [], hW', hres _ _ _, ?_, ?_, World.keptBut_mono (fun x hx => ⟨hx, ?_⟩) (hb.frame (· ∈ p ++ [])), fun _ => ?_⟩
  · rw [hda]; exact stay _ (fun x hx => by simpa using hlt x hx)
  · rw [hdv]; exact none_ _
  · rw [List.append_nil] at hx
    exact .inr (.inl hx)
  · refine ⟨hok, _, _, ([] ++ p) ++ [], ⟨[] ++ p, [], trodAll_append (stay _ (fun _ _ => rfl)) (hres _ _ _), none_ _, rfl, ?_, ?_⟩, ?_⟩
    · intro b off hp
      have hp' : MemPlace.cell b off ∈ p ++ [] := by simpa using hp
      rw [hb.frozen (hlt _ (by simpa using hp))]
      exact hfz b off hp'
    · intro ha
      have := hnd ha
      simpa using this
    · intro x hx _
      simpa using hx
/-- a slice of arrays of whole numbers -/
theorem open_rows {t a e : TypeId} {n : Nat} {k : IntKind} (ht : P.underlying t = some (.slice a)) (hT : ArrT P a e n k) {W : World} {base : Nat} {v : Value} {d : DataW H} {ps : List MemPlace} (hval : Value.okWide P W .any base t v) (hd : DataW.Trod enc P W 0 (fun _ => true) true t v d ps) :
    v = .slice none 0 0 ∨ ∃ (r off len cap : Nat) (cv : Array Value) (el : TypeId) (z : Nat × Nat), v = .slice (some ⟨r, off, none⟩) len cap ∧ len ≤ cap ∧ W.heap[r]? = some (.cells cv el z) ∧ ∀ i, i < len → ∀ j, j < n → ∃ x : Int, cv[off + (i * n + j)]? = some (.int k x) ∧ (Lit.int k x).wf = true := by
  obtain ⟨fuel, hf⟩ := hd
  simp only [Value.okWide, ht] at hval
  rcases open_slice ht hf with ⟨hc, _⟩ | ⟨ad, len, cap, m, n', D, Pl, hc, hb, hlc, hm, hmm, hx, hel⟩
  · left
    cases v <;> simp_all [Cell.okWide, Cell.ok, Value.cells]
  · right
    have hv : v = .slice (some ad) len cap := by
      cases v <;> simp_all [Cell.okWide, Cell.ok, Value.cells]
    subst hv
    have hh : W.has P .any base ad a cap := by
      have : Cell.ok P W .any base t (.slice (some ad) len cap) := by simpa [Cell.okWide, ht] using hval
      simp only [Cell.ok, ht] at this
      exact this.2.2
    obtain ⟨_, hspot, row, cells, hshape, _⟩ := hh
    obtain ⟨r, off, spot⟩ := ad
    simp only at hspot
    subst hspot
    unfold World.shape? at hshape
    split at hshape
    · rename_i cv el z hheap
      refine ⟨r, off, len, cap, cv, el, z, rfl, hlc, hheap, fun i hi j hj => ?_⟩
      have hm' : m = cap := by simpa using hmm
      obtain ⟨cs', h1, h2⟩ := hel i (by omega)
      rw [hT.ct] at h1
      obtain ⟨_, hlen, hcell⟩ := World.cells?_some h1
      obtain ⟨xs, m2, _, hx2, hl2, hn2, he2⟩ := DataW.trod_array hT.ar h2
      have h3 := he2 j hj
      rw [hT.ce, Nat.mul_one] at h3
      obtain ⟨x, hx3⟩ : ∃ x, xs[j]? = some x := ⟨xs[j], List.getElem?_eq_getElem (by omega)⟩
      rw [hx3] at h3
      obtain ⟨y, c1, c2, c3⟩ := DataW.trod_int hT.el h3
      refine ⟨y, ?_, c3⟩
      have h4 := hcell j hj
      have h5 : cs'[j]? = some (.int k y) := by
        have := congrArg (·[0]?) c1
        simpa using this
      rw [h5, add_add] at h4
      have h6 : (⟨r, off, none⟩ : Addr).add (i * n + j) = ⟨r, off + (i * n + j), none⟩ := Rx.Addr_add _ _ _
      rw [h6] at h4
      simpa [World.cell?, hheap] using h4
    · cases hshape
end
end Go.Proofs.YtgjohjgmlleebaaGreat
namespace Go.Proofs.YtgjohjgmlleebaaGreat
set_option linter.all false
open Go.RowKit Bu Rx
theorem ofVs_get : ∀ (l : List Value) (j : Nat), (ofVs l)[j]? = (l[j]?).map ofV
  | [], j => by simp [ofVs]
  | v :: l, 0 => by simp [ofVs]
  | v :: l, j + 1 => by simp only [ofVs, List.getElem?_cons_succ]; exact ofVs_get l j
/-- rows of eight numbers -/
theorem u8_cells {cs : List SV} {o : Nat} (h : ∀ t, t < 8 → ∃ x : Int, cs[o + t]? = some (.i .u32 x) ∧ wN32 x = true) : ckAll cs o u8CK = true ∧ (u8At cs o).ok = true := by
  obtain ⟨x0, e0, w0⟩ := h 0 (by omega)
  obtain ⟨x1, e1, w1⟩ := h 1 (by omega)
  obtain ⟨x2, e2, w2⟩ := h 2 (by omega)
  obtain ⟨x3, e3, w3⟩ := h 3 (by omega)
  obtain ⟨x4, e4, w4⟩ := h 4 (by omega)
  obtain ⟨x5, e5, w5⟩ := h 5 (by omega)
  obtain ⟨x6, e6, w6⟩ := h 6 (by omega)
  obtain ⟨x7, e7, w7⟩ := h 7 (by omega)
  rw [Nat.add_zero] at e0
  constructor
  · unfold u8CK
    simp only [ckAll, ckOk, Nat.add_assoc, Nat.reduceAdd, e0, e1, e2, e3, e4, e5, e6, e7, decide_true, Bool.and_self]
  · unfold u8At U8.ok
    simp only [inAt, e0, e1, e2, e3, e4, e5, e6, e7, w0, w1, w2, w3, w4, w5, w6, w7, Bool.and_self]
theorem rows_mem {W : World} {r off len cap : Nat} {cv : Array Value} {el : TypeId} {z : Nat × Nat} (hh : W.heap[r]? = some (.cells cv el z)) (hc : ∀ i, i < len → ∀ j, j < 8 → ∃ x : Int, cv[off + (i * 8 + j)]? = some (.int .u32 x) ∧ (Lit.int .u32 x).wf = true) :
    ∃ (m : Nms) (cells : List SV), MemAt m W [⟨el, cells, .ro z⟩] ∧ m 0 = some r ∧ prInB NprR ((cells.drop off).take (len * 8)) len = true := by
  have hr : r < W.heap.size := (Array.getElem?_eq_some_iff.1 hh).1
  refine ⟨⟨fun n => if n = 0 then some r else none, fun _ => 0⟩, ofVs cv.toList, ⟨⟨fun n q hq => ?_⟩, fun n n' q _ _ h1 h2 => ?_, fun n b hb => ?_, fun n q hq => ?_⟩, rfl, ?_⟩
  · have hq' : (if n = 0 then some r else none) = some q := hq
    split at hq'
    · cases hq'; exact hr
    · cases hq'
  · have h1' : (if n = 0 then some r else none) = some q := h1
    have h2' : (if n' = 0 then some r else none) = some q := h2
    by_cases e1 : n = 0
    · by_cases e2 : n' = 0
      · rw [e1, e2]
      · rw [if_neg e2] at h2'; cases h2'
    · rw [if_neg e1] at h1'; cases h1'
  · have hn : n = 0 := by
      rcases Nat.lt_or_ge n 1 with h' | h'
      · omega
      · rw [List.getElem?_eq_none (by simpa using h')] at hb; cases hb
    subst hn
    simp only [List.getElem?_cons_zero, Option.some.injEq] at hb
    subst hb
    exact ⟨r, rfl, BlkAt.mk_ro (ofVs_ids _) (dens_ofVs _) (by simpa using hh)⟩
  · have hq' : (if n = 0 then some r else none) = some q := hq
    split at hq'
    · rename_i h0; subst h0; exact Nat.lt_add_one 0
    · cases hq'
  · refine List.all_eq_true.2 fun j hj => ?_
    have hj' := List.mem_range.1 hj
    have h := u8_cells (cs := ((ofVs cv.toList).drop off).take (len * 8)) (o := j * 8) fun t ht => by
      obtain ⟨x, h1, h2⟩ := hc j (by omega) t ht
      refine ⟨x, ?_, u32_w h2⟩
      rw [List.getElem?_take, if_pos (by omega), List.getElem?_drop, ofVs_get]
      have h3 : cv.toList[off + (j * 8 + t)]? = some (.int .u32 x) := by simpa using h1
      rw [h3]; rfl
    rw [Bool.and_eq_true]
    refine ⟨h.1, ?_⟩
    have h2 := h.2
    unfold prgB
    generalize u8At (((ofVs cv.toList).drop off).take (len * 8)) (j * 8) = u at h2
    have h3 := h2
    unfold U8.ok at h2
    simp only [Bool.and_eq_true] at h2
    obtain ⟨w0, w1, w2, w3, w4, w5, w6, w7⟩ := h2
    show (u.ok && (wN32 u.a3 && (wN32 u.a4 && (wN32 u.a5 && wN32 u.a6)))) = true
    rw [h3, w3, w4, w5, w6]; rfl
end Go.Proofs.YtgjohjgmlleebaaGreat
namespace Bu
set_option linter.all false
open Rx Go
theorem CellsAt.left {a b cs : List SV} {off : Nat} (h : CellsAt a off cs) : CellsAt (a ++ b) off cs := fun j x hx => by
  have := h j x hx
  rw [List.getElem?_append_left (List.getElem?_eq_some_iff.1 this).1]; exact this
theorem CellsAt.right (a b : List SV) : CellsAt (a ++ b) a.length b := fun j x hx => by
  rw [List.getElem?_append_right (by omega), show a.length + j - a.length = j by omega]; exact hx
theorem nd_of {cells cs : List SV} {off : Nat} (h : CellsAt cells off cs) (hk : ckAll cs 0 ndCK = true) : ckAll cells off ndCK = true ∧ ndR cells off = ndR cs 0 := by
  obtain ⟨a, b⟩ := at_row h hk
  rw [Nat.add_zero] at a b
  refine ⟨b, ?_⟩
  have e := nd_row cells off
  rw [a, nd_row cs 0] at e
  exact (Option.some.inj e).symm
end Bu
namespace Go.Proofs.YtgjohjgmlleebaaGreat
set_option linter.all false
open Go.RowKit Bu Rx
def rowP (N : Npr) (U : Nat → U8) : Nat → List SV
  | 0 => nzC (N.k (U 0)) (N.f (U 0))
  | j + 1 => rowN N (U (j + 1)) (j + 1)
theorem prgC_row (N : Npr) (U : Nat → U8) : ∀ {k j : Nat}, j ≤ k → CellsAt (prgC N U k) (j * 19) (rowP N U j)
  | 0, j, h => by
    obtain rfl : j = 0 := by omega
    intro i x hx
    rw [Nat.zero_mul, Nat.zero_add]; exact hx
  | k + 1, j, h => by
    rcases Nat.lt_or_ge j (k + 1) with h1 | h1
    · exact CellsAt.left (prgC_row N U (k := k) (j := j) (by omega))
    · obtain rfl : j = k + 1 := by omega
      have := CellsAt.right (prgC N U k) (rowN N (U (k + 1)) (k + 1))
      rw [prgC_len] at this
      exact this
theorem rowP_ck (N : Npr) (U : Nat → U8) : ∀ j, ckAll (rowP N U j) 0 ndCK = true
  | 0 => rfl
  | j + 1 => by
    show ckAll (rowN N (U (j + 1)) (j + 1)) 0 ndCK = true
    unfold rowN
    cases decide (prT (U (j + 1)) = 0)
    · cases decide (prT (U (j + 1)) = 1) || decide (prT (U (j + 1)) = 2) <;> rfl
    · rfl
theorem rowP_pl (N : Npr) (U : Nat → U8) : ∀ j, ∃ vs, plains (rowP N U j) = some vs
  | 0 => ⟨_, rfl⟩
  | j + 1 => by
    show ∃ vs, plains (rowN N (U (j + 1)) (j + 1)) = some vs
    unfold rowN
    cases decide (prT (U (j + 1)) = 0)
    · cases decide (prT (U (j + 1)) = 1) || decide (prT (U (j + 1)) = 2) <;> exact ⟨_, rfl⟩
    · exact ⟨_, rfl⟩
theorem prgC_pl (N : Npr) (U : Nat → U8) : ∀ k, ∃ vs, plains (prgC N U k) = some vs
  | 0 => rowP_pl N U 0
  | k + 1 => by
    obtain ⟨a, ha⟩ := prgC_pl N U k
    obtain ⟨b, hb⟩ := rowP_pl N U (k + 1)
    exact ⟨a ++ b, plains_app ha hb⟩
theorem tmod_in {a : Int} {n : Nat} (ha : 0 ≤ a) (h1 : 1 ≤ n) (h8 : n ≤ 8) : 0 ≤ IntKind.i64.wrap (a.tmod (IntKind.u32.wrap (n : Int))) ∧ IntKind.i64.wrap (a.tmod (IntKind.u32.wrap (n : Int))) < n := by
  rw [u32_small h8, Int.tmod_eq_emod_of_nonneg ha, IntKind.wrap_i64]
  have h2 := Int.emod_nonneg a (show (n : Int) ≠ 0 by omega)
  have h3 := Int.emod_lt_of_pos a (show 0 < (n : Int) by omega)
  omega
theorem w32_nn {n : Int} (h : wN32 n = true) : 0 ≤ n := (of_decide_eq_true h).1
theorem nd_co (n t0 t1 t2 : F) (a : Int) : ndR (coC n t0 t1 t2 a) 0 = ⟨6, ndM z64 z64 z64 t0 t1 t2 z64 z64 z64 z64 z64 z64 z64 z64 n z64, a, 0⟩ := by kernel_rfl
theorem nd_mx (w : F) (a b : Int) : ndR (mxC w a b) 0 = ⟨5, ndM z64 z64 z64 z64 z64 z64 z64 z64 z64 z64 z64 z64 z64 z64 z64 w, a, b⟩ := by kernel_rfl
theorem nd_lf (u : U8) : ndR (nzC (leK u) (leF bwF u)) 0 = leNd u := by kernel_rfl
theorem okNd_row {u : U8} {n : Nat} (hu : prgB NprR u = true) (h1 : 1 ≤ n) (h8 : n ≤ 8) : okNd (ndR (rowN NprR u n) 0) n = true := by
  unfold prgB at hu
  simp only [Bool.and_eq_true] at hu
  obtain ⟨o, w3, w4, w5, w6⟩ := hu
  have ok : u.ok = true := o
  unfold U8.ok at ok
  simp only [Bool.and_eq_true] at ok
  obtain ⟨_, a1, a2, _⟩ := ok
  have m1 := tmod_in (w32_nn a1) h1 h8
  have m2 := tmod_in (w32_nn a2) h1 h8
  unfold rowN
  cases decide (prT u = 0)
  · cases decide (prT u = 1) || decide (prT u = 2)
    · show okNd (ndR (coC (bwF minIo four64 u.a3) (frT u.a4) (frT u.a5) (frT u.a6) (prA u n)) 0) n = true
      rw [nd_co]
      exact okNd_6 (bw_rn rk_le.2.2.1) (fr_rn w4) (fr_rn w5) (fr_rn w6) m1.1 m1.2
    · show okNd (ndR (mxC (frT u.a3) (prA u n) (prB u n)) 0) n = true
      rw [nd_mx]
      exact okNd_5 (fr_rn w3) m1.1 m1.2 m2.1 m2.2
  · show okNd (ndR (nzC (leK u) (leF bwF u)) 0) n = true
    rw [nd_lf]
    exact okNd_le u n
theorem okPg_prg {U : Nat → U8} {k : Nat} (hk : k ≤ 8) (hU : ∀ j, j ≤ k → prgB NprR (U j) = true) : okPg (prgC NprR U k) (k + 1) = true := by
  obtain ⟨vs, hv⟩ := prgC_pl NprR U k
  refine okPg_mk (by rw [hv]; rfl) (by omega) (by omega) fun i hi => ?_
  obtain ⟨c1, c2⟩ := nd_of (prgC_row NprR U (k := k) (j := i) (by omega)) (rowP_ck NprR U i)
  refine okAt_n c1 c2 ?_
  cases i with
  | zero =>
    show okNd (ndR (nzC (leK (U 0)) (leF bwF (U 0))) 0) _ = true
    rw [nd_lf]
    exact okNd_le _ _
  | succ i => exact okNd_row (hU (i + 1) (by omega)) (by omega) (by omega)
theorem u8Z_B : prgB NprR u8Z = true := by decide +kernel
theorem prog_ok {cs : List SV} {len : Nat} (h : prInB NprR cs len = true) : okPg (prgC NprR (prU cs len) (prK len)) (prK len + 1) = true ∧ prK len ≤ 7 := by
  have K := prInB_ok h
  have h7 : prK len ≤ 7 := by
    rcases Nat.eq_zero_or_pos len with h0 | h0
    · subst h0; rw [prK_0]; omega
    · have := (prK_s h0).1; omega
  refine ⟨okPg_prg (by omega) fun j hj => ?_, h7⟩
  unfold prU
  cases len with
  | zero => exact u8Z_B
  | succ n =>
    have := (prK_s (len := n + 1) (by omega)).1
    exact K.ok j (by omega) (by omega)
end Go.Proofs.YtgjohjgmlleebaaGreat
namespace Go.Proofs.YtgjohjgmlleebaaGreat
set_option linter.all false
open Go.RowKit Bu Rx
structure Nlw where
  N : Npr
  g : List SV → Nat → List SV
  b : List SV → Nat → Bool
  D : Ndn
  tA : U6 → V3
  tB : U6 → V3
  tw : U6 → Bool
def prgO (g : List SV → Nat → List SV) (b : List SV → Nat → Bool) : OF := eiO (kPr g b) (kPz g)
def OLi (W : Nlw) : OracleF := lookO [(15, prgO W.g W.b), (16, plainO (kTw W.tA W.tB W.tw)), (17, kRd 19 (kCh W.D)), (18, kRd 19 (kMi W.D)), (19, plainO (kBw W.N.b W.N.p W.N.w)), (20, plainO kPt), (21, plainO (oConst (.b true)))]
noncomputable def lmC : Code := bodyOf Tryz.prog 3
theorem lmBody : Tryz.f3.body = some lmC := by kernel_rfl
noncomputable def lmA (el : TypeId) (z : Nat × Nat) (cells : List SV) (off len cap : Nat) (u : U6) (i : Int) : St := ⟨([.ssl 0 off len cap, u.sv, .si .u32 i] : List SV) ++ List.replicate (Tryz.f3.ntmps - 3) (.tup []), [⟨el, cells, .ro z⟩], none, []⟩
noncomputable def lmZ (u : U6) (i : Int) : St := ⟨([.o (.slice none 0 0), u.sv, .si .u32 i] : List SV) ++ List.replicate (Tryz.f3.ntmps - 3) (.tup []), [], none, []⟩
noncomputable abbrev lmA2 (W : Nlw) (el : TypeId) (z : Nat × Nat) (cells : List SV) (off len cap : Nat) (u : U6) (i : Int) : St := aftN Tryz.prog EG (OLi W) 60 2 lmC (lmA el z cells off len cap u i)
noncomputable abbrev lmZ2 (W : Nlw) (u : U6) (i : Int) : St := aftN Tryz.prog EG (OLi W) 60 2 lmC (lmZ u i)
theorem lmLa (W : Nlw) (el : TypeId) (z : Nat × Nat) (cells : List SV) (off len cap : Nat) (u : U6) (i : Int) : LandsN Tryz.prog EG (OLi W) 60 2 lmC (lmA el z cells off len cap u i) := by unfold LandsN; kernel_rfl
theorem lmLz (W : Nlw) (u : U6) (i : Int) : LandsN Tryz.prog EG (OLi W) 60 2 lmC (lmZ u i) := by unfold LandsN; kernel_rfl
def lmT (n : Nat) (u : U6) (i : Int) (x : Nat → SV) : List SV :=
  [x 0, u.sv, .si .u32 i, x 3, .p 0 0, x 5, .b false, .osl true 1 n, x 8, x 9, x 10, x 11, x 12, x 13, x 14, x 15, x 16, x 17, x 18, x 19, x 20, x 21, x 22, x 23, x 24, x 25, x 26, x 27, x 28, x 29, x 30, x 31, x 32, x 33, x 34, x 35, x 36, x 37, x 38, x 39, x 40, x 41, x 42, x 43, x 44, x 45, x 46, x 47, x 48, x 49, x 50, x 51, x 52, x 53, x 54, x 55, x 56, x 57, x 58, x 59, x 60, x 61, x 62, x 63, x 64, x 65, x 66, x 67, x 68, x 69, x 70, x 71, x 72, x 73, x 74, x 75, x 76, x 77, x 78, x 79, x 80, x 81, x 82, x 83, x 84, x 85, x 86, x 87, x 88, x 89, x 90, x 91, x 92, x 93, x 94, x 95, x 96, x 97, x 98, x 99, x 100, x 101, x 102, x 103, x 104, x 105, x 106, x 107, x 108, x 109, x 110, x 111]
def u6C (u : U6) : List SV := [.si .u32 u.a0, .si .u32 u.a1, .si .u32 u.a2, .si .u32 u.a3, .si .u32 u.a4, .si .u32 u.a5]
def lmM (pc : List SV) (u : U6) : List Blk := [⟨24, u6C u, .ex⟩, ⟨44, pc, .rown 19⟩]
def lmS (pc : List SV) (n : Nat) (u : U6) (i : Int) (x : Nat → SV) (d : Dec) : St := ⟨lmT n u i x, lmM pc u, d, []⟩
section
variable (W : Nlw) (el : TypeId) (z : Nat × Nat) (cells : List SV) (off len cap : Nat) (u : U6) (i : Int)
theorem lmOa : (lmA2 W el z cells off len cap u i).ob = [(decide (len ≤ cap), true), (W.b ((cells.drop off).take (len * 8)) len, true)] := by kernel_rfl
theorem lmOz : (lmZ2 W u i).ob = [] := by kernel_rfl
theorem lmRa : ∃ rest, (lmA2 W el z cells off len cap u i).M = [⟨el, cells, .ro z⟩] ++ rest := ⟨[⟨24, u6C u, .ex⟩, ⟨44, W.g ((cells.drop off).take (len * 8)) len, .rown 19⟩], by kernel_rfl⟩
theorem lmMa : selM (lmA2 W el z cells off len cap u i).M [1, 2] = some (lmM (W.g ((cells.drop off).take (len * 8)) len) u) := by kernel_rfl
theorem lmMz : selM (lmZ2 W u i).M [0, 1] = some (lmM (W.g [] 0) u) := by kernel_rfl
noncomputable def lmXa (v : Nat → Value) : Nat → SV := fun j => ((lmA2 W el z cells off len cap u i).sel [1, 2] [] v).T.getD j .np
noncomputable def lmXz (v : Nat → Value) : Nat → SV := fun j => ((lmZ2 W u i).sel [0, 1] [] v).T.getD j .np
theorem lmTa (v : Nat → Value) (M' : List Blk) : ((lmA2 W el z cells off len cap u i).sel [1, 2] M' v).T = lmT (prK len + 1) u i (lmXa W el z cells off len cap u i v) := by kernel_rfl
theorem lmTz (v : Nat → Value) (M' : List Blk) : ((lmZ2 W u i).sel [0, 1] M' v).T = lmT 1 u i (lmXz W u i v) := by kernel_rfl
end
end Go.Proofs.YtgjohjgmlleebaaGreat
namespace Go.Proofs.YtgjohjgmlleebaaGreat
set_option linter.all false
open Go.RowKit Bu Rx
def lmCh (W : Nlw) (pc : List SV) (n : Nat) (u : U6) : Ch := W.D.g (W.tB u).z (W.tA u) (W.tB u) ((pc.drop 0).take (n * 19)) n
def lmMi (W : Nlw) (pc : List SV) (n : Nat) (u : U6) : I := (W.D.gm (W.tB u).z ((pc.drop 0).take (n * 19)) n).m
def lmE (W : Nlw) (pc : List SV) (n : Nat) (i : Int) : List SV := ((((pc.drop 0).take (n * 19)) ++ coC (W.N.b minIor_ maxIor_ i) F.zero F.zero F.zero (IntKind.i64.wrap ((n : Int) - 1))).drop 0).take ((0 + n + 1) * 19)
def lmEd (W : Nlw) (pc : List SV) (n : Nat) (i : Int) : I := (W.D.gm (pt z64) (lmE W pc n i) (0 + n + 1)).m
def lmB1 (pc : List SV) (n : Nat) : Bool := decide (1 ≤ n) && (decide (0 + n ≤ maxLen) && (decide ((0 + n) * 152 ≤ 140737488355328) && (decide (0 + n * 19 ≤ pc.length) && (((pc.drop 0).take (n * 19)).all SV.scalar && decide (([] : List SV).length = 0 * 19)))))
def lmB2 (pc : List SV) (n : Nat) : Bool := decide (1 ≤ 1) && (decide (0 + n + 1 ≤ maxLen) && (decide ((0 + n + 1) * 152 ≤ 140737488355328) && (decide (0 + 1 * 19 ≤ 19) && (true && decide (((pc.drop 0).take (n * 19)).length = (0 + n) * 19)))))
def lmO7 (W : Nlw) (pc : List SV) (n : Nat) (u : U6) (i : Int) : Obs :=
  ((decide ((lmE W pc n i).length = (0 + n + 1) * 19), true) :: (W.D.o (lmE W pc n i) (0 + n + 1), true) :: (W.D.bm (pt z64) (lmE W pc n i) (0 + n + 1), true) :: miO (pt z64)) ++
  ([(lmB2 pc n, true), (lmB1 pc n, true), (W.N.p minIor_ maxIor_, true), (W.N.w i, true)] ++
   (((decide (((pc.drop 0).take (n * 19)).length = n * 19), true) :: (W.D.o ((pc.drop 0).take (n * 19)) n, true) :: (W.D.bm (W.tB u).z ((pc.drop 0).take (n * 19)) n, true) :: miO (W.tB u).z) ++
    (((decide (((pc.drop 0).take (n * 19)).length = n * 19), true) :: (W.D.o ((pc.drop 0).take (n * 19)) n, true) :: (W.D.b (W.tB u).z (W.tA u) (W.tB u) ((pc.drop 0).take (n * 19)) n, true) :: (vcO (W.tB u) ++ vcO (W.tA u))) ++ [(W.tw u, true)])))
def lmT7 (n : Nat) (u : U6) (i : Int) (x : Nat → SV) : List SV :=
  [x 0, u.sv, .si .u32 i, x 3, .p 0 0, x 5, .b false, .osl true 1 n, x 8, x 9, x 10, .p 2 0, .i .i64 0, .p 3 0, .i .i64 0, x 15, .p 4 0, .i .i64 0, .i .i64 0, x 19, x 20, x 21, x 22, x 23, x 24, x 25, x 26, x 27, x 28, x 29, x 30, x 31, x 32, x 33, x 34, x 35, x 36, x 37, x 38, x 39, x 40, x 41, x 42, x 43, x 44, x 45, x 46, x 47, x 48, x 49, x 50, x 51, x 52, x 53, x 54, x 55, x 56, x 57, x 58, x 59, x 60, x 61, x 62, x 63, x 64, x 65, x 66, x 67, x 68, x 69, x 70, x 71, x 72, x 73, x 74, x 75, x 76, x 77, x 78, x 79, x 80, x 81, x 82, x 83, x 84, x 85, x 86, x 87, x 88, x 89, x 90, x 91, x 92, x 93, x 94, x 95, x 96, x 97, x 98, x 99, x 100, x 101, x 102, x 103, x 104, x 105, x 106, x 107, x 108, x 109, x 110, x 111]
def lmTL (n : Nat) (u : U6) (i : Int) (c j : SV) (x : Nat → SV) : List SV :=
  [x 0, u.sv, .si .u32 i, x 3, .p 0 0, x 5, .b false, .osl true 1 n, x 8, x 9, x 10, .p 2 0, .i .i64 0, .p 3 0, .i .i64 0, x 15, .p 4 0, .i .i64 0, c, x 19, x 20, x 21, x 22, x 23, x 24, x 25, x 26, x 27, x 28, x 29, x 30, x 31, x 32, x 33, x 34, x 35, x 36, x 37, x 38, x 39, x 40, x 41, x 42, x 43, x 44, x 45, x 46, x 47, x 48, x 49, x 50, x 51, x 52, x 53, x 54, x 55, x 56, x 57, x 58, x 59, x 60, x 61, .osl true 1 n, .si .i64 n, j, x 65, x 66, x 67, x 68, x 69, x 70, x 71, x 72, x 73, x 74, x 75, x 76, x 77, x 78, x 79, x 80, x 81, x 82, x 83, x 84, x 85, x 86, x 87, x 88, x 89, x 90, x 91, x 92, x 93, x 94, x 95, x 96, x 97, x 98, x 99, x 100, x 101, x 102, x 103, x 104, x 105, x 106, x 107, x 108, x 109, x 110, x 111]
def lmM7 (pc : List SV) (u : U6) (ch : Ch) (m e : I) : List Blk := lmM pc u ++ [⟨35, ch.cells, .ex⟩, ⟨29, [.fl m.lo, .fl m.hi], .ex⟩, ⟨29, [.fl e.lo, .fl e.hi], .ex⟩]
def lmS7 (pc : List SV) (n : Nat) (u : U6) (i : Int) (ch : Ch) (m e : I) (x : Nat → SV) (d : Dec) : St := ⟨lmT7 n u i x, lmM7 pc u ch m e, d, []⟩
def lmSL (pc : List SV) (n : Nat) (u : U6) (i : Int) (ch : Ch) (m e : I) (c j : SV) (x : Nat → SV) (d : Dec) : St := ⟨lmTL n u i c j x, lmM7 pc u ch m e, d, []⟩
noncomputable def lmC7 : Code := post 7 (post 2 lmC)
noncomputable def lmR : Code := seqL (seqL lmC7)
noncomputable def lmBd : Code := inner (inner (seqR (seqL lmC7)))
noncomputable def lmTl : Code := seqR lmC7
theorem lmC7_cut : lmC7 = .seq (.seq lmR (.block 0 (.loop lmBd))) lmTl := by kernel_rfl
section
variable (W : Nlw) (pc : List SV) (n : Nat) (u : U6) (i : Int) (x : Nat → SV)
noncomputable abbrev lm7 : St := aftN Tryz.prog EG (OLi W) 60 7 (post 2 lmC) (lmS pc n u i x (some []))
theorem lmL7 : LandsN Tryz.prog EG (OLi W) 60 7 (post 2 lmC) (lmS pc n u i x (some [])) := by unfold LandsN; kernel_rfl
theorem lmO7_eq : (lm7 W pc n u i x).ob = lmO7 W pc n u i := by kernel_rfl
theorem lmM7_eq : selM (lm7 W pc n u i x).M [0, 1, 4, 5, 11] = some (lmM7 pc u (lmCh W pc n u) (lmMi W pc n u) (lmEd W pc n i)) := by kernel_rfl
noncomputable def lmX7 (v : Nat → Value) : Nat → SV := fun j => ((lm7 W pc n u i x).sel [0, 1, 4, 5, 11] [] v).T.getD j .np
theorem lmT7_eq (v : Nat → Value) (M' : List Blk) : ((lm7 W pc n u i x).sel [0, 1, 4, 5, 11] M' v).T = lmT7 n u i (lmX7 W pc n u i x v) := by kernel_rfl
end
section
variable (W : Nlw) (pc : List SV) (n : Nat) (u : U6) (i c j : Int) (ch : Ch) (m e : I) (x : Nat → SV)
theorem lmLr : Lands Tryz.prog EG (OLi W) 60 lmR (lmS7 pc n u i ch m e x none) .normal := by unfold Lands; kernel_rfl
theorem lmOr : (aft Tryz.prog EG (OLi W) 60 lmR (lmS7 pc n u i ch m e x none)).ob = [] := by kernel_rfl
theorem lmTr : (aft Tryz.prog EG (OLi W) 60 lmR (lmS7 pc n u i ch m e x none)).T = lmTL n u i (.i .i64 0) (.i .i64 0) x := by kernel_rfl
theorem lmMr : (aft Tryz.prog EG (OLi W) 60 lmR (lmS7 pc n u i ch m e x none)).M = lmM7 pc u ch m e := by kernel_rfl
noncomputable abbrev lmB (b : Bool) : St := aft Tryz.prog EG (OLi W) 60 lmBd (lmSL pc n u i ch m e (.si .i64 c) (.si .i64 j) x (some [true, b]))
theorem lmLb (b : Bool) : Lands Tryz.prog EG (OLi W) 60 lmBd (lmSL pc n u i ch m e (.si .i64 c) (.si .i64 j) x (some [true, b])) .normal := by cases b <;> (unfold Lands; kernel_rfl)
theorem lmOb (b : Bool) : (lmB W pc n u i c j ch m e x b).ob = [(inAt pc (j.toNat * 19) == 6, b), (ckAll pc (j.toNat * 19) ndCK, true), (ixB j n, true), (decide (j < n), true)] := by cases b <;> kernel_rfl
theorem lmMb (b : Bool) : selM (lmB W pc n u i c j ch m e x b).M [0, 1, 2, 3, 4] = some (lmM7 pc u ch m e) := by cases b <;> kernel_rfl
noncomputable def lmXb (b : Bool) (v : Nat → Value) : Nat → SV := fun k => ((lmB W pc n u i c j ch m e x b).sel [0, 1, 2, 3, 4] [] v).T.getD k .np
theorem lmTb (b : Bool) (v : Nat → Value) (M' : List Blk) : ((lmB W pc n u i c j ch m e x b).sel [0, 1, 2, 3, 4] M' v).T = lmTL n u i (.si .i64 (bif b then IntKind.i64.wrap (c + 1) else c)) (.si .i64 (IntKind.i64.wrap (j + 1))) (lmXb W pc n u i c j ch m e x b v) := by cases b <;> kernel_rfl
theorem lmLx : Lands Tryz.prog EG (OLi W) 60 lmBd (lmSL pc n u i ch m e (.si .i64 c) (.si .i64 j) x (some [false])) (.exit 0) := by unfold Lands; kernel_rfl
theorem lmXo : aft Tryz.prog EG (OLi W) 60 lmBd (lmSL pc n u i ch m e (.si .i64 c) (.si .i64 j) x (some [false])) = ⟨lmTL n u i (.si .i64 c) (.si .i64 j) (fun k => bif Nat.beq k 65 then .b false else x k), lmM7 pc u ch m e, some [], [(decide (j < n), false)]⟩ := by kernel_rfl
def lmTd (b : Bool) : List Bool := bif b then [true, true, true, true] else [true, true, true, false, true]
theorem lmLt (b : Bool) : Lands Tryz.prog EG (OLi W) 60 lmTl (lmSL pc n u i ch m e (.si .i64 c) (.si .i64 j) x (some (lmTd b))) .ret := by cases b <;> (unfold Lands; kernel_rfl)
def lmTo (c : Int) (ch : Ch) (m e : I) (b : Bool) : Obs := (bif b then [] else [(eqIv m ⟨toF 0, toF 0⟩, true)]) ++ [(decide (c > 0), b), (decide ((toF 4607182418791628800).k ≤ e.lo.k), true), (decide (one64.k ≤ e.hi.k), true), (eqIv ch.m m, true)]
theorem lmTo_eq (b : Bool) : (aft Tryz.prog EG (OLi W) 60 lmTl (lmSL pc n u i ch m e (.si .i64 c) (.si .i64 j) x (some (lmTd b)))).ob = lmTo c ch m e b := by cases b <;> kernel_rfl
theorem lmTs (b : Bool) : resultS Tryz.prog Tryz.f3 (aft Tryz.prog EG (OLi W) 60 lmTl (lmSL pc n u i ch m e (.si .i64 c) (.si .i64 j) x (some (lmTd b)))) = some (.b true) := by cases b <;> kernel_rfl
end
/-- how many coats -/
def cntK (pc : List SV) : Nat → Nat
  | 0 => 0
  | k + 1 => bif inAt pc (k * 19) == 6 then cntK pc k + 1 else cntK pc k
theorem cntK_s (pc : List SV) (k : Nat) : cntK pc (k + 1) = bif inAt pc (k * 19) == 6 then cntK pc k + 1 else cntK pc k := rfl
theorem cntK_le (pc : List SV) : ∀ k, cntK pc k ≤ k
  | 0 => Nat.le_refl _
  | k + 1 => by
    have := cntK_le pc k
    rw [cntK_s]
    cases inAt pc (k * 19) == 6
    · exact Nat.le_succ_of_le this
    · exact Nat.succ_le_succ this
theorem lm_loop {W : Nlw} (hO : OracleOk Tryz.prog (OLi W)) {pc : List SV} {n : Nat} {u : U6} {i : Int} {ch : Ch} {m e : I} {x : Nat → SV} {B : Bs} (hB : B.M.length = 2) (hn : n ≤ 4096) (hc : ∀ j, j < n → ckAll pc (j * 19) ndCK = true) :
    RunsB Tryz.prog B (.block 0 (.loop lmBd)) (lmSL pc n u i ch m e (.si .i64 ((0 : Nat) : Int)) (.si .i64 ((0 : Nat) : Int)) x none) .normal (fun t => ∃ y, t = lmSL pc n u i ch m e (.si .i64 (cntK pc n : Nat)) (.si .i64 (n : Nat)) y none) := by
  have hk : ∀ k, k < B.M.length → ([0, 1, 2, 3, 4] : List Nat)[k]? = some k := fun k hk => by
    rw [hB] at hk
    have : k = 0 ∨ k = 1 := by omega
    rcases this with rfl | rfl <;> rfl
  refine loop_invB (fun (j : Nat) (y : Nat → SV) => lmSL pc n u i ch m e (.si .i64 (cntK pc j : Nat)) (.si .i64 (j : Nat)) y none) (fun _ _ => True) n ?_ ?_ _ trivial
  · intro j y hj _
    have hob : ObsOk (lmB W pc n u i (cntK pc j : Nat) (j : Nat) ch m e y (inAt pc (j * 19) == 6)).ob := by
      rw [lmOb, Int.toNat_natCast]
      exact ob_c rfl (ob_c (hc j hj) (ob_c (ix_of (by omega) (by omega)) (ob_c (decide_eq_true (by omega)) ob_n)))
    refine RunsB.re (d := some [true, inAt pc (j * 19) == 6]) (o := []) (RunsB.sel (RunsP.bs (Lands.runs goodG hO (lmLb W pc n u i (cntK pc j : Nat) (j : Nat) ch m e y _) hob)) rfl (lmMb W pc n u i (cntK pc j : Nat) (j : Nat) ch m e y _) hk fun v => ?_)
    have hT := lmTb W pc n u i (cntK pc j : Nat) (j : Nat) ch m e y (inAt pc (j * 19) == 6) v (lmM7 pc u ch m e)
    have hw : IntKind.i64.wrap ((j : Int) + 1) = ((j + 1 : Nat) : Int) := wrap_s (by omega)
    have hw2 : IntKind.i64.wrap ((cntK pc j : Int) + 1) = ((cntK pc j + 1 : Nat) : Int) := wrap_s (by have := cntK_le pc j; omega)
    have hcn : (bif inAt pc (j * 19) == 6 then IntKind.i64.wrap ((cntK pc j : Int) + 1) else (cntK pc j : Int)) = ((cntK pc (j + 1) : Nat) : Int) := by
      rw [cntK_s]
      cases inAt pc (j * 19) == 6
      · rfl
      · exact hw2
    rw [hw, hcn] at hT
    exact ⟨lmSL pc n u i ch m e (.si .i64 (cntK pc (j + 1) : Nat)) (.si .i64 ((j + 1 : Nat) : Int)) (lmXb W pc n u i (cntK pc j : Nat) (j : Nat) ch m e y _ v) none, ⟨_, trivial, rfl⟩, same_eq hT.symm rfl⟩
  · intro y _
    have hob : ObsOk (aft Tryz.prog EG (OLi W) 60 lmBd (lmSL pc n u i ch m e (.si .i64 (cntK pc n : Nat)) (.si .i64 (n : Nat)) y (some [false]))).ob := by rw [lmXo]; exact ob_c (decide_eq_false (by omega)) ob_n
    refine RunsB.re (d := some [false]) (o := []) (RunsP.bs (Lands.fin goodG hO (lmLx W pc n u i _ _ ch m e y) hob ?_))
    exact ⟨lmSL pc n u i ch m e (.si .i64 (cntK pc n : Nat)) (.si .i64 (n : Nat)) (fun k => bif Nat.beq k 65 then .b false else y k) none, ⟨_, rfl⟩, same_eq (congrArg St.T (lmXo W pc n u i _ _ ch m e y)).symm (congrArg St.M (lmXo W pc n u i _ _ ch m e y)).symm⟩
theorem RunsB.pick {P : Program} {B : Bs} {d : Code} {t : St} {ex : Ex} {Φ : St → Prop} {ids : List Nat} {M' : List Blk} (hn : nodupB ids = true) (hM : selM t.M ids = some M') (hk : ∀ (n : Nat), n < B.M.length → ids[n]? = some n) (h : ∀ v, RunsB P B d (t.sel ids M' v) ex Φ) : RunsB P B d t ex Φ :=
  fun m _ w Q hs hg hq => h _ (m.sel ids) _ w Q (hs.sel hn hM) (hg.sel hn hM hk) hq
structure LmOk (W : Nlw) (pc : List SV) (n : Nat) (u : U6) (i : Int) : Prop where
  hn : n ≤ 4096
  hc : ∀ j, j < n → ckAll pc (j * 19) ndCK = true
  ho : ObsOk (lmO7 W pc n u i)
  ht : ObsOk (lmTo (cntK pc n : Nat) (lmCh W pc n u) (lmMi W pc n u) (lmEd W pc n i) (decide ((cntK pc n : Int) > 0)))
set_option maxRecDepth 20000 in
theorem lm_run {W : Nlw} (hO : OracleOk Tryz.prog (OLi W)) {pc : List SV} {n : Nat} {u : U6} {i : Int} {x : Nat → SV} {B : Bs} (hB : B.M.length = 2) (K : LmOk W pc n u i) :
    RunsB Tryz.prog B (post 2 lmC) (lmS pc n u i x none) .ret (fun t => resultS Tryz.prog Tryz.f3 t = some (.b true)) := by
  have hk : ∀ (k : Nat), k < B.M.length → ([0, 1, 4, 5, 11] : List Nat)[k]? = some k := fun k hk => by
    rw [hB] at hk
    have : k = 0 ∨ k = 1 := by omega
    rcases this with rfl | rfl <;> rfl
  refine RunsB.re (d := some []) (o := []) ((lmL7 W pc n u i x).ok goodG hO (by rw [lmO7_eq]; exact K.ho) ?_)
  refine RunsB.pick (ids := [0, 1, 4, 5, 11]) rfl (lmM7_eq W pc n u i x) hk fun v => ?_
  generalize hch : lmCh W pc n u = ch
  generalize hm : lmMi W pc n u = m
  generalize he : lmEd W pc n i = e
  have hs : SameSt (lmS7 pc n u i ch m e (lmX7 W pc n u i x v) none) ((lm7 W pc n u i x).sel [0, 1, 4, 5, 11] (lmM7 pc u ch m e) v) := same_eq (lmT7_eq W pc n u i x v _).symm rfl
  refine RunsB.retell hs ?_
  show RunsB Tryz.prog B lmC7 _ .ret _
  rw [lmC7_cut]
  refine RunsB.seq (Φ := fun t => ∃ y, t = lmSL pc n u i ch m e (.si .i64 (cntK pc n : Nat)) (.si .i64 (n : Nat)) y none) ?_ fun t ⟨y, ht⟩ => ?_
  · refine LandsB.seq goodG hO (lmLr W pc n u i ch m e _) (by rw [lmOr]; exact ob_n) ?_
    have hs2 : SameSt (lmSL pc n u i ch m e (.si .i64 ((0 : Nat) : Int)) (.si .i64 ((0 : Nat) : Int)) (lmX7 W pc n u i x v) none) (aft Tryz.prog EG (OLi W) 60 lmR (lmS7 pc n u i ch m e (lmX7 W pc n u i x v) none)) := by
      refine same_T (fun mm => ?_) ?_
      · rw [lmTr]; simp only [lmSL, lmTL, dens, den, Int.natCast_zero]
      · rw [lmMr]; rfl
    exact RunsB.retell hs2 (lm_loop hO hB K.hn K.hc)
  · subst ht
    have hT := K.ht
    rw [hch, hm, he] at hT
    refine RunsB.re (d := some (lmTd (decide ((cntK pc n : Int) > 0)))) (o := []) (RunsP.bs (Lands.all goodG hO (lmLt W pc n u i _ _ ch m e y _) (by
      have h0 := lmTo_eq W pc n u i (cntK pc n : Nat) (n : Nat) ch m e y (decide ((cntK pc n : Int) > 0))
      exact h0 ▸ hT) (lmTs W pc n u i _ _ ch m e y _)))
set_option maxRecDepth 20000 in
/-- of any slice of rows -/
theorem lm_calls {W : Nlw} (hO : OracleOk Tryz.prog (OLi W)) {el : TypeId} {z : Nat × Nat} {cells : List SV} {off len cap : Nat} {u : U6} {i : Int} {m : Nms} {w : World} {vs : List Value} (hM : MemAt m w [⟨el, cells, .ro z⟩]) (hvs : dens m [.ssl 0 off len cap, u.sv, .si .u32 i] = some vs)
    (hc : len ≤ cap) (hb : W.b ((cells.drop off).take (len * 8)) len = true) (K : LmOk W (W.g ((cells.drop off).take (len * 8)) len) (prK len + 1) u i) :
    Calls Tryz.prog 3 vs.toArray w fun e w' => e = .returned (.bool true) ∧ Below w.heap.size w w' := by
  refine RunsW.call (d := none) Tryz.func3 lmBody (x := .b true) rfl hvs hM ?_
  show RunsW Tryz.prog ⟨m, [⟨el, cells, .ro z⟩], w, hM⟩ lmC (lmA el z cells off len cap u i) .ret _
  refine runW_ok goodG hO (lmLa W el z cells off len cap u i) (by rw [lmOa]; exact ob_c (decide_eq_true hc) (ob_c hb ob_n)) ?_
  obtain ⟨rest, hr⟩ := lmRa W el z cells off len cap u i
  refine RunsW.fresh (ids := [1, 2]) (fun b hb => by rw [List.mem_singleton] at hb; subst hb; rfl) hr rfl (lmMa W el z cells off len cap u i) (fun j n hj => by
    have hl : j < 2 := (List.getElem?_eq_some_iff.1 hj).1
    rcases (by omega : j = 0 ∨ j = 1) with rfl | rfl <;> simp at hj <;> subst hj <;> simp) (fun b hb => by
      simp only [lmM, List.mem_cons, List.not_mem_nil, or_false] at hb
      rcases hb with rfl | rfl <;> rfl) fun B' v hB' => ?_
  have hs : SameSt (lmS (W.g ((cells.drop off).take (len * 8)) len) (prK len + 1) u i (lmXa W el z cells off len cap u i v) none) ((lmA2 W el z cells off len cap u i).sel [1, 2] (lmM (W.g ((cells.drop off).take (len * 8)) len) u) v) := same_eq (lmTa W el z cells off len cap u i v _).symm rfl
  exact RunsB.retell hs (lm_run hO (x := lmXa W el z cells off len cap u i v) (by rw [hB']; rfl) K)
set_option maxRecDepth 20000 in
/-- of no slice -/
theorem lm_nil {W : Nlw} (hO : OracleOk Tryz.prog (OLi W)) {u : U6} {i : Int} {w : World} {vs : List Value} (hvs : dens Nms.no [.o (.slice none 0 0), u.sv, .si .u32 i] = some vs) (K : LmOk W (W.g [] 0) 1 u i) :
    Calls Tryz.prog 3 vs.toArray w fun e w' => e = .returned (.bool true) ∧ Below w.heap.size w w' := by
  refine RunsW.call (d := none) Tryz.func3 lmBody (x := .b true) rfl hvs (MemAt.no w) ?_
  show RunsW Tryz.prog ⟨Nms.no, [], w, MemAt.no w⟩ lmC (lmZ u i) .ret _
  refine runW_ok goodG hO (lmLz W u i) (by rw [lmOz]; exact ob_n) ?_
  refine RunsW.fresh (rest := (lmZ2 W u i).M) (ids := [0, 1]) (fun b hb => by cases hb) (List.nil_append _).symm rfl (lmMz W u i) (fun j n hj => Nat.zero_le _) (fun b hb => by
      simp only [lmM, List.mem_cons, List.not_mem_nil, or_false] at hb
      rcases hb with rfl | rfl <;> rfl) fun B' v hB' => ?_
  have hs : SameSt (lmS (W.g [] 0) 1 u i (lmXz W u i v) none) ((lmZ2 W u i).sel [0, 1] (lmM (W.g [] 0) u) v) := same_eq (lmTz W u i v _).symm rfl
  exact RunsB.retell hs (lm_run hO (x := lmXz W u i v) (by rw [hB']; rfl) K)
end Go.Proofs.YtgjohjgmlleebaaGreat
namespace Bu
set_option linter.all false
open Rx Go
theorem nd_at {cells cs : List SV} {off o : Nat} (h : CellsAt cells off cs) (hk : ckAll cs o ndCK = true) : ckAll cells (off + o) ndCK = true ∧ ndR cells (off + o) = ndR cs o := by
  obtain ⟨a, b⟩ := at_row h hk
  refine ⟨b, ?_⟩
  have e := nd_row cells (off + o)
  rw [a, nd_row cs o] at e
  exact (Option.some.inj e).symm
theorem cells_left (a b : List SV) : CellsAt (a ++ b) 0 a := fun j x hx => by
  rw [Nat.zero_add, List.getElem?_append_left (List.getElem?_eq_some_iff.1 hx).1]; exact hx
end Bu
namespace Go.Proofs.YtgjohjgmlleebaaGreat
set_option linter.all false
open Go.RowKit Bu Rx
noncomputable def LwR : Nlw := ⟨NprR, fun cs len => prgC NprR (prU cs len) (prK len), prInB NprR, DR, twA (unV KkR) bwF, twB (unV KkR) bwF, U6.ok⟩
theorem ior_p : NprR.p minIor_ maxIor_ = true := by decide +kernel
theorem oracleLi : OracleOk Tryz.prog (OLi LwR) := .cons (eiO_ok (prG oraclePr ior_p rfl) (pzG oraclePr rfl)) (.cons twK.of (.cons chK.of (.cons miK.of (.cons bwG.of (.cons ptG.of (.cons awake22G.of (.nil _)))))))
/-- a program of Prog -/
structure PgF (pc : List SV) (n : Nat) : Prop where
  len : pc.length = n * 19
  sc : pc.all SV.scalar = true
  ok : okPg pc n = true
  n1 : 1 ≤ n
  n8 : n ≤ 8
theorem rowP_sc (N : Npr) (U : Nat → U8) : ∀ j, (rowP N U j).all SV.scalar = true
  | 0 => rfl
  | j + 1 => by
    show (rowN N (U (j + 1)) (j + 1)).all SV.scalar = true
    unfold rowN
    cases decide (prT (U (j + 1)) = 0)
    · cases decide (prT (U (j + 1)) = 1) || decide (prT (U (j + 1)) = 2) <;> rfl
    · rfl
theorem prgC_sc (N : Npr) (U : Nat → U8) : ∀ k, (prgC N U k).all SV.scalar = true
  | 0 => rowP_sc N U 0
  | k + 1 => by
    unfold prgC
    rw [List.all_append, prgC_sc N U k]
    exact rowP_sc N U (k + 1)
theorem pgF_of {cs : List SV} {len : Nat} (h : prInB NprR cs len = true) : PgF (prgC NprR (prU cs len) (prK len)) (prK len + 1) := by
  obtain ⟨a, b⟩ := prog_ok h
  exact ⟨prgC_len _ _ _, prgC_sc _ _ _, a, by omega, by omega⟩
theorem take_it {pc : List SV} {k : Nat} (h : pc.length = k) : (pc.drop 0).take k = pc := by rw [List.drop_zero, ← h, List.take_length]
/-- the coat over all -/
noncomputable def edC (pc : List SV) (n : Nat) (i : Int) : List SV := pc ++ coC (bwF minIo four64 i) F.zero F.zero F.zero (IntKind.i64.wrap ((n : Int) - 1))
theorem lmE_eq {pc : List SV} {n : Nat} (h : pc.length = n * 19) (i : Int) : lmE LwR pc n i = edC pc n i := by
  have e : lmE LwR pc n i = ((((pc.drop 0).take (n * 19)) ++ coC (bwF minIo four64 i) F.zero F.zero F.zero (IntKind.i64.wrap ((n : Int) - 1))).drop 0).take ((0 + n + 1) * 19) := rfl
  rw [e, take_it h]
  exact take_it (by rw [List.length_append, h, show (coC (bwF minIo four64 i) F.zero F.zero F.zero (IntKind.i64.wrap ((n : Int) - 1))).length = 19 from rfl]; omega)
theorem edC_len {pc : List SV} {n : Nat} (h : pc.length = n * 19) (i : Int) : (edC pc n i).length = (0 + n + 1) * 19 := by
  unfold edC
  rw [List.length_append, h, show (coC (bwF minIo four64 i) F.zero F.zero F.zero (IntKind.i64.wrap ((n : Int) - 1))).length = 19 from rfl]; omega
theorem ed_nd {pc : List SV} {n : Nat} (h : pc.length = n * 19) (hn : n ≤ 8) (hn1 : 1 ≤ n) (i : Int) : ckAll (edC pc n i) (n * 19) ndCK = true ∧ ndR (edC pc n i) (n * 19) = ⟨6, ndM z64 z64 z64 F.zero F.zero F.zero z64 z64 z64 z64 z64 z64 z64 z64 (bwF minIo four64 i) z64, ((n - 1 : Nat) : Int), 0⟩ := by
  have c := CellsAt.right pc (coC (bwF minIo four64 i) F.zero F.zero F.zero (IntKind.i64.wrap ((n : Int) - 1)))
  rw [h] at c
  obtain ⟨a, b⟩ := nd_of c rfl
  refine ⟨a, ?_⟩
  have hw : IntKind.i64.wrap ((n : Int) - 1) = ((n - 1 : Nat) : Int) := by rw [IntKind.wrap_i64]; omega
  rw [hw] at b
  unfold edC
  rw [hw, b]
  exact nd_co _ _ _ _ _
theorem ed_ok {pc : List SV} {n : Nat} (K : PgF pc n) (i : Int) : okPg (edC pc n i) (0 + n + 1) = true := by
  rw [Nat.zero_add]
  have P := okPg_ok K.ok
  obtain ⟨vc, hv⟩ := P.pl
  have h1 := K.n1
  have h8 := K.n8
  have hp : (plains (edC pc n i)).isSome = true := by
    unfold edC
    rw [plains_app hv (us := _) rfl]; rfl
  refine okPg_mk hp (by omega) (by omega) fun j hj => ?_
  rcases Nat.lt_or_ge j n with h | h
  · obtain ⟨a, b⟩ := nd_at (cells_left pc (coC (bwF minIo four64 i) F.zero F.zero F.zero (IntKind.i64.wrap ((n : Int) - 1)))) (P.row j h)
    rw [Nat.zero_add] at a b
    exact okAt_n a b (P.nd j h)
  · obtain rfl : j = n := by omega
    obtain ⟨a, b⟩ := ed_nd K.len h8 h1 i
    have z0 : rnB z64 one64 F.zero = true := by decide +kernel
    exact okAt_n a b (okNd_6 (bw_rn rk_le.2.2.1) z0 z0 z0 (by omega) (by omega))
/-- a mirror over all reflects all at its edge -/
theorem ed_one {pc : List SV} {n : Nat} (K : PgF pc n) (i : Int) : ∃ z : I, (chP NdR (pt z64) (fun _ => (Ch.zero.p, 0)) (edC pc n i) (0 + n + 1)).m = z ∧ one64.k ≤ z.hi.k ∧ (toF 4607182418791628800).k ≤ z.lo.k := by
  have h1 := K.n1
  have h8 := K.n8
  have P := okPg_ok (ed_ok K i)
  obtain ⟨_, b⟩ := ed_nd K.len h8 h1 i
  have hc1 : InB (pt z64) bz1 := ⟨Int.le_refl _, by have : z64.k ≤ one64.k := by decide +kernel
                                                    exact this, Int.le_refl _⟩
  obtain ⟨o, o1, o2, o3, o4⟩ := fd_edge (rn_one (bw_rn (n := i) rk_le.2.2.1))
  obtain ⟨_, pb, mb⟩ := chs_ok hc1 P (by omega) (lfs_mir _ _) (n - 1) (by omega)
  have L := lv_ok (i := n - 1) (by omega)
  obtain ⟨s, s1, s2⟩ := less_in o2.box
  obtain ⟨x, x1, x2⟩ := by_in s2 pb L.p
  obtain ⟨y, y1, y2⟩ := by_in s2 mb L.m
  obtain ⟨z, z1, _⟩ := ad_in o2.box y2 L.om
  refine ⟨z, ?_, ?_, ?_⟩
  · show (chF (allF NdR (pt z64) (fun _ => (Ch.zero.p, 0)) (edC pc n i)) (0 + n + 1 - 1)).m = z
    rw [show 0 + n + 1 - 1 = n by omega, chF_coat b rfl ⟨Int.natCast_nonneg _, by show ((n - 1 : Nat) : Int) < n; omega⟩ o1 s1 x1 y1 z1]
  · have zf : Up z.hi (o.hi.q + y.hi.q) := (add_f z1).2
    have zq : z64.q = 0 := zero0_q
    have y0 := q_le.2 (Int.le_trans y2.1 y2.2.2)
    exact Int.le_trans o3 (q_le.1 (by
      have := zf.ge
      have e : (Mb (n - 1)).lo = z64 := rfl
      rw [e, zq] at y0
      grind))
  · have zf : Dn z.lo (o.lo.q + y.lo.q) := (add_f z1).1
    have zq : z64.q = 0 := zero0_q
    have y0 := q_le.2 y2.1
    have e : (Mb (n - 1)).lo = z64 := rfl
    rw [e, zq] at y0
    have w := zf.top o.lo (by grind)
    have q0 : (toF 4607182418791628800).q = 1 - 1 / 1073741824 := by
      have : (toF 4607182418791628800).q * 1073741824 = 1073741823 := q_of' (n := 1073741823) (s := 30) (by decide +kernel) rfl
      grind
    exact q_le.1 (by rw [q0]; grind)
/-- no coat, no mirror -/
theorem no_mir {cos : I} {lf : Nd → I × Int} {lo : Nd → Obs} {cs : List SV} {len : Nat} (K : OkPg cs len) (hB : allB NdR cos lf lo cs len = true) (h6 : ∀ j, j < len → (ndR cs (j * 19)).k ≠ 6) :
    ∀ i, i < len → InB (chF (allF NdR cos lf cs) i).m bZ := by
  intro i
  induction i using Nat.strongRecOn with
  | _ i ih =>
    intro hi
    have hnd := K.nd i hi
    have b1 := allB_at hB hi
    have n6 := h6 i hi
    have g : ∀ {a : Int}, 0 ≤ a → a < i → (chL (allF NdR cos lf cs) i).getD a.toNat Ch.zero = chF (allF NdR cos lf cs) a.toNat := fun _ _ => chL_get _ (by omega)
    have hF : chF (allF NdR cos lf cs) i = (nodC NdR cos lf (fun j => (chL (allF NdR cos lf cs) i).getD j Ch.zero) (ndR cs (i * 19))).1 := rfl
    rw [hF]
    unfold nodB at b1
    rw [Bool.and_eq_true, decide_eq_true_eq] at b1
    have e1 := b1.2
    generalize ndR cs (i * 19) = n at hnd e1 n6
    unfold nodC at e1 ⊢
    by_cases h5 : n.k = 5
    · obtain ⟨⟨a0, a1⟩, b0, b1'⟩ := okNd_mix hnd h5
      have w := okNd_mixw hnd h5
      simp only [decide_eq_true h5, cond_true] at e1 ⊢
      simp only [g a0 a1, g b0 b1'] at e1 ⊢
      have m1 := mixC_m (w := n.f 15) e1
      obtain ⟨m, k1, k2, _⟩ := mixK_pt w (ih n.a.toNat (by omega) (by omega)) (ih n.b.toNat (by omega) (by omega)) bZ_B.1 bZ_B.2
      show InB (mixC KkR _ _ _).1.m bZ
      rw [m1, k1]
      exact k2
    · simp only [decide_eq_false h5, cond_false, decide_eq_false n6] at e1 ⊢
      exact bZ_0
theorem cnt_no {pc : List SV} : ∀ {k : Nat}, cntK pc k = 0 → ∀ j, j < k → (ndR pc (j * 19)).k ≠ 6
  | 0, _, j, h => by omega
  | k + 1, h, j, hj => by
    rw [cntK_s] at h
    cases hb : inAt pc (k * 19) == 6
    · rw [hb] at h
      rcases Nat.lt_or_ge j k with h1 | h1
      · exact cnt_no h j h1
      · obtain rfl : j = k := by omega
        have h2 : inAt pc (j * 19) ≠ 6 := by simpa using hb
        exact h2
    · rw [hb] at h; cases h
theorem eqIv_r (a : I) : eqIv a a = true := by unfold eqIv; rw [decide_eq_true rfl, decide_eq_true rfl]; rfl
theorem eqIv_mk {a b : I} (h1 : a.lo.k = b.lo.k) (h2 : a.hi.k = b.hi.k) : eqIv a b = true := by unfold eqIv; rw [decide_eq_true h1, decide_eq_true h2]; rfl
theorem mi_of {c : I} (h : InB c bz1) : ObsOk (miO c) := by
  have a := h.2.1
  have b := h.1
  have e1 : (toF 4607182418800017408).k = bz1.hi.k := by decide +kernel
  have e2 : (toF 0).k = bz1.lo.k := by decide +kernel
  exact ob_c (decide_eq_false (by omega)) (ob_c (decide_eq_false (by omega)) (ob_c (decide_eq_true h.2.2) ob_n))
theorem lm_ok {pc : List SV} {n : Nat} {u : U6} {i : Int} (K : PgF pc n) (hu : u.ok = true) (hi : wN32 i = true) : LmOk LwR pc n u i := by
  have h1 := K.n1
  have h8 := K.n8
  have P := okPg_ok K.ok
  have ht := take_it K.len
  have hv : OneP (twA (unV KkR) bwF u) := twP _ _ _
  have ho : OneP (twB (unV KkR) bwF u) := twP _ _ _
  have cz := bzz_bz1 (one_box ho).2.2
  have hc1 : InB (pt z64) bz1 := ⟨Int.le_refl _, by have : z64.k ≤ one64.k := by decide +kernel
                                                    exact this, Int.le_refl _⟩
  have hB : allB NdR (twB (unV KkR) bwF u).z (lfR (dnG4 GmR) (twA (unV KkR) bwF u) (twB (unV KkR) bwF u)) (lfRo dnO4 (twA (unV KkR) bwF u) (twB (unV KkR) bwF u)) pc n = true := chs_all cz P (by omega) (lfs_den P hv ho)
  have hM : allB NdR (twB (unV KkR) bwF u).z (fun _ => (Ch.zero.p, 0)) (fun _ => []) pc n = true := chs_all cz P (by omega) (lfs_mir _ _)
  have eo := ed_ok K i
  have hE : allB NdR (pt z64) (fun _ => (Ch.zero.p, 0)) (fun _ => []) (edC pc n i) (0 + n + 1) = true := chs_all hc1 (okPg_ok eo) (by omega) (lfs_mir _ _)
  have el := edC_len K.len i
  have ee := lmE_eq K.len i
  refine ⟨by omega, P.row, ?_, ?_⟩
  · unfold lmO7
    rw [ee, ht]
    refine ob_a (ob_c (decide_eq_true el) (ob_c eo (ob_c hE (mi_of hc1)))) (ob_a (ob_c ?_ (ob_c ?_ (ob_c ior_p (ob_c hi ob_n)))) (ob_a (ob_c (decide_eq_true K.len) (ob_c K.ok (ob_c hM (mi_of cz)))) (ob_a (ob_c (decide_eq_true K.len) (ob_c K.ok (ob_c hB (ob_a (one_dir ho) (one_dir hv))))) (ob_c hu ob_n))))
    · unfold lmB2
      rw [ht, decide_eq_true (show (1 : Nat) ≤ 1 by omega), decide_eq_true (show 0 + n + 1 ≤ maxLen by unfold maxLen; omega), decide_eq_true (show (0 + n + 1) * 152 ≤ 140737488355328 by omega), decide_eq_true (show 0 + 1 * 19 ≤ 19 by omega), decide_eq_true (show pc.length = (0 + n) * 19 by rw [K.len, Nat.zero_add])]; rfl
    · unfold lmB1
      rw [ht, K.sc, decide_eq_true h1, decide_eq_true (show 0 + n ≤ maxLen by unfold maxLen; omega), decide_eq_true (show (0 + n) * 152 ≤ 140737488355328 by omega), decide_eq_true (show 0 + n * 19 ≤ pc.length by rw [K.len]; omega)]; rfl
  · have em : lmMi LwR pc n u = (chP NdR (twB (unV KkR) bwF u).z (fun _ => (Ch.zero.p, 0)) pc n).m := by
      show (chP NdR (twB (unV KkR) bwF u).z (fun _ => (Ch.zero.p, 0)) ((pc.drop 0).take (n * 19)) n).m = _
      rw [ht]
    have ec : (lmCh LwR pc n u).m = lmMi LwR pc n u := by
      rw [em]
      show (chP NdR (twB (unV KkR) bwF u).z (lfR (dnG4 GmR) (twA (unV KkR) bwF u) (twB (unV KkR) bwF u)) ((pc.drop 0).take (n * 19)) n).m = _
      rw [ht]
      exact mir_same P hB hM (n - 1) (by omega)
    obtain ⟨z, z1, z2, z3⟩ := ed_one K i
    have ed : lmEd LwR pc n i = z := by
      show (chP NdR (pt z64) (fun _ => (Ch.zero.p, 0)) (lmE LwR pc n i) (0 + n + 1)).m = z
      rw [ee]; exact z1
    rw [ed]
    unfold lmTo
    refine ob_a ?_ (ob_c rfl (ob_c (decide_eq_true z3) (ob_c (decide_eq_true z2) (ob_c ?_ ob_n))))
    · by_cases h0 : cntK pc n = 0
      · rw [h0, decide_eq_false (show ¬ ((0 : Nat) : Int) > 0 by omega), cond_false]
        refine ob_c ?_ ob_n
        have hz := no_mir P hM (cnt_no h0) (n - 1) (by omega)
        obtain ⟨e1, e2⟩ := bZ_eq hz
        rw [em]
        have q0 : (toF 0).k = F.zero.k := by decide +kernel
        exact eqIv_mk (e1.trans q0.symm) (e2.trans q0.symm)
      · rw [decide_eq_true (show (cntK pc n : Int) > 0 by omega), cond_true]
        exact ob_n
    · rw [ec]; exact eqIv_r _
/-- the law, of any slice of rows -/
theorem densMirror_some {el : TypeId} {z : Nat × Nat} {cells : List SV} {off len cap : Nat} {u : U6} {i : Int} {m : Nms} {w : World} {vs : List Value} (hM : MemAt m w [⟨el, cells, .ro z⟩]) (hvs : dens m [.ssl 0 off len cap, u.sv, .si .u32 i] = some vs)
    (hc : len ≤ cap) (hb : prInB NprR ((cells.drop off).take (len * 8)) len = true) (hu : u.ok = true) (hi : wN32 i = true) :
    Calls Tryz.prog 3 vs.toArray w fun e w' => e = .returned (.bool true) ∧ Below w.heap.size w w' :=
  lm_calls oracleLi hM hvs hc hb (lm_ok (pgF_of hb) hu hi)
theorem densMirror_none {u : U6} {i : Int} {w : World} {vs : List Value} (hvs : dens Nms.no [.o (.slice none 0 0), u.sv, .si .u32 i] = some vs) (hu : u.ok = true) (hi : wN32 i = true) :
    Calls Tryz.prog 3 vs.toArray w fun e w' => e = .returned (.bool true) ∧ Below w.heap.size w w' :=
  lm_nil oracleLi hvs (lm_ok (pgF_of (cs := []) (len := 0) rfl) hu hi)
end Go.Proofs.YtgjohjgmlleebaaGreat
