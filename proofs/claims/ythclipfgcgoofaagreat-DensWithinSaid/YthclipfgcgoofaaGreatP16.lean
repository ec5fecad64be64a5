/- DensMirror by the reckoner: the loop, the end. burnishlaw22.DensMirror: what the run asks for is so. burnishlaw22.DensWithin, proved. -/
import Derived.Test.YthclipfgcgoofaaGreatP15
import Derived.Test.YthclipfgcgoofaaGreatP13
namespace Go.Proofs.YthclipfgcgoofaaGreat
set_option linter.all false
open Go.RowKit Bu Rx
end Go.Proofs.YthclipfgcgoofaaGreat
namespace Bu
set_option linter.all false
open Rx Go
end Bu
namespace Go.Proofs.YthclipfgcgoofaaGreat
set_option linter.all false
open Go.RowKit Bu Rx
noncomputable def NlW : Nl := ⟨KkR, leK, leF bwF, U8.ok, twA (unV KkR) bwF, twB (unV KkR) bwF, U6.ok, rtOb, vlG GmR KkR, vlO, dnG4 GmR, dnO4, meetsB, frT, wN32⟩
noncomputable def NmW : Nm := ⟨NlW, wdI, wdP, spF bwF, parB, wN32, inB2⟩
def wxB (n : Nat) : Bool := rightB (FloatKind.f64.nearest (n : Int)) && (Rx.obsB (so (wxD (n : Int))) && (decide (z64.k ≤ (wxF (n : Int)).k) && decide ((wxF (n : Int)).k ≤ one64.k)))
set_option maxRecDepth 100000 in
theorem wx_all : (List.range 256).all wxB = true := by decide +kernel
structure WxP (y : Int) : Prop where
  r : rightB (FloatKind.f64.nearest y) = true
  o : ObsOk (so (wxD y))
  lo : 0 ≤ (wxF y).q
  hi : (wxF y).q ≤ 1
theorem wx_ok {y : Int} (h0 : 0 ≤ y) (h1 : y ≤ 255) : WxP y := by
  have a := List.all_eq_true.1 wx_all y.toNat (List.mem_range.2 (by omega))
  unfold wxB at a
  rw [show ((y.toNat : Nat) : Int) = y by omega] at a
  simp only [Bool.and_eq_true, decide_eq_true_iff] at a
  obtain ⟨a1, a2, a3, a4⟩ := a
  have q1 := q_le.2 a3; have q2 := q_le.2 a4
  rw [one_q] at q2; rw [z_q0] at q1
  exact ⟨a1, ObsOk.of_B a2, q1, q2⟩
theorem wd_B {a : I} {y : F} (h : In1 a) (y0 : 0 ≤ y.q) (y1 : y.q ≤ 1) : wdP a y = true := by
  have e1 : f4_.neg.k ≤ mone64.k := by decide +kernel
  have e2 : one64.k ≤ f4_.k := by decide +kernel
  have e3 : f4_.neg.k ≤ z64.k := by decide +kernel
  have k0 : z64.k ≤ y.k := q_le.1 (by rw [z_q0]; exact y0)
  have k1 : y.k ≤ one64.k := q_le.1 (by rw [one_q]; exact y1)
  have a1 := h.lo; have a2 := h.hi; have a3 := h.rt
  unfold wdP
  simp only [Bool.and_eq_true, decide_eq_true_iff]
  omega
structure Wv (v : V3) : Prop where
  x : In1 v.x
  y : In1 v.y
  z : In1 v.z
  z0 : z64.k ≤ v.z.lo.k
theorem one_wv {v : V3} (h : OneP v) : Wv v := ⟨h.x, h.y, h.z, q_le.1 (by rw [z_q0]; have := h.up; grind)⟩
theorem Wv.dir {v : V3} (h : Wv v) : ObsOk (dirO v) :=
  have r : ∀ {x : I}, x.lo.k ≤ x.hi.k → rt x = true := fun k => decide_eq_true k
  ob_c (decide_eq_true h.z.hi) (ob_c (decide_eq_true h.z0) (ob_c (decide_eq_true h.y.hi) (ob_c (decide_eq_true h.y.lo) (ob_c (decide_eq_true h.x.hi) (ob_c (decide_eq_true h.x.lo) (ob_c (r h.z.rt) (ob_c (r h.y.rt) (ob_c (r h.x.rt) ob_n))))))))
theorem u6_get {u : U6} (h : u.ok = true) : wN32 u.a0 = true ∧ wN32 u.a1 = true ∧ wN32 u.a2 = true ∧ wN32 u.a3 = true ∧ wN32 u.a4 = true ∧ wN32 u.a5 = true := by
  unfold U6.ok at h
  simpa only [Bool.and_eq_true] using h
theorem in1_par {a : I} (h : In1 a) : parB a.lo a.hi = true := by
  unfold parB
  simp only [Bool.and_eq_true, decide_eq_true_iff]
  exact ⟨h.lo, h.rt, h.hi⟩
theorem in1_part {a b : I} (h : In1 a) (k : InB b a) : In1 b := ⟨Int.le_trans h.lo k.1, Int.le_trans k.2.1 h.hi, k.2.2⟩
theorem wd_wv {v : V3} {y : F} (h : Wv v) (y0 : 0 ≤ y.q) (y1 : y.q ≤ 1) : Wv (wdV NmW v y) := by
  have z1 : mone64.k ≤ z64.k := by decide +kernel
  have z2 : z64.k ≤ one64.k := by decide +kernel
  have z3 : mone64.k ≤ one64.k := by decide +kernel
  obtain ⟨a1, a2, a3⟩ := wd_in (l := mone64) h.x (Int.le_trans h.x.lo h.x.rt) (Int.le_refl _) z3 y0 y1
  obtain ⟨b1, b2, b3⟩ := wd_in (l := mone64) h.y (Int.le_trans h.y.lo h.y.rt) (Int.le_refl _) z3 y0 y1
  obtain ⟨c1, c2, c3⟩ := wd_in (l := z64) h.z (Int.le_trans h.z0 h.z.rt) z1 z2 y0 y1
  exact ⟨⟨a1, a3, a2⟩, ⟨b1, b3, b2⟩, ⟨Int.le_trans z1 c1, c3, c2⟩, c1⟩
theorem wd_obs {v : V3} {y : F} (h : Wv v) (y0 : 0 ≤ y.q) (y1 : y.q ≤ 1) {o : Obs} (ho : ObsOk o) : ObsOk (wdO NmW v y o) :=
  ob_c (wd_B h.z y0 y1) (ob_c (wd_B h.y y0 y1) (ob_c (wd_B h.x y0 y1) ho))
theorem in_v {v : V3} (u : U6) (h : Wv v) : InV3 (inV NmW v u) v := ⟨spF_in h.x.rt, spF_in h.y.rt, spF_in h.z.rt⟩
theorem in_wv {v : V3} (u : U6) (h : Wv v) : Wv (inV NmW v u) :=
  have k := in_v u h
  ⟨in1_part h.x k.x, in1_part h.y k.y, in1_part h.z k.z, Int.le_trans h.z0 k.z.1⟩
theorem in_obs {v : V3} {u : U6} (h : Wv v) (hu : u.ok = true) {o : Obs} (ho : ObsOk o) : ObsOk (inO NmW v u o) := by
  obtain ⟨u0, u1, u2, u3, u4, u5⟩ := u6_get hu
  exact ob_c (in1_par h.z) (ob_c u4 (ob_c u5 (ob_c (in1_par h.y) (ob_c u2 (ob_c u3 (ob_c (in1_par h.x) (ob_c u0 (ob_c u1 ho))))))))
theorem Wv.zb {v : V3} (h : Wv v) : InB v.z bz1 := ⟨h.z0, h.z.hi, h.z.rt⟩
theorem leafO {n : Nd} {p : Int} (h : okNd n p = true) (h5 : n.k ≠ 5) (h6 : n.k ≠ 6) {v u : V3} (hv : Wv v) (hu : Wv u) {c : Int} (c0 : 0 ≤ c) (c3 : c < 3) : LfO ⟨n.k, etaF n.f, c, v, u⟩ := ⟨nd_leaf h h5 h6, hv.dir, hu.dir, c0, c3⟩
theorem daPs_ok {cs : List SV} {len : Nat} (K : OkPg cs len) {v u : V3} (hv : Wv v) (hu : Wv u) : daPs NdR u.z (lfRo dnO4 v u) cs len = true :=
  List.all_eq_true.2 fun i hi => by
    have hnd := K.nd i (List.mem_range.1 hi)
    unfold nodP
    generalize ndR cs (i * 19) = n at hnd
    by_cases h5 : n.k = 5
    · rw [decide_eq_true h5, cond_true]
    · rw [decide_eq_false h5, cond_false]
      by_cases h6 : n.k = 6
      · rw [decide_eq_true h6, cond_true]
        exact obsB_of (fd_o hu.zb (okNd_coatf hnd h6).1)
      · rw [decide_eq_false h6, cond_false]
        obtain ⟨a0, b0⟩ := okNd_leaf hnd h5 h6
        exact obsB_of (ob_c (decide_eq_true a0) (ob_c (decide_eq_true b0) (leafO hnd h5 h6 hv hu (Int.le_refl _) (by decide)).den))
theorem evPs_ok {cs : List SV} {len : Nat} (K : OkPg cs len) {v u : V3} (hv : Wv v) (hu : Wv u) : evPs NeR v u cs len = true :=
  List.all_eq_true.2 fun i hi => by
    have hnd := K.nd i (List.mem_range.1 hi)
    unfold evPB
    generalize ndR cs (i * 19) = n at hnd
    by_cases h5 : n.k = 5
    · rw [decide_eq_true h5, cond_true]
    · rw [decide_eq_false h5, cond_false]
      by_cases h6 : n.k = 6
      · rw [decide_eq_true h6, cond_true, Bool.and_eq_true]
        exact ⟨obsB_of (fd_o hv.zb (okNd_coatf hnd h6).1), obsB_of (fd_o hu.zb (okNd_coatf hnd h6).1)⟩
      · rw [decide_eq_false h6, cond_false]
        obtain ⟨a0, b0⟩ := okNd_leaf hnd h5 h6
        have q : ∀ k : Nat, k < 3 → Bu.obsB (lfOb NeR v u n k) = true := fun k hk => obsB_of (ob_c (decide_eq_true a0) (ob_c (decide_eq_true b0) (leafO hnd h5 h6 hv hu (c := (k : Int)) (by omega) (by omega)).val))
        rw [q 0 (by omega), q 1 (by omega), q 2 (by omega)]; rfl
noncomputable def WnR : Nwn := ⟨NmW, fun cs len => prgC NprR (prU cs len) (prK len), prInB NprR, ndE NdR, EvR⟩
theorem ior_w : NprR.p minIor_ maxIor_ = true := by decide +kernel
theorem oracleWn : OracleOk Tryz.prog (OWn WnR) := .cons (eiO_ok (prG oraclePr ior_w rfl) (pzG oraclePr rfl)) (.cons twK.of (.cons (chE oracleOD).of (.cons evK_.of (.cons wdG.of (.cons siG.of (.cons inG.of (.cons awake22G.of (.nil _))))))))
theorem cOb_ok {cs : List SV} {n : Nat} (h : okPg cs n = true) (hl : cs.length = n * 19) {v u : V3} (hv : Wv v) (hu : Wv u) : ObsOk (cOb WnR.C cs n v u) :=
  ob_c (decide_eq_true hl) (ob_c h (ob_c (daPs_ok (okPg_ok h) hv hu) (ob_a hu.dir hv.dir)))
theorem eOb_ok {cs : List SV} {n : Nat} (h : okPg cs n = true) (hl : cs.length = n * 19) {v u : V3} (hv : Wv v) (hu : Wv u) : ObsOk (eOb WnR.E cs n v u) :=
  ob_c (decide_eq_true hl) (ob_c h (ob_c (evPs_ok (okPg_ok h) hv hu) (ob_a hu.dir hv.dir)))
theorem wn_c {cs : List SV} {n : Nat} (h : okPg cs n = true) {v u v' u' : V3} (hv' : Wv v') (hu' : Wv u') (hv : InV3 v v') (hu : InV3 u u') (e : WnR.C.e u'.z v' u' cs n = 0) :
    WnR.C.e u.z v u cs n = 0 ∧ InC (WnR.C.g u.z v u cs n) (WnR.C.g u'.z v' u' cs n) := by
  have K := okPg_ok h
  have h1 := K.lo
  have e' : daE NdR u'.z (lfR (dnG4 GmR) v' u') cs n = 0 := e
  have D := da_inn (cos := u.z) (cos' := u'.z) (lf := lfR (dnG4 GmR) v u) (lf' := lfR (dnG4 GmR) v' u') K hu.z (fun i hi h5 h6 => den_inq (m := ⟨(ndR cs (i * 19)).k, etaF (ndR cs (i * 19)).f, 0, v, u⟩) (l := ⟨(ndR cs (i * 19)).k, etaF (ndR cs (i * 19)).f, 0, v', u'⟩) (leafO (K.nd i hi) h5 h6 hv' hu' (Int.le_refl _) (by decide)) rfl rfl hv hu) e'
  have z : daE NdR u.z (lfR (dnG4 GmR) v u) cs n = 0 := daE_z fun i hi => (D i hi).1
  refine ⟨z, ?_⟩
  show InC (daC NdR u.z (lfR (dnG4 GmR) v u) cs n) (daC NdR u'.z (lfR (dnG4 GmR) v' u') cs n)
  unfold daC
  rw [decide_eq_true z, decide_eq_true e', cond_true, cond_true]
  exact (D (n - 1) (by omega)).2
theorem wn_e {cs : List SV} {n : Nat} (h : okPg cs n = true) {v u v' u' : V3} (hv' : Wv v') (hu' : Wv u') (hv : InV3 v v') (hu : InV3 u u') (e : WnR.E.e v' u' cs n = 0) :
    WnR.E.e v u cs n = 0 ∧ ∀ k, k < 3 → InC (WnR.E.g v u cs n k) (WnR.E.g v' u' cs n k) := by
  have K := okPg_ok h
  have h1 := K.lo
  have e' : evE NeR v' u' cs n = 0 := e
  have D := ev_inn K hv hu (fun i hi h5 h6 k hk => val_inq (m := lfE v u k (ndR cs (i * 19))) (l := lfE v' u' k (ndR cs (i * 19))) (leafO (K.nd i hi) h5 h6 hv' hu' (c := (k : Int)) (by omega) (by omega)) rfl rfl rfl hv hu) e'
  have z : evE NeR v u cs n = 0 := evE_z fun i hi => (D i hi).1
  refine ⟨z, fun k hk => ?_⟩
  show InC (eeC NeR v u cs n k) (eeC NeR v' u' cs n k)
  unfold eeC
  rw [decide_eq_true z, decide_eq_true e', cond_true, cond_true]
  exact (D (n - 1) (by omega)).2 k hk
theorem in_c {a b : Ch} (h : InC a b) : WnR.M.ii a.p b.p = true ∧ WnR.M.ii a.m b.m = true := ⟨inr_of h.p.inB, inr_of h.m.inB⟩
theorem wn_ok {pc : List SV} {n : Nat} {q : W19} (hl : pc.length = n * 19) (hok : okPg pc n = true) (hu : q.u.ok = true) (hy : (Lit.int .u8 q.y).wf = true) (hw : q.w.ok = true) (hx : q.x.ok = true) :
    ObsOk (wnO WnR (wnP pc n) n q (wnC1 WnR pc n q) (wnC2 WnR pc n q)) := by
  have hP : wnP pc n = pc := by unfold wnP; rw [List.drop_zero, ← hl, List.take_length]
  rw [hP]
  have Y : WxP q.y := by
    have k : 0 ≤ q.y ∧ q.y ≤ 255 := by simpa [Lit.wf, IntKind.min, IntKind.max, IntKind.signed, IntKind.bits] using hy
    exact wx_ok k.1 k.2
  have ta : Wv (WnR.M.N.ta q.u) := one_wv (twP _ _ _)
  have tb : Wv (WnR.M.N.tb q.u) := one_wv (twP _ _ _)
  have va : Wv (wnVa WnR.M q) := wd_wv ta Y.lo Y.hi
  have vb : Wv (wnVb WnR.M q) := wd_wv tb Y.lo Y.hi
  have na : Wv (wnNa WnR.M q) := in_wv q.w va
  have nb : Wv (wnNb WnR.M q) := in_wv q.x vb
  have ia : InV3 (wnNa WnR.M q) (wnVa WnR.M q) := in_v q.w va
  have ib : InV3 (wnNb WnR.M q) (wnVb WnR.M q) := in_v q.x vb
  have o0 : ObsOk (wnO0 WnR.M q) := in_obs vb hx (in_obs va hw (wd_obs tb Y.lo Y.hi (wd_obs ta Y.lo Y.hi (ob_a Y.o (ob_c Y.r (ob_c hu ob_n))))))
  have o1 : ObsOk (wnO1 WnR pc n q (wnO0 WnR.M q)) := ob_a (eOb_ok hok hl na nb) (ob_a (eOb_ok hok hl va vb) (ob_a (cOb_ok hok hl na nb) (ob_a (cOb_ok hok hl va vb) o0)))
  have t1 : ObsOk (wnT1 WnR pc n q (wnC1 WnR pc n q)) := by
    unfold wnT1
    cases hc : wnC1 WnR pc n q
    · exact ob_c hc ob_n
    · obtain ⟨a, b⟩ := wn_c hok va vb ia ib (beq_iff_eq.1 hc)
      obtain ⟨i, j⟩ := in_c b
      exact ob_c j (ob_c i (ob_c (by rw [a]; rfl) (ob_c hc ob_n)))
  cases hc : wnC2 WnR pc n q
  · have t2 : ObsOk (wnT2 WnR pc n q false) := ob_c hc ob_n
    have k : ∀ j, ObsOk (wnK WnR pc n q false j) := fun _ => ob_c hc ob_n
    exact ob_a (k 2) (ob_a (k 1) (ob_a (k 0) (ob_a t2 (ob_a t1 o1))))
  · obtain ⟨a, b⟩ := wn_e hok va vb ia ib (beq_iff_eq.1 hc)
    have t2 : ObsOk (wnT2 WnR pc n q true) := ob_c (by rw [a]; rfl) (ob_c hc ob_n)
    have k : ∀ j, j < 3 → ObsOk (wnK WnR pc n q true j) := fun j hj => by
      obtain ⟨x, y⟩ := in_c (b j hj)
      exact ob_c y (ob_c x (ob_c hc ob_n))
    exact ob_a (k 2 (by omega)) (ob_a (k 1 (by omega)) (ob_a (k 0 (by omega)) (ob_a t2 (ob_a t1 o1))))
theorem densWithin_some {el : TypeId} {z : Nat × Nat} {cells : List SV} {off len cap : Nat} {u : U6} {y : Int} {p6 x : U6} {m : Nms} {w : World} {vs : List Value} (hM : MemAt m w [⟨el, cells, .ro z⟩]) (hvs : dens m [.ssl 0 off len cap, u.sv, .si .u8 y, p6.sv, x.sv] = some vs)
    (hc : len ≤ cap) (hb : prInB NprR ((cells.drop off).take (len * 8)) len = true) (hu : u.ok = true) (hy : (Lit.int .u8 y).wf = true) (hw : p6.ok = true) (hx : x.ok = true) :
    Calls Tryz.prog 5 vs.toArray w fun e w' => e = .returned (.bool true) ∧ Below w.heap.size w w' := by
  obtain ⟨a, b⟩ := prog_ok hb
  have hl := prgC_len NprR (prU ((cells.drop off).take (len * 8)) len) (prK len)
  exact wn_calls oracleWn (q := ⟨u, y, p6, x⟩) hM hvs hc hb (wn_ok (q := ⟨u, y, p6, x⟩) hl a hu hy hw hx)
theorem densWithin_none {u : U6} {y : Int} {p6 x : U6} {w : World} {vs : List Value} (hvs : dens Nms.no [.o (.slice none 0 0), u.sv, .si .u8 y, p6.sv, x.sv] = some vs) (hu : u.ok = true) (hy : (Lit.int .u8 y).wf = true) (hw : p6.ok = true) (hx : x.ok = true) :
    Calls Tryz.prog 5 vs.toArray w fun e w' => e = .returned (.bool true) ∧ Below w.heap.size w w' := by
  obtain ⟨a, b⟩ := prog_ok (cs := []) (len := 0) rfl
  have hl := prgC_len NprR (prU [] 0) (prK 0)
  exact wn_nil oracleWn (q := ⟨u, y, p6, x⟩) hvs (wn_ok (q := ⟨u, y, p6, x⟩) hl a hu hy hw hx)
end Go.Proofs.YthclipfgcgoofaaGreat
