/- DrawOften by the reckoner. DrawOften, proved. -/
import Derived.Test.YtgjohjgmlleebaaGreatL15
namespace Go.Proofs.YtgjohjgmlleebaaGreat
set_option linter.all false
open Go.RowKit Bu Rx
def OOf (N : Npr) (D : Npa) (T : Npt) : OracleF := lookO [(22, plainO (kLe8 N.k N.f N.o)), (25, plainO (kFq N.q N.w)), (19, plainO (kBw N.b N.p N.w)), (20, plainO kPt), (26, plainO (kOf D.uo D.u)), (27, plainO (kI2 D.D D.dO)), (28, kRd 19 (kPtS T)), (29, plainO (oConst (.b true)))]
inductive Tri where
  | a
  | b
  | c
section
variable (N : Npr) (D : Npa) (T : Npt) (a b : U8) (i w c u : Int)
def doC (N : Npr) (a b : U8) (i : Int) : List SV := leC N a ++ (leC N b ++ coJ (N.b minIo four64 i) F.zero F.zero F.zero 1)
def doM (N : Npr) (a b : U8) (w : Int) : List SV := leC N a ++ (leC N b ++ mxJ (N.q w) 0 1)
def doO (N : Npr) (D : Npa) (i c : Int) : I × Int := D.D (pt (N.q c)) (pt (N.b minIo four64 i))
def doP (N : Npr) (T : Npt) (cs : List SV) (c u : Int) (g s : Bool) : Obs := ((decide (cs.length = 3 * 19), true) :: (T.o cs 3, true) :: (T.b (pt (N.q c)) cs 3, true) :: (T.u u, true) :: cosO (pt (N.q c))) ++ ([((T.g (pt (N.q c)) u cs 3).s, s)] ++ [((T.g (pt (N.q c)) u cs 3).g, g)])
def doTl (N : Npr) (D : Npa) (a b : U8) (i w c u : Int) : Obs := D.dO (pt (N.q c)) (pt (N.b minIo four64 i)) ++ [(N.p minIo four64, true), (N.w i, true), (D.u u, true), (N.w w, true), (N.w c, true), (N.o b, true), (N.o a, true)]
def Tri.g : Tri → Bool
  | .c => false
  | _ => true
def Tri.s : Tri → Bool
  | .b => false
  | _ => true
def doD1 (k1 : Tri) : List Bool := match k1 with
  | .a => [true]
  | .b => [false, false]
  | .c => [false, true]
def doD2 (k2 : Tri) : List Bool := match k2 with
  | .a => [true, false]
  | .b => [false, false]
  | .c => [false, true, false]
def doDt (k2 : Tri) : List Bool := bif k2.g then [true, false] else [false]
def doD (k1 k2 : Tri) : List Bool := [k1.g, k1.s, false, k2.s, false, false, false, false, false] ++ (doDt k2 ++ (doD1 k1 ++ doD2 k2))
def doS1 (s o : I) (k1 : Tri) : Obs := match k1 with
  | .a => [(decide (s.hi.k < o.lo.k), true)]
  | .b => [(decide (o.hi.k ≤ s.lo.k), false), (decide (s.hi.k < o.lo.k), false)]
  | .c => [(decide (o.hi.k ≤ s.lo.k), true), (decide (s.hi.k < o.lo.k), false)]
def doS2 (s : I) (w : F) (t : Int) (k2 : Tri) : Obs := match k2 with
  | .a => [(t != 1, false), (decide (s.hi.k < w.k), true)]
  | .b => [(decide (w.k ≤ s.lo.k), false), (decide (s.hi.k < w.k), false)]
  | .c => [(t != 0, false), (decide (w.k ≤ s.lo.k), true), (decide (s.hi.k < w.k), false)]
def doTo (t : Int) (k2 : Tri) : Obs := bif k2.g then [(t != 1, false), (t != 0, true)] else [(t != 0, false)]
def doOb (N : Npr) (D : Npa) (T : Npt) (a b : U8) (i w c u : Int) (k1 k2 : Tri) : Obs :=
  doS2 (D.uo u) (N.q w) (T.g (pt (N.q c)) u (doM N a b w) 3).a k2 ++ (doS1 (D.uo u) (doO N D i c).1 k1 ++ (doTo (T.g (pt (N.q c)) u (doM N a b w) 3).a k2 ++
  ([((T.g (pt (N.q c)) u (doC N a b i) 3).a != (bif k1.g then 2 else 1), false), (decide ((D.uo u).hi.k < (D.uo u).lo.k), false), ((T.g (pt (N.q c)) u (doM N a b w) 3).e != 0, false), ((T.g (pt (N.q c)) u (doC N a b i) 3).e != 0, false), ((doO N D i c).2 != 0, false)] ++
  (doP N T (doM N a b w) c u false k2.s ++ (doP N T (doC N a b i) c u k1.g k1.s ++ doTl N D a b i w c u)))))
theorem doR (k1 k2 : Tri) : valR ((run Tryz.prog EG (OOf N D T) 120).1 5 [a.sv, b.sv, .si .u32 i, .si .u32 w, .si .u32 c, .si .u64 u] [] (some (doD k1 k2))) = some (.b true, some [], doOb N D T a b i w c u k1 k2) := by cases k1 <;> cases k2 <;> kernel_rfl
end
end Go.Proofs.YtgjohjgmlleebaaGreat
namespace Go.Proofs.YtgjohjgmlleebaaGreat
set_option linter.all false
open Go.RowKit Bu Rx
theorem pf_coat {c : I} {cs : List SV} {n : Nat} {s o : I} (h6 : (ndR cs (2 * 19)).k = 6) (ha : (ndR cs (2 * 19)).a = 1) (ho : (PaN.D c (pt ((ndR cs (2 * 19)).f 14))).1 = o) (l5 : (ndR cs (1 * 19)).k ≠ 5) (l6 : (ndR cs (1 * 19)).k ≠ 6)
    (rs : rt s = true) (ro : rt o = true) (o0 : 0 ≤ o.lo.q) (s0 : 0 ≤ s.lo.q) (s1 : s.hi.q ≤ 1) (sl : s.lo.k < one64.k) :
    (s.hi.k < o.lo.k → pathF KkR PaN.D c cs (n + 2) ⟨2, s, true, 0⟩ = (⟨2, s, true, 0⟩, true)) ∧ (¬ s.hi.k < o.lo.k → s.lo.k < o.hi.k → pathF KkR PaN.D c cs (n + 2) ⟨2, s, true, 0⟩ = (⟨2, s, false, 0⟩, true)) ∧
    (¬ s.hi.k < o.lo.k → ¬ s.lo.k < o.hi.k → ∃ s', pathF KkR PaN.D c cs (n + 2) ⟨2, s, true, 0⟩ = (⟨1, s', true, 0⟩, false)) := by
  have e0 : (1 : Int).toNat = 1 := rfl
  have h5 : (ndR cs (2 * 19)).k ≠ 5 := by omega
  refine ⟨fun g1 => ?_, fun g1 g2 => ?_, fun g1 g2 => ?_⟩ <;> unfold pathF <;> rw [show decide ((⟨2, s, true, 0⟩ : Pst).er = 0) = true from rfl, cond_true] <;> simp only [decide_eq_false h5, decide_eq_true h6, cond_true, cond_false, ha, ho, e0]
  · rw [decide_eq_true g1, cond_true]
  · rw [decide_eq_false g1, cond_false, decide_eq_true g2, cond_true]
  · have hN := onN_0 (t := o) rs ro s0 s1 o0 (by omega) sl
    rw [decide_eq_false g1, cond_false, decide_eq_false g2, cond_false, hN]
    exact ⟨_, pf_leaf rfl l5 l6⟩
theorem pf_mix2 {c : I} {cs : List SV} {n : Nat} {s : I} {w : F} (h5 : (ndR cs (2 * 19)).k = 5) (ha : (ndR cs (2 * 19)).a = 0) (hb : (ndR cs (2 * 19)).b = 1) (hw : (ndR cs (2 * 19)).f 15 = w) (l5 : (ndR cs (0 * 19)).k ≠ 5) (l6 : (ndR cs (0 * 19)).k ≠ 6) (m5 : (ndR cs (1 * 19)).k ≠ 5) (m6 : (ndR cs (1 * 19)).k ≠ 6)
    (w0 : z64.k ≤ w.k ∧ w.k ≤ one64.k) (rs : rt s = true) (s0 : 0 ≤ s.lo.q) (s1 : s.hi.q ≤ 1) (sl : s.lo.k < one64.k) (sn : s.hi.k ≤ s.lo.k + 1) :
    (s.hi.k < w.k → ∃ s', pathF KkR PaN.D c cs (n + 2) ⟨2, s, true, 0⟩ = (⟨1, s', true, 0⟩, false)) ∧ (¬ s.hi.k < w.k → s.lo.k < w.k → ∃ s', pathF KkR PaN.D c cs (n + 2) ⟨2, s, true, 0⟩ = (⟨1, s', false, 0⟩, false)) ∧
    (¬ s.hi.k < w.k → ¬ s.lo.k < w.k → ∃ s', pathF KkR PaN.D c cs (n + 2) ⟨2, s, true, 0⟩ = (⟨0, s', true, 0⟩, false)) := by
  have e0 : (0 : Int).toNat = 0 := rfl
  have e1 : (1 : Int).toNat = 1 := rfl
  have wq0 := q_le.2 w0.1
  rw [show z64.q = 0 from zero0_q] at wq0
  refine ⟨fun g1 => ?_, fun g1 g2 => ?_, fun g1 g2 => ?_⟩ <;> unfold pathF <;> rw [show decide ((⟨2, s, true, 0⟩ : Pst).er = 0) = true from rfl, cond_true] <;> simp only [decide_eq_true h5, cond_true, ha, hb, hw, e0, e1]
  · have rr := of_decide_eq_true rs
    have hB := onB_0 (w := w) rs s0 (by omega) (by omega)
    rw [decide_eq_true g1, cond_true, hB]
    exact ⟨_, pf_leaf rfl m5 m6⟩
  · have hB := onB_0 (w := w) rs s0 g2 (by omega)
    rw [decide_eq_false g1, cond_false, decide_eq_true g2, cond_true, hB]
    exact ⟨_, pf_leaf rfl m5 m6⟩
  · have hN := onN_0 (t := pt w) rs (decide_eq_true (Int.le_refl _)) s0 s1 wq0 (by show w.k ≤ s.lo.k; omega) sl
    rw [decide_eq_false g1, cond_false, decide_eq_false g2, cond_false, hN]
    exact ⟨_, pf_leaf rfl l5 l6⟩
theorem pt_g3 (c : I) (u : Int) (cs : List SV) : (nPt PaN).g c u cs 3 = paRes (pathF KkR PaN.D c cs (1 + 2) ⟨2, unI u, true, 0⟩) := by kernel_rfl
theorem oracleOOf : OracleOk Tryz.prog (OOf NprR PaN (nPt PaN)) := .cons le8G.of (.cons frqG.of (.cons bwG.of (.cons ptG.of (.cons unitG.of (.cons fdG.of (.cons (kPtS_of ptK_).of (.cons awake23G.of (.nil _))))))))
theorem do_all {a b : U8} {i w c u : Int} (ha : a.ok = true) (hb : b.ok = true) (hi : wN32 i = true) (hw : wN32 w = true) (hc : wN32 c = true) (hu : u64P u) : ∃ k1 k2, ObsOk (doOb NprR PaN (nPt PaN) a b i w c u k1 k2) := by
  obtain ⟨a5, a6⟩ := le_no a
  obtain ⟨b5, b6⟩ := le_no b
  have hU := unI_U u hu.1 hu.2
  obtain ⟨n1, n2, n3⟩ := unI_near u hu.1 hu.2
  have rs : rt (unI u) = true := rt_q hU.rt
  have c01 := rn_one (fr_rn hc)
  have w01 := rn_one (fr_rn hw)
  have hcb : InB (pt (frT c)) bz1 := pt_z1 c01
  have hio := rn_one (bw_rn (n := i) rk_le.2.2.1)
  obtain ⟨o, o1, o2⟩ := fd_all hcb (bn_of hio)
  have KC := okPg_ok (okPg_co a b i)
  have hC0 : ndR (doC NprR a b i) (1 * 19) = leNd b := by kernel_rfl
  have hC1 : ndR (doC NprR a b i) (2 * 19) = ⟨6, ndM z64 z64 z64 z64 z64 z64 z64 z64 z64 z64 z64 z64 z64 z64 (bwF minIo four64 i) z64, 1, 0⟩ := by kernel_rfl
  have hM0 : ndR (doM NprR a b w) (0 * 19) = leNd a := by kernel_rfl
  have hM1 : ndR (doM NprR a b w) (1 * 19) = leNd b := by kernel_rfl
  have hM2 : ndR (doM NprR a b w) (2 * 19) = ⟨5, ndM z64 z64 z64 z64 z64 z64 z64 z64 z64 z64 z64 z64 z64 z64 z64 (frT w), 0, 1⟩ := by kernel_rfl
  have eo : (PaN.D (pt (frT c)) (pt ((ndR (doC NprR a b i) (2 * 19)).f 14))).1 = o := by
    rw [hC1]
    have : PaN.D (pt (frT c)) (pt (bwF minIo four64 i)) = (o, 0) := o1
    show (PaN.D (pt (frT c)) (pt (bwF minIo four64 i))).1 = o
    rw [this]
  have zq : z64.q = 0 := zero0_q
  have oq : 0 ≤ o.lo.q := by have := q_le.2 o2.lo; rw [zq] at this; exact this
  obtain ⟨A1, A2, A3⟩ := pf_coat (c := pt (frT c)) (cs := doC NprR a b i) (n := 1) (s := unI u) (o := o) (by rw [hC1]) (by rw [hC1]) eo (by rw [hC0]; exact b5) (by rw [hC0]; exact b6) rs o2.rt oq hU.lo hU.hi n3
  obtain ⟨B1, B2, B3⟩ := pf_mix2 (c := pt (frT c)) (cs := doM NprR a b w) (n := 1) (s := unI u) (w := frT w) (by rw [hM2]) (by rw [hM2]) (by rw [hM2]) (by rw [hM2]; rfl) (by rw [hM0]; exact a5) (by rw [hM0]; exact a6) (by rw [hM1]; exact b5) (by rw [hM1]; exact b6) w01 rs hU.lo hU.hi n3 n2
  have hR1 : (nPt PaN).g (pt (NprR.q c)) u (doC NprR a b i) 3 = paRes (pathF KkR PaN.D (pt (frT c)) (doC NprR a b i) (1 + 2) ⟨2, unI u, true, 0⟩) := pt_g3 _ _ _
  have hR2 : (nPt PaN).g (pt (NprR.q c)) u (doM NprR a b w) 3 = paRes (pathF KkR PaN.D (pt (frT c)) (doM NprR a b w) (1 + 2) ⟨2, unI u, true, 0⟩) := pt_g3 _ _ _
  have hO : doO NprR PaN i c = (o, 0) := o1
  have tl : ObsOk (doTl NprR PaN a b i w c u) := ob_a (fd_o hcb hio) (ob_c rk_p.2.2.1 (ob_c hi (ob_c (uP hu) (ob_c hw (ob_c hc (ob_c hb (ob_c ha ob_n)))))))
  have pO : ∀ {cs : List SV} {g s : Bool} {r : PaR}, cs.length = 3 * 19 → okPg cs 3 = true → (nPt PaN).g (pt (NprR.q c)) u cs 3 = r → r.g = g → r.s = s → ObsOk (doP NprR (nPt PaN) cs c u g s) := fun {cs g s r} h1 h2 h3 h4 h5 => by
    unfold doP
    rw [h3]
    exact ob_a (ob_c (decide_eq_true h1) (ob_c h2 (ob_c (fdD_ok hcb (okPg_ok h2)).1 (ob_c (uP hu) (cosO_ok hcb))))) (ob_a (ob_c h5 ob_n) (ob_c h4 ob_n))
  have c1 : ∃ k1 : Tri, (nPt PaN).g (pt (NprR.q c)) u (doC NprR a b i) 3 = ⟨bif k1.g then 2 else 1, k1.g, k1.s, 0⟩ ∧ ObsOk (doS1 (unI u) o k1) := by
    by_cases g1 : (unI u).hi.k < o.lo.k
    · exact ⟨.a, by rw [hR1, A1 g1]; rfl, ob_c (decide_eq_true g1) ob_n⟩
    · by_cases g2 : (unI u).lo.k < o.hi.k
      · exact ⟨.b, by rw [hR1, A2 g1 g2]; rfl, ob_c (decide_eq_false (by omega)) (ob_c (decide_eq_false g1) ob_n)⟩
      · obtain ⟨s', h⟩ := A3 g1 g2
        exact ⟨.c, by rw [hR1, h]; rfl, ob_c (decide_eq_true (by omega)) (ob_c (decide_eq_false g1) ob_n)⟩
  have c2 : ∃ k2 : Tri, (nPt PaN).g (pt (NprR.q c)) u (doM NprR a b w) 3 = ⟨bif k2.g then 1 else 0, false, k2.s, 0⟩ ∧ ObsOk (doS2 (unI u) (frT w) (bif k2.g then 1 else 0) k2) := by
    by_cases g1 : (unI u).hi.k < (frT w).k
    · obtain ⟨s', h⟩ := B1 g1
      exact ⟨.a, by rw [hR2, h]; rfl, ob_c rfl (ob_c (decide_eq_true g1) ob_n)⟩
    · by_cases g2 : (unI u).lo.k < (frT w).k
      · obtain ⟨s', h⟩ := B2 g1 g2
        exact ⟨.b, by rw [hR2, h]; rfl, ob_c (decide_eq_false (by omega)) (ob_c (decide_eq_false g1) ob_n)⟩
      · obtain ⟨s', h⟩ := B3 g1 g2
        exact ⟨.c, by rw [hR2, h]; rfl, ob_c rfl (ob_c (decide_eq_true (by omega)) (ob_c (decide_eq_false g1) ob_n))⟩
  obtain ⟨k1, r1, s1⟩ := c1
  obtain ⟨k2, r2, s2⟩ := c2
  have q1 := pO rfl (okPg_co a b i) r1 rfl rfl
  have q2 := pO rfl (okPg_mx a b hw) r2 rfl rfl
  refine ⟨k1, k2, ?_⟩
  unfold doOb
  rw [r1, r2, hO]
  refine ob_a s2 (ob_a s1 (ob_a ?_ (ob_a ?_ (ob_a q2 (ob_a q1 tl)))))
  · cases k2 <;> first | exact ob_c rfl (ob_c rfl ob_n) | exact ob_c rfl ob_n
  · exact ob_c (by cases k1 <;> rfl) (ob_c (decide_eq_false (by have := of_decide_eq_true rs; show ¬ (unI u).hi.k < (unI u).lo.k; omega)) (ob_c rfl (ob_c rfl (ob_c rfl ob_n))))
theorem drawOften_row (x0 x1 x2 x3 x4 x5 x6 x7 y0 y1 y2 y3 y4 y5 y6 y7 i w c u : Int) (h0 : (Lit.int .u32 x0).wf = true) (h1 : (Lit.int .u32 x1).wf = true) (h2 : (Lit.int .u32 x2).wf = true) (h3 : (Lit.int .u32 x3).wf = true) (h4 : (Lit.int .u32 x4).wf = true) (h5 : (Lit.int .u32 x5).wf = true) (h6 : (Lit.int .u32 x6).wf = true) (h7 : (Lit.int .u32 x7).wf = true) (h8 : (Lit.int .u32 y0).wf = true) (h9 : (Lit.int .u32 y1).wf = true) (h10 : (Lit.int .u32 y2).wf = true) (h11 : (Lit.int .u32 y3).wf = true) (h12 : (Lit.int .u32 y4).wf = true) (h13 : (Lit.int .u32 y5).wf = true) (h14 : (Lit.int .u32 y6).wf = true) (h15 : (Lit.int .u32 y7).wf = true) (h16 : (Lit.int .u32 i).wf = true) (h17 : (Lit.int .u32 w).wf = true) (h18 : (Lit.int .u32 c).wf = true) (h19 : (Lit.int .u64 u).wf = true) (W : World) :
    Calls Tryz.prog 5 #[.agg #[.int .u32 x0, .int .u32 x1, .int .u32 x2, .int .u32 x3, .int .u32 x4, .int .u32 x5, .int .u32 x6, .int .u32 x7], .agg #[.int .u32 y0, .int .u32 y1, .int .u32 y2, .int .u32 y3, .int .u32 y4, .int .u32 y5, .int .u32 y6, .int .u32 y7], .int .u32 i, .int .u32 w, .int .u32 c, .int .u64 u] W fun e w' => e = .returned (.bool true) ∧ Below W.heap.size W w' := by
  obtain ⟨k1, k2, ho⟩ := do_all (a := ⟨x0, x1, x2, x3, x4, x5, x6, x7⟩) (b := ⟨y0, y1, y2, y3, y4, y5, y6, y7⟩) (u8_mk h0 h1 h2 h3 h4 h5 h6 h7) (u8_mk h8 h9 h10 h11 h12 h13 h14 h15) (u32_w h16) (u32_w h17) (u32_w h18) (u64_w h19)
  exact calls_of_val goodG oracleOOf 120 (doR NprR PaN (nPt PaN) ⟨x0, x1, x2, x3, x4, x5, x6, x7⟩ ⟨y0, y1, y2, y3, y4, y5, y6, y7⟩ i w c u k1 k2) ho rfl rfl W
end Go.Proofs.YtgjohjgmlleebaaGreat
