/- burnishlow.Prog makes right programs. DensMirror by the reckoner: pieces. DensMirror by .. -/
import Derived.Test.YtejcekikbnlllaaGreatT16
import Derived.Test.YtejcekikbnlllaaGreatT13
import Derived.Test.YtejcekikbnlllaaGreatT15
set_option linter.all false
namespace Bu
open Rx Go
theorem CellsAt.left {a b cs:List SV} {off:Nat} (h:CellsAt a off cs):CellsAt (a ++ b) off cs := fun j x hx => by
 have := h j x hx
 rw [List.getElem?_append_left (List.getElem?_eq_some_iff.1 this).1]; exact this
theorem CellsAt.right (a b:List SV):CellsAt (a ++ b) a.length b := fun j x hx => by
 rw [List.getElem?_append_right (by omega),show a.length + j - a.length = j by omega]; exact hx
end Bu
namespace Go.Proofs.YtejcekikbnlllaaGreat
open Go.RowKit Bu Rx
end Go.Proofs.YtejcekikbnlllaaGreat
namespace Bu
open Rx Go
end Bu
namespace Go.Proofs.YtejcekikbnlllaaGreat
open Go.RowKit Bu Rx
noncomputable def WaN:Nwa := ⟨NprR,WtR,EvR,CeR,unV KkR,unB,KkR.mul,meetsB⟩
theorem oracleWa:OracleOk Tryz.prog (OWa WaN) := .cons frqG.of <| .cons bwG.of <| .cons wgA_OG <| .cons eeK.of <| .cons deK.of <| .cons mulC <| .cons piG.of <| .cons meetsG.of <| .cons awake24G.of <| .nil _
def waNL (x y z:F):Nd := ⟨1,ndM x y z z64 z64 z64 z64 z64 z64 z64 z64 z64 z64 z64 z64 z64,0,0⟩
def waNS (x y z s:F):Nd := ⟨2,ndM x y z z64 z64 z64 z64 z64 z64 z64 z64 z64 s z64 z64 z64,0,0⟩
def w3 (x y z:F):Nat → F
 | 0 => x
 | 1 => y
 | _ => z
section
variable (t0 t1 t2 i:Int)
theorem waL_n:ndR (waL WaN t0 t1 t2) (0 * 19) = waNL (frT t0) (frT t1) (frT t2) := by kernel_rfl
theorem waS_n:ndR (waS WaN t0 t1 t2 i) (0 * 19) = waNS (frT t0) (frT t1) (frT t2) (frT i) := by kernel_rfl
theorem waL_ck:ckAll (waL WaN t0 t1 t2) (0 * 19) ndCK = true := by kernel_rfl
theorem waS_ck:ckAll (waS WaN t0 t1 t2 i) (0 * 19) ndCK = true := by kernel_rfl
variable {t0 t1 t2 i:Int} (h0:wN32 t0 = true) (h1:wN32 t1 = true) (h2:wN32 t2 = true) (h3:wN32 i = true)
include h0 h1 h2 in
theorem waL_ok:okPg (waL WaN t0 t1 t2) 1 = true := okPg_mk rfl (by decide) (by decide) fun j hj => by
 obtain rfl:j = 0 := by omega
 exact okAt_n (waL_ck ..) (waL_n ..) (okNd_1 (fr_rn h0) (fr_rn h1) (fr_rn h2) _)
include h0 h1 h2 h3 in
theorem waS_ok:okPg (waS WaN t0 t1 t2 i) 1 = true := okPg_mk rfl (by decide) (by decide) fun j hj => by
 obtain rfl:j = 0 := by omega
 exact okAt_n (waS_ck ..) (waS_n ..) (okNd_2 (fr_rn h0) (fr_rn h1) (fr_rn h2) (fr_rn h3) _)
end
theorem fr_in {n:Int} (h:wN32 n = true):z64.k ≤ (frT n).k ∧ (frT n).k ≤ one64.k := rn_one (fr_rn h)
theorem t40_q:(toF 4427038433705197568).q = 1 / 1099511627776 := by
 have:(toF 4427038433705197568).q * 1099511627776 = 1 := q_of' (n := 1) (s := 40) (by decide +kernel) rfl
 grind
theorem waK_ok {me:I → I → Bool} {b m a:I} {r:F} (h1:me b m = true) (h2:Mem a r.q) (h3:a.hi.q - a.lo.q ≤ 1 / 1099511627776) {t:Obs} (ht:ObsOk t):ObsOk (waK me b m a r ++ t) := by
 obtain ⟨D,d1,hn⟩ := sub_nr (x := a.hi) (y := a.lo) (g := toF 4427038433705197568) (by rw [t40_q]; exact h3) (by rw [t40_q]; have := h2.lo; have := h2.hi; grind)
 have d2 := q_le.1 (hn.up (toF 4427038433705197568) (by rw [t40_q]; exact h3))
 have e:waD a = some D.b := d1
 refine ob_a ?_ ht
 unfold waK
 rw [e,Option.getD_some,toF_F,Option.isSome_some,right_F]
 exact ob_c h1 (ob_c (decide_eq_false (by omega)) (ob_c rfl (ob_c rfl (ob_c (decide_eq_false (by have := q_le.1 h2.hi; omega)) (ob_c (decide_eq_false (by have := q_le.1 h2.lo; omega)) ob_n)))))
theorem eqC2R (a:Ch):eqC2 a a = true := by
 unfold eqC2
 rw [decide_eq_true rfl,decide_eq_true rfl,decide_eq_true rfl,decide_eq_true rfl]; rfl
theorem pick3 {α:Type} {P:Nat → α → Prop} (h:∀ k,k < 3 → ∃ a,P k a):∃ f:Nat → α,∀ k,k < 3 → P k (f k) := by
 obtain ⟨a,ha⟩ := h 0 (by omega)
 obtain ⟨b,hb⟩ := h 1 (by omega)
 obtain ⟨c,hc⟩ := h 2 (by omega)
 refine ⟨fun k => match k with
  | 0 => a
  | 1 => b
  | _ => c,fun k hk => ?_⟩
 rcases (by omega:k = 0 ∨ k = 1 ∨ k = 2) with rfl | rfl | rfl
 ·exact ha
 ·exact hb
 ·exact hc
structure C4 where
 A:I
 M:I
 w:I
 g:I
theorem waL_at {t0 t1 t2:Int} (h0:wN32 t0 = true) (h1:wN32 t1 = true) (h2:wN32 t2 = true) {v u:V3} (hv:OneP v) (nar:v.z.hi.q ≤ v.z.lo.q + v.z.lo.q * (64 * rl)) :
  ∃ (d:I) (f:Nat → C4),KkR.div 0 v.z PIc = (d,0) ∧ lfR (dnG4 GmR) v u (waNL (frT t0) (frT t1) (frT t2)) = (d,0) ∧ ∀ k,k < 3 → NeR.g (lfE v u k (waNL (frT t0) (frT t1) (frT t2))) = ((f k).A,0) ∧ KkR.mul 0 (f k).A v.z = ((f k).M,0) ∧ KkR.div 0 (f k).M d = ((f k).w,0) ∧ Mem (f k).w (w3 (frT t0) (frT t1) (frT t2) k).q ∧ (f k).w.hi.q - (f k).w.lo.q ≤ 1 / 1099511627776 := by
 have zu := (one_wd hv).z
 have Z1 := q_le.2 zu.2.1
 have e1:(bz1.hi:F).q = 1 := one_q
 rw [e1] at Z1
 have uz:Uz1 v.z := ⟨inb_rt1 zu,zu.1,zu.2.1⟩
 obtain ⟨d,d1,d2,_⟩ := lb_dv uz
 have zz:z64.q = 0 := zero0_q
 have hd:lfR (dnG4 GmR) v u (waNL (frT t0) (frT t1) (frT t2)) = (d,0) := by
  show dnG4 GmR ⟨1,etaF (waNL (frT t0) (frT t1) (frT t2)).f,0,v,u⟩ = _
  rw [den1_eq,gm_lb]
  exact d1
 have core:∀ k,k < 3 → ∃ f:C4,NeR.g (lfE v u k (waNL (frT t0) (frT t1) (frT t2))) = (f.A,0) ∧ KkR.mul 0 f.A v.z = (f.M,0) ∧ KkR.div 0 f.M d = (f.w,0) ∧ Mem f.w (w3 (frT t0) (frT t1) (frT t2) k).q ∧ f.w.hi.q - f.w.lo.q ≤ 1 / 1099511627776 := fun k hk => by
  have tk:z64.k ≤ (w3 (frT t0) (frT t1) (frT t2) k).k ∧ (w3 (frT t0) (frT t1) (frT t2) k).k ≤ one64.k := by
   rcases (by omega:k = 0 ∨ k = 1 ∨ k = 2) with rfl | rfl | rfl
   ·exact fr_in h0
   ·exact fr_in h1
   ·exact fr_in h2
  have a := q_le.2 tk.1; have b := q_le.2 tk.2
  rw [zz] at a; rw [one_q] at b
  obtain ⟨A,P,M,w,eA,eP,eM,ew,_,hm,hw⟩ := al_core a b (inb_rt1 zu) hv.up Z1 nar
  have eP':KkR.div 0 v.z PIc = (P,0) := eP
  obtain rfl:P = d := by rw [d2] at eP'; exact (congrArg Prod.fst eP').symm
  obtain ⟨r,r1,r2,_⟩ := lb_dv (uz_of tk)
  have eA':KkR.div 0 (pF (w3 (frT t0) (frT t1) (frT t2) k)) PIc = (A,0) := eA
  obtain rfl:r = A := by rw [r2] at eA'; exact congrArg Prod.fst eA'
  have e:NeR.g (lfE v u k (waNL (frT t0) (frT t1) (frT t2))) = lnR (lbK KkR (pF (w3 (frT t0) (frT t1) (frT t2) k))) 0 := by
   show vlG GmR KkR ⟨1,etaF (waNL (frT t0) (frT t1) (frT t2)).f,(k:Int),v,u⟩ = _
   rw [val1_eq]
   unfold meL
   rw [gm_lb]
   rcases (by omega:k = 0 ∨ k = 1 ∨ k = 2) with rfl | rfl | rfl <;> rfl
  exact ⟨⟨r,M,w,w⟩,e.trans r1,eM,ew,hm,hw⟩
 obtain ⟨f,hf⟩ := pick3 core
 exact ⟨d,f,d2,hd,hf⟩
theorem waS_at {t0 t1 t2 i:Int} (h0:wN32 t0 = true) (h1:wN32 t1 = true) (h2:wN32 t2 = true) (h3:wN32 i = true) {v u:V3} (hv:OneP v) (hu:OneP u) :
  ∃ (d:I) (f:Nat → C4),KkR.div 0 v.z PIc = (d,0) ∧ lfR (dnG4 GmR) v u (waNS (frT t0) (frT t1) (frT t2) (frT i)) = (d,0) ∧ ∀ k,k < 3 → NeR.g (lfE v u k (waNS (frT t0) (frT t1) (frT t2) (frT i))) = ((f k).A,0) ∧ KkR.mul 0 (f k).A v.z = ((f k).M,0) ∧ KkR.div 0 (f k).M d = ((f k).w,0) ∧ KkR.mul 0 (f k).A PIc = ((f k).g,0) ∧ meetsB (f k).w (f k).g = true := by
 have zu := (one_wd hv).z
 have uz:Uz1 v.z := ⟨inb_rt1 zu,zu.1,zu.2.1⟩
 obtain ⟨d,d1,d2,_⟩ := lb_dv uz
 have hd:lfR (dnG4 GmR) v u (waNS (frT t0) (frT t1) (frT t2) (frT i)) = (d,0) := by
  show dnG4 GmR ⟨2,etaF (waNS (frT t0) (frT t1) (frT t2) (frT i)).f,0,v,u⟩ = _
  rw [den2_eq,gm_lb]
  exact d1
 have hnd:okNd (waNS (frT t0) (frT t1) (frT t2) (frT i)) 0 = true := okNd_2 (fr_rn h0) (fr_rn h1) (fr_rn h2) (fr_rn h3) _
 have up := hv.up
 have core:∀ k,k < 3 → ∃ f:C4,NeR.g (lfE v u k (waNS (frT t0) (frT t1) (frT t2) (frT i))) = (f.A,0) ∧ KkR.mul 0 f.A v.z = (f.M,0) ∧ KkR.div 0 f.M d = (f.w,0) ∧ KkR.mul 0 f.A PIc = (f.g,0) ∧ meetsB f.w f.g = true := fun k hk => by
  have L:LfP ⟨2,etaF (waNS (frT t0) (frT t1) (frT t2) (frT i)).f,(k:Int),v,u⟩ := leaf_lf hnd (by show (2:Int) ≠ 5; decide) (by show (2:Int) ≠ 6; decide) hv hu (k:Int) (by omega) (by omega)
  obtain ⟨a,b⟩ := rt2_in L.r L.o.n
  obtain ⟨sl,hb,e1,_⟩ := or_leaf L.v L.u (uz_of a) (uz_of b)
  have q := orV_in (uz_of a) (uz_of b) hb
  obtain ⟨P,M,w,g,eP,eM,ew,eg,hm⟩ := wa_q ⟨q.lo,q.hi,of_decide_eq_true q.rt⟩ (one_box hv).2.2 uz (by grind)
  obtain rfl:d = P := by rw [d2] at eP; exact congrArg Prod.fst eP
  exact ⟨⟨_,M,w,g⟩,e1,eM,ew,eg,hm⟩
 obtain ⟨f,hf⟩ := pick3 core
 exact ⟨d,f,d2,hd,hf⟩
theorem waOb_ok {t0 t1 t2 i:Int} (h0:wN32 t0 = true) (h1:wN32 t1 = true) (h2:wN32 t2 = true) (h3:wN32 i = true) {u:U6} (hu:u.ok = true):ObsOk (waOb WaN t0 t1 t2 i u) := by
 obtain ⟨b0,b1,b2,b3,b4,b5⟩ := u6_in hu
 have hv:OneP (waV WaN u) := twP _ _ _
 have hw:OneP (waU WaN u) := twP _ _ _
 have xu:unB (bwF mone64 one64 u.a0) (bwF mone64 one64 u.a1) (bwF d64 one64 u.a2) = true := un_B bwN1 bwN1 bwN2.1 bwN2.2
 have xv:unB (bwF mone64 one64 u.a3) (bwF mone64 one64 u.a4) (bwF d64 one64 u.a5) = true := un_B bwN1 bwN1 bwN2.1 bwN2.2
 have zu:z64.k < (bwF d64 one64 u.a2).k := by have := of_decide_eq_false (bw_up u.a2); omega
 have zv:z64.k < (bwF d64 one64 u.a5).k := by have := of_decide_eq_false (bw_up u.a5); omega
 have nar:(waV WaN u).z.hi.q ≤ (waV WaN u).z.lo.q + (waV WaN u).z.lo.q * (64 * rl) := bw_nar b3 b4
 have kL := waL_ok h0 h1 h2
 have kS := waS_ok h0 h1 h2 h3
 obtain ⟨d,f,hd,fd,hf⟩ := waL_at (u := waU WaN u) h0 h1 h2 hv nar
 obtain ⟨d',g,hd',gd,hg⟩ := waS_at (u := waU WaN u) h0 h1 h2 h3 hv hw
 obtain rfl:d = d' := by rw [hd] at hd'; exact congrArg Prod.fst hd'
 obtain ⟨L1,L2,L3,L4,_,L6⟩ := one_wg (a := bwF mone64 one64 u.a3) (b := bwF mone64 one64 u.a4) (c := bwF d64 one64 u.a5) rfl kL (waL_n t0 t1 t2) (by show (1:Int) ≠ 5; decide) (by show (1:Int) ≠ 6; decide) xu zu xv zv (A := fun k => (f k).A) (M := fun k => (f k).M) (w := fun k => (f k).w) (fun k hk => (hf k hk).1) fd (fun k hk => (hf k hk).2.1) (fun k hk => (hf k hk).2.2.1)
 obtain ⟨S1,S2,S3,S4,S5,_⟩ := one_wg (a := bwF mone64 one64 u.a3) (b := bwF mone64 one64 u.a4) (c := bwF d64 one64 u.a5) rfl kS (waS_n t0 t1 t2 i) (by show (2:Int) ≠ 5; decide) (by show (2:Int) ≠ 6; decide) xu zu xv zv (A := fun k => (g k).A) (M := fun k => (g k).M) (w := fun k => (g k).w) (fun k hk => (hg k hk).1) gd (fun k hk => (hg k hk).2.1) (fun k hk => (hg k hk).2.2.1)
 obtain ⟨E1,E2⟩ := one_ev (v := waV WaN u) (u := waU WaN u) (waS_n t0 t1 t2 i) (by show (2:Int) ≠ 5; decide) (by show (2:Int) ≠ 6; decide) (A := fun k => (g k).A) (fun k hk => (hg k hk).1)
 obtain ⟨D1,D2⟩ := one_da (cos := (waU WaN u).z) (waL_n t0 t1 t2) (by show (1:Int) ≠ 5; decide) (by show (1:Int) ≠ 6; decide) fd
 have eE:∀ k,k < 3 → waE WaN t0 t1 t2 i u k = (g k).A := fun k hk => by
  show (eeC NeR (waV WaN u) (waU WaN u) (waS WaN t0 t1 t2 i) 1 k).p = _
  rw [E2 k hk]
 have m0:waM0 WaN t0 t1 t2 i u = ((g 0).g,0) := by
  unfold waM0
  rw [eE 0 (by omega)]
  exact (hg 0 (by omega)).2.2.2.1
 have m1:waM1 WaN t0 t1 t2 i u = ((g 1).g,0) := by
  unfold waM1
  rw [eE 1 (by omega),m0]
  exact (hg 1 (by omega)).2.2.2.1
 have m2:waM2 WaN t0 t1 t2 i u = ((g 2).g,0) := by
  unfold waM2
  rw [eE 2 (by omega),m1]
  exact (hg 2 (by omega)).2.2.2.1
 have eA:∀ k,k < 3 → waA WaN t0 t1 t2 u k = (f k).w := fun k hk => L3 k hk
 have eB:∀ k,k < 3 → waB WaN t0 t1 t2 i u k = (g k).w := fun k hk => S3 k hk
 have eC:waC WaN t0 t1 t2 u = ⟨d,Ch.zero.m⟩ := D2
 have eX:(waT WaN u (waS WaN t0 t1 t2 i)).x = ⟨d,Ch.zero.m⟩ := S2
 have eY:(waT WaN u (waL WaN t0 t1 t2)).x = ⟨d,Ch.zero.m⟩ := L2
 have z1:(WaN.D.e (waU WaN u).z (waV WaN u) (waU WaN u) (waL WaN t0 t1 t2) 1 != 0) = false := by
  rw [show WaN.D.e (waU WaN u).z (waV WaN u) (waU WaN u) (waL WaN t0 t1 t2) 1 = 0 from D1]; rfl
 have z2:(WaN.E.e (waV WaN u) (waU WaN u) (waS WaN t0 t1 t2 i) 1 != 0) = false := by
  rw [show WaN.E.e (waV WaN u) (waU WaN u) (waS WaN t0 t1 t2 i) 1 = 0 from E1]; rfl
 have z3:((waT WaN u (waS WaN t0 t1 t2 i)).e != 0) = false := by
  rw [show (waT WaN u (waS WaN t0 t1 t2 i)).e = 0 from S1]; rfl
 have z4:((waT WaN u (waL WaN t0 t1 t2)).e != 0) = false := by
  rw [show (waT WaN u (waL WaN t0 t1 t2)).e = 0 from L1]; rfl
 have nb:∀ a:Ch,(!eqC2 a a) = false := fun a => by rw [eqC2R]; rfl
 unfold waOb
 rw [eC,eX,eY,m0,m1,m2,eA 0 (by omega),eA 1 (by omega),eA 2 (by omega),eB 0 (by omega),eB 1 (by omega),eB 2 (by omega)]
 refine ob_c rfl (waK_ok (hg 2 (by omega)).2.2.2.2 (hf 2 (by omega)).2.2.2.1 (hf 2 (by omega)).2.2.2.2 (waK_ok (hg 1 (by omega)).2.2.2.2 (hf 1 (by omega)).2.2.2.1 (hf 1 (by omega)).2.2.2.2 (waK_ok (hg 0 (by omega)).2.2.2.2 (hf 0 (by omega)).2.2.2.1 (hf 0 (by omega)).2.2.2.2 ?_)))
 refine ob_c (nb _) (ob_c (nb _) (ob_c z1 (ob_c z2 (ob_c z3 (ob_c z4 ?_)))))
 exact ob_a L6 (ob_a S5 (ob_a S4 (ob_a L4 (ob_c h3 (ob_c h2 (ob_c h1 (ob_c h0 (ob_a (dirU_ok b3 b4 b5) (ob_a (dirU_ok b0 b1 b2) ob_n)))))))))
theorem weighAlbedo_row (r0 r1 r2 s a0 a1 a2 a3 a4 a5:Int) (h0:(Lit.int .u32 r0).wf = true) (h1:(Lit.int .u32 r1).wf = true) (h2:(Lit.int .u32 r2).wf = true) (h3:(Lit.int .u32 s).wf = true) (k0:(Lit.int .u32 a0).wf = true) (k1:(Lit.int .u32 a1).wf = true) (k2:(Lit.int .u32 a2).wf = true) (k3:(Lit.int .u32 a3).wf = true) (k4:(Lit.int .u32 a4).wf = true) (k5:(Lit.int .u32 a5).wf = true) (w:World) :
  Calls Tryz.prog 4 #[.agg #[.int .u32 r0,.int .u32 r1,.int .u32 r2],.int .u32 s,.agg #[.int .u32 a0,.int .u32 a1,.int .u32 a2,.int .u32 a3,.int .u32 a4,.int .u32 a5]] w fun e w' => e = .returned (.bool true) ∧ Below w.heap.size w w' :=
 calls_of_val goodG oracleWa 120 (waRun WaN r0 r1 r2 s ⟨a0,a1,a2,a3,a4,a5⟩) (waOb_ok (u32_w h0) (u32_w h1) (u32_w h2) (u32_w h3) (by
  unfold U6.ok
  rw [u32_w k0,u32_w k1,u32_w k2,u32_w k3,u32_w k4,u32_w k5]; rfl)) rfl rfl w
end Go.Proofs.YtejcekikbnlllaaGreat
