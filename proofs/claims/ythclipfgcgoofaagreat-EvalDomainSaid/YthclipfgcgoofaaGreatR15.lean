/- dens.all with errors: the rounds. dens.all, dens.Chance with errors: the known functions. .. -/
import Derived.Test.YthclipfgcgoofaaGreatR12
import Derived.Test.YthclipfgcgoofaaGreatR14
import Derived.Test.YthclipfgcgoofaaGreatR10
import Derived.Test.YthclipfgcgoofaaGreatR13
import Derived.Test.YthclipfgcgoofaaGreatR11
set_option linter.all false
namespace Go.Proofs.YthclipfgcgoofaaGreat
open Go.RowKit Bu Rx
section
variable (N : Nde) (e : TypeId) (cells lc : List SV) (v u : V3) (off len cap : Nat) (cos : I) (i : Int) (x : Nat → SV)
end
end Go.Proofs.YthclipfgcgoofaaGreat
namespace Bu
open Rx Go
structure Nce where
 o : List SV → Nat → Bool
 g : I → V3 → V3 → List SV → Nat → Ch
 e : I → V3 → V3 → List SV → Nat → Int
 b : I → V3 → V3 → List SV → Nat → Bool
end Bu
namespace Go.Proofs.YthclipfgcgoofaaGreat
open Go.RowKit Bu Rx
section
variable (D : Nce) (e : TypeId) (cells : List SV) (off len cap : Nat) (v u : V3) (cos : I)
end
end Go.Proofs.YthclipfgcgoofaaGreat
namespace Bu
open Rx Go
structure OvP (i o : I) (w : F) (a : Ch) (s h x y f q t z r : I) : Prop where
 e1 : KkR.sub 0 (pt one64) o = (s, 0)
 e2 : KkR.sub 0 (pt one64) i = (h, 0)
 e3 : KkR.mul 0 h s = (x, 0)
 e4 : KkR.mul 0 x (pt w) = (y, 0)
 e5 : KkR.mul 0 y a.p = (f, 0)
 e6 : KkR.sqr 0 s = (q, 0)
 e7 : KkR.mul 0 q (pt w) = (t, 0)
 e8 : KkR.mul 0 t a.m = (z, 0)
 e9 : KkR.add 0 o z = (r, 0)
theorem OvP.eq {i o : I} {w : F} {a : Ch} {s h x y f q t z r : I} (k : OvP i o w a s h x y f q t z r) : overC KkR i o w a = (⟨f, r⟩, 0) := by
 unfold overC
 have n1 : KkR.num 0 one_ = (pt one64, 0) := rfl
 have n2 : KkR.num 0 w = (pt w, 0) := rfl
 simp only [n1, n2, k.e1, k.e2, k.e3, k.e4, k.e5, k.e6, k.e7, k.e8, k.e9]
end Bu
namespace Go.Proofs.YthclipfgcgoofaaGreat
open Go.RowKit Bu Rx
set_option maxRecDepth 100000 in
theorem bz1_B : byE bz1 bz1 = true ∧ (decide ((KTR.sqr 0 bz1).2 = 0) && inbB (KTR.sqr 0 bz1).1 bz1) = true := by decide +kernel
theorem sqr_in {x : I} (hx : InB x bz1) : ∃ r, KkR.sqr 0 x = (r, 0) ∧ InB r bz1 := by
 have k := bz1_B.2
 rw [Bool.and_eq_true, decide_eq_true_eq] at k
 obtain ⟨r, e, n⟩ := sqr_inn hx.inn k.1
 exact ⟨r, e, inB_tr n.inB k.2⟩
theorem ov_ok {i o : I} {w : F} {a : Ch} {j : Nat} (hj : j < 20) (hi : Uz1 i) (ho : Uz1 o) (hw : z64.k ≤ w.k ∧ w.k ≤ one64.k) (hp : InB a.p (Pb j)) (hm : InB a.m (Mb j)) :
  ∃ s h x y f q t z r, OvP i o w a s h x y f q t z r ∧ InB f (Pb j) ∧ InB r (Mb (j + 1)) ∧ InB s bz1 ∧ InB h bz1 ∧ InB x bz1 ∧ InB y bz1 ∧ InB q bz1 ∧ InB t bz1 ∧ InB z (Mb j) := by
 have L := lv_ok hj
 obtain ⟨s, e1, b1⟩ := less_in ho.box
 obtain ⟨h, e2, b2⟩ := less_in hi.box
 obtain ⟨x, e3, b3⟩ := by_in b2 b1 bz1_B.1
 obtain ⟨y, e4, b4⟩ := by_in b3 (pt_z1 hw) bz1_B.1
 obtain ⟨f, e5, b5⟩ := by_in b4 hp L.p
 obtain ⟨q, e6, b6⟩ := sqr_in b1
 obtain ⟨t, e7, b7⟩ := by_in b6 (pt_z1 hw) bz1_B.1
 obtain ⟨z, e8, b8⟩ := by_in b7 hm L.m
 obtain ⟨r, e9, b9⟩ := ad_in ho.box b8 L.om
 exact ⟨s, h, x, y, f, q, t, z, r, ⟨e1, e2, e3, e4, e5, e6, e7, e8, e9⟩, b5, b9, b1, b2, b3, b4, b6, b7, b8⟩
set_option maxRecDepth 100000 in
theorem val_bx : (gt (evalK KkR lbV [bz1] 0).1 0).hi.k ≤ (Pb 0).hi.k ∧ bVF.hi.k ≤ (Pb 0).hi.k ∧ one64.k ≤ (Pb 0).hi.k := by decide +kernel
set_option maxRecDepth 100000 in
theorem val_box {l : Lf} (h : LfP l) : ∃ a, vlG GmR KkR l = (a, 0) ∧ InB a (Pb 0) := by
 obtain ⟨x1, x2, x3⟩ := val_bx
 have z0 : (Pb 0).lo.k = z64.k := rfl
 rcases rt_kind h.r with e | e | e | e
 ·obtain ⟨k, f, c, v, u⟩ := l
  simp only at e; subst e
  obtain ⟨m, ee, l, _⟩ := box_lb
  have b := box (v := [pF (f c.toNat)]) (w := [bz1]) m ⟨(uz_of (rt1_in h.r h.o.n)).box, trivial⟩ ee
  have b1 : (lbK KkR (pF (f c.toNat))).2 = 0 := b.1
  have k := (b.2 0).inB
  exact ⟨_, lnR_0 b1, Int.le_trans l k.1, Int.le_trans k.2.1 x1, k.2.2⟩
 ·obtain ⟨k, f, c, v, u⟩ := l
  simp only at e; subst e
  obtain ⟨a, b⟩ := rt2_in h.r h.o.n
  obtain ⟨sl, hb, e1, e2⟩ := or_leaf h.v h.u (uz_of a) (uz_of b)
  have k := orV_in (uz_of a) (uz_of b) hb
  exact ⟨_, e1, k.lo, Int.le_trans k.hi x3, of_decide_eq_true k.rt⟩
 all_goals
  obtain ⟨ha, f, hf, e1, e2⟩ := gl_leaf h (by rw [e]; simp)
  obtain ⟨r, k1, _, r0, p, b⟩ := gloss_ok h.v h.u ha hf
  exact ⟨r, e1.trans k1, by rw [z0, z64_0]; exact r0, Int.le_trans b.2.1 x2, b.2.2⟩
theorem leaf_val {n : Nd} {p : Int} (h : okNd n p = true) (h5 : n.k ≠ 5) (h6 : n.k ≠ 6) {v u : V3} (hv : OneP v) (hu : OneP u) {k : Nat} (hk : k < 3) : ∃ a, NeR.g (lfE v u k n) = (a, 0) ∧ InB a (Pb 0) ∧ Bu.obsB (lfOb NeR v u n k) = true := by
 have L := leaf_lf h h5 h6 hv hu (k : Int) (by omega) (by omega)
 obtain ⟨a, e1, e2⟩ := val_box L
 obtain ⟨a0, b0⟩ := okNd_leaf h h5 h6
 exact ⟨a, e1, e2, obsB_of (ob_c (decide_eq_true a0) (ob_c (decide_eq_true b0) L.o.val))⟩
theorem zero_Mb {i : Nat} (h : i < 40) : InB I.zero (Mb i) := by
 have zk := zz_k
 refine ⟨?_, ?_, Int.le_refl _⟩
 ·show z64.k ≤ F.zero.k; omega
 ·show F.zero.k ≤ (Mb i).hi.k
  rw [Mb_k h]
  have : F.zero.k = 0 := rfl
  unfold Mk; omega
theorem evs_ok {v u : V3} (hv : OneP v) (hu : OneP u) {cs : List SV} {len : Nat} (K : OkPg cs len) (hlen : len ≤ 20) {k : Nat} (hk : k < 3) :
  ∀ i, i < len → (evN NeR v u k (fun j => (chL (allE NeR v u cs k) i).getD j Ch.zero) (ndR cs (i * 19))).2 = 0 ∧ InB (ltF NeR v u cs k i).p (Pb i) ∧ InB (ltF NeR v u cs k i).m (Mb i) := by
 have hcv := bzz_bz1 (one_box hv).2.2
 have hcu := bzz_bz1 (one_box hu).2.2
 intro i
 induction i using Nat.strongRecOn with
 | _ i ih =>
   intro hi
   have hnd := K.nd i hi
   have g : ∀ {a : Int}, 0 ≤ a → a < i → (chL (allE NeR v u cs k) i).getD a.toNat Ch.zero = ltF NeR v u cs k a.toNat := fun _ _ => chL_get _ (by omega)
   have hF : ltF NeR v u cs k i = (evN NeR v u k (fun j => (chL (allE NeR v u cs k) i).getD j Ch.zero) (ndR cs (i * 19))).1 := rfl
   rw [hF]
   generalize ndR cs (i * 19) = n at hnd
   by_cases h5 : n.k = 5
   ·obtain ⟨⟨a0, a1⟩, b0, b1⟩ := okNd_mix hnd h5
    have w := okNd_mixw hnd h5
    obtain ⟨_, pa, ma⟩ := ih n.a.toNat (by omega) (by omega)
    obtain ⟨_, pb, mb⟩ := ih n.b.toNat (by omega) (by omega)
    have L := lv_ok (i := i - 1) (by omega)
    have e1 : i - 1 + 1 = i := by omega
    obtain ⟨p, p1, p2⟩ := mixK_in w (Pb_le (i := n.a.toNat) (j := i - 1) (by omega) (by omega) pa) (Pb_le (i := n.b.toNat) (j := i - 1) (by omega) (by omega) pb) L.p L.pp
    obtain ⟨m, m1, m2⟩ := mixK_in w (Mb_le (i := n.a.toNat) (j := i - 1) (by omega) (by omega) ma) (Mb_le (i := n.b.toNat) (j := i - 1) (by omega) (by omega) mb) L.m L.mm
    rw [e1] at p2 m2
    have hn : evN NeR v u k (fun j => (chL (allE NeR v u cs k) i).getD j Ch.zero) n = (⟨p, m⟩, 0) := by
     unfold evN
     rw [decide_eq_true h5, cond_true]
     show mixC KkR (n.f 15) ((chL (allE NeR v u cs k) i).getD n.a.toNat Ch.zero) ((chL (allE NeR v u cs k) i).getD n.b.toNat Ch.zero) = _
     rw [g a0 a1, g b0 b1]
     exact mixC_st p1 m1
    rw [hn]
    exact ⟨rfl, p2, m2⟩
   ·by_cases h6 : n.k = 6
    ·obtain ⟨a0, a1⟩ := okNd_coat hnd h6
     obtain ⟨c1, ct⟩ := okNd_coatf hnd h6
     have hw : z64.k ≤ (n.f (3 + k)).k ∧ (n.f (3 + k)).k ≤ one64.k := ct (3 + k) (by rcases (by omega : k = 0 ∨ k = 1 ∨ k = 2) with rfl | rfl | rfl <;> decide)
     obtain ⟨_, pa, ma⟩ := ih n.a.toNat (by omega) (by omega)
     have e1 : i - 1 + 1 = i := by omega
     obtain ⟨fi, i1, i2⟩ := fd_all hcv (bn_of c1)
     obtain ⟨fo, o1, o2⟩ := fd_all hcu (bn_of c1)
     obtain ⟨s, h, x, y, f, q, t, z, r, O, bf, br, _⟩ := ov_ok (j := i - 1) (by omega) i2 o2 hw (Pb_le (i := n.a.toNat) (j := i - 1) (by omega) (by omega) pa) (Mb_le (i := n.a.toNat) (j := i - 1) (by omega) (by omega) ma)
     rw [e1] at br
     have hn : evN NeR v u k (fun j => (chL (allE NeR v u cs k) i).getD j Ch.zero) n = (⟨f, r⟩, 0) := by
      unfold evN
      rw [decide_eq_false h5, decide_eq_true h6, cond_false, cond_true]
      have d1 : NeR.D v.z ⟨n.f 14, n.f 14⟩ = (fi, 0) := i1
      have d2 : NeR.D u.z ⟨n.f 14, n.f 14⟩ = (fo, 0) := o1
      rw [d1, d2]
      show overC KkR fi fo (n.f (3 + k)) ((chL (allE NeR v u cs k) i).getD n.a.toNat Ch.zero) = _
      rw [g a0 a1]
      exact O.eq
     rw [hn]
     exact ⟨rfl, Pb_le (i := i - 1) (j := i) (by omega) (by omega) bf, br⟩
    ·obtain ⟨d, d1, d2, d3⟩ := leaf_val hnd h5 h6 hv hu hk
     have hn : evN NeR v u k (fun j => (chL (allE NeR v u cs k) i).getD j Ch.zero) n = (⟨d, I.zero⟩, 0) := by
      unfold evN
      rw [decide_eq_false h5, decide_eq_false h6, cond_false, cond_false, d1]
     rw [hn]
     exact ⟨rfl, Pb_le (i := 0) (by omega) (by omega) d2, zero_Mb (by omega)⟩
theorem evs_all {v u : V3} (hv : OneP v) (hu : OneP u) {cs : List SV} {len : Nat} (K : OkPg cs len) (hlen : len ≤ 20) : evB NeR v u cs len = true := by
 have hcv := bzz_bz1 (one_box hv).2.2
 have hcu := bzz_bz1 (one_box hu).2.2
 refine List.all_eq_true.2 fun i hi => ?_
 have hi' := List.mem_range.1 hi
 have hnd := K.nd i hi'
 have k0 := (evs_ok hv hu K hlen (k := 0) (by omega) i hi').1
 have k1 := (evs_ok hv hu K hlen (k := 1) (by omega) i hi').1
 have k2 := (evs_ok hv hu K hlen (k := 2) (by omega) i hi').1
 unfold evNB
 simp only [k0, k1, k2, decide_true, Bool.and_true]
 generalize ndR cs (i * 19) = n at hnd
 by_cases h5 : n.k = 5
 ·rw [decide_eq_true h5]; rfl
 ·by_cases h6 : n.k = 6
  ·obtain ⟨c1, _⟩ := okNd_coatf hnd h6
   obtain ⟨fi, i1, i2⟩ := fd_all hcv (bn_of c1)
   obtain ⟨fo, o1, o2⟩ := fd_all hcu (bn_of c1)
   have d1 : NeR.D v.z ⟨n.f 14, n.f 14⟩ = (fi, 0) := i1
   have d2 : NeR.D u.z ⟨n.f 14, n.f 14⟩ = (fo, 0) := o1
   have q1 : Bu.obsB (NeR.dO v.z ⟨n.f 14, n.f 14⟩) = true := obsB_of (fd_o hcv c1)
   have q2 : Bu.obsB (NeR.dO u.z ⟨n.f 14, n.f 14⟩) = true := obsB_of (fd_o hcu c1)
   rw [decide_eq_false h5, decide_eq_true h6, d1, d2, q1, q2]; rfl
  ·obtain ⟨_, _, _, q0⟩ := leaf_val hnd h5 h6 hv hu (k := 0) (by omega)
   obtain ⟨_, _, _, q1⟩ := leaf_val hnd h5 h6 hv hu (k := 1) (by omega)
   obtain ⟨_, _, _, q2⟩ := leaf_val hnd h5 h6 hv hu (k := 2) (by omega)
   rw [decide_eq_false h5, decide_eq_false h6, q0, q1, q2]; rfl
end Go.Proofs.YthclipfgcgoofaaGreat
namespace Bu
open Rx Go
end Bu
namespace Go.Proofs.YthclipfgcgoofaaGreat
open Go.RowKit Bu Rx
end Go.Proofs.YthclipfgcgoofaaGreat
namespace Bu
open Rx Go Ieee
end Bu
namespace Go.Proofs.YthclipfgcgoofaaGreat
open Go.RowKit Bu Rx
end Go.Proofs.YthclipfgcgoofaaGreat
namespace Bu
open Rx Go
end Bu
namespace Go.Proofs.YthclipfgcgoofaaGreat
open Go.RowKit Bu Rx
theorem val3_eq (G : Gm) (K : Kk) (f : Nat → F) (c : Int) (v u : V3) : vlG G K ⟨3, f, c, v, u⟩ = meP K G f v u := rfl
theorem val4_eq (G : Gm) (K : Kk) (f : Nat → F) (c : Int) (v u : V3) : vlG G K ⟨4, f, c, v, u⟩ = meM K G f c.toNat v u := rfl
theorem gm_gl : GmR.gl = glR KkR GlR := by simp only [GmR]
theorem gm_dl : GmR.dl = fun c n => lnR (fdK KkR c n) 0 := by simp only [GmR]
theorem gm_cd : GmR.cd = fun c m n => lnR (fcK KkR c m n) 0 := by simp only [GmR]
theorem pF_rt (x : F) : rt (pF x) = true := decide_eq_true (Int.le_refl _)
theorem val1_eq (G : Gm) (K : Kk) (f : Nat → F) (c : Int) (v u : V3) : vlG G K ⟨1, f, c, v, u⟩ = meL G f c.toNat := rfl
theorem val2_eq (G : Gm) (K : Kk) (f : Nat → F) (c : Int) (v u : V3) : vlG G K ⟨2, f, c, v, u⟩ = meO K G f c.toNat v u := rfl
theorem gm_lb : GmR.lb = fun r => lnR (lbK KkR r) 0 := by simp only [GmR]
end Go.Proofs.YthclipfgcgoofaaGreat
namespace Bu
open Rx Go
end Bu
namespace Go.Proofs.YthclipfgcgoofaaGreat
open Go.RowKit Bu Rx
theorem evE_z {N : Nde} {v u : V3} {cs : List SV} : ∀ {j : Nat}, (∀ i, i < j → evF N v u cs i = 0) → evE N v u cs j = 0
 | 0, _ => rfl
 | j + 1, h => by
   have e : evE N v u cs (j + 1) = bif decide (evE N v u cs j = 0) then evF N v u cs j else evE N v u cs j := rfl
   rw [e, decide_eq_true (evE_z fun i hi => h i (by omega)), cond_true]
   exact h j (by omega)
structure RE (r : I × Int) : Prop where
 er : Er r.2
 rt : rt r.1 = true
theorem condr : ∀ {l : List Bu.Op} {v u : List I}, (∀ a ∈ v, rt a = true) → CondE l v → Chain l v u → ∀ a ∈ u, rt a = true
 | [], v, u, hv, _, hc => by
   have e : u = v := hc
   subst e; exact hv
 | o :: l, v, u, hv, hc, hh => by
   obtain ⟨r, hr, hu⟩ := hh
   have h1 := fact_rt hv hc.1 hr
   exact condr (fun a ha => by
    rcases List.mem_cons.1 ha with rfl | ha
    ·exact h1
    ·exact hv a ha) (hc.2 r hr h1) hu
theorem line_re {l : List Bu.Op} {v : List I} (hv : ∀ a ∈ v, rt a = true) (hc : CondE l v) (i : Nat) : RE (lnR (evalK KkR l v 0) i) := by
 have he := eval_er hv hc
 unfold lnR
 cases g : neB (evalK KkR l v 0).2
 ·exact ⟨.inl rfl, gt_rt (condr hv hc (eval_chain (neB_0 g)).2) i⟩
 ·exact ⟨he, (by decide : rt I.zero = true)⟩
theorem line_rt {l : List Bu.Op} {v : List I} (hv : ∀ a ∈ v, rt a = true) (hc : CondE l v) (h : (evalK KkR l v 0).2 = 0) (i : Nat) : rt (gt (evalK KkR l v 0).1 i) = true := gt_rt (condr hv hc (eval_chain h).2) i
theorem no_fl {v : List I} (s : List Bool) (h : s.all (fun b => !b) = true) : Flags s v := fun i hi => by
 exfalso
 rw [List.getD_eq_getElem?_getD] at hi
 cases k : s[i]? with
 | none => rw [k] at hi; cases hi
 | some b =>
   rw [k] at hi
   have hb : b = true := hi
   subst hb
   have := List.all_eq_true.1 h _ (List.mem_of_getElem? k)
   cases this
theorem rts6 {a b c d e f : I} (h1 : rt a = true) (h2 : rt b = true) (h3 : rt c = true) (h4 : rt d = true) (h5 : rt e = true) (h6 : rt f = true) : ∀ x ∈ [a, b, c, d, e, f], rt x = true := by
 intro x hx
 simp only [List.mem_cons, List.not_mem_nil, or_false] at hx
 rcases hx with rfl | rfl | rfl | rfl | rfl | rfl <;> assumption
theorem rts5 {a b c d e : I} (h1 : rt a = true) (h2 : rt b = true) (h3 : rt c = true) (h4 : rt d = true) (h5 : rt e = true) : ∀ x ∈ [a, b, c, d, e], rt x = true := by
 intro x hx
 simp only [List.mem_cons, List.not_mem_nil, or_false] at hx
 rcases hx with rfl | rfl | rfl | rfl | rfl <;> assumption
theorem rts3 {a b c : I} (h1 : rt a = true) (h2 : rt b = true) (h3 : rt c = true) : ∀ x ∈ [a, b, c], rt x = true := by
 intro x hx
 simp only [List.mem_cons, List.not_mem_nil, or_false] at hx
 rcases hx with rfl | rfl | rfl <;> assumption
theorem rts2 {a b : I} (h1 : rt a = true) (h2 : rt b = true) : ∀ x ∈ [a, b], rt x = true := by
 intro x hx
 simp only [List.mem_cons, List.not_mem_nil, or_false] at hx
 rcases hx with rfl | rfl <;> assumption
theorem rts1 {a : I} (h1 : rt a = true) : ∀ x ∈ [a], rt x = true := by
 intro x hx
 rw [List.mem_singleton] at hx
 subst hx; exact h1
structure Wd (v : V3) : Prop where
 x : In1 v.x
 y : In1 v.y
 z : InB v.z bz1
theorem in1_rt {a : I} (h : In1 a) : rt a = true := decide_eq_true h.rt
theorem inb_rt1 {a b : I} (h : InB a b) : rt a = true := decide_eq_true h.2.2
theorem Wd.six {v u : V3} (hv : Wd v) (hu : Wd u) : ∀ x ∈ [u.z, u.y, u.x, v.z, v.y, v.x], rt x = true := rts6 (inb_rt1 hu.z) (in1_rt hu.y) (in1_rt hu.x) (inb_rt1 hv.z) (in1_rt hv.y) (in1_rt hv.x)
theorem Wd.dir {v : V3} (h : Wd v) : ObsOk (dirO v) :=
 ob_c (decide_eq_true h.z.2.1) (ob_c (decide_eq_true h.z.1) (ob_c (decide_eq_true h.y.hi) (ob_c (decide_eq_true h.y.lo) (ob_c (decide_eq_true h.x.hi) (ob_c (decide_eq_true h.x.lo) (ob_c (inb_rt1 h.z) (ob_c (in1_rt h.y) (ob_c (in1_rt h.x) ob_n))))))))
theorem f6 {v : List I} : Flags [false, false, false, false, false, false] v := no_fl _ rfl
theorem mi_c {v u : V3} (hv : Wd v) (hu : Wd u) : CondE miH [u.z, u.y, u.x, v.z, v.y, v.x] := chk_cond (s := [false, false, false, false, false, false]) (by decide +kernel) f6 (hv.six hu)
theorem dt_c {v u : V3} (hv : Wd v) (hu : Wd u) : CondE dtP [u.z, u.y, u.x, v.z, v.y, v.x] := chk_cond (s := [false, false, false, false, false, false]) (by decide +kernel) f6 (hv.six hu)
theorem lb_c {a : I} (h : rt a = true) : CondE lbV [a] := chk_cond (s := [false]) (by decide +kernel) (no_fl _ rfl) (rts1 h)
theorem gd_c {a b : I} (h : rt a = true) (k : rt b = true) : CondE ggD [a, b] := chk_cond (s := [false, false]) (by decide +kernel) (no_fl _ rfl) (rts2 h k)
theorem fc_c {a b c : I} (h : rt a = true) (k : rt b = true) (m : rt c = true) : CondE frC [a, b, c] := chk_cond (s := [false, false, false]) (by decide +kernel) (no_fl _ rfl) (rts3 h k m)
theorem mv_c {a b c d e : I} (h1 : rt a = true) (h2 : rt b = true) (h3 : rt c = true) (h4 : rt d = true) (h5 : rt e = true) : CondE miV [a, b, c, d, e] := chk_cond (s := [false, false, false, false, false]) (by decide +kernel) (no_fl _ rfl) (rts5 h1 h2 h3 h4 h5)
theorem less_nn {c sq o s : I} (hc : InB c bz1) (hs : Up sq.hi ((bareI c).hi.q * (bareI c).hi.q)) (ho : o = ⟨one64, one64⟩) (h : Dn s.lo (o.lo.q - sq.hi.q)) : 0 ≤ s.lo.q := by
 have b := bare_ends (a := c) (inb_rt1 hc)
 have c0 := q_le.2 hc.1; have c1 := q_le.2 hc.2.1
 have z : (bz1.lo : F).q = 0 := by rw [show bz1.lo = F.zero from F.ext' (by decide +kernel)]; exact q_zero
 have e1 : (bz1.hi : F).q = 1 := one_q
 rw [z] at c0
 rw [e1] at c1
 have hb : (bareI c).hi.q * (bareI c).hi.q ≤ 1 := by
  rcases b.2 with m | m
  ·have l := m.lo; have u := m.hi
   have := sq_bd (x := (bareI c).hi.q) (m := 1) (by grind) (by grind)
   grind
  ·have l := m.lo; have u := m.hi
   have := sq_bd (x := (bareI c).hi.q) (m := 1) (by grind) (by grind)
   grind
 have h1 := hs.bot one64 (by rw [one_q]; exact hb)
 rw [one_q] at h1
 subst ho
 refine dn_nn h ?_
 show 0 ≤ one64.q - sq.hi.q
 rw [one_q]; grind
theorem sq_nn1 {c sq : I} (h : Dn sq.lo ((bareI c).lo.q * (bareI c).lo.q)) : 0 ≤ sq.lo.q := dn_nn h (sq_nn _)
theorem fl_cons {b : Bool} {s : List Bool} {a : I} {v : List I} (h : b = true → 0 ≤ a.lo.q) (k : Flags s v) : Flags (b :: s) (a :: v) := fun i hi => by
 cases i with
 | zero => exact h hi
 | succ i => exact k i hi
theorem fl_nil {v : List I} : Flags [] v := fun i hi => by
 rw [List.getD_eq_getElem?_getD] at hi
 simp at hi
def flO : List Bu.Op → List Bool → List Bool
 | [], s => s
 | o :: l, s => flO l (nnS o s :: s)
theorem chk_then {l2 : List Bu.Op} : ∀ {l1 : List Bu.Op} {s : List Bool} {v : List I}, chk l1 s = true → Flags s v → (∀ a ∈ v, rt a = true) →
  (∀ rs : List I, rs.length = l1.length → Flags (flO l1 s) (rs ++ v) → (∀ a ∈ rs ++ v, rt a = true) → CondE l2 (rs ++ v)) → CondE (l1 ++ l2) v
 | [], s, v, _, hf, hv, h => h [] rfl hf hv
 | o :: l, s, v, hc, hf, hv, h => by
   obtain ⟨h1, h2⟩ := both hc
   have ok := (chk_cond (l := [o]) (s := s) (by unfold chk; rw [h1]; rfl) hf hv).1
   refine ⟨ok, fun r hr rr => ?_⟩
   refine chk_then h2 (fl_cons (fun hn => fact_nn hv hf hr hn) hf) (fun a ha => by
    rcases List.mem_cons.1 ha with rfl | ha
    ·exact rr
    ·exact hv a ha) fun rs hl hF hR => ?_
   have e : rs ++ r :: v = (rs ++ [r]) ++ v := by rw [List.append_assoc]; rfl
   have := h (rs ++ [r]) (by rw [List.length_append, hl]; rfl)
   rw [← e] at this
   exact this hF hR
theorem cons_rt {a : I} {v : List I} (h : rt a = true) (k : ∀ x ∈ v, rt x = true) : ∀ x ∈ a :: v, rt x = true := fun x hx => by
 rcases List.mem_cons.1 hx with rfl | hx
 ·exact h
 ·exact k x hx
theorem gg1_c {c al : I} (hc : InB c bz1) (ha : rt al = true) : CondE gg1 [c, al] := by
 refine ⟨trivial, fun a2 f1 r1 => ⟨trivial, fun o1 f2 r2 => ⟨trivial, fun sq f3 r3 => ⟨trivial, fun o2 f4 r4 => ⟨trivial, fun s1 f5 r5 => ?_⟩⟩⟩⟩⟩
 have n5 : 0 ≤ s1.lo.q := less_nn hc f3.2 f4 f5.1
 exact chk_cond (s := [true, false, true, false, true]) (by decide +kernel) (fl_cons (fun _ => n5) (fl_cons (fun h => by cases h) (fl_cons (fun _ => sq_nn1 f3.1) (fl_cons (fun h => by cases h) (fl_cons (fun _ => sq_nn1 f1.1) fl_nil)))))
  (cons_rt r5 (cons_rt r4 (cons_rt r3 (cons_rt r2 (cons_rt r1 (rts2 (inb_rt1 hc) ha))))))
theorem len_s {n : Nat} {l : List I} (h : l.length = n + 1) : ∃ p k, l = p :: k ∧ k.length = n := by
 cases l with
 | nil => cases h
 | cons p k => exact ⟨p, k, rfl, Nat.succ.inj h⟩
theorem len11 {l : List I} (h : l.length = 11) : ∃ p1 p2 p3 p4 p5 p6 p7 p8 p9 p10 p11, l = [p1, p2, p3, p4, p5, p6, p7, p8, p9, p10, p11] := by
 obtain ⟨p1, l1, e1, h1⟩ := len_s h
 obtain ⟨p2, l2, e2, h2⟩ := len_s h1
 obtain ⟨p3, l3, e3, h3⟩ := len_s h2
 obtain ⟨p4, l4, e4, h4⟩ := len_s h3
 obtain ⟨p5, l5, e5, h5⟩ := len_s h4
 obtain ⟨p6, l6, e6, h6⟩ := len_s h5
 obtain ⟨p7, l7, e7, h7⟩ := len_s h6
 obtain ⟨p8, l8, e8, h8⟩ := len_s h7
 obtain ⟨p9, l9, e9, h9⟩ := len_s h8
 obtain ⟨p10, l10, e10, h10⟩ := len_s h9
 obtain ⟨p11, l11, e11, h11⟩ := len_s h10
 have e := List.eq_nil_of_length_eq_zero h11
 refine ⟨p1, p2, p3, p4, p5, p6, p7, p8, p9, p10, p11, ?_⟩
 rw [e1, e2, e3, e4, e5, e6, e7, e8, e9, e10, e11, e]
theorem gg2_c {c d al : I} (hc : InB c bz1) (hd : InB d bz1) (ha : rt al = true) : CondE gg2 [d, c, al] := by
 refine ⟨trivial, fun a2 f1 r1 => ⟨trivial, fun o1 f2 r2 => ⟨trivial, fun sq f3 r3 => ⟨trivial, fun o2 f4 r4 => ⟨trivial, fun s1 f5 r5 => ?_⟩⟩⟩⟩⟩
 have n5 : 0 ≤ s1.lo.q := less_nn hc f3.2 f4 f5.1
 have hh : gg2.drop 5 = (gg2.drop 5).take 11 ++ (gg2.drop 5).drop 11 := (List.take_append_drop 11 (gg2.drop 5)).symm
 suffices k : CondE ((gg2.drop 5).take 11 ++ (gg2.drop 5).drop 11) [s1, o2, sq, o1, a2, d, c, al] by
  rw [← hh] at k; exact k
 refine chk_then (s := [true, false, true, false, true]) (by kernel_rfl) (fl_cons (fun _ => n5) (fl_cons (fun h => by cases h) (fl_cons (fun _ => sq_nn1 f3.1) (fl_cons (fun h => by cases h) (fl_cons (fun _ => sq_nn1 f1.1) fl_nil)))))
  (cons_rt r5 (cons_rt r4 (cons_rt r3 (cons_rt r2 (cons_rt r1 (rts3 (inb_rt1 hd) (inb_rt1 hc) ha)))))) fun rs hl hF hR => ?_
 have hl' : rs.length = 11 := hl.trans (by kernel_rfl)
 obtain ⟨p1, p2, p3, p4, p5, p6, p7, p8, p9, p10, p11, rfl⟩ := len11 hl'
 show CondE (gg2.drop 16) [p1, p2, p3, p4, p5, p6, p7, p8, p9, p10, p11, s1, o2, sq, o1, a2, d, c, al]
 refine ⟨trivial, fun sqd g1 q1 => ⟨trivial, fun o2d g2 q2 => ⟨trivial, fun s1d g3 q3 => ?_⟩⟩⟩
 have n3 : 0 ≤ s1d.lo.q := less_nn hd g1.2 g2 g3.1
 exact chk_cond (s := true :: false :: true :: flO ((gg2.drop 5).take 11) [true, false, true, false, true]) (by kernel_rfl) (fl_cons (fun _ => n3) (fl_cons (fun h => by cases h) (fl_cons (fun _ => sq_nn1 g1.1) hF)))
  (cons_rt q3 (cons_rt q2 (cons_rt q1 hR)))
end Go.Proofs.YthclipfgcgoofaaGreat
namespace Bu
open Rx Go
theorem ask_zz {e : Int} {g : Bool} {r : I × Int} (h : (askI e g r).2 ≠ 0) : (askI e g r).1 = I.zero := by
 unfold askI at h ⊢
 cases h1 : !(e == 0)
 ·rw [h1, cond_false] at h
  have he : e = 0 := by simpa using h1
  cases g
  ·rfl
  ·rw [cond_true] at h
   cases h2 : !(r.2 == 0)
   ·rw [h2, cond_false] at h
    exact absurd he h
   ·rfl
 ·rfl
def uQ1 (x : F) : I × Int := cSqr dMul 0 (pt x)
def uQ2 (x y : F) : I × Int := cSqr dMul (uQ1 x).2 (pt y)
def uS1 (x y : F) : I × Int := cAdd dAdd (uQ2 x y).2 (uQ1 x).1 (uQ2 x y).1
def uQ3 (x y z : F) : I × Int := cSqr dMul (uS1 x y).2 (pt z)
def uS2 (x y z : F) : I × Int := cAdd dAdd (uQ3 x y z).2 (uS1 x y).1 (uQ3 x y z).1
def uN (x y z : F) : I × Int := cSqrt qSqrt (uS2 x y z).2 (uS2 x y z).1
def uD1 (x y z : F) : I × Int := cDiv pDiv (uN x y z).2 (pt x) (uN x y z).1
def uD2 (x y z : F) : I × Int := cDiv pDiv (uD1 x y z).2 (pt y) (uN x y z).1
def uD3 (x y z : F) : I × Int := cDiv pDiv (uD2 x y z).2 (pt z) (uN x y z).1
theorem un_raw (x y z : F) : unV KkR x y z = ⟨withI (uD1 x y z).1, withI (uD2 x y z).1, withI (uD3 x y z).1⟩ := by
 have hE : unE KkR x y z = ([withI (uD3 x y z).1, (uD3 x y z).1, withI (uD2 x y z).1, (uD2 x y z).1, withI (uD1 x y z).1, (uD1 x y z).1, (uN x y z).1, (uS2 x y z).1, (uQ3 x y z).1, (uS1 x y).1, (uQ2 x y).1, (uQ1 x).1, pt z, pt y, pt x], (uD3 x y z).2) := by
  unfold unE unP
  refine (eval_cons (r := pt x) (e' := 0) ?_).trans ?_
  ·exact rfl
  refine (eval_cons (r := pt y) (e' := 0) ?_).trans ?_
  ·exact rfl
  refine (eval_cons (r := pt z) (e' := 0) ?_).trans ?_
  ·exact rfl
  refine (eval_cons (r := (uQ1 x).1) (e' := (uQ1 x).2) ?_).trans ?_
  ·exact rfl
  refine (eval_cons (r := (uQ2 x y).1) (e' := (uQ2 x y).2) ?_).trans ?_
  ·exact rfl
  refine (eval_cons (r := (uS1 x y).1) (e' := (uS1 x y).2) ?_).trans ?_
  ·exact rfl
  refine (eval_cons (r := (uQ3 x y z).1) (e' := (uQ3 x y z).2) ?_).trans ?_
  ·exact rfl
  refine (eval_cons (r := (uS2 x y z).1) (e' := (uS2 x y z).2) ?_).trans ?_
  ·exact rfl
  refine (eval_cons (r := (uN x y z).1) (e' := (uN x y z).2) ?_).trans ?_
  ·exact rfl
  refine (eval_cons (r := (uD1 x y z).1) (e' := (uD1 x y z).2) ?_).trans ?_
  ·exact rfl
  refine (eval_cons (r := withI (uD1 x y z).1) (e' := (uD1 x y z).2) ?_).trans ?_
  ·exact rfl
  refine (eval_cons (r := (uD2 x y z).1) (e' := (uD2 x y z).2) ?_).trans ?_
  ·exact rfl
  refine (eval_cons (r := withI (uD2 x y z).1) (e' := (uD2 x y z).2) ?_).trans ?_
  ·exact rfl
  refine (eval_cons (r := (uD3 x y z).1) (e' := (uD3 x y z).2) ?_).trans ?_
  ·exact rfl
  refine (eval_cons (r := withI (uD3 x y z).1) (e' := (uD3 x y z).2) ?_).trans ?_
  ·exact rfl
  rfl
 unfold unV; rw [hE]; rfl
theorem with_lo {a : I} (h : z64.k ≤ a.lo.k) : z64.k ≤ (withI a).lo.k := by
 unfold withI
 cases decide ((mnF a.hi one64).k < (mxF a.lo mone64).k)
 ·have := mxF_k a.lo mone64
  show z64.k ≤ (mxF a.lo mone64).k
  omega
 ·exact (by decide +kernel : z64.k ≤ I.zero.lo.k)
theorem z64_q : z64.q = 0 := by rw [show z64 = F.zero from F.ext' (by decide +kernel)]; exact q_zero
theorem un_in {x y z : F} (hz : z64.k < z.k) : In1 (unV KkR x y z).x ∧ In1 (unV KkR x y z).y ∧ InB (unV KkR x y z).z bz1 := by
 rw [un_raw]
 have h : z64.k ≤ (uD3 x y z).1.lo.k := by
  by_cases h : (uD3 x y z).2 = 0
  ·obtain ⟨h1, _, hr, hn, _, hA⟩ := div_0 (h : (cDiv pDiv (uD2 x y z).2 (pt z) (uN x y z).1).2 = 0)
   obtain ⟨h2, _⟩ := div_0 (h1 : (cDiv pDiv (uD1 x y z).2 (pt y) (uN x y z).1).2 = 0)
   obtain ⟨h3, _⟩ := div_0 (h2 : (cDiv pDiv (uN x y z).2 (pt x) (uN x y z).1).2 = 0)
   obtain ⟨_, _, _, _, d, u⟩ := sqrt_0 (h3 : (cSqrt qSqrt (uS2 x y z).2 (uS2 x y z).1).2 = 0)
   have d0 : 0 ≤ (uN x y z).1.lo.q := d.nn
   have np : 0 < (uN x y z).1.lo.q := by
    rcases no_zero hr hn with g | g
    ·exact g
    ·have := rt_le hr; grind
   have nh := rt_le hr
   have zq : 0 < z.q := by rw [← z64_q]; exact q_lt.2 hz
   have pos : ∀ {n : Rat}, 0 < n → 0 ≤ z.q / n := by
    intro n hn
    have e : z.q / n * n = z.q := Rat.div_mul_cancel (by grind)
    generalize z.q / n = m at *
    apply Rat.not_lt.1
    intro g
    have := Rat.mul_pos (show 0 < -m by grind) hn
    grind
   have a := pos np
   have b := pos (show 0 < (uN x y z).1.hi.q by grind)
   have a' : z64.q ≤ z.q / (uN x y z).1.lo.q := by rw [z64_q]; exact a
   have b' : z64.q ≤ z.q / (uN x y z).1.hi.q := by rw [z64_q]; exact b
   exact q_le.1 (hA.top (c := z64) a' b' a' b')
  ·have e : (uD3 x y z).1 = I.zero := by
    have h' : (cDiv pDiv (uD2 x y z).2 (pt z) (uN x y z).1).2 ≠ 0 := h
    show (cDiv pDiv (uD2 x y z).2 (pt z) (uN x y z).1).1 = I.zero
    unfold cDiv at h' ⊢
    exact ask_zz h'
   rw [e]; exact (by decide +kernel : z64.k ≤ I.zero.lo.k)
 have w := withI_in (uD3 x y z).1
 exact ⟨withI_in _, withI_in _, with_lo h, w.hi, w.rt⟩
end Bu
namespace Go.Proofs.YthclipfgcgoofaaGreat
open Go.RowKit Bu Rx
theorem zero_rt : rt I.zero = true := by decide
theorem num_re {e : Int} (he : Er e) (x : F) : RE (KkR.num e x) := by
 by_cases h : e = 0
 ·subst h
  exact ⟨.inl rfl, (decide_eq_true (Int.le_refl _) : rt (⟨x, x⟩ : I) = true)⟩
 ·have e1 : KkR.num e x = (I.zero, e) := ask_kept h _ _
  rw [e1]; exact ⟨he, zero_rt⟩
theorem add_re {e : Int} {a b : I} (he : Er e) (ha : rt a = true) (hb : rt b = true) : RE (KkR.add e a b) := by
 refine ⟨ask_er he (by rw [ha, hb]; rfl) (ends_er (dAdd_RD _ _).er (dAdd_RU _ _).er), ?_⟩
 by_cases h : (cAdd dAdd e a b).2 = 0
 ·obtain ⟨_, _, _, _, d, u⟩ := add_0 h
  have l1 := rt_le ha; have l2 := rt_le hb
  exact rt_q (a := (cAdd dAdd e a b).1) (by have := d.le; have := u.ge; grind)
 ·show rt (cAdd dAdd e a b).1 = true
  unfold cAdd at h ⊢
  rw [ask_zz h]; exact zero_rt
theorem sub_re {e : Int} {a b : I} (he : Er e) (ha : rt a = true) (hb : rt b = true) : RE (KkR.sub e a b) := by
 refine ⟨ask_er he (by rw [ha, hb]; rfl) (ends_er (dSub_RD _ _).er (dSub_RU _ _).er), ?_⟩
 by_cases h : (cSub dSub e a b).2 = 0
 ·obtain ⟨_, _, _, _, d, u⟩ := sub_0 h
  have l1 := rt_le ha; have l2 := rt_le hb
  exact rt_q (a := (cSub dSub e a b).1) (by have := d.le; have := u.ge; grind)
 ·show rt (cSub dSub e a b).1 = true
  unfold cSub at h ⊢
  rw [ask_zz h]; exact zero_rt
theorem mul_re {e : Int} {a b : I} (he : Er e) (ha : rt a = true) (hb : rt b = true) : RE (KkR.mul e a b) := by
 refine ⟨ask_er he (by rw [ha, hb]; rfl) (all_er (mul_four a b)), ?_⟩
 by_cases h : (cMul dMul e a b).2 = 0
 ·obtain ⟨_, _, _, _, A⟩ := mul_0 h
  exact AllR.rt A
 ·show rt (cMul dMul e a b).1 = true
  unfold cMul at h ⊢
  rw [ask_zz h]; exact zero_rt
theorem sqr_re {e : Int} {a : I} (he : Er e) (ha : rt a = true) : RE (KkR.sqr e a) := by
 refine ⟨ask_er he ha (ends_er (dMul_RD _ _).er (dMul_RU _ _).er), ?_⟩
 by_cases h : (cSqr dMul e a).2 = 0
 ·obtain ⟨_, _, _, d, u⟩ := sqr_0 h
  obtain ⟨b1, b2, _⟩ := bare_gen ha
  have m := Rat.mul_nonneg (show 0 ≤ (bareI a).hi.q - (bareI a).lo.q by grind) (show 0 ≤ (bareI a).hi.q + (bareI a).lo.q by grind)
  exact rt_q (a := (cSqr dMul e a).1) (by have := d.le; have := u.ge; grind)
 ·show rt (cSqr dMul e a).1 = true
  unfold cSqr at h ⊢
  rw [ask_zz h]; exact zero_rt
theorem mixK_re {e : Int} {w : F} {a b : I} (he : Er e) (ha : rt a = true) (hb : rt b = true) : RE (mixK KkR e w a b) := by
 unfold mixK
 have q1 := num_re he one_
 have q2 := num_re q1.er w
 have s := sub_re q2.er q1.rt q2.rt
 have m1 := mul_re s.er s.rt ha
 have q3 := num_re m1.er w
 have m2 := mul_re q3.er q3.rt hb
 exact add_re m2.er m1.rt m2.rt
structure Rc (c : Ch) : Prop where
 p : rt c.p = true
 m : rt c.m = true
structure REc (r : Ch × Int) : Prop where
 er : Er r.2
 rt : Rc r.1
theorem mixC_re {w : F} {a b : Ch} (ha : Rc a) (hb : Rc b) : REc (mixC KkR w a b) := by
 have p := mixK_re (w := w) (.inl rfl : Er 0) ha.p hb.p
 have m := mixK_re (w := w) p.er ha.m hb.m
 exact ⟨m.er, p.rt, m.rt⟩
theorem overC_re {i o : I} {w : F} {a : Ch} (hi : rt i = true) (ho : rt o = true) (ha : Rc a) : REc (overC KkR i o w a) := by
 unfold overC
 have q1 := num_re (.inl rfl : Er 0) one_
 have qw := num_re q1.er w
 have s := sub_re qw.er q1.rt ho
 have h := sub_re s.er q1.rt hi
 have x := mul_re h.er h.rt s.rt
 have y := mul_re x.er x.rt qw.rt
 have f := mul_re y.er y.rt ha.p
 have q := sqr_re f.er s.rt
 have t := mul_re q.er q.rt qw.rt
 have z := mul_re t.er t.rt ha.m
 have r := add_re z.er ho z.rt
 exact ⟨r.er, f.rt, r.rt⟩
theorem hull_rtB {a b : I} (ha : rt a = true) (hb : rt b = true) : rt (hullI a b) = true := by
 refine rt_q ?_
 have l1 := rt_le ha
 have h1 := (mnF_q a.lo b.lo).1
 have h2 := (mxF_q a.hi b.hi).1
 show (mnF a.lo b.lo).q ≤ (mxF a.hi b.hi).q
 grind
theorem hdC_er {r s i o d : I} (hr : rt r = true) (hs : rt s = true) (hi : rt i = true) (ho : rt o = true) (hd : rt d = true) (h1 : z64.k < (orQ KkR i o d).hi.k) (h2 : (orQ KkR i o d).lo.k < z64.k) : Er (hdC r s i o d).2 := by
 have p := mul_re (.inl rfl : Er 0) hi ho
 have q := sub_re p.er hd p.rt
 have e : hdC r s i o d = evalK KkR ((orC.take 8).drop 2) [(KkR.sub (KkR.mul 0 i o).2 d (KkR.mul 0 i o).1).1, (KkR.mul 0 i o).1, d, o, i, s, r] (KkR.sub (KkR.mul 0 i o).2 d (KkR.mul 0 i o).1).2 := by
  unfold hdC
  refine (eval_cons (r := (KkR.mul 0 i o).1) (e' := (KkR.mul 0 i o).2) ?_).trans ?_
  ·exact rfl
  refine (eval_cons (r := (KkR.sub (KkR.mul 0 i o).2 d (KkR.mul 0 i o).1).1) (e' := (KkR.sub (KkR.mul 0 i o).2 d (KkR.mul 0 i o).1).2) ?_).trans ?_
  ·exact rfl
  rfl
 rw [e]
 have h1' : z64.k < (KkR.sub (KkR.mul 0 i o).2 d (KkR.mul 0 i o).1).1.hi.k := h1
 have h2' : (KkR.sub (KkR.mul 0 i o).2 d (KkR.mul 0 i o).1).1.lo.k < z64.k := h2
 have prt := p.rt
 clear e h1 h2 p
 generalize KkR.sub (KkR.mul 0 i o).2 d (KkR.mul 0 i o).1 = Q at *
 generalize (KkR.mul 0 i o).1 = P at *
 by_cases g : Q.2 = 0
 ·rw [g]
  refine eval_er (cons_rt q.rt (cons_rt prt (rts5 hd ho hi hs hr))) ⟨?_, fun hp f1 r1 => ⟨trivial, fun mx f2 r2 => ⟨trivial, fun up f3 r3 => ⟨?_, fun hn f4 r4 => ⟨?_, fun hu f5 r5 => ⟨trivial, fun _ _ _ => trivial⟩⟩⟩⟩⟩⟩
  ·exact decide_eq_true (Int.le_of_lt h1')
  ·exact decide_eq_true (Int.le_of_lt h2')
  ·exact hull_rtB r4 r3
 ·rw [eval_kept g]; exact q.er
theorem orA_c : chk (orA.take 3) [false, false, false, false, false] = true := by decide +kernel
theorem orB_c : chk (orB.take 5) [false, false, false, false, false] = true := by decide +kernel
theorem orR_re {r s i o d : I} (hr : Uz1 r) (hs : Uz1 s) (hi : rt i = true) (ho : rt o = true) (hd : rt d = true) : RE (orR KkR r s i o d) := by
 have v5 := rts5 hd ho hi hs.rt hr.rt
 have he : Er (hdS r s i o d).2 := by
  unfold hdS
  cases c1 : decide ((orQ KkR i o d).hi.k ≤ z64.k)
  ·rw [cond_false]
   cases c2 : decide (z64.k ≤ (orQ KkR i o d).lo.k)
   ·have h1 := of_decide_eq_false c1
    have h2 := of_decide_eq_false c2
    exact hdC_er hr.rt hs.rt hi ho hd (by omega) (by omega)
   ·exact eval_er' orB_c (no_fl _ rfl) v5
  ·exact eval_er' orA_c (no_fl _ rfl) v5
 by_cases h : (orR KkR r s i o d).2 = 0
 ·obtain ⟨sl, h1, h2⟩ := or_to hr hs h
  rw [h2]
  exact ⟨.inl rfl, (orV_in hr hs (sl_b h1)).rt⟩
 ·rw [or_val hr hs] at h ⊢
  cases c : neB (hdS r s i o d).2
  ·rw [c] at h; exact absurd rfl h
  ·exact ⟨he, zero_rt⟩
theorem glM_re {g : Gl4 × Int} {r : I × Int} (hg : Er g.2) (hv : g.2 = 0 → rt g.1.v = true) (hr : g.2 = 0 → RE r) : RE (glM KkR g r) := by
 unfold glM
 cases c1 : neB g.2
 ·have g0 := neB_0 c1
  have hr := hr g0
  rw [cond_false]
  cases c2 : neB r.2
  ·rw [cond_false]
   have m := mul_re (.inl rfl : Er 0) (hv g0) hr.rt
   cases c3 : neB (KkR.mul 0 g.1.v r.1).2
   ·exact ⟨.inl rfl, m.rt⟩
   ·exact ⟨m.er, zero_rt⟩
  ·exact ⟨hr.er, zero_rt⟩
 ·exact ⟨hg, zero_rt⟩
theorem bz_hf {v u : V3} (hv : Wd v) (hu : Wd u) (h : (Bu.miK KkR v u).2 = 0) : InB (gt (Bu.miK KkR v u).1 3) bz1 := by
 obtain ⟨_, b⟩ := hl_in h
 have b3 : rt (gt (Bu.miK KkR v u).1 3) = true := b _ (List.mem_cons_of_mem _ (List.mem_cons_of_mem _ (List.mem_cons_self ..)))
 have b2 := of_decide_eq_true (b _ (List.mem_cons_of_mem _ (List.mem_cons_self ..)))
 have b1 := of_decide_eq_true (b _ (List.mem_cons_self ..))
 exact ⟨b2, b1, of_decide_eq_true b3⟩
theorem ggR_re {p : List Bu.Op} {c al : I} (hv : ∀ x ∈ [c, al], rt x = true) (hc : CondE p [c, al]) : RE (ggR KkR p c al) := line_re hv hc 0
structure GlP (v u : V3) (al : I) : Prop where
 er : Er (glR KkR GlR v u al).2
 vv : (glR KkR GlR v u al).2 = 0 → rt (glR KkR GlR v u al).1.v = true
 dd : (glR KkR GlR v u al).2 = 0 → rt (glR KkR GlR v u al).1.d = true
 hh : (glR KkR GlR v u al).2 = 0 → InB (glR KkR GlR v u al).1.hf bz1
theorem gl_re {v u : V3} {al : I} (hv : Wd v) (hu : Wd u) (ha : rt al = true) : GlP v u al := by
 have H : Er (Bu.miK KkR v u).2 := eval_er (hv.six hu) (mi_c hv hu)
 have L := line_re (hv.six hu) (mi_c hv hu) 0
 have D : RE (ggR KkR ggD (glH GlR v u).1 al) := ggR_re (rts2 L.rt ha) (gd_c L.rt ha)
 have G : RE (lnR (g2K KkR v.z u.z al) 0) := line_re (rts3 (inb_rt1 hu.z) (inb_rt1 hv.z) ha) (gg2_c hv.z hu.z ha) 0
 have O : RE (ggR KkR gg1 u.z al) := ggR_re (rts2 (inb_rt1 hu.z) ha) (gg1_c hu.z ha)
 have hv5 : ∀ x ∈ [(GlR.o u.z al).1, (GlR.b v.z u.z al).1, (GlR.d (glH GlR v u).1 al).1, u.z, v.z], rt x = true := rts5 O.rt G.rt D.rt (inb_rt1 hu.z) (inb_rt1 hv.z)
 have c5 := mv_c O.rt G.rt D.rt (inb_rt1 hu.z) (inb_rt1 hv.z)
 have M : Er (glE KkR GlR v u al).2 := eval_er hv5 c5
 have he : Er (glErr KkR GlR v u al) := by
  unfold glErr
  cases neB (GlR.H v u).2
  ·rw [cond_false]
   cases neB (GlR.d (glH GlR v u).1 al).2
   ·rw [cond_false]
    cases neB (GlR.b v.z u.z al).2
    ·rw [cond_false]
     cases neB (GlR.o u.z al).2
     ·exact M
     ·exact O.er
    ·exact G.er
   ·exact D.er
  ·exact H
 have hz : glErr KkR GlR v u al = 0 → (Bu.miK KkR v u).2 = 0 ∧ (glE KkR GlR v u al).2 = 0 := by
  intro h
  unfold glErr at h
  cases c1 : neB (GlR.H v u).2
  ·rw [c1, cond_false] at h
   cases c2 : neB (GlR.d (glH GlR v u).1 al).2
   ·rw [c2, cond_false] at h
    cases c3 : neB (GlR.b v.z u.z al).2
    ·rw [c3, cond_false] at h
     cases c4 : neB (GlR.o u.z al).2
     ·rw [c4, cond_false] at h
      exact ⟨neB_0 c1, h⟩
     ·rw [c4, cond_true] at h; rw [h] at c4; cases c4
    ·rw [c3, cond_true] at h; rw [h] at c3; cases c3
   ·rw [c2, cond_true] at h; rw [h] at c2; cases c2
  ·rw [c1, cond_true] at h; rw [h] at c1; cases c1
 cases c : neB (glErr KkR GlR v u al)
 ·obtain ⟨z1, z2⟩ := hz (neB_0 c)
  have R := fun i => line_rt hv5 c5 z2 i
  have e1 : glR KkR GlR v u al = (glV KkR GlR v u al, 0) := by unfold glR; rw [c]; rfl
  refine ⟨by rw [e1]; exact .inl rfl, fun _ => by rw [e1]; exact R 3, fun _ => by rw [e1]; exact R 0, fun _ => ?_⟩
  rw [e1]
  show InB (lnR (Bu.miK KkR v u) 3).1 bz1
  rw [lnR_0 z1]
  exact bz_hf hv hu z1
 ·have e1 : glR KkR GlR v u al = (Gl4.zero, glErr KkR GlR v u al) := by unfold glR; rw [c]; rfl
  have hn : glErr KkR GlR v u al ≠ 0 := fun h => by rw [h] at c; cases c
  exact ⟨by rw [e1]; exact he, fun h => by rw [e1] at h; exact absurd h hn, fun h => by rw [e1] at h; exact absurd h hn, fun h => by rw [e1] at h; exact absurd h hn⟩
theorem val_re {l : Lf} (hl : LfO l) (hv : Wd l.v) (hu : Wd l.u) : RE (vlG GmR KkR l) := by
 obtain ⟨k, f, c, v, u⟩ := l
 have r := hl.r; have n := hl.n
 simp only at r n hv hu
 rcases rt_kind r with e | e | e | e <;> subst e
 ·rw [val1_eq]
  unfold meL
  rw [gm_lb]
  exact line_re (rts1 (pF_rt _)) (lb_c (pF_rt _)) 0
 ·rw [val2_eq]
  obtain ⟨a, b⟩ := rt2_in r n
  by_cases h : (dtK KkR v u).2 = 0
  ·rw [meO_eq h]
   exact orR_re (uz_of a) (uz_of b) (inb_rt1 hv.z) (inb_rt1 hu.z) (line_rt (hv.six hu) (dt_c hv hu) h 0)
  ·have he : Er (dtK KkR v u).2 := eval_er (hv.six hu) (dt_c hv hu)
   have e1 : meO KkR GmR f c.toNat v u = (I.zero, (dtK KkR v u).2) := by
    unfold meO
    rw [show neB (dtK KkR v u).2 = true by unfold neB; simpa using h]; rfl
   rw [e1]; exact ⟨he, zero_rt⟩
 ·rw [val3_eq]
  obtain ⟨a, b⟩ := rt3_in r
  have G := gl_re hv hu (pF_rt (f 13))
  unfold meP
  rw [gm_gl, gm_dl]
  refine glM_re G.er G.vv fun g0 => ?_
  obtain ⟨x, hx, ux⟩ := fd_all (G.hh g0) (bn_of b)
  have k : RE (lnR (fdK KkR (glR KkR GlR v u (pF (f 13))).1.hf (pF (f 14))) 0) := by rw [hx]; exact ⟨.inl rfl, ux.rt⟩
  exact k
 ·rw [val4_eq]
  have G := gl_re hv hu (pF_rt (f 13))
  unfold meM
  rw [gm_gl, gm_cd]
  refine glM_re G.er G.vv fun g0 => ?_
  have hh := inb_rt1 (G.hh g0)
  exact line_re (rts3 hh (pF_rt _) (pF_rt _)) (fc_c hh (pF_rt _) (pF_rt _)) 0
theorem one_wd {v : V3} (h : OneP v) : Wd v := ⟨h.x, h.y, q_le.1 (by
 have e : (bz1.lo : F).q = 0 := by rw [show bz1.lo = F.zero from F.ext' (by decide +kernel)]; exact q_zero
 have := h.up
 rw [e]; grind), h.z.hi, h.z.rt⟩
theorem fst3_er {a b c : Int} (ha : Er a) (hb : Er b) (hc : Er c) : Er (fst3 a b c) := by
 unfold fst3
 cases decide (a = 0)
 ·exact ha
 ·cases decide (b = 0)
  ·exact hb
  ·exact hc
theorem leafW {n : Nd} {p : Int} (h : okNd n p = true) (h5 : n.k ≠ 5) (h6 : n.k ≠ 6) {v u : V3} (hv : Wd v) (hu : Wd u) {c : Int} (c0 : 0 ≤ c) (c3 : c < 3) : LfO ⟨n.k, etaF n.f, c, v, u⟩ := ⟨nd_leaf h h5 h6, hv.dir, hu.dir, c0, c3⟩
theorem evPs_w {cs : List SV} {len : Nat} (K : OkPg cs len) {v u : V3} (hv : Wd v) (hu : Wd u) : evPs NeR v u cs len = true :=
 List.all_eq_true.2 fun i hi => by
  have hnd := K.nd i (List.mem_range.1 hi)
  unfold evPB
  generalize ndR cs (i * 19) = n at hnd
  by_cases h5 : n.k = 5
  ·rw [decide_eq_true h5, cond_true]
  ·rw [decide_eq_false h5, cond_false]
   by_cases h6 : n.k = 6
   ·rw [decide_eq_true h6, cond_true, Bool.and_eq_true]
    exact ⟨obsB_of (fd_o hv.z (okNd_coatf hnd h6).1), obsB_of (fd_o hu.z (okNd_coatf hnd h6).1)⟩
   ·rw [decide_eq_false h6, cond_false]
    obtain ⟨a0, b0⟩ := okNd_leaf hnd h5 h6
    have q : ∀ k : Nat, k < 3 → Bu.obsB (lfOb NeR v u n k) = true := fun k hk => obsB_of (ob_c (decide_eq_true a0) (ob_c (decide_eq_true b0) (leafW hnd h5 h6 hv hu (c := (k : Int)) (by omega) (by omega)).val))
    rw [q 0 (by omega), q 1 (by omega), q 2 (by omega)]; rfl
theorem evN_re {v u : V3} (hv : Wd v) (hu : Wd u) {n : Nd} {p : Int} (hnd : okNd n p = true) {k : Nat} (hk : k < 3) {l : Nat → Ch} (ha : n.k = 5 ∨ n.k = 6 → Rc (l n.a.toNat)) (hb : n.k = 5 → Rc (l n.b.toNat)) : REc (evN NeR v u k l n) := by
 unfold evN
 by_cases h5 : n.k = 5
 ·rw [decide_eq_true h5, cond_true]
  exact mixC_re (ha (.inl h5)) (hb h5)
 ·rw [decide_eq_false h5, cond_false]
  by_cases h6 : n.k = 6
  ·rw [decide_eq_true h6, cond_true]
   obtain ⟨x, hx, ux⟩ := fd_all hv.z (bn_of (okNd_coatf hnd h6).1)
   obtain ⟨y, hy, uy⟩ := fd_all hu.z (bn_of (okNd_coatf hnd h6).1)
   have e1 : NeR.D v.z ⟨n.f 14, n.f 14⟩ = (x, 0) := hx
   have e2 : NeR.D u.z ⟨n.f 14, n.f 14⟩ = (y, 0) := hy
   rw [e1, e2]
   exact overC_re ux.rt uy.rt (ha (.inr h6))
  ·rw [decide_eq_false h6, cond_false]
   have r := val_re (leafW hnd h5 h6 hv hu (c := (k : Int)) (by omega) (by omega)) hv hu
   exact ⟨r.er, r.rt, zero_rt⟩
theorem evr_re {v u : V3} (hv : Wd v) (hu : Wd u) {n : Nd} {p : Int} (hnd : okNd n p = true) {l : Nat → Nat → Ch} (ha : n.k = 5 ∨ n.k = 6 → ∀ k, k < 3 → Rc (l k n.a.toNat)) (hb : n.k = 5 → ∀ k, k < 3 → Rc (l k n.b.toNat)) : Er (evEr NeR v u l n) := by
 have X := fun k (hk : k < 3) => evN_re hv hu hnd hk (l := l k) (fun h => ha h k hk) (fun h => hb h k hk)
 have F := fst3_er (X 0 (by omega)).er (X 1 (by omega)).er (X 2 (by omega)).er
 unfold evEr
 by_cases h6 : n.k = 6
 ·rw [decide_eq_true h6, cond_true]
  obtain ⟨x, hx, _⟩ := fd_all hv.z (bn_of (okNd_coatf hnd h6).1)
  obtain ⟨y, hy, _⟩ := fd_all hu.z (bn_of (okNd_coatf hnd h6).1)
  have e1 : (NeR.D v.z ⟨n.f 14, n.f 14⟩).2 = 0 := congrArg Prod.snd hx
  have e2 : (NeR.D u.z ⟨n.f 14, n.f 14⟩).2 = 0 := congrArg Prod.snd hy
  rw [decide_eq_true e1, cond_true, decide_eq_true e2, cond_true]
  exact F
 ·rw [decide_eq_false h6, cond_false]; exact F
theorem ev_re {v u : V3} (hv : Wd v) (hu : Wd u) {cs : List SV} {len : Nat} (K : OkPg cs len) : ∀ i, i < len → Er (evF NeR v u cs i) ∧ ∀ k, k < 3 → Rc (ltF NeR v u cs k i) := by
 intro i
 induction i using Nat.strongRecOn with
 | _ i ih =>
   intro hi
   have hnd := K.nd i hi
   have g : ∀ {k : Nat} {a : Int}, 0 ≤ a → a < i → evL NeR v u cs i k a.toNat = ltF NeR v u cs k a.toNat := fun _ _ => chL_get _ (by omega)
   have M : ∀ {a : Int}, 0 ≤ a → a < i → ∀ k, k < 3 → Rc (evL NeR v u cs i k a.toNat) := fun a0 a1 k hk => by
    rw [g a0 a1]
    exact (ih _ (by omega) (by omega)).2 k hk
   have ha : (ndR cs (i * 19)).k = 5 ∨ (ndR cs (i * 19)).k = 6 → ∀ k, k < 3 → Rc (evL NeR v u cs i k (ndR cs (i * 19)).a.toNat) := fun h56 => M (h56.elim (fun h5 => (okNd_mix hnd h5).1.1) fun h6 => (okNd_coat hnd h6).1) (h56.elim (fun h5 => (okNd_mix hnd h5).1.2) fun h6 => (okNd_coat hnd h6).2)
   have hb : (ndR cs (i * 19)).k = 5 → ∀ k, k < 3 → Rc (evL NeR v u cs i k (ndR cs (i * 19)).b.toNat) := fun h5 => M (okNd_mix hnd h5).2.1 (okNd_mix hnd h5).2.2
   exact ⟨evr_re hv hu hnd ha hb, fun k hk => (evN_re hv hu hnd hk (fun h => ha h k hk) (fun h => hb h k hk)).rt⟩
theorem evE_er {v u : V3} (hv : Wd v) (hu : Wd u) {cs : List SV} {len : Nat} (K : OkPg cs len) : ∀ j, j ≤ len → Er (evE NeR v u cs j)
 | 0, _ => .inl rfl
 | j + 1, h => by
   have e : evE NeR v u cs (j + 1) = bif decide (evE NeR v u cs j = 0) then evF NeR v u cs j else evE NeR v u cs j := rfl
   rw [e]
   cases decide (evE NeR v u cs j = 0)
   ·exact evE_er hv hu K j (by omega)
   ·exact (ev_re hv hu K j (by omega)).1
theorem evEr_of {N : Nde} {v u : V3} {l : Nat → Nat → Ch} {n : Nd} (h : evNB N v u l n = true) : evEr N v u l n = 0 := by
 unfold evNB at h
 rw [Bool.and_eq_true] at h
 obtain ⟨h1, h2⟩ := h
 rw [Bool.and_eq_true, Bool.and_eq_true] at h2
 have F : fst3 (evN N v u 0 (l 0) n).2 (evN N v u 1 (l 1) n).2 (evN N v u 2 (l 2) n).2 = 0 := by
  rw [of_decide_eq_true h2.1, of_decide_eq_true h2.2.1, of_decide_eq_true h2.2.2]; rfl
 unfold evEr
 by_cases h6 : n.k = 6
 ·rw [decide_eq_true h6, cond_true]
  rw [decide_eq_false (show ¬ n.k = 5 by omega), cond_false, decide_eq_true h6, cond_true, Bool.and_eq_true, Bool.and_eq_true, Bool.and_eq_true] at h1
  have d1 := of_decide_eq_true h1.1.2
  have d2 := of_decide_eq_true h1.2.2
  rw [decide_eq_true d1, cond_true, decide_eq_true d2, cond_true]
  exact F
 ·rw [decide_eq_false h6, cond_false]; exact F
theorem evE_one {v u : V3} (hv : OneP v) (hu : OneP u) {cs : List SV} {len : Nat} (K : OkPg cs len) (hlen : len ≤ 20) : evE NeR v u cs len = 0 :=
 evE_z fun i hi => evEr_of (evB_at (evs_all hv hu K hlen) hi)
end Go.Proofs.YthclipfgcgoofaaGreat
