/- Which errors programs' values may end with. Which errors programs' chances may end with; .. -/
import Derived.Test.YthclipfgcgoofaaGreatS16
import Derived.Test.YthclipfgcgoofaaGreatS10
import Derived.Test.YthclipfgcgoofaaGreatS06
import Derived.Test.YthclipfgcgoofaaGreatS13
set_option linter.all false
namespace Go.Proofs.YthclipfgcgoofaaGreat
open Go.RowKit Bu Rx
theorem fst3_er {a b c:Int} (ha:Er a) (hb:Er b) (hc:Er c):Er (fst3 a b c) := by
 unfold fst3
 cases decide (a = 0)
 ·exact ha
 ·cases decide (b = 0)
  ·exact hb
  ·exact hc
theorem leafW {n:Nd} {p:Int} (h:okNd n p = true) (h5:n.k ≠ 5) (h6:n.k ≠ 6) {v u:V3} (hv:Wd v) (hu:Wd u) {c:Int} (c0:0 ≤ c) (c3:c < 3):LfO ⟨n.k,etaF n.f,c,v,u⟩ := ⟨nd_leaf h h5 h6,hv.dir,hu.dir,c0,c3⟩
theorem evPs_w {cs:List SV} {len:Nat} (K:OkPg cs len) {v u:V3} (hv:Wd v) (hu:Wd u):evPs NeR v u cs len = true :=
 List.all_eq_true.2 fun i hi => by
  have hnd := K.nd i (List.mem_range.1 hi)
  unfold evPB
  generalize ndR cs (i * 19) = n at hnd
  by_cases h5:n.k = 5
  ·rw [decide_eq_true h5,cond_true]
  ·rw [decide_eq_false h5,cond_false]
   by_cases h6:n.k = 6
   ·rw [decide_eq_true h6,cond_true,Bool.and_eq_true]
    exact ⟨obsB_of (fd_o hv.z (okNd_coatf hnd h6).1),obsB_of (fd_o hu.z (okNd_coatf hnd h6).1)⟩
   ·rw [decide_eq_false h6,cond_false]
    obtain ⟨a0,b0⟩ := okNd_leaf hnd h5 h6
    have q:∀ k:Nat,k < 3 → Bu.obsB (lfOb NeR v u n k) = true := fun k hk => obsB_of (ob_c (decide_eq_true a0) (ob_c (decide_eq_true b0) (leafW hnd h5 h6 hv hu (c := (k:Int)) (by omega) (by omega)).val))
    rw [q 0 (by omega),q 1 (by omega),q 2 (by omega)]; rfl
theorem evN_re {v u:V3} (hv:Wd v) (hu:Wd u) {n:Nd} {p:Int} (hnd:okNd n p = true) {k:Nat} (hk:k < 3) {l:Nat → Ch} (ha:n.k = 5 ∨ n.k = 6 → Rc (l n.a.toNat)) (hb:n.k = 5 → Rc (l n.b.toNat)):REc (evN NeR v u k l n) := by
 unfold evN
 by_cases h5:n.k = 5
 ·rw [decide_eq_true h5,cond_true]
  exact mixC_re (ha (.inl h5)) (hb h5)
 ·rw [decide_eq_false h5,cond_false]
  by_cases h6:n.k = 6
  ·rw [decide_eq_true h6,cond_true]
   obtain ⟨x,hx,ux⟩ := fd_all hv.z (bn_of (okNd_coatf hnd h6).1)
   obtain ⟨y,hy,uy⟩ := fd_all hu.z (bn_of (okNd_coatf hnd h6).1)
   have e1:NeR.D v.z ⟨n.f 14,n.f 14⟩ = (x,0) := hx
   have e2:NeR.D u.z ⟨n.f 14,n.f 14⟩ = (y,0) := hy
   rw [e1,e2]
   exact overC_re ux.rt uy.rt (ha (.inr h6))
  ·rw [decide_eq_false h6,cond_false]
   have r := val_re (leafW hnd h5 h6 hv hu (c := (k:Int)) (by omega) (by omega)) hv hu
   exact ⟨r.er,r.rt,zero_rt⟩
theorem evr_re {v u:V3} (hv:Wd v) (hu:Wd u) {n:Nd} {p:Int} (hnd:okNd n p = true) {l:Nat → Nat → Ch} (ha:n.k = 5 ∨ n.k = 6 → ∀ k,k < 3 → Rc (l k n.a.toNat)) (hb:n.k = 5 → ∀ k,k < 3 → Rc (l k n.b.toNat)):Er (evEr NeR v u l n) := by
 have X := fun k (hk:k < 3) => evN_re hv hu hnd hk (l := l k) (fun h => ha h k hk) (fun h => hb h k hk)
 have F := fst3_er (X 0 (by omega)).er (X 1 (by omega)).er (X 2 (by omega)).er
 unfold evEr
 by_cases h6:n.k = 6
 ·rw [decide_eq_true h6,cond_true]
  obtain ⟨x,hx,_⟩ := fd_all hv.z (bn_of (okNd_coatf hnd h6).1)
  obtain ⟨y,hy,_⟩ := fd_all hu.z (bn_of (okNd_coatf hnd h6).1)
  have e1:(NeR.D v.z ⟨n.f 14,n.f 14⟩).2 = 0 := congrArg Prod.snd hx
  have e2:(NeR.D u.z ⟨n.f 14,n.f 14⟩).2 = 0 := congrArg Prod.snd hy
  rw [decide_eq_true e1,cond_true,decide_eq_true e2,cond_true]
  exact F
 ·rw [decide_eq_false h6,cond_false]; exact F
theorem ev_re {v u:V3} (hv:Wd v) (hu:Wd u) {cs:List SV} {len:Nat} (K:OkPg cs len):∀ i,i < len → Er (evF NeR v u cs i) ∧ ∀ k,k < 3 → Rc (ltF NeR v u cs k i) := by
 intro i
 induction i using Nat.strongRecOn with
 | _ i ih =>
   intro hi
   have hnd := K.nd i hi
   have g:∀ {k:Nat} {a:Int},0 ≤ a → a < i → evL NeR v u cs i k a.toNat = ltF NeR v u cs k a.toNat := fun _ _ => chL_get _ (by omega)
   have M:∀ {a:Int},0 ≤ a → a < i → ∀ k,k < 3 → Rc (evL NeR v u cs i k a.toNat) := fun a0 a1 k hk => by
    rw [g a0 a1]
    exact (ih _ (by omega) (by omega)).2 k hk
   have ha:(ndR cs (i * 19)).k = 5 ∨ (ndR cs (i * 19)).k = 6 → ∀ k,k < 3 → Rc (evL NeR v u cs i k (ndR cs (i * 19)).a.toNat) := fun h56 => M (h56.elim (fun h5 => (okNd_mix hnd h5).1.1) fun h6 => (okNd_coat hnd h6).1) (h56.elim (fun h5 => (okNd_mix hnd h5).1.2) fun h6 => (okNd_coat hnd h6).2)
   have hb:(ndR cs (i * 19)).k = 5 → ∀ k,k < 3 → Rc (evL NeR v u cs i k (ndR cs (i * 19)).b.toNat) := fun h5 => M (okNd_mix hnd h5).2.1 (okNd_mix hnd h5).2.2
   exact ⟨evr_re hv hu hnd ha hb,fun k hk => (evN_re hv hu hnd hk (fun h => ha h k hk) (fun h => hb h k hk)).rt⟩
theorem evE_er {v u:V3} (hv:Wd v) (hu:Wd u) {cs:List SV} {len:Nat} (K:OkPg cs len):∀ j,j ≤ len → Er (evE NeR v u cs j)
 | 0,_ => .inl rfl
 | j + 1, h => by
   have e:evE NeR v u cs (j + 1) = bif decide (evE NeR v u cs j = 0) then evF NeR v u cs j else evE NeR v u cs j := rfl
   rw [e]
   cases decide (evE NeR v u cs j = 0)
   ·exact evE_er hv hu K j (by omega)
   ·exact (ev_re hv hu K j (by omega)).1
theorem coatC_re {o:I} {a:Ch} (ho:rt o = true) (ha:Rc a):REc (coatC KkR o a) := by
 unfold coatC lessK
 have q := num_re (.inl rfl:Er 0) one_
 have s := sub_re q.er q.rt ho
 have x := mul_re s.er s.rt ha.p
 have y := mul_re x.er s.rt ha.m
 have z := add_re y.er ho y.rt
 exact ⟨z.er,x.rt,z.rt⟩
theorem daPs_w {cs:List SV} {len:Nat} (K:OkPg cs len) {v u:V3} (hv:Wd v) (hu:Wd u):daPs NdR u.z (lfRo dnO4 v u) cs len = true :=
 List.all_eq_true.2 fun i hi => by
  have hnd := K.nd i (List.mem_range.1 hi)
  unfold nodP
  generalize ndR cs (i * 19) = n at hnd
  by_cases h5:n.k = 5
  ·rw [decide_eq_true h5,cond_true]
  ·rw [decide_eq_false h5,cond_false]
   by_cases h6:n.k = 6
   ·rw [decide_eq_true h6,cond_true]
    exact obsB_of (fd_o hu.z (okNd_coatf hnd h6).1)
   ·rw [decide_eq_false h6,cond_false]
    obtain ⟨a0,b0⟩ := okNd_leaf hnd h5 h6
    exact obsB_of (ob_c (decide_eq_true a0) (ob_c (decide_eq_true b0) (leafW hnd h5 h6 hv hu (Int.le_refl _) (by decide)).den))
theorem nodC_re {v u:V3} (hv:Wd v) (hu:Wd u) {n:Nd} {p:Int} (hnd:okNd n p = true) {l:Nat → Ch} (ha:n.k = 5 ∨ n.k = 6 → Rc (l n.a.toNat)) (hb:n.k = 5 → Rc (l n.b.toNat)):REc (nodC NdR u.z (lfR (dnG4 GmR) v u) l n) := by
 unfold nodC
 by_cases h5:n.k = 5
 ·rw [decide_eq_true h5,cond_true]
  exact mixC_re (ha (.inl h5)) (hb h5)
 ·rw [decide_eq_false h5,cond_false]
  by_cases h6:n.k = 6
  ·rw [decide_eq_true h6,cond_true]
   obtain ⟨y,hy,uy⟩ := fd_all hu.z (bn_of (okNd_coatf hnd h6).1)
   have e2:NdR.D u.z ⟨n.f 14,n.f 14⟩ = (y,0) := hy
   rw [e2]
   exact coatC_re uy.rt (ha (.inr h6))
  ·rw [decide_eq_false h6,cond_false]
   have r := den_re (leafW hnd h5 h6 hv hu (Int.le_refl _) (by decide)) hv hu
   exact ⟨r.er,r.rt,(by decide:rt Ch.zero.m = true)⟩
theorem da_re {v u:V3} (hv:Wd v) (hu:Wd u) {cs:List SV} {len:Nat} (K:OkPg cs len):∀ i,i < len → Er (daF NdR u.z (lfR (dnG4 GmR) v u) cs i) ∧ Rc (chF (allF NdR u.z (lfR (dnG4 GmR) v u) cs) i) := by
 intro i
 induction i using Nat.strongRecOn with
 | _ i ih =>
   intro hi
   have hnd := K.nd i hi
   have g:∀ {a:Int},0 ≤ a → a < i → daL NdR u.z (lfR (dnG4 GmR) v u) cs i a.toNat = chF (allF NdR u.z (lfR (dnG4 GmR) v u) cs) a.toNat := fun _ _ => chL_get _ (by omega)
   have M:∀ {a:Int},0 ≤ a → a < i → Rc (daL NdR u.z (lfR (dnG4 GmR) v u) cs i a.toNat) := fun a0 a1 => by
    rw [g a0 a1]
    exact (ih _ (by omega) (by omega)).2
   have R := nodC_re hv hu hnd (l := daL NdR u.z (lfR (dnG4 GmR) v u) cs i) (fun h56 => M (h56.elim (fun h5 => (okNd_mix hnd h5).1.1) fun h6 => (okNd_coat hnd h6).1) (h56.elim (fun h5 => (okNd_mix hnd h5).1.2) fun h6 => (okNd_coat hnd h6).2)) (fun h5 => M (okNd_mix hnd h5).2.1 (okNd_mix hnd h5).2.2)
   refine ⟨?_,R.rt⟩
   unfold daF nodE
   by_cases h6:(ndR cs (i * 19)).k = 6
   ·rw [decide_eq_true h6,cond_true]
    obtain ⟨y,hy,_⟩ := fd_all hu.z (bn_of (okNd_coatf hnd h6).1)
    have e2:(NdR.D u.z ⟨(ndR cs (i * 19)).f 14,(ndR cs (i * 19)).f 14⟩).2 = 0 := congrArg Prod.snd hy
    rw [decide_eq_true e2,cond_true]
    exact R.er
   ·rw [decide_eq_false h6,cond_false]
    exact R.er
theorem daE_er {v u:V3} (hv:Wd v) (hu:Wd u) {cs:List SV} {len:Nat} (K:OkPg cs len):∀ j,j ≤ len → Er (daE NdR u.z (lfR (dnG4 GmR) v u) cs j)
 | 0,_ => .inl rfl
 | j + 1, h => by
   have e:daE NdR u.z (lfR (dnG4 GmR) v u) cs (j + 1) = bif decide (daE NdR u.z (lfR (dnG4 GmR) v u) cs j = 0) then daF NdR u.z (lfR (dnG4 GmR) v u) cs j else daE NdR u.z (lfR (dnG4 GmR) v u) cs j := rfl
   rw [e]
   cases decide (daE NdR u.z (lfR (dnG4 GmR) v u) cs j = 0)
   ·exact daE_er hv hu K j (by omega)
   ·exact (da_re hv hu K j (by omega)).1
theorem div_re {e:Int} {a b:I} (he:Er e) (ha:rt a = true) (hb:rt b = true):RE (KkR.div e a b) := by
 by_cases e0:e = 0
 ·subst e0
  have h := line_re (l := [.div 1 0]) (v := [b,a]) (rts2 hb ha) ⟨trivial,fun _ _ _ => trivial⟩ 0
  have er:Er (evalK KkR [.div 1 0] [b,a] 0).2 := eval_er (rts2 hb ha) ⟨trivial,fun _ _ _ => trivial⟩
  have ev:evalK KkR [.div 1 0] [b,a] 0 = ([(KkR.div 0 a b).1,b,a],(KkR.div 0 a b).2) := rfl
  refine ⟨by rw [ev] at er; exact er,?_⟩
  by_cases g:(cDiv pDiv 0 a b).2 = 0
  ·exact AllR.rt (div_0 g).2.2.2.2.2
  ·show rt (cDiv pDiv 0 a b).1 = true
   unfold cDiv at g ⊢
   rw [ask_zz g]; exact zero_rt
 ·have e1:KkR.div e a b = (I.zero,e) := ask_kept e0 _ _
  rw [e1]; exact ⟨he,zero_rt⟩
theorem wgOkF_er {cs:List SV} {len:Nat} (K:OkPg cs len) {x y z a b c:F} (hx:unB x y z = true) (hz:z64.k < z.k) (ha:unB a b c = true) (hc:z64.k < c.k) (m:Bool) :
  Er (wgOkF WgN cs len x y z a b c m).e ∧ ((wgOkF WgN cs len x y z a b c m).e ≠ 0 → wgOkF WgN cs len x y z a b c m = wgZr (wgOkF WgN cs len x y z a b c m).e) ∧ ObsOk (wgOf WgN cs len x y z a b c) ∨ cs.length ≠ len * 19 ∨ okPg cs len = false := by
 by_cases hl:cs.length = len * 19
 ·cases hok:okPg cs len
  ·exact .inr (.inr rfl)
  left
  have wv:Wd (unV KkR a b c) := ⟨(un_in hc).1,(un_in hc).2.1,(un_in hc).2.2⟩
  have wu:Wd (unV KkR x y z) := ⟨(un_in hz).1,(un_in hz).2.1,(un_in hz).2.2⟩
  have e1:Er (wgEe WgN cs len x y z a b c) := evE_er wv wu K len (Nat.le_refl _)
  have e2:Er (wgDe WgN cs len x y z a b c) := daE_er wv wu K len (Nat.le_refl _)
  have hlo := K.lo
  have rl:∀ j,j < 3 → Rc (wgL WgN cs len x y z a b c j) := fun j hj => by
   show Rc (eeC NeR (unV KkR a b c) (unV KkR x y z) cs len j)
   unfold eeC
   cases decide (evE NeR (unV KkR a b c) (unV KkR x y z) cs len = 0)
   ·exact ⟨(by decide +kernel:rt zCh.p = true),(by decide +kernel:rt zCh.m = true)⟩
   ·exact (ev_re wv wu K (len - 1) (by omega)).2 j hj
  have rx:Rc (wgC WgN cs len x y z a b c) := by
   show Rc (daC NdR (unV KkR x y z).z (lfR (dnG4 GmR) (unV KkR a b c) (unV KkR x y z)) cs len)
   unfold daC
   cases decide (daE NdR (unV KkR x y z).z (lfR (dnG4 GmR) (unV KkR a b c) (unV KkR x y z)) cs len = 0)
   ·exact ⟨(by decide +kernel:rt zCh.p = true),(by decide +kernel:rt zCh.m = true)⟩
   ·exact (da_re wv wu K (len - 1) (by omega)).2
  have iz:rt (wgV WgN a b c).z = true := by
   show rt (bif unB a b c then unV KkR a b c else V3.zero).z = true
   rw [ha]; exact inb_rt1 wv.z
  have ct:∀ j,j < 3 → Er (wgK WgN cs len x y z a b c m j).2 := fun j hj => by
   have r := rl j hj
   unfold wgK
   cases m
   ·have p := mul_re (.inl rfl:Er 0) r.p iz
    exact (div_re p.er p.rt rx.p).er
   ·exact (div_re (.inl rfl:Er 0) r.m rx.m).er
  have zr:∀ e:Int,(wgZr e).e = e := fun _ => rfl
  refine ⟨?_,?_,?_⟩
  ·unfold wgOkF wgCo
   cases decide (wgEe WgN cs len x y z a b c = 0)
   ·exact e1
   ·cases decide (wgDe WgN cs len x y z a b c = 0)
    ·exact e2
    ·cases decide ((wgK WgN cs len x y z a b c m 0).2 = 0)
     ·exact ct 0 (by omega)
     ·cases decide ((wgK WgN cs len x y z a b c m 1).2 = 0)
      ·exact ct 1 (by omega)
      ·cases decide ((wgK WgN cs len x y z a b c m 2).2 = 0)
       ·exact ct 2 (by omega)
       ·exact .inl rfl
  ·unfold wgOkF wgCo
   cases decide (wgEe WgN cs len x y z a b c = 0)
   ·exact fun _ => rfl
   ·cases decide (wgDe WgN cs len x y z a b c = 0)
    ·exact fun _ => rfl
    ·cases decide ((wgK WgN cs len x y z a b c m 0).2 = 0)
     ·exact fun _ => rfl
     ·cases decide ((wgK WgN cs len x y z a b c m 1).2 = 0)
      ·exact fun _ => rfl
      ·cases decide ((wgK WgN cs len x y z a b c m 2).2 = 0)
       ·exact fun _ => rfl
       ·exact fun h => absurd rfl h
  ·have oz:ObsOk (zzO WgN.ub a b c x y z) := ob_c (decide_eq_false (Int.not_le.2 hz)) (ob_c (decide_eq_false (Int.not_le.2 hc)) (ob_c hx (ob_c ha ob_n)))
   have oE:ObsOk (eeO WgN.E WgN.un WgN.ub cs len a b c x y z) := ob_a (ob_c (decide_eq_true hl) (ob_c hok (ob_c (evPs_w K wv wu) (ob_a wu.dir wv.dir)))) (ob_a oz (ob_c hok ob_n))
   have oD:ObsOk (deO WgN.D WgN.un WgN.ub cs len a b c x y z) := ob_a (ob_c (decide_eq_true hl) (ob_c hok (ob_c (daPs_w K wv wu) (ob_a wu.dir wv.dir)))) (ob_a oz (ob_c hok ob_n))
   unfold wgOf
   refine ob_a oE ?_
   cases decide (wgEe WgN cs len x y z a b c = 0)
   ·exact ob_n
   ·exact oD
 ·exact .inr (.inl hl)
end Go.Proofs.YthclipfgcgoofaaGreat
namespace Bu
open Ieee
theorem div_near {x y:F} (hx:0 < x.k) (hy:0 < y.k) (h:x.z ≤ y.z) {r m n A B more:Nat} (hr:nv r = S) (hT:r < T) (hmm:man x.k.natAbs = m) (hnn:man y.k.natAbs = n) (hpa:pl x.k.natAbs = A) (hpb:pl y.k.natAbs = B) (hmo:52 + 2 + n.log2 - m.log2 = more) :
  ∃ t:F,double.div x.b y.b = some t.b ∧ t.k = ((near ((2 * (m * 2 ^ more / n) + (m * 2 ^ more % n != 0).toNat) * 2 ^ (-1074 + (A:Int) - (-1074 + (B:Int)) - (more:Int) - 1 + 1074).toNat) (2 ^ (-(-1074 + (A:Int) - (-1074 + (B:Int)) - (more:Int) - 1 + 1074)).toNat):Nat):Int) := by
 have m1:man x.k.natAbs ≠ 0 := fun h => by have := man_zero _ h; omega
 have m2:man y.k.natAbs ≠ 0 := fun h => by have := man_zero _ h; omega
 have hz:man x.k.natAbs * 2 ^ pl x.k.natAbs ≤ man y.k.natAbs * 2 ^ pl y.k.natAbs := by
  have a := z_natAbs x
  have b := z_natAbs y
  have s1 := (z_sign x); have s2 := (z_sign y)
  omega
 unfold Format.div
 rw [read_F,read_F]
 simp only [Datum.quotient,if_neg m2,Option.map_some,Format.write]
 rw [decide_eq_false (show ¬ x.k < 0 by omega),decide_eq_false (show ¬ y.k < 0 by omega)]
 rw [hmm] at m1 hz ⊢
 rw [hnn] at m2 hz ⊢
 rw [hpa] at hz ⊢
 rw [hpb] at hz ⊢
 have hfb:double.fractionBits = 52 := rfl
 rw [hfb,hmo,Nat.shiftLeft_eq]
 have l1 := Nat.log2_self_le m1
 have l2:n < 2 ^ (n.log2 + 1) := Nat.lt_log2_self
 have hAB:A + m.log2 < n.log2 + 1 + B := by
  have h1:2 ^ (A + m.log2) ≤ m * 2 ^ A := by rw [Nat.pow_add,Nat.mul_comm]; exact Nat.mul_le_mul_right _ l1
  have h2:n * 2 ^ B < 2 ^ (n.log2 + 1 + B) := by rw [Nat.pow_add]; exact Nat.mul_lt_mul_of_pos_right l2 (Nat.two_pow_pos B)
  exact (Nat.pow_lt_pow_iff_right (by omega)).1 (Nat.lt_of_le_of_lt h1 (Nat.lt_of_le_of_lt hz h2))
 have hA:A ≤ B + more := by omega
 have hq := quot_le m2 hz hA
 have hne:2 * (m * 2 ^ more / n) + (m * 2 ^ more % n != 0).toNat ≠ 0 := by
  intro h0
  have hd := Nat.div_add_mod (m * 2 ^ more) n
  have h1:m * 2 ^ more / n = 0 := by omega
  have h2:(m * 2 ^ more % n != 0).toNat = 0 := by omega
  have h3:m * 2 ^ more % n = 0 := by
   by_cases c:m * 2 ^ more % n = 0
   ·exact c
   ·simp [c] at h2
  rw [h1,h3] at hd
  have := Nat.mul_pos (Nat.pos_of_ne_zero m1) (Nat.two_pow_pos more)
  omega
 rw [nearest_eq _ _ _ hne]
 generalize 2 * (m * 2 ^ more / n) + (m * 2 ^ more % n != 0).toNat = mag at *
 have hn:near (mag * 2 ^ (-1074 + (A:Int) - (-1074 + (B:Int)) - (more:Int) - 1 + 1074).toNat) (2 ^ (-(-1074 + (A:Int) - (-1074 + (B:Int)) - (more:Int) - 1 + 1074)).toNat) ≤ r := by
  refine near_le (Nat.two_pow_pos _) ?_
  obtain ⟨sx,hs1,hs2⟩ := S_pow
  rw [hr,hs2,← Nat.pow_add]
  refine Nat.le_trans (Nat.mul_le_mul_right _ hq) ?_
  rw [← Nat.pow_add]
  exact Nat.pow_le_pow_right (by omega) (by omega)
 rw [Nat.min_eq_left (by omega),word_F _ _ (by omega) (by simp)]
 refine ⟨_,rfl,?_⟩
 rw [if_neg (by decide),F.of_k (by omega)]
theorem mag_le {M n R:Nat} (hn:n ≠ 0) (h:M ≤ R * n):2 * (M / n) + (M % n != 0).toNat ≤ 2 * R := by
 have hd := Nat.div_add_mod M n
 have hr := Nat.mod_lt M (Nat.pos_of_ne_zero hn)
 have hQ:M / n ≤ R := by
  have := Nat.div_le_div_right (c := n) h
  rwa [Nat.mul_div_cancel _ (Nat.pos_of_ne_zero hn)] at this
 by_cases hR:M % n = 0
 ·rw [hR]; simp; omega
 ·have hs:(M % n != 0).toNat = 1 := by simp [hR]
  rw [hs]
  have:M / n ≠ R := by
   intro e
   rw [e,Nat.mul_comm] at hd
   omega
  omega
theorem mag_ge {M n R:Nat} (hn:n ≠ 0) (h:R * n ≤ M):2 * R ≤ 2 * (M / n) + (M % n != 0).toNat := by
 have:R ≤ M / n := (Nat.le_div_iff_mul_le (Nat.pos_of_ne_zero hn)).2 h
 omega
end Bu
namespace Bu
open Rx Go Ieee
def kL:F := toF 4602678819171598336
def kH:F := toF 4602678819173171200
def kO:F := toF 4607182418800541696
def kD:F := toF 13677432068324196352
def kE:F := toF 4454060031469420544
theorem kc:decide (nv kL.k.natAbs * 17179869184 = 8589934591 * S) = true ∧ decide (nv kH.k.natAbs * 17179869184 = 8589934593 * S) = true ∧ 0 < kL.k ∧ 0 < kH.k ∧ decide (man cN32.k.natAbs = 4294967295 * 2097152) = true ∧ decide (pl cN32.k.natAbs = 1053) = true ∧ decide (Nat.log2 (4294967295 * 2097152) = 52) = true := by decide +kernel
theorem ac_4 (m0 U V:Nat):m0 * (U * V * 2) * 18014398509481984 = m0 * 36028797018963968 * U * V := by
 have e:36028797018963968 = 2 * 18014398509481984 := rfl
 rw [e]
 generalize 18014398509481984 = c
 simp only [Nat.mul_assoc,Nat.mul_comm,Nat.mul_left_comm]
theorem fin_l {a:Nat} {k:Int} (h:0 < k) (h2:a ≤ k.natAbs):(a:Int) ≤ k := by omega
theorem fin_h {a:Nat} {k:Int} (h:0 < k) (h2:k.natAbs ≤ a):k ≤ (a:Int) := by omega
theorem frT_half {n:Int} (h:wN32 n = true):(frT n).k ≤ kL.k ∨ kH.k ≤ (frT n).k := by
 have hn := of_decide_eq_true h
 obtain ⟨m0,rfl⟩ := Int.eq_ofNat_of_zero_le hn.1
 by_cases hm:m0 = 0
 ·subst hm; left; exact (by decide +kernel:(frT 0).k ≤ kL.k)
 ·have hP:P = 4503599627370496 := rfl
  have hz := nat_z (m := m0) (by omega)
  have hS := S_pos
  have hk:0 < (F.dy m0 0).k := by
   have h2:0 < (F.dy m0 0).z := by rw [hz]; exact Int.mul_pos (by omega) (by omega)
   have a := z_sign (F.dy m0 0)
   have b := z_zero (F.dy m0 0)
   omega
  have hle:(F.dy m0 0).z ≤ cN32.z := by rw [hz,cN32_z.1]; exact Int.mul_le_mul_of_nonneg_right (by omega) (by omega)
  have hzm := z_natAbs (F.dy m0 0)
  have hza:(F.dy m0 0).z.natAbs = m0 * S := by rw [hz,Int.natAbs_mul]; rfl
  rw [hza] at hzm
  obtain ⟨q1,q2⟩ := man_pl (F.dy m0 0).k.natAbs
  obtain ⟨s,hs,eS⟩ := S_pow
  generalize hmm:man (F.dy m0 0).k.natAbs = m at hzm q1 q2
  generalize hpa:pl (F.dy m0 0).k.natAbs = A at hzm q1
  rw [eS] at hzm
  have hPp:4503599627370496 = 2 ^ 52 := rfl
  have mP:P ≤ m := by
   rcases q1 with q | q
   ·rw [q,Nat.pow_zero,Nat.mul_one] at hzm
    have h1:2 ^ 54 ≤ 2 ^ s := Nat.pow_le_pow_right (by omega) (by omega)
    have h2:2 ^ s ≤ m0 * 2 ^ s := Nat.le_mul_of_pos_left _ (by omega)
    omega
   ·exact q
  have hlog:m.log2 = 52 := (Nat.log2_eq_iff (by omega)).2 ⟨by omega,by omega⟩
  have hA1:1022 ≤ A := by
   have h1:2 ^ s ≤ m * 2 ^ A := by rw [← hzm]; exact Nat.le_mul_of_pos_left _ (by omega)
   have h2:m * 2 ^ A < 2 ^ (53 + A) := by rw [Nat.pow_add]; exact Nat.mul_lt_mul_of_pos_right (by omega) (Nat.two_pow_pos A)
   have := (Nat.pow_lt_pow_iff_right (a := 2) (by omega)).1 (Nat.lt_of_le_of_lt h1 h2)
   omega
  have hA2:A ≤ 1053 := by
   have h1:2 ^ (52 + A) ≤ m * 2 ^ A := by rw [Nat.pow_add]; exact Nat.mul_le_mul_right _ (by omega)
   have h2:m0 * 2 ^ s < 2 ^ (32 + s) := by rw [Nat.pow_add]; exact Nat.mul_lt_mul_of_pos_right (by omega) (Nat.two_pow_pos s)
   have := (Nat.pow_lt_pow_iff_right (a := 2) (by omega)).1 (Nat.lt_of_le_of_lt h1 (hzm ▸ h2))
   omega
  obtain ⟨t,e,ht⟩ := div_near hk cN32_z.2 hle one64_nv (by rw [T_num]; omega) hmm (of_decide_eq_true kc.2.2.2.2.1) hpa (of_decide_eq_true kc.2.2.2.2.2.1) (more := 54) (by rw [of_decide_eq_true kc.2.2.2.2.2.2,hlog])
  have eT:frT (m0:Nat) = t := by
   unfold frT fdv
   rw [near_int (by omega),toF_F,e]
   exact (so_ok (s := some t.b) rfl).2
  rw [eT,ht]
  have e1:(-1074 + (A:Int) - (-1074 + ((1053:Nat):Int)) - ((54:Nat):Int) - 1 + 1074).toNat = A - 34 := by omega
  have e2:(-(-1074 + (A:Int) - (-1074 + ((1053:Nat):Int)) - ((54:Nat):Int) - 1 + 1074)).toNat = 0 := by omega
  rw [e1,e2,Nat.pow_zero]
  -- the numbers by the half
  have hv:∀ {c:F} {a:Nat},nv c.k.natAbs * 17179869184 = a * S → nv c.k.natAbs = 2 * (a * 2 ^ (1073 - A)) * 2 ^ (A - 34) := fun {c a} hc => by
   rw [eS] at hc
   have h1:(2:Nat) ^ s = 2 ^ (1 + (1073 - A) + (A - 34)) * 2 ^ 34 := by rw [← Nat.pow_add]; congr 1; omega
   rw [h1,Nat.pow_add,Nat.pow_add] at hc
   have h34:(2:Nat) ^ 34 = 17179869184 := rfl
   rw [h34,← Nat.mul_assoc] at hc
   have := Nat.eq_of_mul_eq_mul_right (by omega) hc
   rw [this]
   generalize 2 ^ (1073 - A) = U
   generalize 2 ^ (A - 34) = V
   rw [Nat.pow_one]
   simp only [Nat.mul_assoc,Nat.mul_left_comm]
  have hn0:4294967295 * 2097152 ≠ 0 := by omega
  have hsp:(2:Nat) ^ s = 2 ^ (1073 - A) * 2 ^ A * 2 := by rw [← Nat.pow_add,← Nat.pow_succ]; congr 1; omega
  have h54:(2:Nat) ^ 54 = 18014398509481984 := rfl
  -- m * 2^54 against R * n,times 2^A
  have hM:m * 2 ^ 54 * 2 ^ A = m0 * 36028797018963968 * 2 ^ (1073 - A) * 2 ^ A := by
   have:m * 2 ^ 54 * 2 ^ A = m * 2 ^ A * 2 ^ 54 := Nat.mul_right_comm _ _ _
   rw [this,← hzm,hsp,h54]
   exact ac_4 m0 _ _
  have hM':m * 2 ^ 54 = m0 * 36028797018963968 * 2 ^ (1073 - A) := Nat.eq_of_mul_eq_mul_right (Nat.two_pow_pos A) hM
  rw [hM']
  have hU := Nat.two_pow_pos (1073 - A)
  rcases Nat.lt_or_ge m0 2147483648 with g | g
  ·left
   have h1:m0 * 36028797018963968 * 2 ^ (1073 - A) ≤ 8589934591 * 2 ^ (1073 - A) * (4294967295 * 2097152) := by
    rw [Nat.mul_right_comm 8589934591]
    exact Nat.mul_le_mul_right _ (by omega)
   have h2 := Nat.mul_le_mul_right (2 ^ (A - 34)) (mag_le hn0 h1)
   have h3 := near_le (r := kL.k.natAbs) (d := 1) (by decide) (n := _) (by rw [Nat.mul_one,hv (of_decide_eq_true kc.1)]; exact h2)
   exact fin_l kc.2.2.1 h3
  ·right
   have h1:8589934593 * 2 ^ (1073 - A) * (4294967295 * 2097152) ≤ m0 * 36028797018963968 * 2 ^ (1073 - A) := by
    rw [Nat.mul_right_comm 8589934593]
    exact Nat.mul_le_mul_right _ (by omega)
   have h2 := Nat.mul_le_mul_right (2 ^ (A - 34)) (mag_ge hn0 h1)
   have h3 := le_near (r := kH.k.natAbs) (d := 1) (by decide) (n := _) (by rw [Nat.mul_one,hv (of_decide_eq_true kc.2.1)]; exact h2)
   exact fin_h kc.2.2.2.1 h3
theorem mul_ge1 {x y c:F} (hx:0 < x.k) (hy:0 < y.k) (h:y.k ≤ one64.k) (hc:0 ≤ c.k) (hv:c.z * (S:Int) ≤ x.z * y.z):∃ t:F,fmu x y = some t.b ∧ c.k ≤ t.k ∧ t.k ≤ x.k := by
 have hz:y.z ≤ (S:Int) := by
  have h1 := q_le.2 h
  rw [one_q] at h1
  have h2 := F.q_mul y
  have h3:(y.z:Rat) ≤ ((S:Int):Rat) := by
   rw [← h2]
   have := Rat.mul_nonneg (show 0 ≤ 1 - y.q by grind) (Rat.le_of_lt S_gt)
   rw [Rat.intCast_natCast]
   generalize (S:Rat) = s at *
   grind
  exact Rat.intCast_le_intCast.1 h3
 have e := mul_F x y (by omega) (by omega)
 rw [decide_eq_false (show ¬ x.k < 0 by omega),decide_eq_false (show ¬ y.k < 0 by omega)] at e
 have hT := x.hk
 have b := z_sign x; have c' := z_sign y
 have hn:near (x.z.natAbs * y.z.natAbs) S ≤ x.k.natAbs := by
  refine near_le S_pos ?_
  have a := nvk (c := x) (by omega)
  have:x.z.natAbs = nv x.k.natAbs := by omega
  rw [this]
  exact Nat.mul_le_mul_left _ (by omega)
 have hm:c.k.natAbs ≤ near (x.z.natAbs * y.z.natAbs) S := by
  refine le_near S_pos ?_
  have a := nvk (c := c) hc
  have h1:((nv c.k.natAbs * S:Nat):Int) ≤ ((x.z.natAbs * y.z.natAbs:Nat):Int) := by
   rw [Int.natCast_mul,Int.natCast_mul,a]
   have e1:(x.z.natAbs:Int) = x.z := by omega
   have e2:(y.z.natAbs:Int) = y.z := by omega
   rw [e1,e2]; exact hv
  exact Int.ofNat_le.1 h1
 rw [Nat.min_eq_left (by omega),show (false ^^ false) = false from rfl,word_F _ _ (by omega) (by simp),if_neg (by decide)] at e
 exact ⟨_,e,by rw [F.of_k (by omega)]; omega,by rw [F.of_k (by omega)]; omega⟩
theorem kc2:decide (kO.z = 2 * kH.z) = true ∧ decide (sf (fsu one64 mone64) = two64) = true ∧ 0 ≤ kO.k ∧ 0 < two64.k ∧ mone64.k ≠ 0 ∧ one64.k ≠ 0 ∧ kD.k < 0 ∧ 0 < kE.k := by decide +kernel
theorem kq:kL.q * 17179869184 = 8589934591 ∧ kO.q * 8589934592 = 8589934593 ∧ kD.q * 17179869184 = -1 ∧ kE.q * 17179869184 = 1 :=
 ⟨q_of' (n := 8589934591) (s := 34) (by decide +kernel) rfl,q_of' (n := 8589934593) (s := 33) (by decide +kernel) rfl,q_of' (n := -1) (s := 34) (by decide +kernel) rfl,q_of' (n := 1) (s := 34) (by decide +kernel) rfl⟩
theorem bwX_far {n:Int} (h:wN32 n = true):(bwX mone64 one64 n).k ≤ kD.k ∨ kE.k ≤ (bwX mone64 one64 n).k := by
 obtain ⟨t,e1,t0,t1,hr⟩ := frT_ok h
 have eT:frT n = t := (so_ok e1).2
 have hh := frT_half h
 rw [eT] at hh
 obtain ⟨_,c2,c3,c4,_,_,c7,c8⟩ := kc2
 have c2 := of_decide_eq_true c2
 obtain ⟨q1,q2,q3,q4⟩ := kq
 obtain ⟨g,hg⟩ := big_ex
 have eX:∀ {p:F},fmu two64 t = some p.b → bwX mone64 one64 n = sf (fad mone64 p) := fun {p} hp => by
  unfold bwX bwP
  rw [eT,c2,(so_ok hp).2]
 have t0q:0 ≤ t.q := by rw [← q_zero]; exact q_le.2 t0
 have t1q := q_le.2 t1
 rw [one_q] at t1q
 have m1:mone64.q = -1 := mone_q
 rcases hh with g1 | g1
 ·have hq := q_le.2 g1
  obtain ⟨p,hp,hpq⟩ := twice_ok (x := t) t0 (by grind)
  obtain ⟨D,e3,hD⟩ := add_nr (x := mone64) (y := p) (g := g) (by grind) (by grind)
  rw [eX hp,(so_ok (show fad mone64 p = some D.b from e3)).2]
  exact .inl (q_le.1 (hD.up kD (by grind)))
 ·have hk:0 < kH.k := kc.2.2.2.1
  have hz:kO.z * (S:Int) ≤ two64.z * t.z := by
   have h1:kH.z ≤ t.z := nvZ_le_iff.2 g1
   have h2 := of_decide_eq_true kc2.1
   have h3 := of_decide_eq_true two_z
   rw [h2,h3]
   have hS:(0:Int) ≤ (S:Int) := Int.natCast_nonneg S
   have h4 := Int.mul_le_mul_of_nonneg_left h1 (Int.mul_nonneg (show (0:Int) ≤ 2 by decide) hS)
   have e1:2 * kH.z * (S:Int) = 2 * (S:Int) * kH.z := by rw [Int.mul_assoc,Int.mul_assoc,Int.mul_comm kH.z]
   rw [e1]; exact h4
  obtain ⟨p,hp,p1,p2⟩ := mul_ge1 c4 (Int.lt_of_lt_of_le hk g1) t1 c3 hz
  have pq := q_le.2 p1
  have pq2 := q_le.2 p2
  have tq:two64.q = 2 := q_int (x := two64) (n := 2) (by decide +kernel)
  rw [tq] at pq2
  obtain ⟨D,e3,hD⟩ := add_nr (x := mone64) (y := p) (g := g) (by grind) (by grind)
  rw [eX hp,(so_ok (show fad mone64 p = some D.b from e3)).2]
  exact .inr (q_le.1 (hD.dn kE (by grind)))
theorem bwX_ne {n:Int} (h:wN32 n = true):(bwX mone64 one64 n).k ≠ 0 := by
 obtain ⟨_,_,_,_,_,_,c7,c8⟩ := kc2
 have := bwX_far h
 omega
theorem bw_ne {n:Int} (h:wN32 n = true):(bwF mone64 one64 n).k ≠ 0 := by
 have hx := bwX_ne h
 obtain ⟨_,_,_,_,c5,c6,_⟩ := kc2
 unfold bwF
 cases decide ((bwX mone64 one64 n).k < mone64.k)
 ·cases decide (one64.k < (bwX mone64 one64 n).k)
  ·exact hx
  ·exact c6
 ·exact c5
end Bu
namespace Go.Proofs.YthclipfgcgoofaaGreat
open Go.RowKit Bu Rx
end Go.Proofs.YthclipfgcgoofaaGreat
namespace Bu
open Rx Go
end Bu
namespace Go.Proofs.YthclipfgcgoofaaGreat
open Go.RowKit Bu Rx
def K7.al:K7 → Bool → Bool
 | .f,r => !r
 | .m,_ => true
 | .d,_ => true
 | _,r => r
def WwOk (W:Nww) (pc:List SV) (n:Nat) (q:W9) (X Y Z:F):Prop := ∃ (k:K7) (r:Bool),k.al r = true ∧ ObsOk (wwOb W pc n q X Y Z k r)
theorem ww_run {W:Nww} (hO:OracleOk Tryz.prog (OWx W)) {pc:List SV} {n:Nat} {q:W9} {X Y Z:F} {x:Nat → SV} {B:Bs} (K:WwOk W pc n q X Y Z) :
  RunsB Tryz.prog B (post 2 wwC) (wwS pc n q X Y Z x none) .ret (fun t => resultS Tryz.prog Tryz.f7 t = some (.b true)) := by
 have fin:∀ {k:K7} {r:Bool},Lands Tryz.prog EG (OWx W) 60 (post 2 wwC) (wwS pc n q X Y Z x (some (wwDs k r))) .ret → (wwRn W pc n q X Y Z x k r).ob = wwOb W pc n q X Y Z k r → resultS Tryz.prog Tryz.f7 (wwRn W pc n q X Y Z x k r) = some (.b true) → ObsOk (wwOb W pc n q X Y Z k r) → RunsB Tryz.prog B (post 2 wwC) (wwS pc n q X Y Z x none) .ret (fun t => resultS Tryz.prog Tryz.f7 t = some (.b true)) := fun {k r} hL hb hv ho =>
  RunsB.re (d := some (wwDs k r)) (o := []) (RunsP.bs (Lands.all goodG hO hL (hb ▸ ho) hv))
 obtain ⟨k,r,ha,ho⟩ := K
 cases k
 ·cases r
  ·exact fin (wwL_f_f W pc n q X Y Z x) (wwO_f_f W pc n q X Y Z x) (wwV_f_f W pc n q X Y Z x) ho
  ·exact absurd ha Bool.false_ne_true
 ·cases r
  ·exact fin (wwL_m_f W pc n q X Y Z x) (wwO_m_f W pc n q X Y Z x) (wwV_m_f W pc n q X Y Z x) ho
  ·exact fin (wwL_m_t W pc n q X Y Z x) (wwO_m_t W pc n q X Y Z x) (wwV_m_t W pc n q X Y Z x) ho
 ·cases r
  ·exact absurd ha Bool.false_ne_true
  ·exact fin (wwL_n_t W pc n q X Y Z x) (wwO_n_t W pc n q X Y Z x) (wwV_n_t W pc n q X Y Z x) ho
 ·cases r
  ·exact fin (wwL_d_f W pc n q X Y Z x) (wwO_d_f W pc n q X Y Z x) (wwV_d_f W pc n q X Y Z x) ho
  ·exact fin (wwL_d_t W pc n q X Y Z x) (wwO_d_t W pc n q X Y Z x) (wwV_d_t W pc n q X Y Z x) ho
 ·cases r
  ·exact absurd ha Bool.false_ne_true
  ·exact fin (wwL_u_t W pc n q X Y Z x) (wwO_u_t W pc n q X Y Z x) (wwV_u_t W pc n q X Y Z x) ho
 ·cases r
  ·exact absurd ha Bool.false_ne_true
  ·exact fin (wwL_h_t W pc n q X Y Z x) (wwO_h_t W pc n q X Y Z x) (wwV_h_t W pc n q X Y Z x) ho
 ·cases r
  ·exact absurd ha Bool.false_ne_true
  ·exact fin (wwL_o_t W pc n q X Y Z x) (wwO_o_t W pc n q X Y Z x) (wwV_o_t W pc n q X Y Z x) ho
set_option maxRecDepth 20000 in
theorem ww_calls {W:Nww} (hO:OracleOk Tryz.prog (OWx W)) {el:TypeId} {z:Nat × Nat} {cells:List SV} {off len cap:Nat} {q:W9} {m:Nms} {w:World} {vs:List Value} (hM:MemAt m w [⟨el,cells,.ro z⟩]) (hvs:dens m (.ssl 0 off len cap :: q.args) = some vs)
  (hc:len ≤ cap) (hb:W.b ((cells.drop off).take (len * 8)) len = true) (hd:ObsOk (dirU W.N q.a q.b q.c)) (K:WwOk W (W.g ((cells.drop off).take (len * 8)) len) (prK len + 1) q (wwX W q) (wwY W q) (wwZz W q)) :
  Calls Tryz.prog 7 vs.toArray w fun e w' => e = .returned (.bool true) ∧ Below w.heap.size w w' := by
 refine RunsW.call (d := none) Tryz.func7 wwBody (x := .b true) rfl hvs hM ?_
 show RunsW Tryz.prog ⟨m,[⟨el,cells,.ro z⟩],w,hM⟩ wwC (wwA el z cells off len cap q) .ret _
 refine runW_ok goodG hO (wwLa W el z cells off len cap q) (by rw [wwOa]; exact ob_a hd (ob_c (decide_eq_true hc) (ob_c hb ob_n))) ?_
 obtain ⟨rest,hr⟩ := wwRa W el z cells off len cap q
 refine RunsW.fresh (ids := [1,2,3,4]) (fun b hb => by rw [List.mem_singleton] at hb; subst hb; rfl) hr rfl (wwMa W el z cells off len cap q) (fun j n hj => by
  have hl:j < 4 := (List.getElem?_eq_some_iff.1 hj).1
  rcases (by omega:j = 0 ∨ j = 1 ∨ j = 2 ∨ j = 3) with rfl | rfl | rfl | rfl <;> simp at hj <;> subst hj <;> simp) (fun b hb => by
   simp only [wwM,List.mem_cons,List.not_mem_nil,or_false] at hb
   rcases hb with rfl | rfl | rfl | rfl <;> rfl) fun B' v hB' => ?_
 have hs:SameSt (wwS (W.g ((cells.drop off).take (len * 8)) len) (prK len + 1) q (wwX W q) (wwY W q) (wwZz W q) (wwXa W el z cells off len cap q v) none) ((wwA2 W el z cells off len cap q).sel [1,2,3,4] (wwM (W.g ((cells.drop off).take (len * 8)) len) q (wwX W q) (wwY W q) (wwZz W q)) v) := same_eq (wwTa W el z cells off len cap q v _).symm rfl
 exact RunsB.retell hs (ww_run hO (x := wwXa W el z cells off len cap q v) K)
set_option maxRecDepth 20000 in
theorem ww_nil {W:Nww} (hO:OracleOk Tryz.prog (OWx W)) {q:W9} {w:World} {vs:List Value} (hvs:dens Nms.no (.o (.slice none 0 0) :: q.args) = some vs) (hd:ObsOk (dirU W.N q.a q.b q.c)) (K:WwOk W (W.g [] 0) 1 q (wwX W q) (wwY W q) (wwZz W q)) :
  Calls Tryz.prog 7 vs.toArray w fun e w' => e = .returned (.bool true) ∧ Below w.heap.size w w' := by
 refine RunsW.call (d := none) Tryz.func7 wwBody (x := .b true) rfl hvs (MemAt.no w) ?_
 show RunsW Tryz.prog ⟨Nms.no,[],w,MemAt.no w⟩ wwC (wwZ q) .ret _
 refine runW_ok goodG hO (wwLz W q) (by rw [wwOz]; exact hd) ?_
 refine RunsW.fresh (rest := (wwZ2 W q).M) (ids := [0,1,2,3]) (fun b hb => by cases hb) (List.nil_append _).symm rfl (wwMz W q) (fun j n hj => Nat.zero_le _) (fun b hb => by
   simp only [wwM,List.mem_cons,List.not_mem_nil,or_false] at hb
   rcases hb with rfl | rfl | rfl | rfl <;> rfl) fun B' v hB' => ?_
 have hs:SameSt (wwS (W.g [] 0) 1 q (wwX W q) (wwY W q) (wwZz W q) (wwXz W q v) none) ((wwZ2 W q).sel [0,1,2,3] (wwM (W.g [] 0) q (wwX W q) (wwY W q) (wwZz W q)) v) := same_eq (wwTz W q v _).symm rfl
 exact RunsB.retell hs (ww_run hO (x := wwXz W q v) K)
noncomputable def WwN:Nww := ⟨NprR,fun cs len => prgC NprR (prU cs len) (prK len),prInB NprR,uwV,uwE,WtR⟩
theorem oracleWx:OracleOk Tryz.prog (OWx WwN) := .cons (eiO_ok (prG oraclePr rk_p.2.2.1 rfl) (pzG oraclePr rfl)) (.cons bwG.of (.cons unTG.of (.cons wgA_OG (.cons awake24G.of (.nil _)))))
structure W9.Ok (q:W9):Prop where
 a:wN32 q.a = true
 b:wN32 q.b = true
 c:wN32 q.c = true
 x:q.x < 18446744073709551616
 y:q.y < 18446744073709551616
 z:q.z < 18446744073709551616
theorem eqW_F (p c:F):eqW p.b c = decide (p.k = c.k) := Bu.order_eq p c
theorem gtW_F (p c:F):gtW p.b c = decide (c.k < p.k) := Bu.order_gt p c
theorem eqW_num {a:Nat} {b:F} (ha:a < 18446744073709551616) (hb:b.k ≠ 0) (h:eqW a b = true):a = b.b := by
 cases g:rightB a
 ·exfalso
  obtain ⟨neg,r,hr,hxr,hc⟩ := bad_parts ha g
  have hr1 := read_parts a neg r hr hxr
  unfold eqW Ieee.Format.order at h
  rcases hc with ⟨h1,h2⟩ | h1 | h1
  ·subst h1 h2
   obtain rfl:a = 9223372036854775808 := by simpa using hxr
   have e0:Ieee.double.read 9223372036854775808 = .number true 0 (-1074) := by rw [hr1]; decide +kernel
   have ez:Ieee.double.read (F.b F.zero) = .number false 0 (-1074) := by decide +kernel
   have ho := Bu.order_eq F.zero b
   unfold Ieee.Format.order at ho
   rw [ez] at ho
   rw [e0] at h
   have es:∀ d:Ieee.Datum,Ieee.Datum.order (.number true 0 (-1074)) d = Ieee.Datum.order (.number false 0 (-1074)) d := fun d => by
    cases d <;> simp [Ieee.Datum.order,Ieee.signed]
   rw [es,ho] at h
   have := of_decide_eq_true h
   have hz:F.zero.k = 0 := by decide +kernel
   omega
  ·rw [hr1,if_neg (by omega),if_pos h1,read_F] at h
   cases neg <;> simp [Ieee.Datum.order] at h
  ·rw [hr1,if_neg (by omega),if_neg (by omega),read_F] at h
   simp [Ieee.Datum.order] at h
 ·obtain ⟨p,hp⟩ := F_of_right g
  subst hp
  rw [eqW_F] at h
  rw [F.ext' (of_decide_eq_true h)]
theorem eqIvR (a:I):eqIv a a = true := by unfold eqIv; rw [decide_eq_true rfl,decide_eq_true rfl]; rfl
theorem eqChR (a:Ch):eqCh_ a a = true := by unfold eqCh_; rw [eqIvR,eqIvR]; rfl
theorem eqI3R (a:Nat → I):eqI3_ a a = true := by unfold eqI3_; rw [eqIvR,eqIvR,eqIvR]; rfl
theorem nbF {b:Bool} (h:b = true):(!b) = false := by rw [h]; rfl
theorem te_all (A:WgR) {d r:Bool} (hd:(A.e == 230) = d) (hr:(A.e != 0) = r) (h:r = true → A = wgZr A.e):ObsOk (teO A d r) := by
 unfold teO
 refine ob_a ?_ (ob_c hr (ob_c (nbF (eqChR _)) (ob_c (nbF (eqI3R _)) (ob_c (by simp) (ob_c hd ob_n)))))
 cases r
 ·exact ob_n
 ·rw [h rfl]
  exact ob_c (nbF (eqChR _)) (ob_c (nbF (eqI3R _)) ob_n)
theorem te_er {A:WgR} (h:Er A.e) (hz:A.e ≠ 0 → A = wgZr A.e):∃ r,ObsOk (teO A false r) :=
 ⟨_,te_all A (by rcases h with h | h | h <;> rw [h] <;> rfl) rfl fun hr => hz (by simpa using hr)⟩
section
variable {pc:List SV} {n:Nat} {k:Int} {x y z:Nat} {a b c:F}
theorem wt_F (p q r:F):WtR.g pc n a b c k p.b q.b r.b = wgF WgN pc n a b c k p q r := by
 show (bif rt3W p.b q.b r.b then wgF WgN pc n a b c k (toF p.b) (toF q.b) (toF r.b) else wtZ a b c k) = _
 rw [rt3_F,cond_true,toF_F,toF_F,toF_F]
theorem wt_N (g:rt3W x y z = false):WtR.g pc n a b c k x y z = wtZ a b c k := by
 show (bif rt3W x y z then wgF WgN pc n a b c k (toF x) (toF y) (toF z) else wtZ a b c k) = _
 rw [g,cond_false]
theorem wo_F (hl:pc.length = n * 19) (hok:okPg pc n = true) {p q r:F} (h:ObsOk (bif unB a b c && ((!(k == 0)) && (wgIs WgN a b c k p q r true || wgIs WgN a b c k p q r false)) then wgOf WgN pc n a b c p q r else [])):ObsOk (WtR.o pc n a b c k p.b q.b r.b) := by
 refine ob_c (decide_eq_true hl) (ob_c hok ?_)
 rw [rt3_F,cond_true,toF_F,toF_F,toF_F]
 exact ob_c (decide_eq_true hl) (ob_c hok h)
theorem wo_N (hl:pc.length = n * 19) (hok:okPg pc n = true) (hx:x < 18446744073709551616) (hy:y < 18446744073709551616) (hz:z < 18446744073709551616) (g:rt3W x y z = false):ObsOk (WtR.o pc n a b c k x y z) := by
 refine ob_c (decide_eq_true hl) (ob_c hok ?_)
 rw [g,cond_false]
 exact ob_c (blw_ok hx) (ob_c (blw_ok hy) (ob_c (blw_ok hz) ob_n))
end
theorem zzz_no:unB (toF 0) (toF 0) (toF 0) = false := by decide +kernel
theorem zzm_un:unB (toF 0) (toF 0) m1F = true := by decide +kernel
theorem m1_dn:decide ((toF 0).k < m1F.k) = false := by decide +kernel
theorem ww_zero {pc:List SV} {n:Nat} {q:W9} (hl:pc.length = n * 19) (hok:okPg pc n = true) (hq:q.Ok):ObsOk (WtR.o pc n (toF 0) (toF 0) (toF 0) q.k q.x q.y q.z) ∧ (WtR.g pc n (toF 0) (toF 0) (toF 0) q.k q.x q.y q.z).e = 50 := by
 cases g:rt3W q.x q.y q.z
 ·rw [wt_N g]
  exact ⟨wo_N hl hok hq.x hq.y hq.z g,by unfold wtZ; rw [zzz_no]; rfl⟩
 ·obtain ⟨a,b,c,ea,eb,ec⟩ := rt3_of g
  rw [ea,eb,ec,wt_F]
  refine ⟨wo_F hl hok (by rw [zzz_no,Bool.false_and,cond_false]; exact ob_n),?_⟩
  unfold wgF
  rw [show WgN.ub (toF 0) (toF 0) (toF 0) = false from zzz_no]; rfl
theorem ww_down {pc:List SV} {n:Nat} (hl:pc.length = n * 19) (hok:okPg pc n = true) (X Y Z:F):ObsOk (WtR.o pc n (toF 0) (toF 0) m1F 2 X.b Y.b Z.b) ∧ (WtR.g pc n (toF 0) (toF 0) m1F 2 X.b Y.b Z.b).e = 230 := by
 have i1:wgIs WgN (toF 0) (toF 0) m1F 2 X Y Z true = false := rfl
 have i2:wgIs WgN (toF 0) (toF 0) m1F 2 X Y Z false = false := by
  show ((2:Int) == 2 && (wgE WgN X Y Z == 0 && (decide ((toF 0).k < Z.k) && decide ((toF 0).k < m1F.k)))) = false
  rw [m1_dn,Bool.and_false,Bool.and_false,Bool.and_false]
 rw [wt_F]
 refine ⟨wo_F hl hok (by rw [i1,i2,Bool.false_or,Bool.and_false,Bool.and_false,cond_false]; exact ob_n),?_⟩
 unfold wgF
 rw [show WgN.ub (toF 0) (toF 0) m1F = true from zzm_un,cond_true,i1,i2]; rfl
theorem un_neg2 (X Y Z:F):unB X.neg Y.neg Z = unB X Y Z := by
 have e:∀ W:F,W.neg.abs = W.abs := fun W => F.ext' (by
  show ((W.neg.k.natAbs:Nat):Int) = (W.k.natAbs:Nat)
  rw [F.neg_k]; omega)
 unfold unB mostF
 rw [e,e]
theorem ww_main {pc:List SV} {n:Nat} {q:W9} (hl:pc.length = n * 19) (hok:okPg pc n = true) (hq:q.Ok) {X Y Z:F} (hX:X.k ≠ 0) (hY:Y.k ≠ 0) (hZ:z64.k < Z.k) (hB:unB X Y Z = true) :
  ∃ (k:K7) (r:Bool),k.al r = true ∧ ObsOk (teO (WtR.g pc n X Y Z q.k q.x q.y q.z) (!k.may) r) ∧ ObsOk (k7O q (uwE q.x q.y q.z) X Y Z k) ∧ ObsOk (WtR.o pc n X Y Z q.k q.x q.y q.z) := by
 have bz:∀ e,(wgZr e).e = e := fun _ => rfl
 have z0:(0:Int) = z64.k := by decide +kernel
 cases gk:(q.k == 0)
 ·cases g:rt3W q.x q.y q.z
  ·have hA:WtR.g pc n X Y Z q.k q.x q.y q.z = wgZr 230 := by rw [wt_N g]; unfold wtZ; rw [hB,gk]; rfl
   have hE:uwE q.x q.y q.z = 50 := by unfold uwE un3W; rw [g]; rfl
   have ho := wo_N (a := X) (b := Y) (c := Z) (k := q.k) hl hok hq.x hq.y hq.z g
   have tt:ObsOk (teO (WtR.g pc n X Y Z q.k q.x q.y q.z) true true) := te_all _ (by rw [hA]; rfl) (by rw [hA]; rfl) fun _ => by rw [hA]; rfl
   cases k1:(q.k == 1)
   ·cases k2:(q.k == 2)
    ·exact ⟨.o,true,rfl,tt,ob_c k2 (ob_c k1 (ob_c gk ob_n)),ho⟩
    ·exact ⟨.u,true,rfl,tt,ob_c (by rw [hE]; rfl) (ob_c k2 (ob_c k1 (ob_c gk ob_n))),ho⟩
   ·have k2:(q.k == 2) = false := by have := eq_of_beq k1; rw [this]; rfl
    have he:eqW3 q X Y Z = false := by
     cases h:eqW3 q X Y Z
     ·rfl
     ·exfalso
      unfold eqW3 at h
      rw [Bool.and_eq_true,Bool.and_eq_true,Bool.and_eq_true] at h
      have e1 := eqW_num hq.x (by rw [F.neg_k]; omega) h.1
      have e2 := eqW_num hq.y (by rw [F.neg_k]; omega) h.2.1
      have e3 := eqW_num hq.z (by omega) h.2.2.1
      rw [e1,e2,e3,rt3_F] at g
      cases g
    exact ⟨.n,true,rfl,tt,ob_c k2 (ob_c he (ob_c k1 (ob_c gk ob_n))),ho⟩
  ·obtain ⟨a,b,c,ea,eb,ec⟩ := rt3_of g
   have hE:uwE q.x q.y q.z = bif unB a b c then 0 else 50 := by unfold uwE un3W; rw [g,Bool.true_and,ea,eb,ec,toF_F,toF_F,toF_F]
   have hW:wgE WgN a b c = bif unB a b c then 0 else 50 := rfl
   have e3:eqW3 q X Y Z = eqP (a,b,c) (X.neg,Y.neg,Z) := by unfold eqW3 eqP; rw [ea,eb,ec,eqW_F,eqW_F,eqW_F]
   have gz:gtW q.z (toF 0) = decide ((toF 0).k < c.k) := by rw [ec]; exact gtW_F c (toF 0)
   rw [ea,eb,ec] at hE ⊢
   rw [wt_F,hE]
   have hz:decide ((toF 0).k < Z.k) = true := decide_eq_true hZ
   have no:wgIs WgN X Y Z q.k a b c true = false → wgIs WgN X Y Z q.k a b c false = false → ObsOk (teO (wgF WgN pc n X Y Z q.k a b c) true true) ∧ ObsOk (WtR.o pc n X Y Z q.k a.b b.b c.b) := fun i1 i2 => by
    have hA:wgF WgN pc n X Y Z q.k a b c = wgZr 230 := by
     unfold wgF
     rw [show WgN.ub X Y Z = true from hB,cond_true,gk,i1,i2]; rfl
    rw [hA]
    exact ⟨te_all _ rfl rfl fun _ => rfl,wo_F hl hok (by rw [i1,i2,Bool.false_or,Bool.and_false,Bool.and_false,cond_false]; exact ob_n)⟩
   have yes:∀ m:Bool,wgF WgN pc n X Y Z q.k a b c = wgOkF WgN pc n X Y Z a b c m → unB a b c = true → z64.k < c.k → (∃ r,ObsOk (teO (wgF WgN pc n X Y Z q.k a b c) false r)) ∧ ObsOk (WtR.o pc n X Y Z q.k a.b b.b c.b) := fun m hA ha hc => by
    rcases wgOkF_er (cs := pc) (len := n) (okPg_ok hok) hB hZ ha hc m with ⟨h1,h2,h3⟩ | h | h
    ·rw [← hA] at h1 h2
     refine ⟨te_er h1 h2,wo_F hl hok ?_⟩
     cases (unB X Y Z && ((!(q.k == 0)) && (wgIs WgN X Y Z q.k a b c true || wgIs WgN X Y Z q.k a b c false)))
     ·exact ob_n
     ·exact h3
    ·exact absurd hl h
    ·rw [hok] at h; cases h
   cases k1:(q.k == 1)
   ·have i1:wgIs WgN X Y Z q.k a b c true = false := by unfold wgIs; rw [k1]; rfl
    cases k2:(q.k == 2)
    ·have i2:wgIs WgN X Y Z q.k a b c false = false := by unfold wgIs; rw [k2]; rfl
     obtain ⟨t,o⟩ := no i1 i2
     exact ⟨.o,true,rfl,t,ob_c k2 (ob_c k1 (ob_c gk ob_n)),o⟩
    ·have i2:wgIs WgN X Y Z q.k a b c false = ((wgE WgN a b c == 0) && (decide ((toF 0).k < c.k) && decide ((toF 0).k < Z.k))) := by unfold wgIs; rw [k2,Bool.true_and]
     rw [hW,hz,Bool.and_true] at i2
     cases gu:unB a b c
     ·rw [gu] at i2
      obtain ⟨t,o⟩ := no i1 (by rw [i2]; rfl)
      exact ⟨.u,true,rfl,t,ob_c rfl (ob_c k2 (ob_c k1 (ob_c gk ob_n))),o⟩
     ·rw [gu] at i2
      cases gc:decide ((toF 0).k < c.k)
      ·rw [gc] at i2
       obtain ⟨t,o⟩ := no i1 (by rw [i2]; rfl)
       exact ⟨.h,true,rfl,t,ob_c (gz.trans gc) (ob_c rfl (ob_c k2 (ob_c k1 (ob_c gk ob_n)))),o⟩
      ·rw [gc] at i2
       have i2':wgIs WgN X Y Z q.k a b c false = true := i2
       obtain ⟨⟨r,t⟩,o⟩ := yes false (by unfold wgF; rw [show WgN.ub X Y Z = true from hB,cond_true,gk,i1,i2']; rfl) gu (of_decide_eq_true gc)
       exact ⟨.d,r,rfl,t,ob_c (gz.trans gc) (ob_c rfl (ob_c k2 (ob_c k1 (ob_c gk ob_n)))),o⟩
   ·have k2:(q.k == 2) = false := by have := eq_of_beq k1; rw [this]; rfl
    have i2:wgIs WgN X Y Z q.k a b c false = false := by unfold wgIs; rw [k2]; rfl
    cases ge:eqP (a,b,c) (X.neg,Y.neg,Z)
    ·have i1:wgIs WgN X Y Z q.k a b c true = false := by unfold wgIs; rw [ge,Bool.false_and,Bool.and_false,Bool.and_false]
     obtain ⟨t,o⟩ := no i1 i2
     exact ⟨.n,true,rfl,t,ob_c k2 (ob_c (e3.trans ge) (ob_c k1 (ob_c gk ob_n))),o⟩
    ·have ge' := ge
     unfold eqP at ge'
     rw [Bool.and_eq_true,Bool.and_eq_true,Bool.and_eq_true] at ge'
     have f1:a = X.neg := F.ext' (of_decide_eq_true ge'.1)
     have f2:b = Y.neg := F.ext' (of_decide_eq_true ge'.2.1)
     have f3:c = Z := F.ext' (of_decide_eq_true ge'.2.2.1)
     have gu:unB a b c = true := by rw [f1,f2,f3,un_neg2,hB]
     have i1:wgIs WgN X Y Z q.k a b c true = true := by unfold wgIs; rw [k1,ge,hz,hW,gu]; rfl
     obtain ⟨⟨r,t⟩,o⟩ := yes true (by unfold wgF; rw [show WgN.ub X Y Z = true from hB,cond_true,gk,i1]; rfl) gu (by rw [f3]; exact hZ)
     exact ⟨.m,r,rfl,t,ob_c (e3.trans ge) (ob_c k1 (ob_c gk ob_n)),o⟩
 ·cases g:rt3W q.x q.y q.z
  ·have hA:WtR.g pc n X Y Z q.k q.x q.y q.z = wgZr 0 := by rw [wt_N g]; unfold wtZ; rw [hB,gk]; rfl
   exact ⟨.f,false,rfl,te_all _ (by rw [hA]; rfl) (by rw [hA]; rfl) (fun h => by cases h),ob_c gk ob_n,wo_N hl hok hq.x hq.y hq.z g⟩
  ·obtain ⟨a,b,c,ea,eb,ec⟩ := rt3_of g
   rw [ea,eb,ec]
   have hA:WtR.g pc n X Y Z q.k a.b b.b c.b = wgZr 0 := by
    rw [wt_F]; unfold wgF
    rw [show WgN.ub X Y Z = true from hB,cond_true,gk]; rfl
   exact ⟨.f,false,rfl,te_all _ (by rw [hA]; rfl) (by rw [hA]; rfl) (fun h => by cases h),ob_c gk ob_n,wo_F hl hok (by rw [gk,Bool.not_true,Bool.false_and,Bool.and_false,cond_false]; exact ob_n)⟩
theorem ww_ok {pc:List SV} {n:Nat} {q:W9} (hl:pc.length = n * 19) (hok:okPg pc n = true) (hq:q.Ok):WwOk WwN pc n q (wwX WwN q) (wwY WwN q) (wwZz WwN q) := by
 have hP:wwP pc n = pc := by unfold wwP; rw [List.drop_zero,← hl,List.take_length]
 have hX:(wwX WwN q).k ≠ 0 := bw_ne hq.a
 have hY:(wwY WwN q).k ≠ 0 := bw_ne hq.b
 have hZ:z64.k < (wwZz WwN q).k := by
  have h := of_decide_eq_false (bw_up q.c)
  show z64.k < (bwF d64 one64 q.c).k
  omega
 have hB:unB (wwX WwN q) (wwY WwN q) (wwZz WwN q) = true := un_B bwN1 bwN1 bwN2.1 bwN2.2
 generalize wwX WwN q = X at *
 generalize wwY WwN q = Y at *
 generalize wwZz WwN q = Z at *
 obtain ⟨k,r,ha,ht,hk,ho⟩ := ww_main hl hok hq hX hY hZ hB
 obtain ⟨z1,z2⟩ := ww_zero hl hok hq
 obtain ⟨d1,d2⟩ := ww_down hl hok X Y Z
 refine ⟨k,r,ha,?_⟩
 unfold wwOb wwR wwRo wwHr wwHo
 rw [hP]
 have ob:ObsOk ((!decide (Y.k = 0),true) :: (!decide (X.k = 0),true) :: ([blw q.x,blw q.y,blw q.z] ++ [])) := ob_c (by simpa using hY) (ob_c (by simpa using hX) (ob_a (ob_c (blw_ok hq.x) (ob_c (blw_ok hq.y) (ob_c (blw_ok hq.z) ob_n))) ob_n))
 have e1:((WtR.g pc n (toF 0) (toF 0) (toF 0) q.k q.x q.y q.z).e == 50) = true := by rw [z2]; rfl
 have e2:((WtR.g pc n (toF 0) (toF 0) m1F 2 X.b Y.b Z.b).e == 230) = true := by rw [d2]; rfl
 exact ob_c e1 (ob_c e2 (ob_a z1 (ob_a d1 (ob_a ht (ob_a ho (ob_a ho (ob_a hk ob)))))))
theorem weighWrong_someq {el:TypeId} {z:Nat × Nat} {cells:List SV} {off len cap:Nat} {q:W9} {m:Nms} {w:World} {vs:List Value} (hM:MemAt m w [⟨el,cells,.ro z⟩]) (hvs:dens m (.ssl 0 off len cap :: q.args) = some vs)
  (hc:len ≤ cap) (hb:prInB NprR ((cells.drop off).take (len * 8)) len = true) (hq:q.Ok) :
  Calls Tryz.prog 7 vs.toArray w fun e w' => e = .returned (.bool true) ∧ Below w.heap.size w w' := by
 obtain ⟨a,b⟩ := prog_ok hb
 exact ww_calls oracleWx hM hvs hc hb (dirU_ok hq.a hq.b hq.c) (ww_ok (prgC_len _ _ _) a hq)
theorem weighWrong_noneq {q:W9} {w:World} {vs:List Value} (hvs:dens Nms.no (.o (.slice none 0 0) :: q.args) = some vs) (hq:q.Ok) :
  Calls Tryz.prog 7 vs.toArray w fun e w' => e = .returned (.bool true) ∧ Below w.heap.size w w' := by
 obtain ⟨a,b⟩ := prog_ok (cs := []) (len := 0) rfl
 exact ww_nil oracleWx hvs (dirU_ok hq.a hq.b hq.c) (ww_ok (prgC_len _ _ _) a hq)
theorem weighWrong_some {el:TypeId} {z0:Nat × Nat} {cells:List SV} {off len cap:Nat} {a b c k:Int} {x y z r1 r2 r3 r4 r5 r6:Nat} {n:Int} {s:Bool} {m:Nms} {w:World} {vs:List Value} (hM:MemAt m w [⟨el,cells,.ro z0⟩]) (hvs:dens m [.ssl 0 off len cap,.agg [.si .u32 a,.si .u32 b,.si .u32 c],.agg [.si .u8 k,.f x,.f y,.f z,.f r1,.f r2,.f r3,.f r4,.f r5,.f r6,.si .i64 n,.b s]] = some vs)
  (hc:len ≤ cap) (hb:prInB NprR ((cells.drop off).take (len * 8)) len = true) (ha:wN32 a = true) (hb_:wN32 b = true) (hc_:wN32 c = true) (hx:x < 18446744073709551616) (hy:y < 18446744073709551616) (hz:z < 18446744073709551616) :
  Calls Tryz.prog 7 vs.toArray w fun e w' => e = .returned (.bool true) ∧ Below w.heap.size w w' := weighWrong_someq (q := ⟨a,b,c,k,x,y,z,⟨r1,r2,r3,r4,r5,r6,n,s⟩⟩) hM hvs hc hb ⟨ha,hb_,hc_,hx,hy,hz⟩
theorem weighWrong_none {a b c k:Int} {x y z r1 r2 r3 r4 r5 r6:Nat} {n:Int} {s:Bool} {w:World} {vs:List Value} (hvs:dens Nms.no [.o (.slice none 0 0),.agg [.si .u32 a,.si .u32 b,.si .u32 c],.agg [.si .u8 k,.f x,.f y,.f z,.f r1,.f r2,.f r3,.f r4,.f r5,.f r6,.si .i64 n,.b s]] = some vs) (ha:wN32 a = true) (hb_:wN32 b = true) (hc_:wN32 c = true) (hx:x < 18446744073709551616) (hy:y < 18446744073709551616) (hz:z < 18446744073709551616) :
  Calls Tryz.prog 7 vs.toArray w fun e w' => e = .returned (.bool true) ∧ Below w.heap.size w w' := weighWrong_noneq (q := ⟨a,b,c,k,x,y,z,⟨r1,r2,r3,r4,r5,r6,n,s⟩⟩) hvs ⟨ha,hb_,hc_,hx,hy,hz⟩
end Go.Proofs.YthclipfgcgoofaaGreat
