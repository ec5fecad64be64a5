/- Chances of right programs, plain: no errors; boxes. Roots of narrow intervals are narrow; directions of numbers are narrow; what a surface reflects is above 0, and all at the edge. Chances of right programs: no errors, boxes. DensMix by the reckoner; right programs of numbers. The chapter's examples of layer 22. layer 21: the chapter's examples; EvalCoat's run. layer 21: the chapter's examples. burnishlaw21.EvalCoat: the run. DensMix, plain. eval.Eval: no errors, boxes, for any right program. burnishlaw21.EvalCoat, proved. -/
import Derived.Test.YtgjohjgmlleebaaGreatZ13
import Derived.Test.YtgjohjgmlleebaaGreatZ10
namespace Bu
set_option linter.all false
open Rx Go
/-- how great a value may be behind so many nodes: 2^(60 + i); 2^i -/
def Pk (i : Nat) : Int := (((1083 + i) * 4503599627370496 : Nat) : Int)
def Pb (i : Nat) : I := ⟨z64, F.of (Pk i)⟩
def Mk (i : Nat) : Int := (((1023 + i) * 4503599627370496 : Nat) : Int)
def Mb (i : Nat) : I := ⟨z64, F.of (Mk i)⟩
def inbB (a b : I) : Bool := decide (b.lo.k ≤ a.lo.k) && decide (a.hi.k ≤ b.hi.k)
/-- boxes of products by a part of 1, sums -/
def byE (A C : I) : Bool := decide ((cMul dMul 0 bz1 A).2 = 0) && inbB (cMul dMul 0 bz1 A).1 C
def adE (A B C : I) : Bool := decide ((cAdd dAdd 0 A B).2 = 0) && inbB (cAdd dAdd 0 A B).1 C
def lvB (i : Nat) : Bool := byE (Pb i) (Pb i) && (byE (Mb i) (Mb i) && (adE (Pb i) (Pb i) (Pb (i + 1)) && (adE (Mb i) (Mb i) (Mb (i + 1)) && adE bz1 (Mb i) (Mb (i + 1)))))
set_option maxRecDepth 100000 in
theorem lv_all : (List.range 20).all lvB = true := by decide +kernel
set_option maxRecDepth 100000 in
theorem less_B : (decide ((cSub dSub 0 (pt one64) bz1).2 = 0) && inbB (cSub dSub 0 (pt one64) bz1).1 bz1) = true := by decide +kernel
structure LvP (i : Nat) : Prop where
  p : byE (Pb i) (Pb i) = true
  m : byE (Mb i) (Mb i) = true
  pp : adE (Pb i) (Pb i) (Pb (i + 1)) = true
  mm : adE (Mb i) (Mb i) (Mb (i + 1)) = true
  om : adE bz1 (Mb i) (Mb (i + 1)) = true
theorem lv_ok {i : Nat} (h : i < 20) : LvP i := by
  have k := List.all_eq_true.1 lv_all i (List.mem_range.2 h)
  unfold lvB at k
  simp only [Bool.and_eq_true] at k
  exact ⟨k.1, k.2.1, k.2.2.1, k.2.2.2.1, k.2.2.2.2⟩
theorem pw_lt {n : Nat} (h : n < 1200) : -(T : Int) < ((n * 4503599627370496 : Nat) : Int) ∧ ((n * 4503599627370496 : Nat) : Int) < (T : Int) := by
  have h1 : n * 4503599627370496 ≤ 1200 * 4503599627370496 := Nat.mul_le_mul_right _ (Nat.le_of_lt h)
  have h2 : 1200 * 4503599627370496 < T := by decide +kernel
  have h3 : n * 4503599627370496 < T := Nat.lt_of_le_of_lt h1 h2
  clear h1 h2
  generalize n * 4503599627370496 = m at *
  exact ⟨by omega, Int.ofNat_lt.2 h3⟩
theorem Pb_k {i : Nat} (h : i < 40) : (Pb i).hi.k = Pk i := F.of_k (pw_lt (by omega))
theorem Mb_k {i : Nat} (h : i < 40) : (Mb i).hi.k = Mk i := F.of_k (pw_lt (by omega))
theorem inB_tr {a b c : I} (h : InB a b) (k : inbB b c = true) : InB a c := by
  unfold inbB at k
  rw [Bool.and_eq_true, decide_eq_true_eq, decide_eq_true_eq] at k
  exact ⟨Int.le_trans k.1 h.1, Int.le_trans h.2.1 k.2, h.2.2⟩
set_option maxRecDepth 100000 in
theorem Pb_le {i j : Nat} (h : i ≤ j) (hj : j < 40) {a : I} (k : InB a (Pb i)) : InB a (Pb j) := by
  refine ⟨k.1, ?_, k.2.2⟩
  have h1 := k.2.1
  rw [Pb_k (by omega)] at h1
  rw [Pb_k hj]
  exact Int.le_trans h1 (Int.ofNat_le.2 (Nat.mul_le_mul_right _ (by omega)))
set_option maxRecDepth 100000 in
theorem Mb_le {i j : Nat} (h : i ≤ j) (hj : j < 40) {a : I} (k : InB a (Mb i)) : InB a (Mb j) := by
  refine ⟨k.1, ?_, k.2.2⟩
  have h1 := k.2.1
  rw [Mb_k (by omega)] at h1
  rw [Mb_k hj]
  exact Int.le_trans h1 (Int.ofNat_le.2 (Nat.mul_le_mul_right _ (by omega)))
theorem by_in {x a A C : I} (hx : InB x bz1) (ha : InB a A) (h : byE A C = true) : ∃ r, KkR.mul 0 x a = (r, 0) ∧ InB r C := by
  unfold byE at h
  rw [Bool.and_eq_true, decide_eq_true_eq] at h
  obtain ⟨r, e, n⟩ := mul_inn hx.inn ha.inn h.1
  exact ⟨r, e, inB_tr n.inB h.2⟩
theorem ad_in {a b A B C : I} (ha : InB a A) (hb : InB b B) (h : adE A B C = true) : ∃ r, KkR.add 0 a b = (r, 0) ∧ InB r C := by
  unfold adE at h
  rw [Bool.and_eq_true, decide_eq_true_eq] at h
  obtain ⟨r, e, n⟩ := add_inn ha.inn hb.inn h.1
  exact ⟨r, e, inB_tr n.inB h.2⟩
theorem less_in {x : I} (hx : InB x bz1) : ∃ r, KkR.sub 0 (pt one64) x = (r, 0) ∧ InB r bz1 := by
  have k := less_B
  rw [Bool.and_eq_true, decide_eq_true_eq] at k
  obtain ⟨r, e, n⟩ := sub_inn (a := pt one64) (InB.inn ⟨Int.le_refl _, Int.le_refl _, Int.le_refl _⟩) hx.inn k.1
  exact ⟨r, e, inB_tr n.inB k.2⟩
theorem numF_ (x : F) : KkR.num 0 x = (pt x, 0) := rfl
theorem pt_z1 {w : F} (hw : z64.k ≤ w.k ∧ w.k ≤ one64.k) : InB (pt w) bz1 := ⟨hw.1, hw.2, Int.le_refl _⟩
theorem mixK_st {w : F} {a b s m1 m2 r : I} (h1 : KkR.sub 0 (pt one64) (pt w) = (s, 0)) (h2 : KkR.mul 0 s a = (m1, 0)) (h3 : KkR.mul 0 (pt w) b = (m2, 0)) (h4 : KkR.add 0 m1 m2 = (r, 0)) : mixK KkR 0 w a b = (r, 0) := by
  unfold mixK
  have e1 : KkR.num 0 one_ = (pt one64, 0) := rfl
  simp only [e1, numF_, h1, h2, h3, h4]
theorem mixK_in {w : F} {a b A : I} {C : I} (hw : z64.k ≤ w.k ∧ w.k ≤ one64.k) (ha : InB a A) (hb : InB b A) (h1 : byE A A = true) (h2 : adE A A C = true) : ∃ r, mixK KkR 0 w a b = (r, 0) ∧ InB r C := by
  obtain ⟨s, e1, b1⟩ := less_in (pt_z1 hw)
  obtain ⟨m1, e2, b2⟩ := by_in b1 ha h1
  obtain ⟨m2, e3, b3⟩ := by_in (pt_z1 hw) hb h1
  obtain ⟨r, e4, b4⟩ := ad_in b2 b3 h2
  exact ⟨r, mixK_st e1 e2 e3 e4, b4⟩
theorem zz_k : F.zero.k = z64.k := by decide +kernel
theorem zs_get {f : Nat → F} {js : List Nat} (h : zsB f js = true) {j : Nat} (hj : j ∈ js) : (f j).k = z64.k := (of_decide_eq_true (List.all_eq_true.1 h j hj)).trans zz_k
theorem rn_get {l h : F} {f : Nat → F} {js : List Nat} (k : rsB l h f js = true) {j : Nat} (hj : j ∈ js) : l.k ≤ (f j).k ∧ (f j).k ≤ h.k := by
  have := List.all_eq_true.1 k j hj
  unfold rnB at this
  simpa using this
theorem rn_one {l h x : F} (k : rnB l h x = true) : l.k ≤ x.k ∧ x.k ≤ h.k := by unfold rnB at k; simpa using k
end Bu
namespace Go.Proofs.YtgjohjgmlleebaaGreat
set_option linter.all false
open Go.RowKit Bu Rx
theorem rng_mk {x l h : F} {o : Obs} (k : l.k ≤ x.k ∧ x.k ≤ h.k) (ho : ObsOk o) : ObsOk (rngO x l h o) := ob_c (decide_eq_false (by omega)) (ob_c (decide_eq_false (by omega)) ho)
theorem nd_leaf {n : Nd} {p : Int} (h : okNd n p = true) (h5 : n.k ≠ 5) (h6 : n.k ≠ 6) : ObsOk (rtOb n.k (etaF n.f)) := by
  obtain ⟨k, f, a, b⟩ := n
  simp only at h5 h6
  unfold okNd at h
  simp only [decide_eq_false h5, decide_eq_false h6, cond_false, Bool.false_and] at h
  by_cases h1 : k = 1
  · subst h1
    simp only [decide_true, cond_true, Bool.and_eq_true] at h
    obtain ⟨r, z, _⟩ := h
    have q : ∀ j, j ∈ [3, 4, 5, 6, 7, 8, 9, 10, 11, 12, 13, 14, 15] → (f j).k = z64.k := fun j hj => zs_get z hj
    have g : ∀ j, j ∈ [0, 1, 2] → z64.k ≤ (f j).k ∧ (f j).k ≤ one64.k := fun j hj => rn_get r hj
    show ObsOk (rtO1 (etaF f))
    refine ob_c ?_ (rng_mk (g 2 (by decide)) (rng_mk (g 1 (by decide)) (rng_mk (g 0 (by decide)) ob_n)))
    unfold eqNd q3E
    simp only [Bool.and_eq_true, decide_eq_true_eq]
    exact ⟨⟨rfl, rfl, rfl, trivial⟩, ⟨q 3 (by decide), q 4 (by decide), q 5 (by decide), trivial⟩, ⟨q 6 (by decide), q 7 (by decide), q 8 (by decide), trivial⟩, ⟨q 9 (by decide), q 10 (by decide), q 11 (by decide), trivial⟩, q 12 (by decide), q 13 (by decide), q 14 (by decide), q 15 (by decide), rfl, rfl, trivial⟩
  simp only [decide_eq_false h1, cond_false] at h
  by_cases h2 : k = 2
  · subst h2
    simp only [decide_true, cond_true, Bool.and_eq_true] at h
    obtain ⟨r, z, _⟩ := h
    have q : ∀ j, j ∈ [3, 4, 5, 6, 7, 8, 9, 10, 11, 13, 14, 15] → (f j).k = z64.k := fun j hj => zs_get z hj
    have g : ∀ j, j ∈ [12, 0, 1, 2] → z64.k ≤ (f j).k ∧ (f j).k ≤ one64.k := fun j hj => rn_get r hj
    show ObsOk (rtO2 (etaF f))
    refine ob_c ?_ (rng_mk (g 12 (by decide)) (rng_mk (g 2 (by decide)) (rng_mk (g 1 (by decide)) (rng_mk (g 0 (by decide)) ob_n))))
    unfold eqNd q3E
    simp only [Bool.and_eq_true, decide_eq_true_eq]
    exact ⟨⟨rfl, rfl, rfl, trivial⟩, ⟨q 3 (by decide), q 4 (by decide), q 5 (by decide), trivial⟩, ⟨q 6 (by decide), q 7 (by decide), q 8 (by decide), trivial⟩, ⟨q 9 (by decide), q 10 (by decide), q 11 (by decide), trivial⟩, rfl, q 13 (by decide), q 14 (by decide), q 15 (by decide), rfl, rfl, trivial⟩
  simp only [decide_eq_false h2, cond_false] at h
  by_cases h3 : k = 3
  · subst h3
    simp only [decide_true, cond_true, Bool.and_eq_true] at h
    obtain ⟨r1, r2, z, _⟩ := h
    have q : ∀ j, j ∈ [0, 1, 2, 3, 4, 5, 6, 7, 8, 9, 10, 11, 12, 15] → (f j).k = z64.k := fun j hj => zs_get z hj
    show ObsOk (rtO3 (etaF f))
    refine ob_c ?_ (rng_mk (rn_one r2) (rng_mk (rn_one r1) ob_n))
    unfold eqNd q3E
    simp only [Bool.and_eq_true, decide_eq_true_eq]
    exact ⟨⟨q 0 (by decide), q 1 (by decide), q 2 (by decide), trivial⟩, ⟨q 3 (by decide), q 4 (by decide), q 5 (by decide), trivial⟩, ⟨q 6 (by decide), q 7 (by decide), q 8 (by decide), trivial⟩, ⟨q 9 (by decide), q 10 (by decide), q 11 (by decide), trivial⟩, q 12 (by decide), rfl, rfl, q 15 (by decide), rfl, rfl, trivial⟩
  simp only [decide_eq_false h3, cond_false] at h
  by_cases h4 : k = 4
  · subst h4
    simp only [decide_true, cond_true, Bool.and_eq_true] at h
    obtain ⟨r1, r2, z, _⟩ := h
    have q : ∀ j, j ∈ [0, 1, 2, 3, 4, 5, 12, 14, 15] → (f j).k = z64.k := fun j hj => zs_get z hj
    have g : ∀ j, j ∈ [6, 7, 8, 9, 10, 11] → minMt.k ≤ (f j).k ∧ (f j).k ≤ maxMt.k := fun j hj => rn_get r2 hj
    show ObsOk (rtO4 (etaF f))
    refine ob_c ?_ (rng_mk (g 11 (by decide)) (rng_mk (g 10 (by decide)) (rng_mk (g 9 (by decide)) (rng_mk (g 8 (by decide)) (rng_mk (g 7 (by decide)) (rng_mk (g 6 (by decide)) (rng_mk (rn_one r1) ob_n)))))))
    unfold eqNd q3E
    simp only [Bool.and_eq_true, decide_eq_true_eq]
    exact ⟨⟨q 0 (by decide), q 1 (by decide), q 2 (by decide), trivial⟩, ⟨q 3 (by decide), q 4 (by decide), q 5 (by decide), trivial⟩, ⟨rfl, rfl, rfl, trivial⟩, ⟨rfl, rfl, rfl, trivial⟩, q 12 (by decide), rfl, q 14 (by decide), q 15 (by decide), rfl, rfl, trivial⟩
  simp only [decide_eq_false h4, cond_false] at h
  cases h
end Go.Proofs.YtgjohjgmlleebaaGreat
namespace Bu
set_option linter.all false
open Rx Go
def frHd : List Bu.Op := frD.take 6
def frTl : List Bu.Op := frD.drop 7
set_option maxRecDepth 100000 in
theorem fr_box : (evalK KkR frD [bz1, bn] 0).2 = 0 ∧ (evalK KkR frHd [bz1, bn] 0).2 = 0 ∧ frD.all monoB = true ∧ frHd.all monoB = true ∧ frTl.all monoB = true := by decide +kernel
set_option maxRecDepth 100000 in
theorem fr_box3 : z64.k ≤ (gt (evalK KkR frD [bz1, bn] 0).1 0).lo.k ∧ (gt (evalK KkR frD [bz1, bn] 0).1 0).hi.k ≤ one64.k ∧ z64.k ≤ bzz.lo.k := by decide +kernel
/-- an interval of one number -/
structure Ex (a : I) (x : Rat) : Prop where
  l : a.lo.q = x
  h : a.hi.q = x
end Bu
namespace Go.Proofs.YtgjohjgmlleebaaGreat
set_option linter.all false
open Go.RowKit Bu Rx
set_option maxRecDepth 100000 in
theorem fd_all {c n : I} (hc : InB c bz1) (hn : InB n bn) : ∃ f, lnR (fdK KkR c n) 0 = (f, 0) ∧ Uz1 f := by
  obtain ⟨e, _, m, _⟩ := fr_box
  obtain ⟨l, h, _⟩ := fr_box3
  have b := box (v := [c, n]) (w := [bz1, bn]) m ⟨hc, hn, trivial⟩ e
  have k := (b.2 0).inB
  exact ⟨gt (evalK KkR frD [c, n] 0).1 0, lnR_0 (E := evalK KkR frD [c, n] 0) (i := 0) b.1, (b.2 0).rt, Int.le_trans l k.1, Int.le_trans k.2.1 h⟩
theorem bzz_bz1 {c : I} (h : InB c bzz) : InB c bz1 := ⟨Int.le_trans fr_box3.2.2 h.1, h.2.1, h.2.2⟩
end Go.Proofs.YtgjohjgmlleebaaGreat
namespace Go.Proofs.YtgjohjgmlleebaaGreat
set_option linter.all false
open Go.RowKit Bu Rx
theorem obsB_of {o : Obs} (h : ObsOk o) : Bu.obsB o = true := List.all_eq_true.2 fun p hp => by simp [h p hp]
theorem leaf_lf {n : Nd} {p : Int} (h : okNd n p = true) (h5 : n.k ≠ 5) (h6 : n.k ≠ 6) {v u : V3} (hv : OneP v) (hu : OneP u) (c : Int) (c0 : 0 ≤ c) (c3 : c < 3) : LfP ⟨n.k, etaF n.f, c, v, u⟩ := ⟨nd_leaf h h5 h6, hv, hu, c0, c3⟩
theorem okNd_mixw {n : Nd} {p : Int} (h : okNd n p = true) (h5 : n.k = 5) : z64.k ≤ (n.f 15).k ∧ (n.f 15).k ≤ one64.k := by
  unfold okNd at h
  rw [h5] at h
  simp only [Bool.and_eq_true, Int.reduceEq, decide_false, decide_true, cond_false, cond_true] at h
  exact rn_one h.1
theorem okNd_coatf {n : Nd} {p : Int} (h : okNd n p = true) (h6 : n.k = 6) : Rn minIo four64 (n.f 14) ∧ ∀ j, j ∈ [3, 4, 5] → z64.k ≤ (n.f j).k ∧ (n.f j).k ≤ one64.k := by
  unfold okNd at h
  rw [h6] at h
  simp only [Bool.and_eq_true, Int.reduceEq, decide_false, decide_true, cond_false, Bool.true_and] at h
  exact ⟨rn_one h.1, fun j hj => rn_get h.2.1 hj⟩
theorem fd_o {c : I} {x : F} (hc : InB c bz1) (hx : Rn minIo four64 x) : ObsOk (fdO c (pF x)) := ob_a (bnd_of hx) (ob_c (decide_eq_true hc.2.1) (ob_c (decide_eq_true hc.1) (ob_c (decide_eq_true hc.2.2) ob_n)))
/-- mixes, coats: in steps -/
theorem mixC_st {w : F} {a b : Ch} {p m : I} (h1 : mixK KkR 0 w a.p b.p = (p, 0)) (h2 : mixK KkR 0 w a.m b.m = (m, 0)) : mixC KkR w a b = (⟨p, m⟩, 0) := by
  unfold mixC
  simp only [h1, h2]
end Go.Proofs.YtgjohjgmlleebaaGreat
namespace Bu
set_option linter.all false
open Rx Go
theorem bw_rn {l h : F} {n : Int} (hl : l.k ≤ h.k) : rnB l h (bwF l h n) = true := by
  have := bwF_in (n := n) hl
  unfold rnB
  rw [decide_eq_true this.1, decide_eq_true this.2]; rfl
theorem zs_c (js : List Nat) : zsB (fun _ => z64) js = true := List.all_eq_true.2 fun _ _ => decide_eq_true zz_k.symm
theorem okNd_1 {x y z : F} (hx : rnB z64 one64 x = true) (hy : rnB z64 one64 y = true) (hz : rnB z64 one64 z = true) (p : Int) : okNd ⟨1, ndM x y z z64 z64 z64 z64 z64 z64 z64 z64 z64 z64 z64 z64 z64, 0, 0⟩ p = true := by
  show ((rnB z64 one64 x && (rnB z64 one64 y && (rnB z64 one64 z && true))) && (zsB (fun _ => z64) [3, 4, 5, 6, 7, 8, 9, 10, 11, 12, 13, 14, 15] && (decide ((0 : Int) = 0) && decide ((0 : Int) = 0)))) = true
  rw [hx, hy, hz, zs_c]; rfl
theorem okNd_2 {x y z s : F} (hx : rnB z64 one64 x = true) (hy : rnB z64 one64 y = true) (hz : rnB z64 one64 z = true) (hs : rnB z64 one64 s = true) (p : Int) : okNd ⟨2, ndM x y z z64 z64 z64 z64 z64 z64 z64 z64 z64 s z64 z64 z64, 0, 0⟩ p = true := by
  show ((rnB z64 one64 s && (rnB z64 one64 x && (rnB z64 one64 y && (rnB z64 one64 z && true)))) && (zsB (fun _ => z64) [3, 4, 5, 6, 7, 8, 9, 10, 11, 13, 14, 15] && (decide ((0 : Int) = 0) && decide ((0 : Int) = 0)))) = true
  rw [hx, hy, hz, hs, zs_c]; rfl
theorem okNd_3 {a n : F} (ha : rnB minA one64 a = true) (hn : rnB minIo four64 n = true) (p : Int) : okNd ⟨3, ndM z64 z64 z64 z64 z64 z64 z64 z64 z64 z64 z64 z64 z64 a n z64, 0, 0⟩ p = true := by
  show (rnB minA one64 a && (rnB minIo four64 n && (zsB (fun _ => z64) [0, 1, 2, 3, 4, 5, 6, 7, 8, 9, 10, 11, 12, 15] && (decide ((0 : Int) = 0) && decide ((0 : Int) = 0))))) = true
  rw [ha, hn, zs_c]; rfl
theorem okNd_4 {a e0 e1 e2 k0 k1 k2 : F} (ha : rnB minA one64 a = true) (h0 : rnB minMt maxMt e0 = true) (h1 : rnB minMt maxMt e1 = true) (h2 : rnB minMt maxMt e2 = true) (h3 : rnB minMt maxMt k0 = true) (h4 : rnB minMt maxMt k1 = true) (h5 : rnB minMt maxMt k2 = true) (p : Int) : okNd ⟨4, ndM z64 z64 z64 z64 z64 z64 e0 e1 e2 k0 k1 k2 z64 a z64 z64, 0, 0⟩ p = true := by
  show (rnB minA one64 a && ((rnB minMt maxMt e0 && (rnB minMt maxMt e1 && (rnB minMt maxMt e2 && (rnB minMt maxMt k0 && (rnB minMt maxMt k1 && (rnB minMt maxMt k2 && true)))))) && (zsB (fun _ => z64) [0, 1, 2, 3, 4, 5, 12, 14, 15] && (decide ((0 : Int) = 0) && decide ((0 : Int) = 0))))) = true
  rw [ha, h0, h1, h2, h3, h4, h5, zs_c]; rfl
def leNd (u : U8) : Nd := ⟨leK u, ndM (leF bwF u 0) (leF bwF u 1) (leF bwF u 2) (leF bwF u 3) (leF bwF u 4) (leF bwF u 5) (leF bwF u 6) (leF bwF u 7) (leF bwF u 8) (leF bwF u 9) (leF bwF u 10) (leF bwF u 11) (leF bwF u 12) (leF bwF u 13) (leF bwF u 14) (leF bwF u 15), 0, 0⟩
theorem okNd_le (u : U8) (p : Int) : okNd (leNd u) p = true := by
  obtain ⟨e1, e2, e3, e4⟩ := rk_le
  unfold leNd leK leF
  cases decide (u.a0.tmod 4 = 0)
  · cases decide (u.a0.tmod 4 = 1)
    · cases decide (u.a0.tmod 4 = 2)
      · exact okNd_4 (bw_rn e2) (bw_rn e4) (bw_rn e4) (bw_rn e4) (bw_rn e4) (bw_rn e4) (bw_rn e4) p
      · exact okNd_3 (bw_rn e2) (bw_rn e3) p
    · exact okNd_2 (bw_rn e1) (bw_rn e1) (bw_rn e1) (bw_rn e1) p
  · exact okNd_1 (bw_rn e1) (bw_rn e1) (bw_rn e1) p
theorem okNd_6 {n t0 t1 t2 : F} {a p : Int} (hn : rnB minIo four64 n = true) (h0 : rnB z64 one64 t0 = true) (h1 : rnB z64 one64 t1 = true) (h2 : rnB z64 one64 t2 = true) (a0 : 0 ≤ a) (a1 : a < p) : okNd ⟨6, ndM z64 z64 z64 t0 t1 t2 z64 z64 z64 z64 z64 z64 z64 z64 n z64, a, 0⟩ p = true := by
  show (decide ((6 : Int) = 6) && (rnB minIo four64 n && ((rnB z64 one64 t0 && (rnB z64 one64 t1 && (rnB z64 one64 t2 && true))) && (zsB (fun _ => z64) [0, 1, 2, 6, 7, 8, 9, 10, 11, 12, 13, 15] && (decide (0 ≤ a) && (decide (a < p) && decide ((0 : Int) = 0))))))) = true
  rw [hn, h0, h1, h2, zs_c, decide_eq_true a0, decide_eq_true a1]; rfl
theorem okPg_mk {cs : List SV} {len : Nat} (h1 : (plains cs).isSome = true) (h2 : 1 ≤ len) (h3 : len ≤ 4096) (h4 : ∀ i, i < len → okAt cs i = true) : okPg cs len = true := by
  unfold okPg
  rw [h1, decide_eq_true h2, decide_eq_true h3, List.all_eq_true.2 fun i hi => h4 i (List.mem_range.1 hi)]; rfl
theorem okAt_mk {cs : List SV} {i : Nat} (h1 : ckAll cs (i * 19) ndCK = true) (h2 : okNd (ndR cs (i * 19)) i = true) : okAt cs i = true := by
  unfold okAt; rw [h1, h2]; rfl
end Bu
namespace Go.Proofs.YtgjohjgmlleebaaGreat
set_option linter.all false
open Go.RowKit Bu Rx
/-- are two intervals the same? -/
def eqIv (a b : I) : Bool := decide (a.lo.k = b.lo.k) && (decide (a.hi.k = b.hi.k) && true)
def coJ (n t0 t1 t2 : F) (a : Int) : List SV := [.i .u8 6, fz, fz, fz, .fl t0, .fl t1, .fl t2, fz, fz, fz, fz, fz, fz, fz, fz, .fl n, fz, .i .i64 a, .i .i64 0]
def leC (N : Npr) (a : U8) : List SV := nzC (N.k a) (N.f a)
def dirU (N : Npr) (x y z : Int) : Obs := [(N.p d64 one64, true), (N.w z, true), (N.p mone64 one64, true), (N.w y, true), (N.p mone64 one64, true), (N.w x, true)]
end Go.Proofs.YtgjohjgmlleebaaGreat
namespace Go.Proofs.YtgjohjgmlleebaaGreat
set_option linter.all false
open Go.RowKit Bu Rx
/-- one or the other -/
def eiO (f g : OF) : OF := fun a M ds => match f a M ds with
  | some r => some r
  | none => g a M ds
theorem eiO_ok {P : Program} {g : FuncId} {f h : OF} (hf : OfOk P g f) (hh : OfOk P g h) : OfOk P g (eiO f h) := by
  intro args M ds x M' ds' ob hk ho
  unfold eiO at hk
  split at hk
  · rename_i r hr
    cases hk
    exact hf args M ds x M' ds' ob hr ho
  · exact hh args M ds x M' ds' ob hk ho
def kNilR : List SV → Dec → Option (SV × Dec × Obs)
  | [.o (.slice none 0 0)], ds => some (.b false, ds, [])
  | _, _ => none
theorem rgtNil : valR ((run Tryz.prog EG (lookO []) 60).1 31 [.o (.slice none 0 0)] [] (some [])) = some (.b false, some [], []) := by kernel_rfl
theorem nilRG : PlainOk Tryz.prog 31 kNilR := by
  intro args ds x ds' ob h ho
  unfold kNilR at h
  split at h
  · simp only [Option.some.injEq, Prod.mk.injEq] at h
    obtain ⟨rfl, _, rfl⟩ := h
    exact ⟨[.slice none 0 0], _, rfl, rfl, fun w => calls_of_val goodG (OracleOk.nil _) 60 rgtNil ob_n rfl rfl w⟩
  · cases h
def rgtO (o : List SV → Nat → Bool) : OF := eiO (plainO kNilR) (kRd 19 (kRgt o))
theorem rgtOG : OfOk Tryz.prog 31 (rgtO okPg) := eiO_ok nilRG.of rgtG.of
end Go.Proofs.YtgjohjgmlleebaaGreat
namespace Go.Proofs.YtgjohjgmlleebaaGreat
set_option linter.all false
open Go.RowKit Bu Rx
def rgtE (E : Nee) : OF := rgtO E.o
def OA21 (E : Nee) (un : F → F → F → V3) (ub : F → F → F → Bool) : OracleF := lookO [(31, rgtE E), (33, plainO (kUn un ub)), (40, kRd 19 (kEw E))]
structure Nlc where
  N : Npr
  E : Nee
  un : F → F → F → V3
  ub : F → F → F → Bool
  D : I → I → I × Int
  dO : I → I → Obs
  me : I → I → Bool
def OLc (W : Nlc) : OracleF := lookO [(22, plainO (kLe8 W.N.k W.N.f W.N.o)), (25, plainO (kFq W.N.q W.N.w)), (19, plainO (kBw W.N.b W.N.p W.N.w)), (34, kRd 19 (kEt W.E W.un W.ub)),
  (33, plainO (kUn W.un W.ub)), (27, plainO (kI2 W.D W.dO)), (20, plainO kPt), (35, plainO (kBII W.me)), (36, plainO (oConst (.b true)))]
end Go.Proofs.YtgjohjgmlleebaaGreat
namespace Go.Proofs.YtgjohjgmlleebaaGreat
set_option linter.all false
open Go.RowKit Bu Rx
def hf21 : F := toF 4602678819172646912
def gr21A : List SV := [.i .u8 1, .fl hf21, .fl hf21, .fl hf21, fz, fz, fz, fz, fz, fz, fz, fz, fz, fz, fz, fz, fz, .i .i64 0, .i .i64 0]
def gr21B : List SV := gr21A ++ coJ (toF 4609434218613702656) one64 one64 one64 0
def nr21 (a : I) (l h : Nat) : Obs := [(decide (a.lo.k ≤ a.hi.k), true), (decide (a.hi.k ≤ (toF h).k), true), (decide ((toF l).k ≤ a.lo.k), true)]
def upE (E : Nee) (un : F → F → F → V3) (cs : List SV) (len k : Nat) : Ch := E.g (un z64 z64 one64) (un z64 z64 one64) cs len k
def upEO (E : Nee) (un : F → F → F → V3) (ub : F → F → F → Bool) (cs : List SV) (len : Nat) : Obs := etO E un ub cs len z64 z64 one64 z64 z64 one64
def aw21 (E : Nee) (un : F → F → F → V3) (ub : F → F → F → Bool) : Obs :=
  (true, true) :: (nr21 (upE E un gr21B 2 0).p 4594452623176501421 4594452623248559015 ++ (nr21 (upE E un gr21B 2 2).m 4585925428414713479 4585925428702943855 ++ ((eqIv (upE E un gr21A 1 1).m I.zero, true) :: (nr21 (upE E un gr21A 1 1).p 4594902181426447204 4594902181462476001 ++
  ([(ub z64 z64 one64, true), (ub z64 z64 z64, false), (E.o gr21B 2, true), (decide ((toF 13830554455654793216).k ≤ z64.k), true), (ub z64 z64 one64, true), (ub z64 z64 (toF 13830554455654793216), true), (E.o gr21B 2, true)] ++ (upEO E un ub gr21B 2 ++ upEO E un ub gr21A 1))))))
def aw21D : List Bool := [true, true, false, false, true, true, false, false, true, true, true, false, true] ++ List.replicate 11 true
theorem aw21Run (E : Nee) (un : F → F → F → V3) (ub : F → F → F → Bool) : valR ((run Tryz.prog EG (OA21 E un ub) 120).1 36 [] [] (some aw21D)) = some (.b true, some [], aw21 E un ub) := by kernel_rfl
set_option maxRecDepth 100000 in
theorem aw21_B : Bu.obsB (aw21 ER (unV KkR) unB) = true := by decide +kernel
theorem oracleA21 : OracleOk Tryz.prog (OA21 ER (unV KkR) unB) := .cons rgtOG (.cons unG.of (.cons evwK.of (.nil _)))
theorem awake21G : PlainOk Tryz.prog 36 (oConst (.b true)) := constG rfl fun w => calls_of_val goodG oracleA21 120 (aw21Run ER (unV KkR) unB) (Bu.obsB_ok aw21_B) rfl rfl w
end Go.Proofs.YtgjohjgmlleebaaGreat
namespace Go.Proofs.YtgjohjgmlleebaaGreat
set_option linter.all false
open Go.RowKit Bu Rx
def etU (W : Nlc) (u : U6) (cs : List SV) (len : Nat) : Obs := etO W.E W.un W.ub cs len (W.N.b mone64 one64 u.a0) (W.N.b mone64 one64 u.a1) (W.N.b d64 one64 u.a2) (W.N.b mone64 one64 u.a3) (W.N.b mone64 one64 u.a4) (W.N.b d64 one64 u.a5)
def liU (W : Nlc) (u : U6) (cs : List SV) (len k : Nat) : Ch := W.E.g (twA W.un W.N.b u) (twB W.un W.N.b u) cs len k
def ecC (W : Nlc) (a : U8) (i t0 t1 t2 : Int) : List SV := leC W.N a ++ coJ (W.N.b minIo four64 i) (W.N.q t0) (W.N.q t1) (W.N.q t2) 0
def ecB (W : Nlc) (a : U8) (i : Int) : List SV := leC W.N a ++ coJ (W.N.b minIo four64 i) F.zero F.zero F.zero 0
def ecI (W : Nlc) (i : Int) (u : U6) : I × Int := W.D (twB W.un W.N.b u).z ⟨W.N.b minIo four64 i, W.N.b minIo four64 i⟩
def ecK (W : Nlc) (a : U8) (i t0 t1 t2 : Int) (u : U6) (k : Nat) : Obs := [(decide ((liU W u (leC W.N a) 1 k).p.hi.k < (liU W u (ecC W a i t0 t1 t2) 2 k).p.lo.k), false), (W.me (liU W u (ecC W a i t0 t1 t2) 2 k).m (ecI W i u).1, true), (W.me (liU W u (ecB W a i) 2 k).m (ecI W i u).1, true), (!(eqIv (liU W u (ecB W a i) 2 k).p I.zero), false)]
def ecOb (W : Nlc) (a : U8) (i t0 t1 t2 : Int) (u : U6) : Obs :=
  ecK W a i t0 t1 t2 u 2 ++ (ecK W a i t0 t1 t2 u 1 ++ (ecK W a i t0 t1 t2 u 0 ++ (((ecI W i u).2 != 0, false) :: (W.dO (twB W.un W.N.b u).z ⟨W.N.b minIo four64 i, W.N.b minIo four64 i⟩ ++ ((W.ub (W.N.b mone64 one64 u.a3) (W.N.b mone64 one64 u.a4) (W.N.b d64 one64 u.a5), true) ::
  (etU W u (ecB W a i) 2 ++ (etU W u (ecC W a i t0 t1 t2) 2 ++ (etU W u (leC W.N a) 1 ++ ([(W.N.w t2, true), (W.N.w t1, true), (W.N.w t0, true)] ++ (dirU W.N u.a3 u.a4 u.a5 ++ (dirU W.N u.a0 u.a1 u.a2 ++ [(W.N.p minIo four64, true), (W.N.w i, true), (W.N.o a, true)])))))))))))
theorem ecRun (W : Nlc) (a : U8) (i t0 t1 t2 : Int) (u : U6) : valR ((run Tryz.prog EG (OLc W) 120).1 11 [a.sv, .si .u32 i, .agg [.si .u32 t0, .si .u32 t1, .si .u32 t2], u.sv] [] (some [true, false, false, true, true, false, false, true, true, false, false, true, true, false])) = some (.b true, some [], ecOb W a i t0 t1 t2 u) := by kernel_rfl
end Go.Proofs.YtgjohjgmlleebaaGreat
namespace Bu
set_option linter.all false
open Rx Go
theorem mul_f {a b r : I} (h : KkR.mul 0 a b = (r, 0)) : Fact (.mul 0 1) [a, b] r := by
  have st : (stepK KkR (.mul 0 1) [a, b] 0).2 = 0 := by show (KkR.mul 0 a b).2 = 0; rw [h]
  have f := (step_fact st).2.2
  rwa [show (stepK KkR (.mul 0 1) [a, b] 0).1 = r from by show (KkR.mul 0 a b).1 = r; rw [h]] at f
theorem add_f {a b r : I} (h : KkR.add 0 a b = (r, 0)) : Fact (.add 0 1) [a, b] r := by
  have st : (stepK KkR (.add 0 1) [a, b] 0).2 = 0 := by show (KkR.add 0 a b).2 = 0; rw [h]
  have f := (step_fact st).2.2
  rwa [show (stepK KkR (.add 0 1) [a, b] 0).1 = r from by show (KkR.add 0 a b).1 = r; rw [h]] at f
theorem sub_f {a b r : I} (h : KkR.sub 0 a b = (r, 0)) : Fact (.sub 0 1) [a, b] r := by
  have st : (stepK KkR (.sub 0 1) [a, b] 0).2 = 0 := by show (KkR.sub 0 a b).2 = 0; rw [h]
  have f := (step_fact st).2.2
  rwa [show (stepK KkR (.sub 0 1) [a, b] 0).1 = r from by show (KkR.sub 0 a b).1 = r; rw [h]] at f
theorem mul_pt {a b r : I} {x y : Rat} (h : KkR.mul 0 a b = (r, 0)) (hx : Mem a x) (hy : Mem b y) : Mem r (x * y) := p_mul (mul_f h) hx hy
theorem add_pt {a b r : I} {x y : Rat} (h : KkR.add 0 a b = (r, 0)) (hx : Mem a x) (hy : Mem b y) : Mem r (x + y) := p_add (add_f h) hx hy
theorem sub_pt {a b r : I} {x y : Rat} (h : KkR.sub 0 a b = (r, 0)) (hx : Mem a x) (hy : Mem b y) : Mem r (x - y) := p_sub (sub_f h) hx hy
theorem pt_mem (x : F) : Mem (pt x) x.q := ⟨Rat.le_refl, Rat.le_refl⟩
theorem one_mem' : Mem (pt one64) 1 := by have := pt_mem one64; rwa [one_q] at this
theorem okAt_n {cs : List SV} {i : Nat} {n : Nd} (h1 : ckAll cs (i * 19) ndCK = true) (hn : ndR cs (i * 19) = n) (h2 : okNd n i = true) : okAt cs i = true := okAt_mk h1 (by rw [hn]; exact h2)
/-- nothing -/
def bZ : I := ⟨z64, z64⟩
set_option maxRecDepth 100000 in
theorem bZ_B : byE bZ bZ = true ∧ adE bZ bZ bZ = true := by decide +kernel
theorem bZ_0 : InB I.zero bZ := ⟨Int.le_of_eq zz_k.symm, Int.le_of_eq zz_k, Int.le_refl _⟩
theorem bZ_eq {a : I} (h : InB a bZ) : a.lo.k = F.zero.k ∧ a.hi.k = F.zero.k := by
  have h1 : z64.k ≤ a.lo.k := h.1
  have h2 : a.hi.k ≤ z64.k := h.2.1
  have h3 := h.2.2
  have := zz_k
  omega
end Bu
namespace Go.Proofs.YtgjohjgmlleebaaGreat
set_option linter.all false
open Go.RowKit Bu Rx
theorem le_no (u : U8) : (leNd u).k ≠ 5 ∧ (leNd u).k ≠ 6 := by
  show leK u ≠ 5 ∧ leK u ≠ 6
  rcases le_kind u with e | e | e | e <;> rw [e] <;> constructor <;> omega
/-- directions of numbers -/
theorem bw_up (n : Int) : decide ((bwF d64 one64 n).k ≤ z64.k) = false := by
  refine decide_eq_false fun h => ?_
  have h1 := (bwN2 (n := n)).1
  have h2 := q_le.2 h
  have h3 : z64.q = 0 := zero0_q
  rw [h3] at h2
  grind
theorem dirU_ok {x y z : Int} (hx : wN32 x = true) (hy : wN32 y = true) (hz : wN32 z = true) : ObsOk (dirU NprR x y z) := by
  obtain ⟨_, _, _, _, p1, p2⟩ := rk_p
  exact ob_c p2 (ob_c hz (ob_c p1 (ob_c hy (ob_c p1 (ob_c hx ob_n)))))
theorem u6_in {u : U6} (h : u.ok = true) : wN32 u.a0 = true ∧ wN32 u.a1 = true ∧ wN32 u.a2 = true ∧ wN32 u.a3 = true ∧ wN32 u.a4 = true ∧ wN32 u.a5 = true := by
  unfold U6.ok at h
  simpa only [Bool.and_eq_true] using h
theorem fr_rn {n : Int} (h : wN32 n = true) : rnB z64 one64 (frT n) = true := by
  obtain ⟨t, e1, t0, t1, _⟩ := frT_ok h
  have eT : frT n = t := by
    unfold frT
    rw [e1]
    exact toF_F t
  rw [eT]
  have zk : z64.k = 0 := z64_0
  unfold rnB
  rw [decide_eq_true (show z64.k ≤ t.k by omega), decide_eq_true t1]; rfl
theorem u32_w {n : Int} (h : (Lit.int .u32 n).wf = true) : wN32 n = true := by
  have : 0 ≤ n ∧ n ≤ 4294967295 := by simpa [Lit.wf, IntKind.min, IntKind.max, IntKind.signed, IntKind.bits] using h
  exact decide_eq_true this
theorem u8_mk {x0 x1 x2 x3 x4 x5 x6 x7 : Int} (h0 : (Lit.int .u32 x0).wf = true) (h1 : (Lit.int .u32 x1).wf = true) (h2 : (Lit.int .u32 x2).wf = true) (h3 : (Lit.int .u32 x3).wf = true) (h4 : (Lit.int .u32 x4).wf = true) (h5 : (Lit.int .u32 x5).wf = true) (h6 : (Lit.int .u32 x6).wf = true) (h7 : (Lit.int .u32 x7).wf = true) : (U8.mk x0 x1 x2 x3 x4 x5 x6 x7).ok = true := by
  unfold U8.ok
  simp only [u32_w h0, u32_w h1, u32_w h2, u32_w h3, u32_w h4, u32_w h5, u32_w h6, u32_w h7, Bool.and_self]
theorem u6_mk {x0 x1 x2 x3 x4 x5 : Int} (h0 : (Lit.int .u32 x0).wf = true) (h1 : (Lit.int .u32 x1).wf = true) (h2 : (Lit.int .u32 x2).wf = true) (h3 : (Lit.int .u32 x3).wf = true) (h4 : (Lit.int .u32 x4).wf = true) (h5 : (Lit.int .u32 x5).wf = true) : (U6.mk x0 x1 x2 x3 x4 x5).ok = true := by
  unfold U6.ok
  simp only [u32_w h0, u32_w h1, u32_w h2, u32_w h3, u32_w h4, u32_w h5, Bool.and_self]
end Go.Proofs.YtgjohjgmlleebaaGreat
namespace Bu
set_option linter.all false
open Rx Go
/-- a coat's steps -/
structure OvP (i o : I) (w : F) (a : Ch) (s h x y f q t z r : I) : Prop where
  e1 : KkR.sub 0 (pt one64) o = (s, 0)
  e2 : KkR.sub 0 (pt one64) i = (h, 0)
  e3 : KkR.mul 0 h s = (x, 0)
  e4 : KkR.mul 0 x (pt w) = (y, 0)
  e5 : KkR.mul 0 y a.p = (f, 0)
  e6 : KkR.sqr 0 s = (q, 0)
  e7 : KkR.mul 0 q (pt w) = (t, 0)
  e8 : KkR.mul 0 t a.m = (z, 0)
  e9 : KkR.add 0 o z = (r, 0)
theorem OvP.eq {i o : I} {w : F} {a : Ch} {s h x y f q t z r : I} (k : OvP i o w a s h x y f q t z r) : overC KkR i o w a = (⟨f, r⟩, 0) := by
  unfold overC
  have n1 : KkR.num 0 one_ = (pt one64, 0) := rfl
  have n2 : KkR.num 0 w = (pt w, 0) := rfl
  simp only [n1, n2, k.e1, k.e2, k.e3, k.e4, k.e5, k.e6, k.e7, k.e8, k.e9]
end Bu
namespace Go.Proofs.YtgjohjgmlleebaaGreat
set_option linter.all false
open Go.RowKit Bu Rx
set_option maxRecDepth 100000 in
theorem bz1_B : byE bz1 bz1 = true ∧ (decide ((KTR.sqr 0 bz1).2 = 0) && inbB (KTR.sqr 0 bz1).1 bz1) = true := by decide +kernel
theorem sqr_in {x : I} (hx : InB x bz1) : ∃ r, KkR.sqr 0 x = (r, 0) ∧ InB r bz1 := by
  have k := bz1_B.2
  rw [Bool.and_eq_true, decide_eq_true_eq] at k
  obtain ⟨r, e, n⟩ := sqr_inn hx.inn k.1
  exact ⟨r, e, inB_tr n.inB k.2⟩
theorem ov_ok {i o : I} {w : F} {a : Ch} {j : Nat} (hj : j < 20) (hi : Uz1 i) (ho : Uz1 o) (hw : z64.k ≤ w.k ∧ w.k ≤ one64.k) (hp : InB a.p (Pb j)) (hm : InB a.m (Mb j)) :
    ∃ s h x y f q t z r, OvP i o w a s h x y f q t z r ∧ InB f (Pb j) ∧ InB r (Mb (j + 1)) ∧ InB s bz1 ∧ InB h bz1 ∧ InB x bz1 ∧ InB y bz1 ∧ InB q bz1 ∧ InB t bz1 ∧ InB z (Mb j) := by
  have L := lv_ok hj
  obtain ⟨s, e1, b1⟩ := less_in ho.box
  obtain ⟨h, e2, b2⟩ := less_in hi.box
  obtain ⟨x, e3, b3⟩ := by_in b2 b1 bz1_B.1
  obtain ⟨y, e4, b4⟩ := by_in b3 (pt_z1 hw) bz1_B.1
  obtain ⟨f, e5, b5⟩ := by_in b4 hp L.p
  obtain ⟨q, e6, b6⟩ := sqr_in b1
  obtain ⟨t, e7, b7⟩ := by_in b6 (pt_z1 hw) bz1_B.1
  obtain ⟨z, e8, b8⟩ := by_in b7 hm L.m
  obtain ⟨r, e9, b9⟩ := ad_in ho.box b8 L.om
  exact ⟨s, h, x, y, f, q, t, z, r, ⟨e1, e2, e3, e4, e5, e6, e7, e8, e9⟩, b5, b9, b1, b2, b3, b4, b6, b7, b8⟩
set_option maxRecDepth 100000 in
theorem val_bx : (gt (evalK KkR lbV [bz1] 0).1 0).hi.k ≤ (Pb 0).hi.k ∧ bVF.hi.k ≤ (Pb 0).hi.k ∧ one64.k ≤ (Pb 0).hi.k := by decide +kernel
set_option maxRecDepth 100000 in
theorem val_box {l : Lf} (h : LfP l) : ∃ a, vlG GmR KkR l = (a, 0) ∧ InB a (Pb 0) := by
  obtain ⟨x1, x2, x3⟩ := val_bx
  have z0 : (Pb 0).lo.k = z64.k := rfl
  rcases rt_kind h.r with e | e | e | e
  · obtain ⟨k, f, c, v, u⟩ := l
    simp only at e; subst e
    obtain ⟨m, ee, l, _⟩ := box_lb
    have b := box (v := [pF (f c.toNat)]) (w := [bz1]) m ⟨(uz_of (rt1_in h.r h.o.n)).box, trivial⟩ ee
    have b1 : (lbK KkR (pF (f c.toNat))).2 = 0 := b.1
    have k := (b.2 0).inB
    exact ⟨_, lnR_0 b1, Int.le_trans l k.1, Int.le_trans k.2.1 x1, k.2.2⟩
  · obtain ⟨k, f, c, v, u⟩ := l
    simp only at e; subst e
    obtain ⟨a, b⟩ := rt2_in h.r h.o.n
    obtain ⟨sl, hb, e1, e2⟩ := or_leaf h.v h.u (uz_of a) (uz_of b)
    have k := orV_in (uz_of a) (uz_of b) hb
    exact ⟨_, e1, k.lo, Int.le_trans k.hi x3, of_decide_eq_true k.rt⟩
  all_goals
    obtain ⟨ha, f, hf, e1, e2⟩ := gl_leaf h (by rw [e]; simp)
    obtain ⟨r, k1, _, r0, p, b⟩ := gloss_ok h.v h.u ha hf
    exact ⟨r, e1.trans k1, by rw [z0, z64_0]; exact r0, Int.le_trans b.2.1 x2, b.2.2⟩
theorem leaf_val {n : Nd} {p : Int} (h : okNd n p = true) (h5 : n.k ≠ 5) (h6 : n.k ≠ 6) {v u : V3} (hv : OneP v) (hu : OneP u) {k : Nat} (hk : k < 3) : ∃ a, NeR.g (lfE v u k n) = (a, 0) ∧ InB a (Pb 0) ∧ Bu.obsB (lfOb NeR v u n k) = true := by
  have L := leaf_lf h h5 h6 hv hu (k : Int) (by omega) (by omega)
  obtain ⟨a, e1, e2⟩ := val_box L
  obtain ⟨a0, b0⟩ := okNd_leaf h h5 h6
  exact ⟨a, e1, e2, obsB_of (ob_c (decide_eq_true a0) (ob_c (decide_eq_true b0) L.o.val))⟩
theorem zero_Mb {i : Nat} (h : i < 40) : InB I.zero (Mb i) := by
  have zk := zz_k
  refine ⟨?_, ?_, Int.le_refl _⟩
  · show z64.k ≤ F.zero.k; omega
  · show F.zero.k ≤ (Mb i).hi.k
    rw [Mb_k h]
    have : F.zero.k = 0 := rfl
    unfold Mk; omega
/-- no errors -/
theorem evs_ok {v u : V3} (hv : OneP v) (hu : OneP u) {cs : List SV} {len : Nat} (K : OkPg cs len) (hlen : len ≤ 20) {k : Nat} (hk : k < 3) :
    ∀ i, i < len → (evN NeR v u k (fun j => (chL (allE NeR v u cs k) i).getD j Ch.zero) (ndR cs (i * 19))).2 = 0 ∧ InB (ltF NeR v u cs k i).p (Pb i) ∧ InB (ltF NeR v u cs k i).m (Mb i) := by
  have hcv := bzz_bz1 (one_box hv).2.2
  have hcu := bzz_bz1 (one_box hu).2.2
  intro i
  induction i using Nat.strongRecOn with
  | _ i ih =>
    intro hi
    have hnd := K.nd i hi
    have g : ∀ {a : Int}, 0 ≤ a → a < i → (chL (allE NeR v u cs k) i).getD a.toNat Ch.zero = ltF NeR v u cs k a.toNat := fun _ _ => chL_get _ (by omega)
    have hF : ltF NeR v u cs k i = (evN NeR v u k (fun j => (chL (allE NeR v u cs k) i).getD j Ch.zero) (ndR cs (i * 19))).1 := rfl
    rw [hF]
    generalize ndR cs (i * 19) = n at hnd
    by_cases h5 : n.k = 5
    · obtain ⟨⟨a0, a1⟩, b0, b1⟩ := okNd_mix hnd h5
      have w := okNd_mixw hnd h5
      obtain ⟨_, pa, ma⟩ := ih n.a.toNat (by omega) (by omega)
      obtain ⟨_, pb, mb⟩ := ih n.b.toNat (by omega) (by omega)
      have L := lv_ok (i := i - 1) (by omega)
      have e1 : i - 1 + 1 = i := by omega
      obtain ⟨p, p1, p2⟩ := mixK_in w (Pb_le (i := n.a.toNat) (j := i - 1) (by omega) (by omega) pa) (Pb_le (i := n.b.toNat) (j := i - 1) (by omega) (by omega) pb) L.p L.pp
      obtain ⟨m, m1, m2⟩ := mixK_in w (Mb_le (i := n.a.toNat) (j := i - 1) (by omega) (by omega) ma) (Mb_le (i := n.b.toNat) (j := i - 1) (by omega) (by omega) mb) L.m L.mm
      rw [e1] at p2 m2
      have hn : evN NeR v u k (fun j => (chL (allE NeR v u cs k) i).getD j Ch.zero) n = (⟨p, m⟩, 0) := by
        unfold evN
        rw [decide_eq_true h5, cond_true]
        show mixC KkR (n.f 15) ((chL (allE NeR v u cs k) i).getD n.a.toNat Ch.zero) ((chL (allE NeR v u cs k) i).getD n.b.toNat Ch.zero) = _
        rw [g a0 a1, g b0 b1]
        exact mixC_st p1 m1
      rw [hn]
      exact ⟨rfl, p2, m2⟩
    · by_cases h6 : n.k = 6
      · obtain ⟨a0, a1⟩ := okNd_coat hnd h6
        obtain ⟨c1, ct⟩ := okNd_coatf hnd h6
        have hw : z64.k ≤ (n.f (3 + k)).k ∧ (n.f (3 + k)).k ≤ one64.k := ct (3 + k) (by rcases (by omega : k = 0 ∨ k = 1 ∨ k = 2) with rfl | rfl | rfl <;> decide)
        obtain ⟨_, pa, ma⟩ := ih n.a.toNat (by omega) (by omega)
        have e1 : i - 1 + 1 = i := by omega
        obtain ⟨fi, i1, i2⟩ := fd_all hcv (bn_of c1)
        obtain ⟨fo, o1, o2⟩ := fd_all hcu (bn_of c1)
        obtain ⟨s, h, x, y, f, q, t, z, r, O, bf, br, _⟩ := ov_ok (j := i - 1) (by omega) i2 o2 hw (Pb_le (i := n.a.toNat) (j := i - 1) (by omega) (by omega) pa) (Mb_le (i := n.a.toNat) (j := i - 1) (by omega) (by omega) ma)
        rw [e1] at br
        have hn : evN NeR v u k (fun j => (chL (allE NeR v u cs k) i).getD j Ch.zero) n = (⟨f, r⟩, 0) := by
          unfold evN
          rw [decide_eq_false h5, decide_eq_true h6, cond_false, cond_true]
          have d1 : NeR.D v.z ⟨n.f 14, n.f 14⟩ = (fi, 0) := i1
          have d2 : NeR.D u.z ⟨n.f 14, n.f 14⟩ = (fo, 0) := o1
          rw [d1, d2]
          show overC KkR fi fo (n.f (3 + k)) ((chL (allE NeR v u cs k) i).getD n.a.toNat Ch.zero) = _
          rw [g a0 a1]
          exact O.eq
        rw [hn]
        exact ⟨rfl, Pb_le (i := i - 1) (j := i) (by omega) (by omega) bf, br⟩
      · obtain ⟨d, d1, d2, d3⟩ := leaf_val hnd h5 h6 hv hu hk
        have hn : evN NeR v u k (fun j => (chL (allE NeR v u cs k) i).getD j Ch.zero) n = (⟨d, I.zero⟩, 0) := by
          unfold evN
          rw [decide_eq_false h5, decide_eq_false h6, cond_false, cond_false, d1]
        rw [hn]
        exact ⟨rfl, Pb_le (i := 0) (by omega) (by omega) d2, zero_Mb (by omega)⟩
theorem evs_all {v u : V3} (hv : OneP v) (hu : OneP u) {cs : List SV} {len : Nat} (K : OkPg cs len) (hlen : len ≤ 20) : evB NeR v u cs len = true := by
  have hcv := bzz_bz1 (one_box hv).2.2
  have hcu := bzz_bz1 (one_box hu).2.2
  refine List.all_eq_true.2 fun i hi => ?_
  have hi' := List.mem_range.1 hi
  have hnd := K.nd i hi'
  have k0 := (evs_ok hv hu K hlen (k := 0) (by omega) i hi').1
  have k1 := (evs_ok hv hu K hlen (k := 1) (by omega) i hi').1
  have k2 := (evs_ok hv hu K hlen (k := 2) (by omega) i hi').1
  unfold evNB
  simp only [k0, k1, k2, decide_true, Bool.and_true]
  generalize ndR cs (i * 19) = n at hnd
  by_cases h5 : n.k = 5
  · rw [decide_eq_true h5]; rfl
  · by_cases h6 : n.k = 6
    · obtain ⟨c1, _⟩ := okNd_coatf hnd h6
      obtain ⟨fi, i1, i2⟩ := fd_all hcv (bn_of c1)
      obtain ⟨fo, o1, o2⟩ := fd_all hcu (bn_of c1)
      have d1 : NeR.D v.z ⟨n.f 14, n.f 14⟩ = (fi, 0) := i1
      have d2 : NeR.D u.z ⟨n.f 14, n.f 14⟩ = (fo, 0) := o1
      have q1 : Bu.obsB (NeR.dO v.z ⟨n.f 14, n.f 14⟩) = true := obsB_of (fd_o hcv c1)
      have q2 : Bu.obsB (NeR.dO u.z ⟨n.f 14, n.f 14⟩) = true := obsB_of (fd_o hcu c1)
      rw [decide_eq_false h5, decide_eq_true h6, d1, d2, q1, q2]; rfl
    · obtain ⟨_, _, _, q0⟩ := leaf_val hnd h5 h6 hv hu (k := 0) (by omega)
      obtain ⟨_, _, _, q1⟩ := leaf_val hnd h5 h6 hv hu (k := 1) (by omega)
      obtain ⟨_, _, _, q2⟩ := leaf_val hnd h5 h6 hv hu (k := 2) (by omega)
      rw [decide_eq_false h5, decide_eq_false h6, q0, q1, q2]; rfl
end Go.Proofs.YtgjohjgmlleebaaGreat
namespace Bu
set_option linter.all false
open Rx Go
set_option maxRecDepth 100000 in
theorem zP_B : (decide ((cMul dMul 0 bZ (Pb 0)).2 = 0) && inbB (cMul dMul 0 bZ (Pb 0)).1 bZ) = true := by decide +kernel
theorem z_mul {x a r : I} (hx : InB x bZ) (ha : InB a (Pb 0)) (h : KkR.mul 0 x a = (r, 0)) : InB r bZ := by
  have k := zP_B
  rw [Bool.and_eq_true, decide_eq_true_eq] at k
  obtain ⟨r', e, n⟩ := mul_inn hx.inn ha.inn k.1
  have e' : KkR.mul 0 x a = (r', 0) := e
  rw [h] at e'
  rw [(Prod.mk.inj e').1]
  exact inB_tr n.inB k.2
theorem mul_z {x a r : I} (hx : InB x bz1) (ha : InB a bZ) (h : KkR.mul 0 x a = (r, 0)) : InB r bZ := by
  obtain ⟨r', e, n⟩ := by_in hx ha bZ_B.1
  rw [h] at e
  rw [(Prod.mk.inj e).1]
  exact n
theorem bZ_mem {a : I} (h : InB a bZ) : Mem a 0 := by
  obtain ⟨e1, e2⟩ := bZ_eq h
  have h1 : a.lo = F.zero := F.ext' e1
  have h2 : a.hi = F.zero := F.ext' e2
  exact ⟨by rw [h1, q_zero]; exact Rat.le_refl, by rw [h2, q_zero]; exact Rat.le_refl⟩
end Bu
namespace Go.Proofs.YtgjohjgmlleebaaGreat
set_option linter.all false
open Go.RowKit Bu Rx
theorem ltF_leaf {v u : V3} {cs : List SV} {k i : Nat} {n : Nd} {d : I} (hn : ndR cs (i * 19) = n) (h5 : n.k ≠ 5) (h6 : n.k ≠ 6) (hd : NeR.g (lfE v u k n) = (d, 0)) : ltF NeR v u cs k i = ⟨d, I.zero⟩ := by
  show (evN NeR v u k _ (ndR cs (i * 19))).1 = _
  rw [hn]
  unfold evN
  rw [decide_eq_false h5, decide_eq_false h6, cond_false, cond_false, hd]
theorem ltF_coat {v u : V3} {cs : List SV} {k i : Nat} {n : Nd} {fi fo s h x y f q t z r : I} (hn : ndR cs (i * 19) = n) (h6 : n.k = 6) (ha : 0 ≤ n.a ∧ n.a < i) (d1 : NeR.D v.z ⟨n.f 14, n.f 14⟩ = (fi, 0)) (d2 : NeR.D u.z ⟨n.f 14, n.f 14⟩ = (fo, 0))
    (O : OvP fi fo (n.f (3 + k)) (ltF NeR v u cs k n.a.toNat) s h x y f q t z r) : ltF NeR v u cs k i = ⟨f, r⟩ := by
  show (evN NeR v u k (fun j => (chL (allE NeR v u cs k) i).getD j Ch.zero) (ndR cs (i * 19))).1 = _
  rw [hn]
  unfold evN
  rw [decide_eq_false (show n.k ≠ 5 by omega), decide_eq_true h6, cond_false, cond_true, d1, d2]
  show (overC KkR fi fo (n.f (3 + k)) ((chL (allE NeR v u cs k) i).getD n.a.toNat Ch.zero)).1 = _
  have g : (chL (allE NeR v u cs k) i).getD n.a.toNat Ch.zero = ltF NeR v u cs k n.a.toNat := chL_get _ (show n.a.toNat < i by omega)
  rw [g, O.eq]
noncomputable def WcR : Nlc := ⟨NprR, ER, unV KkR, unB, fun c n => lnR (fdK KkR c n) 0, fdO, meetsB⟩
theorem et_ok {u : U6} {cs : List SV} {len : Nat} (h : okPg cs len = true) (hl : cs.length = len * 19) (hlen : len ≤ 20) : ObsOk (etU WcR u cs len) := by
  have K := okPg_ok h
  have hv : OneP (twA (unV KkR) bwF u) := twP _ _ _
  have hu : OneP (twB (unV KkR) bwF u) := twP _ _ _
  have hB : evB NeR (twA (unV KkR) bwF u) (twB (unV KkR) bwF u) cs len = true := evs_all hv hu K hlen
  exact ob_a (ob_c (decide_eq_true hl) (ob_c h (ob_c hB (ob_a (one_dir hu) (one_dir hv)))))
    (ob_c (bw_up _) (ob_c (bw_up _) (ob_c (twU _ _ _) (ob_c (twU _ _ _) (ob_c h ob_n)))))
def coNd (n t0 t1 t2 : F) : Nd := ⟨6, ndM z64 z64 z64 t0 t1 t2 z64 z64 z64 z64 z64 z64 z64 z64 n z64, 0, 0⟩
theorem okPg_1 (a : U8) : okPg (leC NprR a) 1 = true := okPg_mk rfl (by decide) (by decide) fun i hi => by
  obtain rfl : i = 0 := by omega
  exact okAt_n (by kernel_rfl) (n := leNd a) (by kernel_rfl) (okNd_le a _)
theorem okPg_2 (a : U8) {n t0 t1 t2 : F} (hn : rnB minIo four64 n = true) (h0 : rnB z64 one64 t0 = true) (h1 : rnB z64 one64 t1 = true) (h2 : rnB z64 one64 t2 = true) : okPg (leC NprR a ++ coJ n t0 t1 t2 0) 2 = true := okPg_mk rfl (by decide) (by decide) fun i hi => by
  rcases (by omega : i = 0 ∨ i = 1) with rfl | rfl
  · exact okAt_n (by kernel_rfl) (n := leNd a) (by kernel_rfl) (okNd_le a _)
  · exact okAt_n (by kernel_rfl) (n := coNd n t0 t1 t2) (by kernel_rfl) (okNd_6 hn h0 h1 h2 (by decide) (by decide))
theorem nd_2a (a : U8) (n t0 t1 t2 : F) : ndR (leC NprR a ++ coJ n t0 t1 t2 0) (0 * 19) = leNd a := by kernel_rfl
theorem nd_2b (a : U8) (n t0 t1 t2 : F) : ndR (leC NprR a ++ coJ n t0 t1 t2 0) (1 * 19) = coNd n t0 t1 t2 := by kernel_rfl
theorem nd_1a (a : U8) : ndR (leC NprR a) (0 * 19) = leNd a := by kernel_rfl
theorem coNd_f (n t0 t1 t2 : F) : (coNd n t0 t1 t2).f 14 = n ∧ (coNd n t0 t1 t2).f (3 + 0) = t0 ∧ (coNd n t0 t1 t2).f (3 + 1) = t1 ∧ (coNd n t0 t1 t2).f (3 + 2) = t2 := ⟨rfl, rfl, rfl, rfl⟩
/-- one channel of a leaf, of a coat over it -/
theorem co_ch (a : U8) {v u : V3} (hv : OneP v) (hu : OneP u) {n t0 t1 t2 : F} (hn : rnB minIo four64 n = true) (h0 : rnB z64 one64 t0 = true) (h1 : rnB z64 one64 t1 = true) (h2 : rnB z64 one64 t2 = true) {k : Nat} (hk : k < 3) :
    ∃ d o f r, NeR.D u.z ⟨n, n⟩ = (o, 0) ∧ ltF NeR v u (leC NprR a) k 0 = ⟨d, I.zero⟩ ∧ ltF NeR v u (leC NprR a ++ coJ n t0 t1 t2 0) k 1 = ⟨f, r⟩ ∧ f.lo.q ≤ d.hi.q ∧ meetsB r o = true ∧ ((coNd n t0 t1 t2).f (3 + k) = F.zero → InB f bZ) := by
  obtain ⟨na5, na6⟩ := le_no a
  have hcv := bzz_bz1 (one_box hv).2.2
  have hcu := bzz_bz1 (one_box hu).2.2
  obtain ⟨d, d1, d2, _⟩ := leaf_val (okNd_le a 0) na5 na6 hv hu hk
  obtain ⟨fi, i1, i2⟩ := fd_all hcv (bn_of (rn_one hn))
  obtain ⟨fo, o1, o2⟩ := fd_all hcu (bn_of (rn_one hn))
  have hw : z64.k ≤ ((coNd n t0 t1 t2).f (3 + k)).k ∧ ((coNd n t0 t1 t2).f (3 + k)).k ≤ one64.k := by
    obtain ⟨_, w0, w1, w2⟩ := coNd_f n t0 t1 t2
    rcases (by omega : k = 0 ∨ k = 1 ∨ k = 2) with rfl | rfl | rfl
    · rw [w0]; exact rn_one h0
    · rw [w1]; exact rn_one h1
    · rw [w2]; exact rn_one h2
  have e0 : ltF NeR v u (leC NprR a ++ coJ n t0 t1 t2 0) k 0 = ⟨d, I.zero⟩ := ltF_leaf (nd_2a a n t0 t1 t2) na5 na6 d1
  obtain ⟨s, h, x, y, f, q, t, z, r, O, bf, br, bs, bh, bx, by', bq, bt, bz⟩ := ov_ok (i := fi) (o := fo) (w := (coNd n t0 t1 t2).f (3 + k)) (a := ⟨d, I.zero⟩) (j := 0) (by omega) i2 o2 hw d2 (zero_Mb (by omega))
  have e1 : ltF NeR v u (leC NprR a ++ coJ n t0 t1 t2 0) k 1 = ⟨f, r⟩ := ltF_coat (nd_2b a n t0 t1 t2) rfl ⟨by show (0 : Int) ≤ 0; decide, by show (0 : Int) < 1; decide⟩ i1 o1 (by rw [show (coNd n t0 t1 t2).a.toNat = 0 from rfl, e0]; exact O)
  generalize (coNd n t0 t1 t2).f (3 + k) = w at hw O ⊢
  refine ⟨d, fo, f, r, o1, ltF_leaf (nd_1a a) na5 na6 d1, e1, ?_, ?_, ?_⟩
  · have mi : Mem fi fi.lo.q := ⟨Rat.le_refl, rt_le i2.rt⟩
    have mo : Mem fo fo.lo.q := ⟨Rat.le_refl, rt_le o2.rt⟩
    have md : Mem d d.lo.q := ⟨Rat.le_refl, q_le.2 d2.2.2⟩
    have mx := mul_pt O.e3 (sub_pt O.e2 one_mem' mi) (sub_pt O.e1 one_mem' mo)
    have my := mul_pt O.e4 mx (pt_mem w)
    have mf := mul_pt O.e5 my md
    have zq : z64.q = 0 := zero0_q
    have i0 := q_le.2 i2.lo; have i1' := q_le.2 (Int.le_trans (of_decide_eq_true i2.rt) i2.hi)
    have o0 := q_le.2 o2.lo; have o1' := q_le.2 (Int.le_trans (of_decide_eq_true o2.rt) o2.hi)
    have w0 := q_le.2 hw.1; have w1 := q_le.2 hw.2
    have d0 := q_le.2 d2.1
    have dd := q_le.2 d2.2.2
    have e : (Pb 0).lo = z64 := rfl
    rw [e, zq] at d0
    rw [zq] at i0 o0 w0
    rw [one_q] at i1' o1' w1
    have h1 := mf.lo
    have p1 := Rat.mul_nonneg (show 0 ≤ 1 - fi.lo.q by grind) (show 0 ≤ 1 - fo.lo.q by grind)
    have p2 := Rat.mul_nonneg o0 (show 0 ≤ 1 - fi.lo.q by grind)
    generalize hA : (1 - fi.lo.q) * (1 - fo.lo.q) = A at *
    have a1 : A ≤ 1 := by grind
    have p3 := Rat.mul_nonneg p1 w0
    have p4 := Rat.mul_nonneg p1 (show 0 ≤ 1 - w.q by grind)
    have p5 := Rat.mul_nonneg (show 0 ≤ 1 - A * w.q by grind) d0
    show f.lo.q ≤ d.hi.q
    grind
  · have z0 := mul_z bt bZ_0 O.e8
    have mo : Mem fo fo.lo.q := ⟨Rat.le_refl, rt_le o2.rt⟩
    have mr := add_pt O.e9 mo (bZ_mem z0)
    exact mem_meets mr (by rw [Rat.add_zero]; exact mo)
  · intro hw0
    have y0 : InB y bZ := mul_z bx (by rw [hw0]; exact bZ_0) O.e4
    exact z_mul y0 d2 O.e5
theorem oracleLc : OracleOk Tryz.prog (OLc WcR) := .cons le8G.of (.cons frqG.of (.cons bwG.of (.cons etK.of (.cons unG.of (.cons fdG.of (.cons ptG.of (.cons meetsG.of (.cons awake21G.of (.nil _)))))))))
theorem ecK_mk {W : Nlc} {a : U8} {i t0 t1 t2 : Int} {u : U6} {k : Nat} {d z o f r f' r' : I} (hL : liU W u (leC W.N a) 1 k = ⟨d, z⟩) (hC : liU W u (ecC W a i t0 t1 t2) 2 k = ⟨f, r⟩) (hB : liU W u (ecB W a i) 2 k = ⟨f', r'⟩) (ho : (ecI W i u).1 = o)
    (c : decide (d.hi.k < f.lo.k) = false) (m1 : W.me r o = true) (m2 : W.me r' o = true) (q : eqIv f' I.zero = true) : ObsOk (ecK W a i t0 t1 t2 u k) := by
  unfold ecK
  rw [hL, hC, hB, ho, q]
  exact ob_c c (ob_c m1 (ob_c m2 (ob_c rfl ob_n)))
theorem liU_R (u : U6) (cs : List SV) (len k : Nat) : liU WcR u cs len k = ltF NeR (twA (unV KkR) bwF u) (twB (unV KkR) bwF u) cs k (len - 1) := rfl
theorem ecC_R (a : U8) (i t0 t1 t2 : Int) : ecC WcR a i t0 t1 t2 = leC NprR a ++ coJ (bwF minIo four64 i) (frT t0) (frT t1) (frT t2) 0 := rfl
theorem ecB_R (a : U8) (i : Int) : ecB WcR a i = leC NprR a ++ coJ (bwF minIo four64 i) F.zero F.zero F.zero 0 := rfl
theorem ecI_R (i : Int) (u : U6) : ecI WcR i u = NeR.D (twB (unV KkR) bwF u).z ⟨bwF minIo four64 i, bwF minIo four64 i⟩ := rfl
theorem eq_z {f : I} (h : InB f bZ) : eqIv f I.zero = true := by
  obtain ⟨e1, e2⟩ := bZ_eq h
  unfold eqIv
  rw [decide_eq_true (show f.lo.k = I.zero.lo.k from e1), decide_eq_true (show f.hi.k = I.zero.hi.k from e2)]; rfl
theorem ec_kk {a : U8} {i t0 t1 t2 : Int} {u : U6} (hn : rnB minIo four64 (bwF minIo four64 i) = true) (h0 : rnB z64 one64 (frT t0) = true) (h1 : rnB z64 one64 (frT t1) = true) (h2 : rnB z64 one64 (frT t2) = true) {k : Nat} (hk : k < 3) : ObsOk (ecK WcR a i t0 t1 t2 u k) := by
  have hv : OneP (twA (unV KkR) bwF u) := twP _ _ _
  have ho : OneP (twB (unV KkR) bwF u) := twP _ _ _
  have z0 : rnB z64 one64 F.zero = true := by decide +kernel
  obtain ⟨d, o, f, r, c1, c2, c3, c4, c5, _⟩ := co_ch a hv ho hn h0 h1 h2 hk
  obtain ⟨d', o', f', r', c1', c2', c3', c4', c5', c6'⟩ := co_ch a hv ho hn z0 z0 z0 hk
  rw [c1] at c1'
  obtain rfl := (Prod.mk.inj c1').1
  have hz : (coNd (bwF minIo four64 i) F.zero F.zero F.zero).f (3 + k) = F.zero := by
    obtain ⟨_, w0, w1, w2⟩ := coNd_f (bwF minIo four64 i) F.zero F.zero F.zero
    rcases (by omega : k = 0 ∨ k = 1 ∨ k = 2) with rfl | rfl | rfl
    · exact w0
    · exact w1
    · exact w2
  have fz := c6' hz
  refine ecK_mk (z := I.zero) (d := d) (o := o) (f := f) (r := r) (f' := f') (r' := r') ?_ ?_ ?_ ?_ ?_ c5 c5' (eq_z fz)
  · rw [liU_R]; exact c2
  · rw [liU_R, ecC_R]; exact c3
  · rw [liU_R, ecB_R]; exact c3'
  · rw [ecI_R, c1]
  · refine decide_eq_false fun h => ?_
    exact Rat.not_lt.2 c4 (q_lt.2 h)
theorem ec_ok {a : U8} {i t0 t1 t2 : Int} {u : U6} (ha : a.ok = true) (hi : wN32 i = true) (h0 : wN32 t0 = true) (h1 : wN32 t1 = true) (h2 : wN32 t2 = true) (hu : u.ok = true) : ObsOk (ecOb WcR a i t0 t1 t2 u) := by
  obtain ⟨k0, k1, k2, k3, k4, k5⟩ := u6_in hu
  have hv : OneP (twA (unV KkR) bwF u) := twP _ _ _
  have ho : OneP (twB (unV KkR) bwF u) := twP _ _ _
  have hn : rnB minIo four64 (bwF minIo four64 i) = true := bw_rn rk_le.2.2.1
  have z0 : rnB z64 one64 F.zero = true := by decide +kernel
  have kk : ∀ k, k < 3 → ObsOk (ecK WcR a i t0 t1 t2 u k) := fun k hk => ec_kk hn (fr_rn h0) (fr_rn h1) (fr_rn h2) hk
  have hcu := bzz_bz1 (one_box ho).2.2
  obtain ⟨fo, o1, _⟩ := fd_all hcu (bn_of (rn_one hn))
  have eo : ecI WcR i u = (fo, 0) := (ecI_R i u).trans o1
  have dz : ObsOk (fdO (twB (unV KkR) bwF u).z (pF (bwF minIo four64 i))) := fd_o hcu (rn_one hn)
  refine ob_a (kk 2 (by omega)) (ob_a (kk 1 (by omega)) (ob_a (kk 0 (by omega)) (ob_c (by rw [eo]; rfl) (ob_a dz (ob_c (twU _ _ _) (ob_a (et_ok (okPg_2 a hn z0 z0 z0) rfl (by decide)) (ob_a (et_ok (okPg_2 a hn (fr_rn h0) (fr_rn h1) (fr_rn h2)) rfl (by decide)) (ob_a (et_ok (okPg_1 a) rfl (by decide)) (ob_a (ob_c h2 (ob_c h1 (ob_c h0 ob_n))) (ob_a (dirU_ok k3 k4 k5) (ob_a (dirU_ok k0 k1 k2) (ob_c rk_p.2.2.1 (ob_c hi (ob_c ha ob_n))))))))))))))
theorem ec_pl (a : U8) (i t0 t1 t2 : Int) (u : U6) : plains [a.sv, .si .u32 i, .agg [.si .u32 t0, .si .u32 t1, .si .u32 t2], u.sv] = some [.agg #[.int .u32 a.a0, .int .u32 a.a1, .int .u32 a.a2, .int .u32 a.a3, .int .u32 a.a4, .int .u32 a.a5, .int .u32 a.a6, .int .u32 a.a7], .int .u32 i, .agg #[.int .u32 t0, .int .u32 t1, .int .u32 t2], .agg #[.int .u32 u.a0, .int .u32 u.a1, .int .u32 u.a2, .int .u32 u.a3, .int .u32 u.a4, .int .u32 u.a5]] := rfl
theorem evalCoat_row (x0 x1 x2 x3 x4 x5 x6 x7 i t0 t1 t2 y0 y1 y2 y3 y4 y5 : Int) (h0 : (Lit.int .u32 x0).wf = true) (h1 : (Lit.int .u32 x1).wf = true) (h2 : (Lit.int .u32 x2).wf = true) (h3 : (Lit.int .u32 x3).wf = true) (h4 : (Lit.int .u32 x4).wf = true) (h5 : (Lit.int .u32 x5).wf = true) (h6 : (Lit.int .u32 x6).wf = true) (h7 : (Lit.int .u32 x7).wf = true)
    (hi : (Lit.int .u32 i).wf = true) (g0 : (Lit.int .u32 t0).wf = true) (g1 : (Lit.int .u32 t1).wf = true) (g2 : (Lit.int .u32 t2).wf = true) (k0 : (Lit.int .u32 y0).wf = true) (k1 : (Lit.int .u32 y1).wf = true) (k2 : (Lit.int .u32 y2).wf = true) (k3 : (Lit.int .u32 y3).wf = true) (k4 : (Lit.int .u32 y4).wf = true) (k5 : (Lit.int .u32 y5).wf = true) (W : World) :
    Calls Tryz.prog 11 #[.agg #[.int .u32 x0, .int .u32 x1, .int .u32 x2, .int .u32 x3, .int .u32 x4, .int .u32 x5, .int .u32 x6, .int .u32 x7], .int .u32 i, .agg #[.int .u32 t0, .int .u32 t1, .int .u32 t2], .agg #[.int .u32 y0, .int .u32 y1, .int .u32 y2, .int .u32 y3, .int .u32 y4, .int .u32 y5]] W fun e w' => e = .returned (.bool true) ∧ Below W.heap.size W w' :=
  calls_of_val goodG oracleLc 120 (ecRun WcR ⟨x0, x1, x2, x3, x4, x5, x6, x7⟩ i t0 t1 t2 ⟨y0, y1, y2, y3, y4, y5⟩) (ec_ok (u8_mk h0 h1 h2 h3 h4 h5 h6 h7) (u32_w hi) (u32_w g0) (u32_w g1) (u32_w g2) (u6_mk k0 k1 k2 k3 k4 k5)) (ec_pl _ _ _ _ _ _) rfl W
end Go.Proofs.YtgjohjgmlleebaaGreat
