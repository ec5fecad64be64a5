/- burnishlow.Prog as a known function. burnishlow.Prog as a known function: the whole. burnishlow.Prog as a known function: the contract. chances: the mirror's part does not hang on the leaves. What leaves send, plain: gloss. Oren's value, plain: a slope, then one line. Oren's slope, plain: in cases; parts; both ways. Layer 11's laws, by the reckoner. Leaves, plain: values and densities of directions of numbers. Chances of right programs, plain: no errors; boxes. Roots of narrow intervals are narrow; directions of numbers are narrow; what a surface reflects is above 0, and all at the edge. Chances of right programs: no errors, boxes. DensMix by the reckoner; right programs of numbers. The chapter's examples of layer 22. -/
import Derived.Test.YtgjohjgmlleebaaGreatZ12
import Derived.Test.YtgjohjgmlleebaaGreatZ11
namespace Go.Proofs.YtgjohjgmlleebaaGreat
set_option linter.all false
open Go.RowKit Bu Rx
theorem LandsB.seq {P : Program} {E : ExtF} {O : OracleF} {B : Bs} (hP : Rx.Good P E) (hO : OracleOk P O) {n : Nat} {c d : Code} {s : St} {ex : Ex} {Ψ : St → Prop} (h : Lands P E O n c s .normal) (ho : ObsOk (aft P E O n c s).ob) (k : RunsB P B d (aft P E O n c s) ex Ψ) : RunsB P B (.seq c d) s ex Ψ :=
  RunsB.seq (RunsP.bs (h.runs hP hO ho)) fun _ ht => ht ▸ k
structure PrIn (N : Npr) (cs : List SV) (len : Nat) : Prop where
  row : ∀ j, j < len → j < 8 → ckAll cs (j * 8) u8CK = true
  ok : ∀ j, j < len → j < 8 → prgB N (u8At cs (j * 8)) = true
section
variable {N : Npr} (hO : OracleOk Tryz.prog (OPr N)) (hN : N.p minIor_ maxIor_ = true) (hZ : N.o u8Z = true) {e : TypeId} {cells cs : List SV} {off len cap : Nat} {B : Bs} (hB : B.M.length = 1) (hid : idsLts 0 cells = true) (hca : CellsAt cells off cs) (hcap : len ≤ cap) (K : PrIn N cs len)
include hO hN hB hca hcap K
end
end Go.Proofs.YtgjohjgmlleebaaGreat
namespace Go.Proofs.YtgjohjgmlleebaaGreat
set_option linter.all false
open Go.RowKit Bu Rx
section
variable (N : Npr) (e : TypeId) (cells : List SV) (off len cap : Nat)
end
end Go.Proofs.YtgjohjgmlleebaaGreat
namespace Go.Proofs.YtgjohjgmlleebaaGreat
set_option linter.all false
open Go.RowKit Bu Rx
def NprR : Npr := ⟨leK, leF bwF, U8.ok, frT, wN32, bwF, pairB⟩
end Go.Proofs.YtgjohjgmlleebaaGreat
namespace Go.Proofs.YtgjohjgmlleebaaGreat
set_option linter.all false
open Go.RowKit Bu Rx
end Go.Proofs.YtgjohjgmlleebaaGreat
namespace Go.Proofs.YtgjohjgmlleebaaGreat
set_option linter.all false
open Go.RowKit Bu Rx

theorem lnR_0 {E : List I × Int} {i : Nat} (h : E.2 = 0) : lnR E i = (gt E.1 i, 0) := by
  unfold lnR; rw [show neB E.2 = false by rw [h]; rfl]; rfl
theorem ggR_0 {p : List Bu.Op} {c al : I} (h : (evalK KkR p [c, al] 0).2 = 0) : ggR KkR p c al = (gt (evalK KkR p [c, al] 0).1 0, 0) := by
  unfold ggR ggE; rw [show neB (evalK KkR p [c, al] 0).2 = false by rw [h]; rfl]; rfl
set_option maxRecDepth 100000 in
theorem gl_of {v u : V3} {al : I} (h : (miE v u).2 = 0) (eD : (evalK KkR ggD [lnI v u, al] 0).2 = 0) (e2 : (evalK KkR gg2 [u.z, v.z, al] 0).2 = 0) (e1 : (evalK KkR gg1 [u.z, al] 0).2 = 0) (e : (giE v u al).2 = 0) : glR KkR GlR v u al = (⟨lnI v u, hfI v u, giV v u al, giD v u al⟩, 0) := by
  have eH : GlR.H v u = miE v u := rfl
  have h1 : glH GlR v u = (lnI v u, hfI v u) := by unfold glH; rw [eH, lnR_0 h, lnR_0 h]; rfl
  have h2 : GlR.d (lnI v u) al = (Da v u al, 0) := ggR_0 eD
  have h3 : GlR.b v.z u.z al = (Ga v u al, 0) := by
    have q : GlR.b = fun c d al => lnR (g2K KkR c d al) 0 := rfl
    rw [q]
    have e3 : (g2K KkR v.z u.z al).2 = 0 := e2
    show lnR (g2K KkR v.z u.z al) 0 = _
    rw [lnR_0 e3]
    rfl
  have h4 : GlR.o u.z al = (Gb u al, 0) := ggR_0 e1
  have h5 : glE KkR GlR v u al = giE v u al := by unfold glE; rw [h1, h2, h3, h4]; rfl
  unfold glR glErr glV
  rw [h1, h2, h3, h4, h5, eH, h, e]
  rfl
theorem gl_val {v u : V3} {al : I} (hv : OneP v) (hu : OneP u) (ha : InB al bal) : glR KkR GlR v u al = (⟨lnI v u, hfI v u, giV v u al, giD v u al⟩, 0) :=
  have g := gi_ok hv hu ha
  gl_of (mi_ok hv hu).1 g.eD g.e2 g.e1 g.e
theorem z64_0 : z64.k = 0 := by decide +kernel
/-- within 0 and 1 -/
structure Uz1 (a : I) : Prop where
  rt : rt a = true
  lo : z64.k ≤ a.lo.k
  hi : a.hi.k ≤ one64.k
theorem Uz1.box {a : I} (h : Uz1 a) : InB a bz1 := ⟨h.lo, h.hi, of_decide_eq_true h.rt⟩
end Go.Proofs.YtgjohjgmlleebaaGreat
namespace Bu
set_option linter.all false
open Rx Go

end Bu
namespace Go.Proofs.YtgjohjgmlleebaaGreat
set_option linter.all false
open Go.RowKit Bu Rx

structure B11 (a : I) : Prop where
  rt : rt a = true
  lo : mone64.k ≤ a.lo.k
  hi : a.hi.k ≤ one64.k
theorem B11.box {a : I} (h : B11 a) : InB a b11 := ⟨h.lo, h.hi, of_decide_eq_true h.rt⟩
end Go.Proofs.YtgjohjgmlleebaaGreat
namespace Go.Proofs.YtgjohjgmlleebaaGreat
set_option linter.all false
open Go.RowKit Bu Rx

section
variable {r s i o d p q mx dv : I}
end
end Go.Proofs.YtgjohjgmlleebaaGreat
namespace Bu
set_option linter.all false
open Rx Go

def Lf.c0 (l : Lf) : Lf := ⟨l.k, l.f, 0, l.v, l.u⟩
end Bu
namespace Go.Proofs.YtgjohjgmlleebaaGreat
set_option linter.all false
open Go.RowKit Bu Rx

end Go.Proofs.YtgjohjgmlleebaaGreat
namespace Go.Proofs.YtgjohjgmlleebaaGreat
set_option linter.all false
open Go.RowKit Bu Rx

theorem rng_in {x l h : F} {o : Obs} (k : ObsOk (rngO x l h o)) : (l.k ≤ x.k ∧ x.k ≤ h.k) ∧ ObsOk o := by
  have a := of_decide_eq_false (ob_h k)
  have b := of_decide_eq_false (ob_h (ob_t k))
  exact ⟨⟨by omega, by omega⟩, ob_t (ob_t k)⟩
theorem bnd_of {x l h : F} (k : l.k ≤ x.k ∧ x.k ≤ h.k) : ObsOk (bndO (pF x) l h) := ob_c (decide_eq_true k.2) (ob_c (decide_eq_true k.1) (ob_c (decide_eq_true (Int.le_refl _)) ob_n))
theorem lt3 {P : Nat → Prop} {c : Nat} (h : c < 3) (p0 : P 0) (p1 : P 1) (p2 : P 2) : P c := by
  rcases (by omega : c = 0 ∨ c = 1 ∨ c = 2) with rfl | rfl | rfl
  · exact p0
  · exact p1
  · exact p2
def Rn (l h : F) (x : F) : Prop := l.k ≤ x.k ∧ x.k ≤ h.k
theorem rt1_in {f : Nat → F} (h : ObsOk (rtOb 1 f)) {c : Nat} (hc : c < 3) : Rn z64 one64 (f c) := by
  have h : ObsOk (rtO1 f) := h
  obtain ⟨a2, h⟩ := rng_in (ob_t h)
  obtain ⟨a1, h⟩ := rng_in h
  obtain ⟨a0, _⟩ := rng_in h
  exact lt3 (P := fun c => Rn z64 one64 (f c)) hc a0 a1 a2
theorem rt2_in {f : Nat → F} (h : ObsOk (rtOb 2 f)) {c : Nat} (hc : c < 3) : Rn z64 one64 (f c) ∧ Rn z64 one64 (f 12) := by
  have h : ObsOk (rtO2 f) := h
  obtain ⟨a3, h⟩ := rng_in (ob_t h)
  obtain ⟨a2, h⟩ := rng_in h
  obtain ⟨a1, h⟩ := rng_in h
  obtain ⟨a0, _⟩ := rng_in h
  exact ⟨lt3 (P := fun c => Rn z64 one64 (f c)) hc a0 a1 a2, a3⟩
theorem rt3_in {f : Nat → F} (h : ObsOk (rtOb 3 f)) : Rn minA one64 (f 13) ∧ Rn minIo four64 (f 14) := by
  have h : ObsOk (rtO3 f) := h
  obtain ⟨a3, h⟩ := rng_in (ob_t h)
  obtain ⟨a2, _⟩ := rng_in h
  exact ⟨a2, a3⟩
theorem rt4_in {f : Nat → F} (h : ObsOk (rtOb 4 f)) {c : Nat} (hc : c < 3) : Rn minA one64 (f 13) ∧ Rn minMt maxMt (f (6 + c)) ∧ Rn minMt maxMt (f (9 + c)) := by
  have h : ObsOk (rtO4 f) := h
  obtain ⟨b2, h⟩ := rng_in (ob_t h)
  obtain ⟨b1, h⟩ := rng_in h
  obtain ⟨b0, h⟩ := rng_in h
  obtain ⟨a2, h⟩ := rng_in h
  obtain ⟨a1, h⟩ := rng_in h
  obtain ⟨a0, h⟩ := rng_in h
  obtain ⟨al, _⟩ := rng_in h
  exact ⟨al, lt3 (P := fun c => Rn minMt maxMt (f (6 + c))) hc a0 a1 a2, lt3 (P := fun c => Rn minMt maxMt (f (9 + c))) hc b0 b1 b2⟩
/-- kinds of a right node -/
theorem rt_kind {k : Int} {f : Nat → F} (h : ObsOk (rtOb k f)) : k = 1 ∨ k = 2 ∨ k = 3 ∨ k = 4 := by
  unfold rtOb at h
  split at h
  · exact .inl rfl
  · exact .inr (.inl rfl)
  · exact .inr (.inr (.inl rfl))
  · exact .inr (.inr (.inr rfl))
  · exact absurd (ob_h h) (by simp)
/-- a leaf that may be, two directions that may be, a channel -/
structure LfO (l : Lf) : Prop where
  r : ObsOk (rtOb l.k l.f)
  v : ObsOk (dirO l.v)
  u : ObsOk (dirO l.u)
  c0 : 0 ≤ l.c
  c3 : l.c < 3
theorem LfO.z {l : Lf} (h : LfO l) : LfO l.c0 := ⟨h.r, h.v, h.u, Int.le_refl _, by show (0 : Int) < 3; decide⟩
theorem LfO.n {l : Lf} (h : LfO l) : l.c.toNat < 3 := by have := h.c0; have := h.c3; omega
theorem LfO.ch {l : Lf} (h : LfO l) : ObsOk (chO l) := ob_c (decide_eq_true h.c3) (ob_c (decide_eq_true h.c0) ob_n)
theorem LfO.lk {l : Lf} (h : LfO l) : ObsOk (lkOl l) := ob_a h.u (ob_a h.v (ob_a (ob_c (decide_eq_true h.c3) (ob_c (decide_eq_true h.c0) ob_n)) h.r))
theorem LfO.gl {l : Lf} (h : LfO l) (a : Rn minA one64 (l.f 13)) : ObsOk (glO l.v l.u (pF (l.f 13))) := ob_a (bnd_of a) (ob_a h.v h.u)
theorem LfO.val {l : Lf} (h : LfO l) : ObsOk (vlO l) := by
  have r := h.r
  have lk := h.lk; have ch := h.ch; have n := h.n; have hv := h.v; have hu := h.u; have hg := h.gl
  unfold vlO
  rcases rt_kind r with e | e | e | e <;> rw [e] at r ⊢
  · exact ob_a lk (ob_a ch (bnd_of (rt1_in r n)))
  · obtain ⟨a, b⟩ := rt2_in r n
    exact ob_a lk (ob_a ch (ob_a (bnd_of a) (ob_a (bnd_of b) (ob_a hv hu))))
  · obtain ⟨a, b⟩ := rt3_in r
    exact ob_a lk (ob_a (hg a) (bnd_of b))
  · obtain ⟨a, b, c⟩ := rt4_in r n
    exact ob_a lk (ob_a ch (ob_a (hg a) (ob_a (bnd_of b) (bnd_of c))))
theorem LfO.den {l : Lf} (h : LfO l) : ObsOk (dnO4 l) := by
  have r := h.r
  have lk := h.lk; have ch := h.ch; have n := h.n; have hv := h.v; have hg := h.gl
  unfold dnO4
  rcases rt_kind r with e | e | e | e <;> rw [e] at r ⊢
  · exact ob_a lk (dir_z hv)
  · exact ob_a lk (dir_z hv)
  · exact ob_a lk (hg (rt3_in r).1)
  · exact ob_a lk (hg (rt4_in r n).1)
structure LfP (l : Lf) : Prop where
  r : ObsOk (rtOb l.k l.f)
  v : OneP l.v
  u : OneP l.u
  c0 : 0 ≤ l.c
  c3 : l.c < 3
theorem one_dir {v : V3} (h : OneP v) : ObsOk (dirO v) := by
  obtain ⟨a, b, c⟩ := one_box h
  have e : z64.k ≤ bzz.lo.k := by decide +kernel
  have r : ∀ {x : I}, x.lo.k ≤ x.hi.k → rt x = true := fun k => decide_eq_true k
  exact ob_c (decide_eq_true c.2.1) (ob_c (decide_eq_true (Int.le_trans e c.1)) (ob_c (decide_eq_true b.2.1) (ob_c (decide_eq_true b.1) (ob_c (decide_eq_true a.2.1) (ob_c (decide_eq_true a.1) (ob_c (r c.2.2) (ob_c (r b.2.2) (ob_c (r a.2.2) ob_n))))))))
theorem LfP.o {l : Lf} (h : LfP l) : LfO l := ⟨h.r, one_dir h.v, one_dir h.u, h.c0, h.c3⟩
theorem bal_of {x : F} (h : Rn minA one64 x) : InB (pF x) bal := ⟨h.1, h.2, Int.le_refl _⟩
theorem bn_of {x : F} (h : Rn minIo four64 x) : InB (pF x) bn := ⟨h.1, h.2, Int.le_refl _⟩
set_option maxRecDepth 100000 in
theorem box_lb : lbV.all monoB = true ∧ (evalK KkR lbV [bz1] 0).2 = 0 ∧ z64.k ≤ (gt (evalK KkR lbV [bz1] 0).1 0).lo.k ∧ (evalK KkR lbV [bzz] 0).2 = 0 ∧ z64.k < (gt (evalK KkR lbV [bzz] 0).1 0).lo.k ∧ dtP.all monoB = true ∧ (evalK KkR dtP [bzz, b11, b11, bzz, b11, b11] 0).2 = 0 ∧ tw1 dtP dtP [3, 4, 5, 0, 1, 2] 0 0 = true := by decide +kernel
end Go.Proofs.YtgjohjgmlleebaaGreat
namespace Bu
set_option linter.all false
open Rx Go
/-- how great a value may be behind so many nodes: 2^(60 + i); 2^i -/
def Pk (i : Nat) : Int := (((1083 + i) * 4503599627370496 : Nat) : Int)
def Pb (i : Nat) : I := ⟨z64, F.of (Pk i)⟩
def Mk (i : Nat) : Int := (((1023 + i) * 4503599627370496 : Nat) : Int)
def Mb (i : Nat) : I := ⟨z64, F.of (Mk i)⟩
def inbB (a b : I) : Bool := decide (b.lo.k ≤ a.lo.k) && decide (a.hi.k ≤ b.hi.k)
/-- boxes of products by a part of 1, sums -/
def byE (A C : I) : Bool := decide ((cMul dMul 0 bz1 A).2 = 0) && inbB (cMul dMul 0 bz1 A).1 C
def adE (A B C : I) : Bool := decide ((cAdd dAdd 0 A B).2 = 0) && inbB (cAdd dAdd 0 A B).1 C
def lvB (i : Nat) : Bool := byE (Pb i) (Pb i) && (byE (Mb i) (Mb i) && (adE (Pb i) (Pb i) (Pb (i + 1)) && (adE (Mb i) (Mb i) (Mb (i + 1)) && adE bz1 (Mb i) (Mb (i + 1)))))
set_option maxRecDepth 100000 in
theorem lv_all : (List.range 20).all lvB = true := by decide +kernel
set_option maxRecDepth 100000 in
theorem less_B : (decide ((cSub dSub 0 (pt one64) bz1).2 = 0) && inbB (cSub dSub 0 (pt one64) bz1).1 bz1) = true := by decide +kernel
structure LvP (i : Nat) : Prop where
  p : byE (Pb i) (Pb i) = true
  m : byE (Mb i) (Mb i) = true
  pp : adE (Pb i) (Pb i) (Pb (i + 1)) = true
  mm : adE (Mb i) (Mb i) (Mb (i + 1)) = true
  om : adE bz1 (Mb i) (Mb (i + 1)) = true
theorem lv_ok {i : Nat} (h : i < 20) : LvP i := by
  have k := List.all_eq_true.1 lv_all i (List.mem_range.2 h)
  unfold lvB at k
  simp only [Bool.and_eq_true] at k
  exact ⟨k.1, k.2.1, k.2.2.1, k.2.2.2.1, k.2.2.2.2⟩
theorem pw_lt {n : Nat} (h : n < 1200) : -(T : Int) < ((n * 4503599627370496 : Nat) : Int) ∧ ((n * 4503599627370496 : Nat) : Int) < (T : Int) := by
  have h1 : n * 4503599627370496 ≤ 1200 * 4503599627370496 := Nat.mul_le_mul_right _ (Nat.le_of_lt h)
  have h2 : 1200 * 4503599627370496 < T := by decide +kernel
  have h3 : n * 4503599627370496 < T := Nat.lt_of_le_of_lt h1 h2
  clear h1 h2
  generalize n * 4503599627370496 = m at *
  exact ⟨by omega, Int.ofNat_lt.2 h3⟩
theorem Pb_k {i : Nat} (h : i < 40) : (Pb i).hi.k = Pk i := F.of_k (pw_lt (by omega))
theorem Mb_k {i : Nat} (h : i < 40) : (Mb i).hi.k = Mk i := F.of_k (pw_lt (by omega))
theorem inB_tr {a b c : I} (h : InB a b) (k : inbB b c = true) : InB a c := by
  unfold inbB at k
  rw [Bool.and_eq_true, decide_eq_true_eq, decide_eq_true_eq] at k
  exact ⟨Int.le_trans k.1 h.1, Int.le_trans h.2.1 k.2, h.2.2⟩
set_option maxRecDepth 100000 in
theorem Pb_le {i j : Nat} (h : i ≤ j) (hj : j < 40) {a : I} (k : InB a (Pb i)) : InB a (Pb j) := by
  refine ⟨k.1, ?_, k.2.2⟩
  have h1 := k.2.1
  rw [Pb_k (by omega)] at h1
  rw [Pb_k hj]
  exact Int.le_trans h1 (Int.ofNat_le.2 (Nat.mul_le_mul_right _ (by omega)))
set_option maxRecDepth 100000 in
theorem Mb_le {i j : Nat} (h : i ≤ j) (hj : j < 40) {a : I} (k : InB a (Mb i)) : InB a (Mb j) := by
  refine ⟨k.1, ?_, k.2.2⟩
  have h1 := k.2.1
  rw [Mb_k (by omega)] at h1
  rw [Mb_k hj]
  exact Int.le_trans h1 (Int.ofNat_le.2 (Nat.mul_le_mul_right _ (by omega)))
theorem by_in {x a A C : I} (hx : InB x bz1) (ha : InB a A) (h : byE A C = true) : ∃ r, KkR.mul 0 x a = (r, 0) ∧ InB r C := by
  unfold byE at h
  rw [Bool.and_eq_true, decide_eq_true_eq] at h
  obtain ⟨r, e, n⟩ := mul_inn hx.inn ha.inn h.1
  exact ⟨r, e, inB_tr n.inB h.2⟩
theorem ad_in {a b A B C : I} (ha : InB a A) (hb : InB b B) (h : adE A B C = true) : ∃ r, KkR.add 0 a b = (r, 0) ∧ InB r C := by
  unfold adE at h
  rw [Bool.and_eq_true, decide_eq_true_eq] at h
  obtain ⟨r, e, n⟩ := add_inn ha.inn hb.inn h.1
  exact ⟨r, e, inB_tr n.inB h.2⟩
theorem less_in {x : I} (hx : InB x bz1) : ∃ r, KkR.sub 0 (pt one64) x = (r, 0) ∧ InB r bz1 := by
  have k := less_B
  rw [Bool.and_eq_true, decide_eq_true_eq] at k
  obtain ⟨r, e, n⟩ := sub_inn (a := pt one64) (InB.inn ⟨Int.le_refl _, Int.le_refl _, Int.le_refl _⟩) hx.inn k.1
  exact ⟨r, e, inB_tr n.inB k.2⟩
theorem numF_ (x : F) : KkR.num 0 x = (pt x, 0) := rfl
theorem pt_z1 {w : F} (hw : z64.k ≤ w.k ∧ w.k ≤ one64.k) : InB (pt w) bz1 := ⟨hw.1, hw.2, Int.le_refl _⟩
theorem mixK_st {w : F} {a b s m1 m2 r : I} (h1 : KkR.sub 0 (pt one64) (pt w) = (s, 0)) (h2 : KkR.mul 0 s a = (m1, 0)) (h3 : KkR.mul 0 (pt w) b = (m2, 0)) (h4 : KkR.add 0 m1 m2 = (r, 0)) : mixK KkR 0 w a b = (r, 0) := by
  unfold mixK
  have e1 : KkR.num 0 one_ = (pt one64, 0) := rfl
  simp only [e1, numF_, h1, h2, h3, h4]
theorem mixK_in {w : F} {a b A : I} {C : I} (hw : z64.k ≤ w.k ∧ w.k ≤ one64.k) (ha : InB a A) (hb : InB b A) (h1 : byE A A = true) (h2 : adE A A C = true) : ∃ r, mixK KkR 0 w a b = (r, 0) ∧ InB r C := by
  obtain ⟨s, e1, b1⟩ := less_in (pt_z1 hw)
  obtain ⟨m1, e2, b2⟩ := by_in b1 ha h1
  obtain ⟨m2, e3, b3⟩ := by_in (pt_z1 hw) hb h1
  obtain ⟨r, e4, b4⟩ := ad_in b2 b3 h2
  exact ⟨r, mixK_st e1 e2 e3 e4, b4⟩
theorem zz_k : F.zero.k = z64.k := by decide +kernel
theorem zs_get {f : Nat → F} {js : List Nat} (h : zsB f js = true) {j : Nat} (hj : j ∈ js) : (f j).k = z64.k := (of_decide_eq_true (List.all_eq_true.1 h j hj)).trans zz_k
theorem rn_get {l h : F} {f : Nat → F} {js : List Nat} (k : rsB l h f js = true) {j : Nat} (hj : j ∈ js) : l.k ≤ (f j).k ∧ (f j).k ≤ h.k := by
  have := List.all_eq_true.1 k j hj
  unfold rnB at this
  simpa using this
theorem rn_one {l h x : F} (k : rnB l h x = true) : l.k ≤ x.k ∧ x.k ≤ h.k := by unfold rnB at k; simpa using k
end Bu
namespace Go.Proofs.YtgjohjgmlleebaaGreat
set_option linter.all false
open Go.RowKit Bu Rx
theorem rng_mk {x l h : F} {o : Obs} (k : l.k ≤ x.k ∧ x.k ≤ h.k) (ho : ObsOk o) : ObsOk (rngO x l h o) := ob_c (decide_eq_false (by omega)) (ob_c (decide_eq_false (by omega)) ho)
theorem nd_leaf {n : Nd} {p : Int} (h : okNd n p = true) (h5 : n.k ≠ 5) (h6 : n.k ≠ 6) : ObsOk (rtOb n.k (etaF n.f)) := by
  obtain ⟨k, f, a, b⟩ := n
  simp only at h5 h6
  unfold okNd at h
  simp only [decide_eq_false h5, decide_eq_false h6, cond_false, Bool.false_and] at h
  by_cases h1 : k = 1
  · subst h1
    simp only [decide_true, cond_true, Bool.and_eq_true] at h
    obtain ⟨r, z, _⟩ := h
    have q : ∀ j, j ∈ [3, 4, 5, 6, 7, 8, 9, 10, 11, 12, 13, 14, 15] → (f j).k = z64.k := fun j hj => zs_get z hj
    have g : ∀ j, j ∈ [0, 1, 2] → z64.k ≤ (f j).k ∧ (f j).k ≤ one64.k := fun j hj => rn_get r hj
    show ObsOk (rtO1 (etaF f))
    refine ob_c ?_ (rng_mk (g 2 (by decide)) (rng_mk (g 1 (by decide)) (rng_mk (g 0 (by decide)) ob_n)))
    unfold eqNd q3E
    simp only [Bool.and_eq_true, decide_eq_true_eq]
    exact ⟨⟨rfl, rfl, rfl, trivial⟩, ⟨q 3 (by decide), q 4 (by decide), q 5 (by decide), trivial⟩, ⟨q 6 (by decide), q 7 (by decide), q 8 (by decide), trivial⟩, ⟨q 9 (by decide), q 10 (by decide), q 11 (by decide), trivial⟩, q 12 (by decide), q 13 (by decide), q 14 (by decide), q 15 (by decide), rfl, rfl, trivial⟩
  simp only [decide_eq_false h1, cond_false] at h
  by_cases h2 : k = 2
  · subst h2
    simp only [decide_true, cond_true, Bool.and_eq_true] at h
    obtain ⟨r, z, _⟩ := h
    have q : ∀ j, j ∈ [3, 4, 5, 6, 7, 8, 9, 10, 11, 13, 14, 15] → (f j).k = z64.k := fun j hj => zs_get z hj
    have g : ∀ j, j ∈ [12, 0, 1, 2] → z64.k ≤ (f j).k ∧ (f j).k ≤ one64.k := fun j hj => rn_get r hj
    show ObsOk (rtO2 (etaF f))
    refine ob_c ?_ (rng_mk (g 12 (by decide)) (rng_mk (g 2 (by decide)) (rng_mk (g 1 (by decide)) (rng_mk (g 0 (by decide)) ob_n))))
    unfold eqNd q3E
    simp only [Bool.and_eq_true, decide_eq_true_eq]
    exact ⟨⟨rfl, rfl, rfl, trivial⟩, ⟨q 3 (by decide), q 4 (by decide), q 5 (by decide), trivial⟩, ⟨q 6 (by decide), q 7 (by decide), q 8 (by decide), trivial⟩, ⟨q 9 (by decide), q 10 (by decide), q 11 (by decide), trivial⟩, rfl, q 13 (by decide), q 14 (by decide), q 15 (by decide), rfl, rfl, trivial⟩
  simp only [decide_eq_false h2, cond_false] at h
  by_cases h3 : k = 3
  · subst h3
    simp only [decide_true, cond_true, Bool.and_eq_true] at h
    obtain ⟨r1, r2, z, _⟩ := h
    have q : ∀ j, j ∈ [0, 1, 2, 3, 4, 5, 6, 7, 8, 9, 10, 11, 12, 15] → (f j).k = z64.k := fun j hj => zs_get z hj
    show ObsOk (rtO3 (etaF f))
    refine ob_c ?_ (rng_mk (rn_one r2) (rng_mk (rn_one r1) ob_n))
    unfold eqNd q3E
    simp only [Bool.and_eq_true, decide_eq_true_eq]
    exact ⟨⟨q 0 (by decide), q 1 (by decide), q 2 (by decide), trivial⟩, ⟨q 3 (by decide), q 4 (by decide), q 5 (by decide), trivial⟩, ⟨q 6 (by decide), q 7 (by decide), q 8 (by decide), trivial⟩, ⟨q 9 (by decide), q 10 (by decide), q 11 (by decide), trivial⟩, q 12 (by decide), rfl, rfl, q 15 (by decide), rfl, rfl, trivial⟩
  simp only [decide_eq_false h3, cond_false] at h
  by_cases h4 : k = 4
  · subst h4
    simp only [decide_true, cond_true, Bool.and_eq_true] at h
    obtain ⟨r1, r2, z, _⟩ := h
    have q : ∀ j, j ∈ [0, 1, 2, 3, 4, 5, 12, 14, 15] → (f j).k = z64.k := fun j hj => zs_get z hj
    have g : ∀ j, j ∈ [6, 7, 8, 9, 10, 11] → minMt.k ≤ (f j).k ∧ (f j).k ≤ maxMt.k := fun j hj => rn_get r2 hj
    show ObsOk (rtO4 (etaF f))
    refine ob_c ?_ (rng_mk (g 11 (by decide)) (rng_mk (g 10 (by decide)) (rng_mk (g 9 (by decide)) (rng_mk (g 8 (by decide)) (rng_mk (g 7 (by decide)) (rng_mk (g 6 (by decide)) (rng_mk (rn_one r1) ob_n)))))))
    unfold eqNd q3E
    simp only [Bool.and_eq_true, decide_eq_true_eq]
    exact ⟨⟨q 0 (by decide), q 1 (by decide), q 2 (by decide), trivial⟩, ⟨q 3 (by decide), q 4 (by decide), q 5 (by decide), trivial⟩, ⟨rfl, rfl, rfl, trivial⟩, ⟨rfl, rfl, rfl, trivial⟩, q 12 (by decide), rfl, q 14 (by decide), q 15 (by decide), rfl, rfl, trivial⟩
  simp only [decide_eq_false h4, cond_false] at h
  cases h
end Go.Proofs.YtgjohjgmlleebaaGreat
namespace Bu
set_option linter.all false
open Rx Go
theorem grid_up (s : Nat) (hs : s ≤ 49) {W : Rat} (hW : ((2 ^ s : Nat) : Rat) = W) (hW2 : W ≤ 562949953421312) {x : Rat} (h0 : 0 ≤ x) (h1 : x ≤ 8) : ∃ c c' : F, x < c.q ∧ (c.q - x) * W ≤ 1 ∧ (c'.q - c.q) * W = 1 ∧ x ≤ c'.q := by
  have hp := pow_q s
  rw [hW] at hp
  have f0 : (0 : Int) ≤ (x * W).floor := Rat.le_floor_iff.2 (by simpa using Rat.mul_nonneg h0 (Rat.le_of_lt hp))
  have a1 := Rat.floor_le (x * W)
  have a2 := Rat.lt_floor_add_one (x * W)
  have xW : x * W ≤ 4503599627370496 := by
    have := Rat.mul_le_mul_of_nonneg_right h1 (Rat.le_of_lt hp)
    grind
  have f1 : (x * W).floor ≤ 4503599627370496 := by
    have : (((x * W).floor : Int) : Rat) ≤ ((4503599627370496 : Int) : Rat) := Rat.le_trans a1 xW
    exact Rat.intCast_le_intCast.1 this
  obtain ⟨c, hc⟩ := grid ((x * W).floor + 1) (by omega) s (by omega) (by omega)
  obtain ⟨c', hc'⟩ := grid ((x * W).floor + 2) (by omega) s (by omega) (by omega)
  rw [hW] at hc hc'
  rw [Rat.intCast_add] at hc hc' a2
  have e1 : ((1 : Int) : Rat) = 1 := rfl
  have e2 : ((2 : Int) : Rat) = 2 := rfl
  rw [e1] at hc a2
  rw [e2] at hc'
  generalize (((x * W).floor : Int) : Rat) = m at *
  have lt : x * W < c.q * W := by grind
  have k : x < c.q := by
    apply Rat.not_le.1
    intro g
    have := Rat.mul_le_mul_of_nonneg_right g (Rat.le_of_lt hp)
    grind
  refine ⟨c, c', k, by grind, by grind, ?_⟩
  exact Rat.le_of_mul_le_mul_right (by grind : x * W ≤ c'.q * W) hp
theorem root_wd (s : Nat) (hs : s ≤ 49) {W : Rat} (hW : ((2 ^ s : Nat) : Rat) = W) (hW2 : W ≤ 562949953421312) {l h a b : F} (d : SqD l a) (u : SqU h b) (l8 : l.q ≤ 8) (hab : (b.q - a.q) * W ≤ 2 * l.q) : (h.q - l.q) * W ≤ 2 := by
  have hp := pow_q s
  rw [hW] at hp
  have l0 := d.nn
  obtain ⟨c, c', k1, k2, k3, k4⟩ := grid_up s hs hW hW2 l0 l8
  have c2 : a.q < c.q * c.q := by
    apply Rat.not_le.1
    intro g
    have := d.top c (by grind) g
    grind
  have hr : 0 < c'.q - c.q := by
    apply Rat.not_le.1
    intro g
    have := Rat.mul_nonneg (show 0 ≤ -(c'.q - c.q) by grind) (Rat.le_of_lt hp)
    grind
  have h3 : b.q - a.q ≤ 2 * l.q * (c'.q - c.q) := by
    refine Rat.le_of_mul_le_mul_right (c := W) ?_ hp
    have : 2 * l.q * (c'.q - c.q) * W = 2 * l.q := by grind
    rw [this]; exact hab
  have h4 : b.q ≤ c'.q * c'.q := by
    have m1 := Rat.mul_nonneg (show 0 ≤ c.q - l.q by grind) (Rat.le_of_lt hr)
    have m2 := Rat.mul_nonneg (Rat.le_of_lt hr) (Rat.le_of_lt hr)
    grind
  have h5 := u.bot c' (by grind) h4
  have m3 := Rat.mul_le_mul_of_nonneg_right (show h.q - l.q ≤ (c.q - l.q) + (c'.q - c.q) by grind) (Rat.le_of_lt hp)
  grind
def e48 : Rat := 1 / 281474976710656
theorem Dn.near48 {r : F} {v : Rat} (h : Dn r v) (h0 : -32 ≤ v) (h1 : v ≤ 32) : v - e48 ≤ r.q := by
  have e : ((2 ^ 48 : Nat) : Rat) = 281474976710656 := rfl
  have := h.near 48 (by omega) (by rw [e]; grind) (by rw [e]; grind)
  rw [e] at this
  unfold e48; grind
theorem Up.near48 {r : F} {v : Rat} (h : Up r v) (h0 : -32 ≤ v) (h1 : v ≤ 32) : r.q ≤ v + e48 := by
  have e : ((2 ^ 48 : Nat) : Rat) = 281474976710656 := rfl
  have := h.near 48 (by omega) (by rw [e]; grind) (by rw [e]; grind)
  rw [e] at this
  unfold e48; grind
/-- the square of a number -/
theorem bare_pt (x : F) : (bareI (pt x)).lo.q * (bareI (pt x)).lo.q = x.q * x.q ∧ (bareI (pt x)).hi.q * (bareI (pt x)).hi.q = x.q * x.q := by
  have b := bare_ends (a := pt x) (decide_eq_true (Int.le_refl _))
  have e1 : (pt x).lo.q = x.q := rfl
  have e2 : (pt x).hi.q = x.q := rfl
  have sq : ∀ {y : Rat}, Mem (pt x) y ∨ Mem (pt x) (-y) → y * y = x.q * x.q := by
    intro y hy
    rcases hy with k | k
    · have a := k.lo; have c := k.hi
      have : y = x.q := by grind
      rw [this]
    · have a := k.lo; have c := k.hi
      have : -y = x.q := by grind
      grind
  exact ⟨sq b.1, sq b.2⟩
theorem sqr_nar {x : F} {i : Nat} {v : List I} {r : I} (h : Fact (.sqr i) v r) (e : gt v i = pt x) (h1 : -4 ≤ x.q) (h2 : x.q ≤ 4) : x.q * x.q - e48 ≤ r.lo.q ∧ r.hi.q ≤ x.q * x.q + e48 := by
  obtain ⟨a, b⟩ := h
  rw [e] at a b
  obtain ⟨q1, q2⟩ := bare_pt x
  rw [q1] at a
  rw [q2] at b
  have m1 := Rat.mul_nonneg (show 0 ≤ x.q + 4 by grind) (show 0 ≤ 4 - x.q by grind)
  have m2 : 0 ≤ x.q * x.q := by
    rcases (Rat.le_total : (0 : Rat) ≤ x.q ∨ x.q ≤ 0) with g | g
    · exact Rat.mul_nonneg g g
    · have := Rat.mul_nonneg (show 0 ≤ -x.q by grind) (show 0 ≤ -x.q by grind)
      grind
  exact ⟨a.near48 (by grind) (by grind), b.near48 (by grind) (by grind)⟩
theorem mulq_bd {x : Rat} (h1 : -1 ≤ x) (h2 : x ≤ 1) : 0 ≤ x * x ∧ x * x ≤ 1 := by
  have m1 := Rat.mul_nonneg (show 0 ≤ x + 1 by grind) (show 0 ≤ 1 - x by grind)
  rcases (Rat.le_total : (0 : Rat) ≤ x ∨ x ≤ 0) with g | g
  · exact ⟨Rat.mul_nonneg g g, by grind⟩
  · have := Rat.mul_nonneg (show 0 ≤ -x by grind) (show 0 ≤ -x by grind)
    exact ⟨by grind, by grind⟩
theorem quo_wd {z l h t1 t2 : Rat} (hl : 1 / 128 ≤ l) (z0 : 0 ≤ z) (z1 : z ≤ 1) (lh : l ≤ h) (w : (h - l) * 4294967296 ≤ 2) (e1 : t1 * l = z) (e2 : t2 * h = z) : 0 ≤ t2 ∧ t2 ≤ t1 ∧ t1 - t2 ≤ 1 / 1024 ∧ t1 ≤ 128 := by
  have t20 : 0 ≤ t2 := by
    apply Rat.not_lt.1
    intro g
    have := Rat.mul_pos (show 0 < -t2 by grind) (show 0 < h by grind)
    grind
  have t10 : t1 ≤ 128 := by
    apply Rat.not_lt.1
    intro g
    have := Rat.mul_nonneg (show 0 ≤ t1 - 128 by grind) (show 0 ≤ l - 1 / 128 by grind)
    grind
  have t2h : t2 ≤ 128 := by
    apply Rat.not_lt.1
    intro g
    have := Rat.mul_nonneg (show 0 ≤ t2 - 128 by grind) (show 0 ≤ h - 1 / 128 by grind)
    grind
  have d : (t1 - t2) * l = t2 * (h - l) := by grind
  have m := Rat.mul_nonneg (show 0 ≤ 128 - t2 by grind) (show 0 ≤ h - l by grind)
  have m2 := Rat.mul_nonneg t20 (show 0 ≤ h - l by grind)
  have t21 : t2 ≤ t1 := by
    apply Rat.not_lt.1
    intro g
    have := Rat.mul_pos (show 0 < t2 - t1 by grind) (show 0 < l by grind)
    grind
  refine ⟨t20, t21, ?_, t10⟩
  apply Rat.not_lt.1
  intro g
  have m3 := Rat.mul_nonneg (show 0 ≤ (t1 - t2) - 1 / 1024 by grind) (show 0 ≤ l - 1 / 128 by grind)
  grind
theorem AllR.two_wd {r : I} {p q : Rat} (h : AllR r p q p q) (p1 : 0 ≤ q) (p2 : q ≤ p) (p3 : p ≤ 32) : r.hi.q - r.lo.q ≤ p - q + 2 * e48 := by
  have a : q - e48 ≤ r.lo.q := by
    rcases h.loE with k | k | k | k <;> have := k.near48 (by grind) (by grind) <;> grind
  have b : r.hi.q ≤ p + e48 := by
    rcases h.hiE with k | k | k | k <;> have := k.near48 (by grind) (by grind) <;> grind
  grind
theorem e48_m : e48 * 281474976710656 = 1 := by unfold e48; grind
theorem e48_b : 0 ≤ e48 ∧ e48 ≤ 1 / 16 := by unfold e48; constructor <;> grind
theorem s2_wd {X Y Z a1 a2 b1 b2 c1 c2 : Rat} {p1 p2 r1 r2 : F} (X0 : 0 ≤ X) (X1 : X ≤ 1) (Y0 : 0 ≤ Y) (Y1 : Y ≤ 1) (Z0 : 0 ≤ Z) (Z1 : Z ≤ 1) (x1 : X - e48 ≤ a1) (x2 : a1 ≤ X) (x3 : X ≤ a2) (x4 : a2 ≤ X + e48) (y1 : Y - e48 ≤ b1) (y2 : b1 ≤ Y) (y3 : Y ≤ b2) (y4 : b2 ≤ Y + e48) (z1 : Z - e48 ≤ c1) (z2 : c1 ≤ Z) (z3 : Z ≤ c2) (z4 : c2 ≤ Z + e48)
    (d1 : Dn p1 (a1 + b1)) (u1 : Up p2 (a2 + b2)) (d2 : Dn r1 (p1.q + c1)) (u2 : Up r2 (p2.q + c2)) : X + Y + Z - 5 * e48 ≤ r1.q ∧ r2.q ≤ X + Y + Z + 5 * e48 := by
  have e0 := e48_b.1
  have e1 := e48_b.2
  have k1 : p1.q ≤ a1 + b1 := d1.le
  have k2 : a2 + b2 ≤ p2.q := u1.ge
  have n1 := d1.near48 (by grind) (by grind)
  have n2 := u1.near48 (by grind) (by grind)
  have n3 := d2.near48 (by grind) (by grind)
  have n4 := u2.near48 (by grind) (by grind)
  constructor <;> grind
set_option maxRecDepth 100000 in
/-- the upper part of a direction of numbers is narrow -/
theorem un_wd {x y z : F} (hx : N1 x) (hy : N1 y) (z0 : 1 / 64 ≤ z.q) (z1 : z.q ≤ 1) : (unV KkR x y z).z.hi.q - (unV KkR x y z).z.lo.q ≤ 1 / 64 := by
  obtain ⟨he, hone⟩ := un_okE hx hy z0 z1
  have hE : (evalK KkR (unP x y z) [] 0).2 = 0 := he
  obtain ⟨_, k⟩ := eval_chain hE
  unfold unV unE
  generalize (evalK KkR (unP x y z) [] 0).1 = u at *
  clear hE he hone
  obtain ⟨ux, hux, uy, huy, uz, huz, qx, hqx, qy, hqy, s1, hs1, qz, hqz, s2, hs2, nn, hnn, dx, hdx, ox, hox, dy, hdy, oy, hoy, dz, hdz, oz, hoz, hend⟩ := k
  subst hend
  show oz.hi.q - oz.lo.q ≤ 1 / 64
  have x1 := hx.lo; have x2 := hx.hi; have y1 := hy.lo; have y2 := hy.hi
  obtain ⟨qx1, qx2⟩ := sqr_nar (x := x) hqx hux (by grind) (by grind)
  obtain ⟨qy1, qy2⟩ := sqr_nar (x := y) hqy huy (by grind) (by grind)
  obtain ⟨qz1, qz2⟩ := sqr_nar (x := z) hqz huz (by grind) (by grind)
  obtain ⟨bx0, bx1⟩ := mulq_bd x1 x2
  obtain ⟨by0, by1⟩ := mulq_bd y1 y2
  obtain ⟨bz0, bz1⟩ := mulq_bd (x := z.q) (by grind) z1
  have zz : 1 / 4096 ≤ z.q * z.q := by
    have := Rat.mul_nonneg (show 0 ≤ z.q - 1 / 64 by grind) (show 0 ≤ z.q + 1 / 64 by grind)
    grind
  have mx : Mem qx (x.q * x.q) := p_sqr hqx (p_num hux rfl)
  have my : Mem qy (y.q * y.q) := p_sqr hqy (p_num huy rfl)
  have mz : Mem qz (z.q * z.q) := p_sqr hqz (p_num huz rfl)
  have ms := p_add hs2 (p_add hs1 mx my) mz
  obtain ⟨w1, w2⟩ := s2_wd (p1 := s1.lo) (p2 := s1.hi) (r1 := s2.lo) (r2 := s2.hi) bx0 bx1 by0 by1 bz0 bz1 qx1 mx.lo mx.hi qx2 qy1 my.lo my.hi qy2 qz1 mz.lo mz.hi qz2 hs1.1 hs1.2 hs2.1 hs2.2
  have ms1 := ms.lo; have ms2 := ms.hi
  have ee := e48_m
  clear qx1 qx2 qy1 qy2 qz1 qz2 mx my mz hqx hqy hqz hs1 hs2 ms hdx hdy hox hoy
  obtain ⟨r0, rd, ru⟩ := hnn
  have rd' : SqD nn.lo s2.lo := rd
  have ru' : SqU nn.hi s2.hi := ru
  obtain ⟨f7, g7⟩ := fl_ex 1 7 (by decide) (by decide) (1 / 128) (by decide +kernel)
  have s2l : 1 / 16384 ≤ s2.lo.q := by
    generalize x.q * x.q = X at *; generalize y.q * y.q = Y at *; generalize z.q * z.q = Z at *; generalize s2.lo.q = S at *
    clear rd ru rd' ru'
    grind
  have s2u : s2.lo.q ≤ 3 := by
    generalize x.q * x.q = X at *; generalize y.q * y.q = Y at *; generalize z.q * z.q = Z at *; generalize s2.lo.q = S at *
    clear rd ru rd' ru'
    grind
  have s2w : (s2.hi.q - s2.lo.q) * 4294967296 ≤ 2 * (1 / 128) := by
    generalize x.q * x.q = X at *; generalize y.q * y.q = Y at *; generalize z.q * z.q = Z at *; generalize s2.lo.q = S at *; generalize s2.hi.q = S' at *
    clear rd ru rd' ru'
    grind
  have nlo : 1 / 128 ≤ nn.lo.q := by
    have := rd'.top f7 (by rw [g7]; decide +kernel) (by rw [g7, show (1 : Rat) / 128 * (1 / 128) = 1 / 16384 by decide +kernel]; exact s2l)
    rwa [g7] at this
  have n8 : nn.lo.q ≤ 8 := by
    apply Rat.not_lt.1
    intro g
    have h1 := rd'.le
    have := Rat.mul_pos (show 0 < nn.lo.q - 8 by grind) (show 0 < nn.lo.q by grind)
    generalize nn.lo.q = L at *; generalize s2.lo.q = S at *
    clear rd ru rd' ru' w1 w2 ms1 ms2 zz
    grind
  have wd32 := root_wd 32 (by omega) (W := 4294967296) rfl (by decide +kernel) rd' ru' n8 (by
    generalize nn.lo.q = L at *; generalize (s2.hi.q - s2.lo.q) * 4294967296 = D at *
    clear rd ru rd' ru' w1 w2 ms1 ms2 zz
    grind)
  have nrt : nn.lo.q ≤ nn.hi.q := by
    refine sq_le' rd'.nn ru'.nn ?_
    have h1 := rd'.le; have h2 := ru'.ge
    grind
  have zn : z.q ≤ nn.hi.q := by
    refine sq_le' (by grind) ru'.nn ?_
    have h2 := ru'.ge
    grind
  have ez : uz = pt z := huz
  obtain ⟨_, hA⟩ := hdz
  have hA' : AllR dz (uz.lo.q / nn.lo.q) (uz.lo.q / nn.hi.q) (uz.hi.q / nn.lo.q) (uz.hi.q / nn.hi.q) := hA
  rw [ez] at hA'
  have hB : AllR dz (z.q / nn.lo.q) (z.q / nn.hi.q) (z.q / nn.lo.q) (z.q / nn.hi.q) := hA'
  have e1 : z.q / nn.lo.q * nn.lo.q = z.q := Rat.div_mul_cancel (by grind)
  have e2 : z.q / nn.hi.q * nn.hi.q = z.q := Rat.div_mul_cancel (by grind)
  generalize z.q / nn.lo.q = t1 at *
  generalize z.q / nn.hi.q = t2 at *
  have t2b : t2 ≤ 1 := by
    apply Rat.not_lt.1
    intro g
    have := Rat.mul_pos (show 0 < t2 - 1 by grind) (show 0 < nn.hi.q by grind)
    grind
  obtain ⟨q0, q1, q2, q3⟩ := quo_wd nlo (by grind) z1 nrt wd32 e1 e2
  have t1b : t1 ≤ 32 := by grind
  have w := hB.two_wd q0 q1 t1b
  have m2 : Mem dz t2 := ⟨hB.lo.2.1, hB.hi.2.1⟩
  have w2 := withI_wd m2 (by grind) t2b
  have eo : oz = withI dz := hoz
  rw [eo]
  unfold wd at w2
  grind
theorem evalK_ap (K : Kk) : ∀ (a b : List Bu.Op) (v : List I) (e : Int), evalK K (a ++ b) v e = evalK K b (evalK K a v e).1 (evalK K a v e).2
  | [], _, _, _ => rfl
  | o :: a, b, v, e => evalK_ap K a b _ _
def frHd : List Bu.Op := frD.take 6
def frTl : List Bu.Op := frD.drop 7
def bq64 : F := toF 4580160821035794432
def bxA : I := ⟨bq64, F.of 4620693217682128896⟩
set_option maxRecDepth 100000 in
theorem fr_cut : frD = frHd ++ (.sub 0 6 :: frTl) := rfl
set_option maxRecDepth 100000 in
theorem fr_box : (evalK KkR frD [bz1, bn] 0).2 = 0 ∧ (evalK KkR frHd [bz1, bn] 0).2 = 0 ∧ frD.all monoB = true ∧ frHd.all monoB = true ∧ frTl.all monoB = true := by decide +kernel
set_option maxRecDepth 100000 in
theorem fr_box2 : (evalK KkR frTl (bxA :: (evalK KkR frHd [bz1, bn] 0).1) 0).2 = 0 ∧ z64.k < (gt (evalK KkR frTl (bxA :: (evalK KkR frHd [bz1, bn] 0).1) 0).1 0).lo.k ∧ (gt (evalK KkR frHd [bz1, bn] 0).1 0).hi.k ≤ bxA.hi.k ∧ (evalK KkR frHd [bz1, bn] 0).1.length = 8 := by decide +kernel
set_option maxRecDepth 100000 in
theorem fr_box3 : z64.k ≤ (gt (evalK KkR frD [bz1, bn] 0).1 0).lo.k ∧ (gt (evalK KkR frD [bz1, bn] 0).1 0).hi.k ≤ one64.k ∧ z64.k ≤ bzz.lo.k := by decide +kernel
theorem bx_q2 : bq64.q = 1 / 64 ∧ bxA.hi.q = 8 := by
  refine ⟨?_, q_int (n := 8) (by decide +kernel)⟩
  have : bq64.q * 64 = 1 := q_of' (n := 1) (s := 6) (by decide +kernel) rfl
  grind
theorem allIn_of : ∀ {v w : List I}, v.length = w.length → (∀ i, InB (gt v i) (gt w i)) → AllIn v w
  | [], [], _, _ => trivial
  | a :: v, b :: w, hl, h => ⟨h 0, allIn_of (by simpa using hl) fun i => h (i + 1)⟩
  | [], _ :: _, hl, _ => by simp at hl
  | _ :: _, [], hl, _ => by simp at hl
/-- an interval of one number -/
structure Ex (a : I) (x : Rat) : Prop where
  l : a.lo.q = x
  h : a.hi.q = x
end Bu
namespace Go.Proofs.YtgjohjgmlleebaaGreat
set_option linter.all false
open Go.RowKit Bu Rx
set_option maxRecDepth 100000 in
theorem fd_all {c n : I} (hc : InB c bz1) (hn : InB n bn) : ∃ f, lnR (fdK KkR c n) 0 = (f, 0) ∧ Uz1 f := by
  obtain ⟨e, _, m, _⟩ := fr_box
  obtain ⟨l, h, _⟩ := fr_box3
  have b := box (v := [c, n]) (w := [bz1, bn]) m ⟨hc, hn, trivial⟩ e
  have k := (b.2 0).inB
  exact ⟨gt (evalK KkR frD [c, n] 0).1 0, lnR_0 (E := evalK KkR frD [c, n] 0) (i := 0) b.1, (b.2 0).rt, Int.le_trans l k.1, Int.le_trans k.2.1 h⟩
theorem bzz_bz1 {c : I} (h : InB c bzz) : InB c bz1 := ⟨Int.le_trans fr_box3.2.2 h.1, h.2.1, h.2.2⟩
set_option maxRecDepth 100000 in
/-- a surface reflects something -/
theorem fd_pos {c n : I} (hc : InB c bzz) (hw : c.hi.q - c.lo.q ≤ 1 / 64) (hn : InB n bn) : ∃ f, lnR (fdK KkR c n) 0 = (f, 0) ∧ Uz1 f ∧ z64.k < f.lo.k := by
  have hc1 := bzz_bz1 hc
  obtain ⟨f, e, hf⟩ := fd_all hc1 hn
  refine ⟨f, e, hf, ?_⟩
  obtain ⟨e1, e2, m1, m2, m3⟩ := fr_box
  obtain ⟨t1, t2, t3, t4⟩ := fr_box2
  have bw := box (v := [c, n]) (w := [bz1, bn]) m1 ⟨hc1, hn, trivial⟩ e1
  have bh := box (v := [c, n]) (w := [bz1, bn]) m2 ⟨hc1, hn, trivial⟩ e2
  have ef : f = gt (evalK KkR frD [c, n] 0).1 0 := by
    have := lnR_0 (E := evalK KkR frD [c, n] 0) (i := 0) bw.1
    have e' : lnR (evalK KkR frD [c, n] 0) 0 = (f, 0) := e
    rw [this] at e'
    exact (congrArg Prod.fst e').symm
  have hq : bzz.lo.q = 1 / 128 := by have : bzz.lo.q * 128 = 1 := q_of' (n := 1) (s := 7) (by decide +kernel) rfl; grind
  have c0 : 1 / 128 ≤ c.lo.q := by rw [← hq]; exact q_le.2 hc.1
  have c1 : c.hi.q ≤ 1 := by rw [← one_q]; exact q_le.2 hc.2.1
  have cr : c.lo.q ≤ c.hi.q := q_le.2 hc.2.2
  obtain ⟨_, k⟩ := eval_chain bh.1
  have hI := bh.2
  have hcut : evalK KkR frD [c, n] 0 = evalK KkR (.sub 0 6 :: frTl) (evalK KkR frHd [c, n] 0).1 0 := by
    rw [fr_cut, evalK_ap, bh.1]
  rw [hcut] at bw ef
  generalize (evalK KkR frHd [c, n] 0).1 = u at *
  obtain ⟨one, hone, n2, hn2, d1, hd1, c2, hc2, g2, hg2, g, hg, hend⟩ := k
  have hu : u = [g, g2, c2, d1, n2, one, c, n] := hend
  have hst : (stepK KkR (.sub 0 6) u 0).2 = 0 := by
    have := bw.1
    exact (eval_chain (l := frTl) this).1
  obtain ⟨_, _, fa⟩ := step_fact hst
  have hs : evalK KkR (.sub 0 6 :: frTl) u 0 = evalK KkR frTl ((stepK KkR (.sub 0 6) u 0).1 :: u) 0 := by
    show evalK KkR frTl ((stepK KkR (.sub 0 6) u 0).1 :: u) (stepK KkR (.sub 0 6) u 0).2 = _
    rw [hst]
  rw [hs] at ef
  generalize (stepK KkR (.sub 0 6) u 0).1 = a1 at *
  have ug : gt u 0 = g ∧ gt u 6 = c := by rw [hu]; exact ⟨rfl, rfl⟩
  obtain ⟨fa1, fa2⟩ := fa
  rw [ug.1, ug.2] at fa1 fa2
  have ghi : g.hi.q ≤ 8 := by
    have := (hI 0).inB.2.1
    rw [ug.1] at this
    rw [← bx_q2.2]
    exact q_le.2 (Int.le_trans this t3)
  have ee := e48_m
  -- the root is far above the cosine
  have n0 : 17 / 16 ≤ n.lo.q := by
    have : minIo.q = 17 / 16 := by have : minIo.q * 16 = 17 := q_of' (n := 17) (s := 4) (by decide +kernel) rfl; grind
    rw [← this]; exact q_le.2 hn.1
  have n4 : n.hi.q ≤ 4 := by
    have : four64.q = 4 := q_int (n := 4) (by decide +kernel)
    rw [← this]; exact q_le.2 hn.2.1
  have nr : n.lo.q ≤ n.hi.q := q_le.2 hn.2.2
  have bn_e : bareI n = n := by
    unfold bareI
    rw [decide_eq_true (by have := q_le.2 hn.1; have h0 : 0 ≤ n.lo.q := by grind
                           rw [← q_zero] at h0; exact q_le.1 h0), cond_true]
  have bc_e : bareI c = c := by
    unfold bareI
    rw [decide_eq_true (by have h0 : 0 ≤ c.lo.q := by grind
                           rw [← q_zero] at h0; exact q_le.1 h0), cond_true]
  have hn2' : Dn n2.lo ((bareI n).lo.q * (bareI n).lo.q) := hn2.1
  have hc2' : Dn c2.lo ((bareI c).lo.q * (bareI c).lo.q) := hc2.1
  rw [bn_e] at hn2'
  rw [bc_e] at hc2'
  have hd1' : Dn d1.lo (n2.lo.q - one.hi.q) := hd1.1
  have hone' : one.hi.q = 1 := by rw [show one = pt one64 from hone]; exact one_q
  rw [hone'] at hd1'
  have hg2' : Dn g2.lo (d1.lo.q + c2.lo.q) := hg2.1
  have hgl : SqD g.lo g2.lo := hg.2.1
  obtain ⟨f98, q98⟩ := fl_ex 9 3 (by decide) (by decide) (9 / 8) (by decide +kernel)
  obtain ⟨f18, q18⟩ := fl_ex 1 3 (by decide) (by decide) (1 / 8) (by decide +kernel)
  have nn := Rat.mul_nonneg (show 0 ≤ n.lo.q - 17 / 16 by grind) (show 0 ≤ n.lo.q + 17 / 16 by grind)
  have nn2 := Rat.mul_nonneg (show 0 ≤ 4 - n.lo.q by grind) (show 0 ≤ n.lo.q + 4 by grind)
  have b1 : 9 / 8 ≤ n2.lo.q := by have := hn2'.top f98 (by rw [q98]; grind); rwa [q98] at this
  have b2 : 1 / 8 ≤ d1.lo.q := by have := hd1'.top f18 (by rw [q18]; grind); rwa [q18] at this
  have b2' := hd1'.le
  have n2le := hn2'.le
  obtain ⟨cc0, cc1⟩ := mulq_bd (x := c.lo.q) (by grind) (by grind)
  have b3 := hc2'.near48 (by grind) (by grind)
  have b3' := hc2'.le
  have b4 := hg2'.near48 (by grind) (by grind)
  obtain ⟨cc, cc', k1, k2, _, _⟩ := grid_up 40 (by omega) (W := 1099511627776) rfl (by decide +kernel) (x := c.hi.q + 1 / 64) (by grind) (by grind)
  have low : c.hi.q + 1 / 64 ≤ g.lo.q := by
    have top := hgl.top cc (by grind) (by
      have w : cc.q ≤ c.lo.q + 1 / 31 := by grind
      have m1 := Rat.mul_nonneg (show 0 ≤ c.lo.q + 1 / 31 - cc.q by grind) (show 0 ≤ c.lo.q + 1 / 31 + cc.q by grind)
      grind)
    grind
  have l1 : bq64.k ≤ a1.lo.k := by
    refine q_le.1 ?_
    exact fa1.top bq64 (by rw [bx_q2.1]; grind)
  have l2 : a1.hi.k ≤ bxA.hi.k := by
    refine q_le.1 ?_
    exact fa2.bot bxA.hi (by rw [bx_q2.2]; grind)
  have gr : g.lo.q ≤ g.hi.q := by
    have := (hI 0).rt
    rw [ug.1] at this
    exact rt_le this
  have l3 : a1.lo.k ≤ a1.hi.k := by
    refine q_le.1 ?_
    have := fa1.le; have := fa2.ge
    grind
  have hb := box (l := frTl) (v := a1 :: u) (w := bxA :: (evalK KkR frHd [bz1, bn] 0).1) m3 ⟨⟨l1, l2, l3⟩, allIn_of (by rw [t4, hu]; rfl) (fun i => (hI i).inB)⟩ t1
  rw [ef]
  exact Int.lt_of_lt_of_le t2 (hb.2 0).inB.1
end Go.Proofs.YtgjohjgmlleebaaGreat
namespace Go.Proofs.YtgjohjgmlleebaaGreat
set_option linter.all false
open Go.RowKit Bu Rx
def bDd : I := gt (evalK KkR miV [bG1, bG2, bD, bzz, bzz] 0).1 0
set_option maxRecDepth 100000 in
theorem den_bx : (gt (evalK KkR lbV [bzz] 0).1 0).hi.k ≤ (Pb 0).hi.k ∧ bDd.hi.k ≤ (Pb 0).hi.k := by decide +kernel
set_option maxRecDepth 100000 in
theorem den_box2 {l : Lf} (h : LfP l) : ∃ d, dnG4 GmR l = (d, 0) ∧ z64.k < d.lo.k ∧ InB d (Pb 0) := by
  obtain ⟨_, _, v3⟩ := one_box h.v
  obtain ⟨_, _, u3⟩ := one_box h.u
  obtain ⟨x1, x2⟩ := den_bx
  have lb : ∀ {a : I}, InB a bzz → ∃ r, lnR (lbK KkR a) 0 = (r, 0) ∧ z64.k < r.lo.k ∧ InB r (Pb 0) := by
    intro a ha
    obtain ⟨m, _, _, e, l, _⟩ := box_lb
    have b := box (v := [a]) (w := [bzz]) m ⟨ha, trivial⟩ e
    have b1 : (lbK KkR a).2 = 0 := b.1
    have k := (b.2 0).inB
    exact ⟨_, lnR_0 b1, Int.lt_of_lt_of_le l k.1, Int.le_of_lt (Int.lt_of_lt_of_le l k.1), Int.le_trans k.2.1 x1, k.2.2⟩
  have gl : ∀ {al : I}, InB al bal → ∃ d, ((glR KkR GlR l.v l.u al).1.d, (glR KkR GlR l.v l.u al).2) = (d, (0 : Int)) ∧ z64.k < d.lo.k ∧ InB d (Pb 0) := by
    intro al ha
    have g := gi_ok h.v h.u ha
    rw [gl_val h.v h.u ha]
    obtain ⟨_, _, l0⟩ := mi_ok h.v h.u
    obtain ⟨m1, m2, m3, m4, m5, m6, m7⟩ := q_mono
    obtain ⟨c1, c2, c3, c4, c5, c6, c7⟩ := boxes_c
    have b2 := box (v := [l.u.z, l.v.z, al]) (w := [bzz, bzz, bal]) m2 ⟨u3, v3, ha, trivial⟩ boxes_q.2.2.1
    have b1 := box (v := [l.u.z, al]) (w := [bzz, bal]) m3 ⟨u3, ha, trivial⟩ c4
    have bd := box (v := [lnI l.v l.u, al]) (w := [bln, bal]) m4 ⟨l0, ha, trivial⟩ c3
    have b := box (v := [Gb l.u al, Ga l.v l.u al, Da l.v l.u al, l.u.z, l.v.z]) (w := [bG1, bG2, bD, bzz, bzz]) m5 ⟨(b1.2 0).inB, (b2.2 0).inB, (bd.2 0).inB, u3, v3, trivial⟩ c5
    have k := (b.2 0).inB
    have d0 := g.d0
    have z := z64_0
    exact ⟨giD l.v l.u al, rfl, by omega, by show z64.k ≤ _; omega, Int.le_trans k.2.1 x2, k.2.2⟩
  rcases rt_kind h.r with e | e | e | e
  · obtain ⟨k, f, c, v, u⟩ := l
    simp only at e; subst e
    exact lb v3
  · obtain ⟨k, f, c, v, u⟩ := l
    simp only at e; subst e
    exact lb v3
  · obtain ⟨k, f, c, v, u⟩ := l
    simp only at e; subst e
    exact gl (bal_of (rt3_in h.r).1)
  · obtain ⟨k, f, c, v, u⟩ := l
    simp only at e; subst e
    exact gl (bal_of (rt4_in h.r h.o.n).1)
theorem obsB_of {o : Obs} (h : ObsOk o) : Bu.obsB o = true := List.all_eq_true.2 fun p hp => by simp [h p hp]
theorem leaf_lf {n : Nd} {p : Int} (h : okNd n p = true) (h5 : n.k ≠ 5) (h6 : n.k ≠ 6) {v u : V3} (hv : OneP v) (hu : OneP u) (c : Int) (c0 : 0 ≤ c) (c3 : c < 3) : LfP ⟨n.k, etaF n.f, c, v, u⟩ := ⟨nd_leaf h h5 h6, hv, hu, c0, c3⟩
theorem leaf_den {n : Nd} {p : Int} (h : okNd n p = true) (h5 : n.k ≠ 5) (h6 : n.k ≠ 6) {v u : V3} (hv : OneP v) (hu : OneP u) : ∃ d, lfR (dnG4 GmR) v u n = (d, 0) ∧ z64.k < d.lo.k ∧ InB d (Pb 0) ∧ Bu.obsB (lfRo dnO4 v u n) = true := by
  have L := leaf_lf h h5 h6 hv hu 0 (Int.le_refl _) (by decide)
  obtain ⟨d, e1, e2, e3⟩ := den_box2 L
  obtain ⟨a0, b0⟩ := okNd_leaf h h5 h6
  exact ⟨d, e1, e2, e3, obsB_of (ob_c (decide_eq_true a0) (ob_c (decide_eq_true b0) L.o.den))⟩
theorem okNd_mixw {n : Nd} {p : Int} (h : okNd n p = true) (h5 : n.k = 5) : z64.k ≤ (n.f 15).k ∧ (n.f 15).k ≤ one64.k := by
  unfold okNd at h
  rw [h5] at h
  simp only [Bool.and_eq_true, Int.reduceEq, decide_false, decide_true, cond_false, cond_true] at h
  exact rn_one h.1
theorem okNd_coatf {n : Nd} {p : Int} (h : okNd n p = true) (h6 : n.k = 6) : Rn minIo four64 (n.f 14) ∧ ∀ j, j ∈ [3, 4, 5] → z64.k ≤ (n.f j).k ∧ (n.f j).k ≤ one64.k := by
  unfold okNd at h
  rw [h6] at h
  simp only [Bool.and_eq_true, Int.reduceEq, decide_false, decide_true, cond_false, Bool.true_and] at h
  exact ⟨rn_one h.1, fun j hj => rn_get h.2.1 hj⟩
theorem fd_o {c : I} {x : F} (hc : InB c bz1) (hx : Rn minIo four64 x) : ObsOk (fdO c (pF x)) := ob_a (bnd_of hx) (ob_c (decide_eq_true hc.2.1) (ob_c (decide_eq_true hc.1) (ob_c (decide_eq_true hc.2.2) ob_n)))
/-- mixes, coats: in steps -/
theorem mixC_st {w : F} {a b : Ch} {p m : I} (h1 : mixK KkR 0 w a.p b.p = (p, 0)) (h2 : mixK KkR 0 w a.m b.m = (m, 0)) : mixC KkR w a b = (⟨p, m⟩, 0) := by
  unfold mixC
  simp only [h1, h2]
theorem coatC_st {o s x y z : I} {a : Ch} (h1 : KkR.sub 0 (pt one64) o = (s, 0)) (h2 : KkR.mul 0 s a.p = (x, 0)) (h3 : KkR.mul 0 s a.m = (y, 0)) (h4 : KkR.add 0 o y = (z, 0)) : coatC KkR o a = (⟨x, z⟩, 0) := by
  unfold coatC lessK
  have e1 : KkR.num 0 one_ = (pt one64, 0) := rfl
  simp only [e1, h1, h2, h3, h4]
def LfsOk (lf : Nd → I × Int) (lo : Nd → Obs) (cs : List SV) (len : Nat) : Prop := ∀ i, i < len → (ndR cs (i * 19)).k ≠ 5 → (ndR cs (i * 19)).k ≠ 6 → ∃ d, lf (ndR cs (i * 19)) = (d, 0) ∧ InB d (Pb 0) ∧ Bu.obsB (lo (ndR cs (i * 19))) = true
theorem chs_ok {cos : I} (hc : InB cos bz1) {lf : Nd → I × Int} {lo : Nd → Obs} {cs : List SV} {len : Nat} (K : OkPg cs len) (hlen : len ≤ 20) (hL : LfsOk lf lo cs len) :
    ∀ i, i < len → nodB NdR cos lf lo (fun j => (chL (allF NdR cos lf cs) i).getD j Ch.zero) (ndR cs (i * 19)) = true ∧ InB (chF (allF NdR cos lf cs) i).p (Pb i) ∧ InB (chF (allF NdR cos lf cs) i).m (Mb i) := by
  intro i
  induction i using Nat.strongRecOn with
  | _ i ih =>
    intro hi
    have hnd := K.nd i hi
    have hl := hL i hi
    have g : ∀ {a : Int}, 0 ≤ a → a < i → (chL (allF NdR cos lf cs) i).getD a.toNat Ch.zero = chF (allF NdR cos lf cs) a.toNat := fun _ _ => chL_get _ (by omega)
    have hF : chF (allF NdR cos lf cs) i = (nodC NdR cos lf (fun j => (chL (allF NdR cos lf cs) i).getD j Ch.zero) (ndR cs (i * 19))).1 := rfl
    rw [hF]
    unfold nodB
    generalize ndR cs (i * 19) = n at hnd hl
    by_cases h5 : n.k = 5
    · obtain ⟨⟨a0, a1⟩, b0, b1⟩ := okNd_mix hnd h5
      have w := okNd_mixw hnd h5
      obtain ⟨_, pa, ma⟩ := ih n.a.toNat (by omega) (by omega)
      obtain ⟨_, pb, mb⟩ := ih n.b.toNat (by omega) (by omega)
      have L := lv_ok (i := i - 1) (by omega)
      have e1 : i - 1 + 1 = i := by omega
      obtain ⟨p, p1, p2⟩ := mixK_in w (Pb_le (i := n.a.toNat) (j := i - 1) (by omega) (by omega) pa) (Pb_le (i := n.b.toNat) (j := i - 1) (by omega) (by omega) pb) L.p L.pp
      obtain ⟨m, m1, m2⟩ := mixK_in w (Mb_le (i := n.a.toNat) (j := i - 1) (by omega) (by omega) ma) (Mb_le (i := n.b.toNat) (j := i - 1) (by omega) (by omega) mb) L.m L.mm
      rw [e1] at p2 m2
      have hn : nodC NdR cos lf (fun j => (chL (allF NdR cos lf cs) i).getD j Ch.zero) n = (⟨p, m⟩, 0) := by
        unfold nodC
        rw [decide_eq_true h5, cond_true]
        simp only [g a0 a1, g b0 b1]
        exact mixC_st p1 m1
      rw [hn, decide_eq_true h5, cond_true]
      exact ⟨rfl, p2, m2⟩
    · by_cases h6 : n.k = 6
      · obtain ⟨a0, a1⟩ := okNd_coat hnd h6
        obtain ⟨c1, _⟩ := okNd_coatf hnd h6
        obtain ⟨_, pa, ma⟩ := ih n.a.toNat (by omega) (by omega)
        have L := lv_ok (i := i - 1) (by omega)
        have e1 : i - 1 + 1 = i := by omega
        obtain ⟨o, o1, o2⟩ := fd_all hc (bn_of c1)
        obtain ⟨s, s1, s2⟩ := less_in o2.box
        obtain ⟨x, x1, x2⟩ := by_in s2 (Pb_le (i := n.a.toNat) (j := i - 1) (by omega) (by omega) pa) L.p
        obtain ⟨y, y1, y2⟩ := by_in s2 (Mb_le (i := n.a.toNat) (j := i - 1) (by omega) (by omega) ma) L.m
        obtain ⟨z, z1, z2⟩ := ad_in o2.box y2 L.om
        rw [e1] at z2
        have x3 := Pb_le (i := i - 1) (j := i) (by omega) (by omega) x2
        have hD : NdR.D cos ⟨n.f 14, n.f 14⟩ = (o, 0) := o1
        have hO : Bu.obsB (NdR.dO cos ⟨n.f 14, n.f 14⟩) = true := obsB_of (fd_o hc c1)
        have hn : nodC NdR cos lf (fun j => (chL (allF NdR cos lf cs) i).getD j Ch.zero) n = (⟨x, z⟩, 0) := by
          unfold nodC
          rw [decide_eq_false h5, decide_eq_true h6, cond_false, cond_true, hD]
          simp only [g a0 a1]
          exact coatC_st s1 x1 y1 z1
        rw [hn, decide_eq_false h5, decide_eq_true h6, cond_false, cond_true, hD, hO]
        exact ⟨rfl, x3, z2⟩
      · obtain ⟨d, d1, d2, d3⟩ := hl h5 h6
        have hn : nodC NdR cos lf (fun j => (chL (allF NdR cos lf cs) i).getD j Ch.zero) n = (⟨d, Ch.zero.m⟩, 0) := by
          unfold nodC
          rw [decide_eq_false h5, decide_eq_false h6, cond_false, cond_false, d1]
        rw [hn, decide_eq_false h5, decide_eq_false h6, cond_false, cond_false, d3]
        refine ⟨rfl, Pb_le (i := 0) (by omega) (by omega) d2, ?_⟩
        have zk := zz_k
        refine ⟨?_, ?_, ?_⟩
        · show z64.k ≤ F.zero.k; omega
        · show F.zero.k ≤ (Mb i).hi.k
          rw [Mb_k (by omega)]
          have : F.zero.k = 0 := rfl
          unfold Mk; omega
        · exact Int.le_refl _
theorem chs_all {cos : I} (hc : InB cos bz1) {lf : Nd → I × Int} {lo : Nd → Obs} {cs : List SV} {len : Nat} (K : OkPg cs len) (hlen : len ≤ 20) (hL : LfsOk lf lo cs len) : allB NdR cos lf lo cs len = true :=
  List.all_eq_true.2 fun i hi => (chs_ok hc K hlen hL i (List.mem_range.1 hi)).1
theorem lfs_den {cs : List SV} {len : Nat} (K : OkPg cs len) {v u : V3} (hv : OneP v) (hu : OneP u) : LfsOk (lfR (dnG4 GmR) v u) (lfRo dnO4 v u) cs len := fun i hi h5 h6 => by
  obtain ⟨d, d1, _, d2, d3⟩ := leaf_den (K.nd i hi) h5 h6 hv hu
  exact ⟨d, d1, d2, d3⟩
end Go.Proofs.YtgjohjgmlleebaaGreat
namespace Bu
set_option linter.all false
open Rx Go
theorem bw_rn {l h : F} {n : Int} (hl : l.k ≤ h.k) : rnB l h (bwF l h n) = true := by
  have := bwF_in (n := n) hl
  unfold rnB
  rw [decide_eq_true this.1, decide_eq_true this.2]; rfl
theorem zs_c (js : List Nat) : zsB (fun _ => z64) js = true := List.all_eq_true.2 fun _ _ => decide_eq_true zz_k.symm
theorem okNd_1 {x y z : F} (hx : rnB z64 one64 x = true) (hy : rnB z64 one64 y = true) (hz : rnB z64 one64 z = true) (p : Int) : okNd ⟨1, ndM x y z z64 z64 z64 z64 z64 z64 z64 z64 z64 z64 z64 z64 z64, 0, 0⟩ p = true := by
  show ((rnB z64 one64 x && (rnB z64 one64 y && (rnB z64 one64 z && true))) && (zsB (fun _ => z64) [3, 4, 5, 6, 7, 8, 9, 10, 11, 12, 13, 14, 15] && (decide ((0 : Int) = 0) && decide ((0 : Int) = 0)))) = true
  rw [hx, hy, hz, zs_c]; rfl
theorem okNd_2 {x y z s : F} (hx : rnB z64 one64 x = true) (hy : rnB z64 one64 y = true) (hz : rnB z64 one64 z = true) (hs : rnB z64 one64 s = true) (p : Int) : okNd ⟨2, ndM x y z z64 z64 z64 z64 z64 z64 z64 z64 z64 s z64 z64 z64, 0, 0⟩ p = true := by
  show ((rnB z64 one64 s && (rnB z64 one64 x && (rnB z64 one64 y && (rnB z64 one64 z && true)))) && (zsB (fun _ => z64) [3, 4, 5, 6, 7, 8, 9, 10, 11, 13, 14, 15] && (decide ((0 : Int) = 0) && decide ((0 : Int) = 0)))) = true
  rw [hx, hy, hz, hs, zs_c]; rfl
theorem okNd_3 {a n : F} (ha : rnB minA one64 a = true) (hn : rnB minIo four64 n = true) (p : Int) : okNd ⟨3, ndM z64 z64 z64 z64 z64 z64 z64 z64 z64 z64 z64 z64 z64 a n z64, 0, 0⟩ p = true := by
  show (rnB minA one64 a && (rnB minIo four64 n && (zsB (fun _ => z64) [0, 1, 2, 3, 4, 5, 6, 7, 8, 9, 10, 11, 12, 15] && (decide ((0 : Int) = 0) && decide ((0 : Int) = 0))))) = true
  rw [ha, hn, zs_c]; rfl
theorem okNd_4 {a e0 e1 e2 k0 k1 k2 : F} (ha : rnB minA one64 a = true) (h0 : rnB minMt maxMt e0 = true) (h1 : rnB minMt maxMt e1 = true) (h2 : rnB minMt maxMt e2 = true) (h3 : rnB minMt maxMt k0 = true) (h4 : rnB minMt maxMt k1 = true) (h5 : rnB minMt maxMt k2 = true) (p : Int) : okNd ⟨4, ndM z64 z64 z64 z64 z64 z64 e0 e1 e2 k0 k1 k2 z64 a z64 z64, 0, 0⟩ p = true := by
  show (rnB minA one64 a && ((rnB minMt maxMt e0 && (rnB minMt maxMt e1 && (rnB minMt maxMt e2 && (rnB minMt maxMt k0 && (rnB minMt maxMt k1 && (rnB minMt maxMt k2 && true)))))) && (zsB (fun _ => z64) [0, 1, 2, 3, 4, 5, 12, 14, 15] && (decide ((0 : Int) = 0) && decide ((0 : Int) = 0))))) = true
  rw [ha, h0, h1, h2, h3, h4, h5, zs_c]; rfl
def leNd (u : U8) : Nd := ⟨leK u, ndM (leF bwF u 0) (leF bwF u 1) (leF bwF u 2) (leF bwF u 3) (leF bwF u 4) (leF bwF u 5) (leF bwF u 6) (leF bwF u 7) (leF bwF u 8) (leF bwF u 9) (leF bwF u 10) (leF bwF u 11) (leF bwF u 12) (leF bwF u 13) (leF bwF u 14) (leF bwF u 15), 0, 0⟩
theorem okNd_le (u : U8) (p : Int) : okNd (leNd u) p = true := by
  obtain ⟨e1, e2, e3, e4⟩ := rk_le
  unfold leNd leK leF
  cases decide (u.a0.tmod 4 = 0)
  · cases decide (u.a0.tmod 4 = 1)
    · cases decide (u.a0.tmod 4 = 2)
      · exact okNd_4 (bw_rn e2) (bw_rn e4) (bw_rn e4) (bw_rn e4) (bw_rn e4) (bw_rn e4) (bw_rn e4) p
      · exact okNd_3 (bw_rn e2) (bw_rn e3) p
    · exact okNd_2 (bw_rn e1) (bw_rn e1) (bw_rn e1) (bw_rn e1) p
  · exact okNd_1 (bw_rn e1) (bw_rn e1) (bw_rn e1) p
theorem okNd_5 {w : F} {a b p : Int} (hw : rnB z64 one64 w = true) (a0 : 0 ≤ a) (a1 : a < p) (b0 : 0 ≤ b) (b1 : b < p) : okNd ⟨5, ndM z64 z64 z64 z64 z64 z64 z64 z64 z64 z64 z64 z64 z64 z64 z64 w, a, b⟩ p = true := by
  show (rnB z64 one64 w && (zsB (fun _ => z64) [0, 1, 2, 3, 4, 5, 6, 7, 8, 9, 10, 11, 12, 13, 14] && (decide (0 ≤ a) && (decide (a < p) && (decide (0 ≤ b) && decide (b < p)))))) = true
  rw [hw, zs_c, decide_eq_true a0, decide_eq_true a1, decide_eq_true b0, decide_eq_true b1]; rfl
theorem okNd_6 {n t0 t1 t2 : F} {a p : Int} (hn : rnB minIo four64 n = true) (h0 : rnB z64 one64 t0 = true) (h1 : rnB z64 one64 t1 = true) (h2 : rnB z64 one64 t2 = true) (a0 : 0 ≤ a) (a1 : a < p) : okNd ⟨6, ndM z64 z64 z64 t0 t1 t2 z64 z64 z64 z64 z64 z64 z64 z64 n z64, a, 0⟩ p = true := by
  show (decide ((6 : Int) = 6) && (rnB minIo four64 n && ((rnB z64 one64 t0 && (rnB z64 one64 t1 && (rnB z64 one64 t2 && true))) && (zsB (fun _ => z64) [0, 1, 2, 6, 7, 8, 9, 10, 11, 12, 13, 15] && (decide (0 ≤ a) && (decide (a < p) && decide ((0 : Int) = 0))))))) = true
  rw [hn, h0, h1, h2, zs_c, decide_eq_true a0, decide_eq_true a1]; rfl
theorem okPg_mk {cs : List SV} {len : Nat} (h1 : (plains cs).isSome = true) (h2 : 1 ≤ len) (h3 : len ≤ 4096) (h4 : ∀ i, i < len → okAt cs i = true) : okPg cs len = true := by
  unfold okPg
  rw [h1, decide_eq_true h2, decide_eq_true h3, List.all_eq_true.2 fun i hi => h4 i (List.mem_range.1 hi)]; rfl
theorem okAt_mk {cs : List SV} {i : Nat} (h1 : ckAll cs (i * 19) ndCK = true) (h2 : okNd (ndR cs (i * 19)) i = true) : okAt cs i = true := by
  unfold okAt; rw [h1, h2]; rfl
end Bu
namespace Go.Proofs.YtgjohjgmlleebaaGreat
set_option linter.all false
open Go.RowKit Bu Rx
/-- are two intervals the same? -/
def eqIv (a b : I) : Bool := decide (a.lo.k = b.lo.k) && (decide (a.hi.k = b.hi.k) && true)
/-- a mix, a coat: cells -/
def mxJ (w : F) (a b : Int) : List SV := [.i .u8 5, fz, fz, fz, fz, fz, fz, fz, fz, fz, fz, fz, fz, fz, fz, fz, .fl w, .i .i64 a, .i .i64 b]
def coJ (n t0 t1 t2 : F) (a : Int) : List SV := [.i .u8 6, fz, fz, fz, .fl t0, .fl t1, .fl t2, fz, fz, fz, fz, fz, fz, fz, fz, .fl n, fz, .i .i64 a, .i .i64 0]
def leC (N : Npr) (a : U8) : List SV := nzC (N.k a) (N.f a)
/-- two directions of numbers -/
def atU (N : Npr) (D : Ndn) (un : F → F → F → V3) (ub : F → F → F → Bool) (u : U6) (cs : List SV) (len : Nat) : Obs :=
  atO D un ub cs len (N.b mone64 one64 u.a0) (N.b mone64 one64 u.a1) (N.b d64 one64 u.a2) (N.b mone64 one64 u.a3) (N.b mone64 one64 u.a4) (N.b d64 one64 u.a5)
def chU (N : Npr) (D : Ndn) (un : F → F → F → V3) (u : U6) (cs : List SV) (len : Nat) : Ch := D.g (twB un N.b u).z (twA un N.b u) (twB un N.b u) cs len
def dirU (N : Npr) (x y z : Int) : Obs := [(N.p d64 one64, true), (N.w z, true), (N.p mone64 one64, true), (N.w y, true), (N.p mone64 one64, true), (N.w x, true)]
def OLm (N : Npr) (D : Ndn) (un : F → F → F → V3) (ub : F → F → F → Bool) : OracleF := lookO [(22, plainO (kLe8 N.k N.f N.o)), (25, plainO (kFq N.q N.w)), (19, plainO (kBw N.b N.p N.w)), (24, kRd 19 (kAtt D un ub)), (21, plainO (oConst (.b true)))]
def dmMx (N : Npr) (a b : U8) (w : Int) : List SV := leC N a ++ (leC N b ++ mxJ (N.q w) 0 1)
def dmCo (N : Npr) (a b : U8) (i : Int) : List SV := leC N a ++ (leC N b ++ coJ (N.b minIo four64 i) F.zero F.zero F.zero 1)
def dmOb (N : Npr) (D : Ndn) (un : F → F → F → V3) (ub : F → F → F → Bool) (a b : U8) (w i : Int) (u : U6) : Obs :=
  [(decide (z64.k < (chU N D un u (dmCo N a b i) 3).m.lo.k), true), (decide ((chU N D un u (dmCo N a b i) 3).p.lo.k ≤ (chU N D un u (leC N b) 1).p.hi.k), true), (eqIv (chU N D un u (dmMx N a b w) 3).m I.zero, true),
   (decide ((mnF (chU N D un u (leC N a) 1).p.lo (chU N D un u (leC N b) 1).p.lo).k ≤ (chU N D un u (dmMx N a b w) 3).p.hi.k), true), (decide ((chU N D un u (dmMx N a b w) 3).p.lo.k ≤ (mxF (chU N D un u (leC N a) 1).p.hi (chU N D un u (leC N b) 1).p.hi).k), true)] ++
  (atU N D un ub u (dmCo N a b i) 3 ++ ([(N.p minIo four64, true), (N.w i, true)] ++ (atU N D un ub u (dmMx N a b w) 3 ++ ([(N.w w, true)] ++ (atU N D un ub u (leC N b) 1 ++ (atU N D un ub u (leC N a) 1 ++ (dirU N u.a3 u.a4 u.a5 ++ (dirU N u.a0 u.a1 u.a2 ++ [(N.o b, true), (N.o a, true)]))))))))
theorem dmRun (N : Npr) (D : Ndn) (un : F → F → F → V3) (ub : F → F → F → Bool) (a b : U8) (w i : Int) (u : U6) :
    valR ((run Tryz.prog EG (OLm N D un ub) 120).1 4 [a.sv, b.sv, .si .u32 w, .si .u32 i, u.sv] [] (some [true, true, true, true, true])) = some (.b true, some [], dmOb N D un ub a b w i u) := by kernel_rfl
end Go.Proofs.YtgjohjgmlleebaaGreat
namespace Go.Proofs.YtgjohjgmlleebaaGreat
set_option linter.all false
open Go.RowKit Bu Rx
/-- one or the other -/
def eiO (f g : OF) : OF := fun a M ds => match f a M ds with
  | some r => some r
  | none => g a M ds
theorem eiO_ok {P : Program} {g : FuncId} {f h : OF} (hf : OfOk P g f) (hh : OfOk P g h) : OfOk P g (eiO f h) := by
  intro args M ds x M' ds' ob hk ho
  unfold eiO at hk
  split at hk
  · rename_i r hr
    cases hk
    exact hf args M ds x M' ds' ob hr ho
  · exact hh args M ds x M' ds' ob hk ho
def kNilR : List SV → Dec → Option (SV × Dec × Obs)
  | [.o (.slice none 0 0)], ds => some (.b false, ds, [])
  | _, _ => none
theorem rgtNil : valR ((run Tryz.prog EG (lookO []) 60).1 31 [.o (.slice none 0 0)] [] (some [])) = some (.b false, some [], []) := by kernel_rfl
theorem nilRG : PlainOk Tryz.prog 31 kNilR := by
  intro args ds x ds' ob h ho
  unfold kNilR at h
  split at h
  · simp only [Option.some.injEq, Prod.mk.injEq] at h
    obtain ⟨rfl, _, rfl⟩ := h
    exact ⟨[.slice none 0 0], _, rfl, rfl, fun w => calls_of_val goodG (OracleOk.nil _) 60 rgtNil ob_n rfl rfl w⟩
  · cases h
def rgtO (o : List SV → Nat → Bool) : OF := eiO (plainO kNilR) (kRd 19 (kRgt o))
theorem rgtOG : OfOk Tryz.prog 31 (rgtO okPg) := eiO_ok nilRG.of rgtG.of
def OA22 (D : Ndn) (un : F → F → F → V3) (ub : F → F → F → Bool) : OracleF := lookO [(31, rgtO D.o), (33, plainO (kUn un ub)), (17, kRd 19 (kCh D)), (18, kRd 19 (kMi D)), (20, plainO kPt)]
def half_ : F := toF 4602678819172646912
def gyA : List SV := [.i .u8 1, .fl half_, .fl half_, .fl half_, fz, fz, fz, fz, fz, fz, fz, fz, fz, fz, fz, fz, fz, .i .i64 0, .i .i64 0]
def gyB : List SV := gyA ++ coJ (toF 4609434218613702656) one64 one64 one64 0
def nrB (a : I) (l h : Nat) : Obs := [(decide (a.lo.k ≤ a.hi.k), true), (decide (a.hi.k ≤ (toF h).k), true), (decide ((toF l).k ≤ a.lo.k), true)]
def upA (D : Ndn) (un : F → F → F → V3) (cs : List SV) (len : Nat) : Ch := D.g (un z64 z64 one64).z (un z64 z64 one64) (un z64 z64 one64) cs len
def upO (D : Ndn) (un : F → F → F → V3) (ub : F → F → F → Bool) (cs : List SV) (len : Nat) : Obs := atO D un ub cs len z64 z64 one64 z64 z64 one64
def aw22 (D : Ndn) (un : F → F → F → V3) (ub : F → F → F → Bool) : Obs :=
  nrB (D.gm (pt z64) gyB 2).m 4607182418800009216 4607182418800017408 ++ (nrB (upA D un gyB 2).m 4585925428414713479 4585925428702943855 ++ (nrB (upA D un gyB 2).p 4599176414598293166 4599176414616307564 ++ ((eqIv (upA D un gyA 1).m I.zero, true) :: (nrB (upA D un gyA 1).p 4599405781053817700 4599405781071832099 ++
  ([(ub z64 z64 one64, true), (ub z64 z64 z64, false), (D.o gyB 2, true)] ++ (((decide (gyB.length = 2 * 19), true) :: (D.o gyB 2, true) :: (D.bm (pt z64) gyB 2, true) :: miO (pt z64)) ++ (upO D un ub gyB 2 ++ upO D un ub gyA 1)))))))
def awD : List Bool := [true, true, false, false, true, true, false, false, false, true] ++ List.replicate 13 true
theorem aw22Run (D : Ndn) (un : F → F → F → V3) (ub : F → F → F → Bool) : valR ((run Tryz.prog EG (OA22 D un ub) 120).1 21 [] [] (some awD)) = some (.b true, some [], aw22 D un ub) := by kernel_rfl
set_option maxRecDepth 100000 in
theorem aw22_B : Bu.obsB (aw22 DR (unV KkR) unB) = true := by decide +kernel
theorem oracleA22 : OracleOk Tryz.prog (OA22 DR (unV KkR) unB) := .cons rgtOG (.cons unG.of (.cons chK.of (.cons miK.of (.cons ptG.of (.nil _)))))
theorem awake22G : PlainOk Tryz.prog 21 (oConst (.b true)) := constG rfl fun w => calls_of_val goodG oracleA22 120 (aw22Run DR (unV KkR) unB) (obsB_ok aw22_B) rfl rfl w
end Go.Proofs.YtgjohjgmlleebaaGreat
