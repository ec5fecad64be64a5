/- draw.Path by the reckoner: the rounds. draw.Path: the contract. draw.Path: entry, end; the known function. draw.Draw by the reckoner: pieces. draw.Draw by the reckoner: the runs. draw.Draw: the known function. The draws, really; their known functions with sureness decided. The chapter's examples of layer 23. DrawLeaf by the reckoner. The draws, plain: ends, errors, boxes. The draws, plain: boxes. The draws, plain: what is drawn of a right program. DrawLeaf, proved: ways without an error. DrawLeaf, proved. DrawBox by the reckoner: pieces. DrawBox by the reckoner: the runs. Numbers between -1 and 1 of 32 bits: none is 0. -/
import Derived.Test.YtgjohjgmlleebaaGreatM14
import Derived.Test.YtgjohjgmlleebaaGreatM12
import Derived.Test.YtgjohjgmlleebaaGreatM13
import Derived.Test.YtgjohjgmlleebaaGreatM10
import Derived.Test.YtgjohjgmlleebaaGreatM06
namespace Bu
set_option linter.all false
open Rx Go
def keptF (a : I) : I := keptI a z64 one64
/-- one step on: below a part, or not -/
def onB (K : Kk) (er : Int) (s t : I) : I × Int := (keptF (K.div er s t).1, (K.div er s t).2)
def onN (K : Kk) (er : Int) (s t : I) : I × Int :=
  let a := K.sub er s t
  let b := K.sub a.2 (pt one64) t
  let q := K.div b.2 a.1 b.1
  (keptF q.1, q.2)
end Bu
namespace Go.Proofs.YtgjohjgmlleebaaGreat
set_option linter.all false
open Go.RowKit Bu Rx
section
variable (W : Npa) (e : TypeId) (cells : List SV) (off len cap : Nat) (c : I) (a er : Int) (s : I) (sure : Bool) (x : Nat → SV)
def paHd (cells : List SV) (off len : Nat) (a er : Int) : Obs := [(ckAll cells (off + a.toNat * 19) ndCK, true), (ixB a len, true), (er == 0, true)]
noncomputable abbrev paR (d : List Bool) : St := aft Tryz.prog EG (OPa W) 60 paBd (paS e cells off len cap c a er s sure (.b false) x (some d))
noncomputable abbrev pw (cells : List SV) (off : Nat) (a : Int) : F := (nd0 cells off a).f 15
noncomputable abbrev pI (cells : List SV) (off : Nat) (a : Int) : I := ⟨(nd0 cells off a).f 14, (nd0 cells off a).f 14⟩
noncomputable abbrev pO (W : Npa) (cells : List SV) (off : Nat) (a : Int) (c : I) : I := (W.D c (pI cells off a)).1
theorem paL_mb : Lands Tryz.prog EG (OPa W) 60 paBd (paS e cells off len cap c a er s sure (.b false) x (some [true, true, true])) .normal := by unfold Lands; kernel_rfl
theorem paO_mb : (paR W e cells off len cap c a er s sure x [true, true, true]).ob = (decide (s.hi.k < (pw cells off a).k), true) :: (((nd0 cells off a).k == 5, true) :: paHd cells off len a er) := by kernel_rfl
theorem paM_mb : selM (paR W e cells off len cap c a er s sure x [true, true, true]).M [0, 1, 2, 3, 4] = some (paM e cells c (nd0 cells off a).b (onB W.K er s ⟨(pw cells off a), (pw cells off a)⟩).2 (onB W.K er s ⟨(pw cells off a), (pw cells off a)⟩).1 sure) := by kernel_rfl
theorem paT_mb (v : Nat → Value) (M' : List Blk) : ∃ y, ((paR W e cells off len cap c a er s sure x [true, true, true]).sel [0, 1, 2, 3, 4] M' v).T = paT off len cap (.b false) y := ⟨fun k => ((paR W e cells off len cap c a er s sure x [true, true, true]).sel [0, 1, 2, 3, 4] [] v).T.getD k .np, by kernel_rfl⟩
theorem paL_mu : Lands Tryz.prog EG (OPa W) 60 paBd (paS e cells off len cap c a er s sure (.b false) x (some [true, true, false, true])) .normal := by unfold Lands; kernel_rfl
theorem paO_mu : (paR W e cells off len cap c a er s sure x [true, true, false, true]).ob = (decide (s.lo.k < (pw cells off a).k), true) :: (decide (s.hi.k < (pw cells off a).k), false) :: (((nd0 cells off a).k == 5, true) :: paHd cells off len a er) := by kernel_rfl
theorem paM_mu : selM (paR W e cells off len cap c a er s sure x [true, true, false, true]).M [0, 1, 2, 3, 4] = some (paM e cells c (nd0 cells off a).b (onB W.K er s ⟨(pw cells off a), (pw cells off a)⟩).2 (onB W.K er s ⟨(pw cells off a), (pw cells off a)⟩).1 false) := by kernel_rfl
theorem paT_mu (v : Nat → Value) (M' : List Blk) : ∃ y, ((paR W e cells off len cap c a er s sure x [true, true, false, true]).sel [0, 1, 2, 3, 4] M' v).T = paT off len cap (.b false) y := ⟨fun k => ((paR W e cells off len cap c a er s sure x [true, true, false, true]).sel [0, 1, 2, 3, 4] [] v).T.getD k .np, by kernel_rfl⟩
theorem paL_mn : Lands Tryz.prog EG (OPa W) 60 paBd (paS e cells off len cap c a er s sure (.b false) x (some [true, true, false, false])) .normal := by unfold Lands; kernel_rfl
theorem paO_mn : (paR W e cells off len cap c a er s sure x [true, true, false, false]).ob = (decide (s.lo.k < (pw cells off a).k), false) :: (decide (s.hi.k < (pw cells off a).k), false) :: (((nd0 cells off a).k == 5, true) :: paHd cells off len a er) := by kernel_rfl
theorem paM_mn : selM (paR W e cells off len cap c a er s sure x [true, true, false, false]).M [0, 1, 2, 3, 4] = some (paM e cells c (nd0 cells off a).a (onN W.K er s ⟨(pw cells off a), (pw cells off a)⟩).2 (onN W.K er s ⟨(pw cells off a), (pw cells off a)⟩).1 sure) := by kernel_rfl
theorem paT_mn (v : Nat → Value) (M' : List Blk) : ∃ y, ((paR W e cells off len cap c a er s sure x [true, true, false, false]).sel [0, 1, 2, 3, 4] M' v).T = paT off len cap (.b false) y := ⟨fun k => ((paR W e cells off len cap c a er s sure x [true, true, false, false]).sel [0, 1, 2, 3, 4] [] v).T.getD k .np, by kernel_rfl⟩
theorem paL_cn : Lands Tryz.prog EG (OPa W) 60 paBd (paS e cells off len cap c a er s sure (.b false) x (some [true, false, true, false, false, false])) .normal := by unfold Lands; kernel_rfl
theorem paO_cn : (paR W e cells off len cap c a er s sure x [true, false, true, false, false, false]).ob = (decide (s.lo.k < (pO W cells off a c).hi.k), false) :: (decide (s.hi.k < (pO W cells off a c).lo.k), false) :: ((W.D c (pI cells off a)).2 != 0, false) :: (W.dO c (pI cells off a) ++ (((nd0 cells off a).k == 6, true) :: ((nd0 cells off a).k == 5, false) :: paHd cells off len a er)) := by kernel_rfl
theorem paM_cn : selM (paR W e cells off len cap c a er s sure x [true, false, true, false, false, false]).M [0, 1, 2, 3, 4] = some (paM e cells c (nd0 cells off a).a (onN W.K er s (pO W cells off a c)).2 (onN W.K er s (pO W cells off a c)).1 sure) := by kernel_rfl
theorem paT_cn (v : Nat → Value) (M' : List Blk) : ∃ y, ((paR W e cells off len cap c a er s sure x [true, false, true, false, false, false]).sel [0, 1, 2, 3, 4] M' v).T = paT off len cap (.b false) y := ⟨fun k => ((paR W e cells off len cap c a er s sure x [true, false, true, false, false, false]).sel [0, 1, 2, 3, 4] [] v).T.getD k .np, by kernel_rfl⟩
theorem paL_cb : Lands Tryz.prog EG (OPa W) 60 paBd (paS e cells off len cap c a er s sure (.b false) x (some [true, false, true, false, true])) (.exit 1) := by unfold Lands; kernel_rfl
theorem paO_cb : (paR W e cells off len cap c a er s sure x [true, false, true, false, true]).ob = (decide (s.hi.k < (pO W cells off a c).lo.k), true) :: ((W.D c (pI cells off a)).2 != 0, false) :: (W.dO c (pI cells off a) ++ (((nd0 cells off a).k == 6, true) :: ((nd0 cells off a).k == 5, false) :: paHd cells off len a er)) := by kernel_rfl
theorem paM_cb : selM (paR W e cells off len cap c a er s sure x [true, false, true, false, true]).M [0, 1, 2, 3, 4] = some (paM e cells c a (s, er).2 (s, er).1 sure) := by kernel_rfl
theorem paT_cb (v : Nat → Value) (M' : List Blk) : ∃ y, ((paR W e cells off len cap c a er s sure x [true, false, true, false, true]).sel [0, 1, 2, 3, 4] M' v).T = paT off len cap (.b true) y := ⟨fun k => ((paR W e cells off len cap c a er s sure x [true, false, true, false, true]).sel [0, 1, 2, 3, 4] [] v).T.getD k .np, by kernel_rfl⟩
theorem paL_cu : Lands Tryz.prog EG (OPa W) 60 paBd (paS e cells off len cap c a er s sure (.b false) x (some [true, false, true, false, false, true])) (.exit 1) := by unfold Lands; kernel_rfl
theorem paO_cu : (paR W e cells off len cap c a er s sure x [true, false, true, false, false, true]).ob = (decide (s.lo.k < (pO W cells off a c).hi.k), true) :: (decide (s.hi.k < (pO W cells off a c).lo.k), false) :: ((W.D c (pI cells off a)).2 != 0, false) :: (W.dO c (pI cells off a) ++ (((nd0 cells off a).k == 6, true) :: ((nd0 cells off a).k == 5, false) :: paHd cells off len a er)) := by kernel_rfl
theorem paM_cu : selM (paR W e cells off len cap c a er s sure x [true, false, true, false, false, true]).M [0, 1, 2, 3, 4] = some (paM e cells c a (s, er).2 (s, er).1 false) := by kernel_rfl
theorem paT_cu (v : Nat → Value) (M' : List Blk) : ∃ y, ((paR W e cells off len cap c a er s sure x [true, false, true, false, false, true]).sel [0, 1, 2, 3, 4] M' v).T = paT off len cap (.b true) y := ⟨fun k => ((paR W e cells off len cap c a er s sure x [true, false, true, false, false, true]).sel [0, 1, 2, 3, 4] [] v).T.getD k .np, by kernel_rfl⟩
theorem paL_lf : Lands Tryz.prog EG (OPa W) 60 paBd (paS e cells off len cap c a er s sure (.b false) x (some [true, false, false])) (.exit 1) := by unfold Lands; kernel_rfl
theorem paO_lf : (paR W e cells off len cap c a er s sure x [true, false, false]).ob = ((nd0 cells off a).k == 6, false) :: ((nd0 cells off a).k == 5, false) :: paHd cells off len a er := by kernel_rfl
theorem paM_lf : selM (paR W e cells off len cap c a er s sure x [true, false, false]).M [0, 1, 2, 3, 4] = some (paM e cells c a (s, er).2 (s, er).1 sure) := by kernel_rfl
theorem paT_lf (v : Nat → Value) (M' : List Blk) : ∃ y, ((paR W e cells off len cap c a er s sure x [true, false, false]).sel [0, 1, 2, 3, 4] M' v).T = paT off len cap (.b false) y := ⟨fun k => ((paR W e cells off len cap c a er s sure x [true, false, false]).sel [0, 1, 2, 3, 4] [] v).T.getD k .np, by kernel_rfl⟩
theorem paL_er : Lands Tryz.prog EG (OPa W) 60 paBd (paS e cells off len cap c a er s sure (.b false) x (some [false])) (.exit 1) := by unfold Lands; kernel_rfl
theorem paO_er : (paR W e cells off len cap c a er s sure x [false]).ob = [(er == 0, false)] := by kernel_rfl
theorem paM_er : selM (paR W e cells off len cap c a er s sure x [false]).M [0, 1, 2, 3, 4] = some (paM e cells c a (s, er).2 (s, er).1 sure) := by kernel_rfl
theorem paT_er (v : Nat → Value) (M' : List Blk) : ∃ y, ((paR W e cells off len cap c a er s sure x [false]).sel [0, 1, 2, 3, 4] M' v).T = paT off len cap (.b false) y := ⟨fun k => ((paR W e cells off len cap c a er s sure x [false]).sel [0, 1, 2, 3, 4] [] v).T.getD k .np, by kernel_rfl⟩
end
end Go.Proofs.YtgjohjgmlleebaaGreat
namespace Rx
set_option linter.all false
open Go Go.RowKit
theorem RunsB.scope {P : Program} {B : Bs} {c : Code} {s : St} {Φ : St → Prop} (h : RunsB P B c s .ret Φ) : RunsB P B (.scope c) s .ret Φ := by
  intro m a w Q hs hg hq
  refine wp_scope_straight (h m a w _ hs hg fun t m' a' w' h1 hst hg' => ?_)
  exact hq t m' a' w' h1 hst hg'
end Rx
namespace Bu
set_option linter.all false
open Rx Go
structure Pst where
  a : Nat
  s : I
  sure : Bool
  er : Int
/-- the way down -/
def pathF (K : Kk) (D : I → I → I × Int) (c : I) (cs : List SV) : Nat → Pst → Pst × Bool
  | 0, p => (p, false)
  | n + 1, p =>
    bif decide (p.er = 0) then
      bif decide ((ndR cs (p.a * 19)).k = 5) then
        bif decide (p.s.hi.k < ((ndR cs (p.a * 19)).f 15).k) then pathF K D c cs n ⟨(ndR cs (p.a * 19)).b.toNat, (onB K p.er p.s (pt ((ndR cs (p.a * 19)).f 15))).1, p.sure, (onB K p.er p.s (pt ((ndR cs (p.a * 19)).f 15))).2⟩
        else bif decide (p.s.lo.k < ((ndR cs (p.a * 19)).f 15).k) then pathF K D c cs n ⟨(ndR cs (p.a * 19)).b.toNat, (onB K p.er p.s (pt ((ndR cs (p.a * 19)).f 15))).1, false, (onB K p.er p.s (pt ((ndR cs (p.a * 19)).f 15))).2⟩
        else pathF K D c cs n ⟨(ndR cs (p.a * 19)).a.toNat, (onN K p.er p.s (pt ((ndR cs (p.a * 19)).f 15))).1, p.sure, (onN K p.er p.s (pt ((ndR cs (p.a * 19)).f 15))).2⟩
      else bif decide ((ndR cs (p.a * 19)).k = 6) then
        bif decide (p.s.hi.k < (D c (pt ((ndR cs (p.a * 19)).f 14))).1.lo.k) then (p, true)
        else bif decide (p.s.lo.k < (D c (pt ((ndR cs (p.a * 19)).f 14))).1.hi.k) then (⟨p.a, p.s, false, p.er⟩, true)
        else pathF K D c cs n ⟨(ndR cs (p.a * 19)).a.toNat, (onN K p.er p.s (D c (pt ((ndR cs (p.a * 19)).f 14))).1).1, p.sure, (onN K p.er p.s (D c (pt ((ndR cs (p.a * 19)).f 14))).1).2⟩
      else (p, false)
    else (p, false)
end Bu
namespace Go.Proofs.YtgjohjgmlleebaaGreat
set_option linter.all false
open Go.RowKit Bu Rx
/-- what coats reflect has no error -/
def paB (D : I → I → I × Int) (dO : I → I → Obs) (c : I) (cs : List SV) (len : Nat) : Bool :=
  (List.range len).all fun i => bif decide ((ndR cs (i * 19)).k = 6) then Bu.obsB (dO c (pt ((ndR cs (i * 19)).f 14))) && decide ((D c (pt ((ndR cs (i * 19)).f 14))).2 = 0) else true
theorem paB_at {D : I → I → I × Int} {dO : I → I → Obs} {c : I} {cs : List SV} {len i : Nat} (h : paB D dO c cs len = true) (hi : i < len) (h6 : (ndR cs (i * 19)).k = 6) : ObsOk (dO c (pt ((ndR cs (i * 19)).f 14))) ∧ (D c (pt ((ndR cs (i * 19)).f 14))).2 = 0 := by
  have h1 := List.all_eq_true.1 h i (List.mem_range.2 hi)
  rw [decide_eq_true h6, cond_true, Bool.and_eq_true, decide_eq_true_eq] at h1
  exact ⟨Bu.obsB_ok h1.1, h1.2⟩
section
variable {W : Npa} (hO : OracleOk Tryz.prog (OPa W)) {e : TypeId} {cells cs : List SV} {c : I} {off len cap : Nat} {B : Bs} (hB1 : B.M.length = 1) (K : OkPg cs len) (hca : CellsAt cells off cs) (hB : paB W.D W.dO c cs len = true)
noncomputable abbrev paP (e : TypeId) (cells : List SV) (off len cap : Nat) (c : I) (p : Pst) (g : Bool) (x : Nat → SV) : St := paS e cells off len cap c (p.a : Int) p.er p.s p.sure (.b g) x none
include hO hB1
theorem pa_step {a er : Int} {s : I} {sure : Bool} {x : Nat → SV} {d : List Bool} {ex : Ex} {A E : Int} {s' : I} {u' g' : Bool} (hL : Lands Tryz.prog EG (OPa W) 60 paBd (paS e cells off len cap c a er s sure (.b false) x (some d)) ex) (ho : ObsOk (paR W e cells off len cap c a er s sure x d).ob)
    (hM : selM (paR W e cells off len cap c a er s sure x d).M [0, 1, 2, 3, 4] = some (paM e cells c A E s' u')) (hT : ∀ (v : Nat → Value) (M' : List Blk), ∃ y, ((paR W e cells off len cap c a er s sure x d).sel [0, 1, 2, 3, 4] M' v).T = paT off len cap (.b g') y) :
    RunsB Tryz.prog B paBd (paS e cells off len cap c a er s sure (.b false) x none) ex (fun t => ∃ y, t = paS e cells off len cap c A E s' u' (.b g') y none) := by
  have hk : ∀ n, n < B.M.length → ([0, 1, 2, 3, 4] : List Nat)[n]? = some n := fun n hn => by
    rw [hB1] at hn
    have : n = 0 := by omega
    subst this; rfl
  refine RunsB.re (d := some d) (o := []) (RunsB.sel (RunsP.bs (Lands.runs goodG hO hL ho)) rfl hM hk fun v => ?_)
  obtain ⟨y, hy⟩ := hT v (paM e cells c A E s' u')
  exact ⟨_, ⟨y, rfl⟩, same_eq hy.symm rfl⟩
include K hca hB
set_option maxRecDepth 20000 in
theorem pa_loop {R : Pst × Bool} (n : Nat) (p : Pst) (x : Nat → SV) (hn : p.a < n) (hl : p.a < len) (hR : pathF W.K W.D c cs n p = R) :
    RunsB Tryz.prog B (.block 1 (.loop paBd)) (paP e cells off len cap c p false x) .normal (fun t => R.1.a < len ∧ ∃ y, t = paP e cells off len cap c R.1 R.2 y) := by
  refine loop_outB (fun q : Nat × Pst × (Nat → SV) => paP e cells off len cap c q.2.1 false q.2.2) (fun q => q.1) (fun q => q.2.1.a < q.1 ∧ q.2.1.a < len ∧ pathF W.K W.D c cs q.1 q.2.1 = R) ?_ (n, p, x) ⟨hn, hl, hR⟩
  rintro ⟨n, p, x⟩ ⟨h1, h2, h3⟩
  simp only at h1 h2 h3
  obtain ⟨n, rfl⟩ : ∃ k, n = k + 1 := ⟨n - 1, by omega⟩
  obtain ⟨hck, hnr⟩ := K.at hca h2
  have hnd := K.nd p.a h2
  have hcb := fun h6 => paB_at hB h2 h6
  have hnd0 : nd0 cells off (p.a : Int) = ndR cs (p.a * 19) := by unfold nd0; rw [Int.toNat_natCast]; exact hnr
  have hH : ∀ {er : Int}, er = 0 → ObsOk (paHd cells off len (p.a : Int) er) := fun he => by
    unfold paHd
    rw [Int.toNat_natCast]
    exact ob_c hck (ob_c (ix_of (by omega) (by omega)) (ob_c (beq_t he) ob_n))
  unfold pathF at h3
  obtain ⟨a, s, sure, er⟩ := p
  simp only at h1 h2 h3 hck hnr hnd hcb hnd0 hH ⊢
  have fin : ∀ {A E : Int} {s' : I} {u' : Bool} (a' : Nat), (a' : Int) = A → a' < a → pathF W.K W.D c cs n ⟨a', s', u', E⟩ = R → ∀ t : St, (∃ y, t = paS e cells off len cap c A E s' u' (.b false) y none) → ∃ q : Nat × Pst × (Nat → SV), (q.2.1.a < q.1 ∧ q.2.1.a < len ∧ pathF W.K W.D c cs q.1 q.2.1 = R) ∧ q.1 < n + 1 ∧ t = paP e cells off len cap c q.2.1 false q.2.2 := by
    intro A E s' u' a' hA ha hp t ⟨y, hy⟩
    subst hA
    exact ⟨(n, ⟨a', s', u', E⟩, y), ⟨by show a' < n; omega, by show a' < len; omega, hp⟩, Nat.lt_succ_self n, hy⟩
  by_cases he : er = 0
  · rw [decide_eq_true he, cond_true] at h3
    generalize hgn : ndR cs (a * 19) = nd at h3 hnd hcb hnd0
    by_cases h5 : nd.k = 5
    · obtain ⟨⟨a0, a1⟩, b0, b1⟩ := okNd_mix hnd h5
      rw [decide_eq_true h5, cond_true] at h3
      refine .inr ?_
      by_cases g1 : s.hi.k < (nd.f 15).k
      · rw [decide_eq_true g1, cond_true] at h3
        refine (pa_step hO hB1 (paL_mb W e cells off len cap c a er s sure x) ?_ (paM_mb W e cells off len cap c a er s sure x) (paT_mb W e cells off len cap c a er s sure x)).mono (fin nd.b.toNat ?_ ?_ ?_)
        · rw [paO_mb]; simp only [pw, hnd0]
          exact ob_c (decide_eq_true g1) (ob_c (beq_t h5) (hH he))
        · rw [hnd0]; exact Int.toNat_of_nonneg b0
        · omega
        · simp only [pw, hnd0]; exact h3
      · rw [decide_eq_false g1, cond_false] at h3
        by_cases g2 : s.lo.k < (nd.f 15).k
        · rw [decide_eq_true g2, cond_true] at h3
          refine (pa_step hO hB1 (paL_mu W e cells off len cap c a er s sure x) ?_ (paM_mu W e cells off len cap c a er s sure x) (paT_mu W e cells off len cap c a er s sure x)).mono (fin nd.b.toNat ?_ ?_ ?_)
          · rw [paO_mu]; simp only [pw, hnd0]
            exact ob_c (decide_eq_true g2) (ob_c (decide_eq_false g1) (ob_c (beq_t h5) (hH he)))
          · rw [hnd0]; exact Int.toNat_of_nonneg b0
          · omega
          · simp only [pw, hnd0]; exact h3
        · rw [decide_eq_false g2, cond_false] at h3
          refine (pa_step hO hB1 (paL_mn W e cells off len cap c a er s sure x) ?_ (paM_mn W e cells off len cap c a er s sure x) (paT_mn W e cells off len cap c a er s sure x)).mono (fin nd.a.toNat ?_ ?_ ?_)
          · rw [paO_mn]; simp only [pw, hnd0]
            exact ob_c (decide_eq_false g2) (ob_c (decide_eq_false g1) (ob_c (beq_t h5) (hH he)))
          · rw [hnd0]; exact Int.toNat_of_nonneg a0
          · omega
          · simp only [pw, hnd0]; exact h3
    · rw [decide_eq_false h5, cond_false] at h3
      by_cases h6 : nd.k = 6
      · obtain ⟨a0, a1⟩ := okNd_coat hnd h6
        obtain ⟨k1, k2⟩ := hcb h6
        rw [decide_eq_true h6, cond_true] at h3
        have hC : ObsOk (((W.D c (pt (nd.f 14))).2 != 0, false) :: (W.dO c (pt (nd.f 14)) ++ ((nd.k == 6, true) :: (nd.k == 5, false) :: paHd cells off len a er))) := ob_c (ne_0 k2) (ob_a k1 (ob_c (beq_t h6) (ob_c (beq_f h5) (hH he))))
        by_cases g1 : s.hi.k < (W.D c (pt (nd.f 14))).1.lo.k
        · rw [decide_eq_true g1, cond_true] at h3
          refine .inl ((pa_step hO hB1 (paL_cb W e cells off len cap c a er s sure x) ?_ (paM_cb W e cells off len cap c a er s sure x) (paT_cb W e cells off len cap c a er s sure x)).mono fun t ⟨y, hy⟩ => ?_)
          · rw [paO_cb]; simp only [pO, pI, hnd0]
            exact ob_c (decide_eq_true g1) hC
          · subst h3; exact ⟨h2, y, hy⟩
        · rw [decide_eq_false g1, cond_false] at h3
          by_cases g2 : s.lo.k < (W.D c (pt (nd.f 14))).1.hi.k
          · rw [decide_eq_true g2, cond_true] at h3
            refine .inl ((pa_step hO hB1 (paL_cu W e cells off len cap c a er s sure x) ?_ (paM_cu W e cells off len cap c a er s sure x) (paT_cu W e cells off len cap c a er s sure x)).mono fun t ⟨y, hy⟩ => ?_)
            · rw [paO_cu]; simp only [pO, pI, hnd0]
              exact ob_c (decide_eq_true g2) (ob_c (decide_eq_false g1) hC)
            · subst h3; exact ⟨h2, y, hy⟩
          · rw [decide_eq_false g2, cond_false] at h3
            refine .inr ((pa_step hO hB1 (paL_cn W e cells off len cap c a er s sure x) ?_ (paM_cn W e cells off len cap c a er s sure x) (paT_cn W e cells off len cap c a er s sure x)).mono (fin nd.a.toNat ?_ ?_ ?_))
            · rw [paO_cn]; simp only [pO, pI, hnd0]
              exact ob_c (decide_eq_false g2) (ob_c (decide_eq_false g1) hC)
            · rw [hnd0]; exact Int.toNat_of_nonneg a0
            · omega
            · simp only [pO, pI, hnd0]; exact h3
      · rw [decide_eq_false h6, cond_false] at h3
        refine .inl ((pa_step hO hB1 (paL_lf W e cells off len cap c a er s sure x) ?_ (paM_lf W e cells off len cap c a er s sure x) (paT_lf W e cells off len cap c a er s sure x)).mono fun t ⟨y, hy⟩ => ?_)
        · rw [paO_lf]; simp only [hnd0]
          exact ob_c (beq_f h6) (ob_c (beq_f h5) (hH he))
        · subst h3; exact ⟨h2, y, hy⟩
  · rw [decide_eq_false he, cond_false] at h3
    refine .inl ((pa_step hO hB1 (paL_er W e cells off len cap c a er s sure x) ?_ (paM_er W e cells off len cap c a er s sure x) (paT_er W e cells off len cap c a er s sure x)).mono fun t ⟨y, hy⟩ => ?_)
    · rw [paO_er]
      exact ob_c (beq_f he) ob_n
    · subst h3; exact ⟨h2, y, hy⟩
end
end Go.Proofs.YtgjohjgmlleebaaGreat
namespace Go.Proofs.YtgjohjgmlleebaaGreat
set_option linter.all false
open Go.RowKit Bu Rx
section
variable (W : Npa) (e : TypeId) (cells : List SV) (off len cap : Nat) (c : I) (u : Int) (a er : Int) (s : I) (sure gl : Bool) (x : Nat → SV)
noncomputable abbrev pa0 : St := aft Tryz.prog EG (OPa W) 60 (seqL paC) (paE e cells off len cap c u (some [true, false, false]))
noncomputable abbrev pa4 : St := aftN Tryz.prog EG (OPa W) 60 4 paIn (pa0 W e cells off len cap c u)
theorem paL0 : Lands Tryz.prog EG (OPa W) 60 (seqL paC) (paE e cells off len cap c u (some [true, false, false])) .normal := by unfold Lands; kernel_rfl
theorem paOb0 : (pa0 W e cells off len cap c u).ob = [] := by kernel_rfl
theorem paL4 : LandsN Tryz.prog EG (OPa W) 60 4 paIn (pa0 W e cells off len cap c u) := by unfold LandsN; kernel_rfl
def paEO (W : Npa) (cells : List SV) (off len : Nat) (c : I) (u : Int) : Obs := [(W.u u, true), (decide (one64.k < c.hi.k), false), (decide (c.lo.k < z64.k), false), (rt c, true), (W.o ((cells.drop off).take (len * 19)) len, true)]
theorem paO4 : (pa4 W e cells off len cap c u).ob = paEO W cells off len c u := by kernel_rfl
def paM0 (e : TypeId) (cells : List SV) (c : I) (a : Int) (s : I) (q : I × Int) : List Blk := [⟨e, cells, .num⟩, ⟨29, [.fl c.lo, .fl c.hi], .ex⟩, ⟨108, [.si .i64 q.2], .ex⟩, ⟨114, [.p 2 0, .si .i64 a, .fl s.lo, .fl s.hi, .b true], .ex⟩, ⟨29, [.fl q.1.lo, .fl q.1.hi], .ex⟩]
theorem paM4 : selM (pa4 W e cells off len cap c u).M [0, 1, 2, 3, 4] = some (paM0 e cells c (IntKind.i64.wrap ((len : Int) - 1)) (W.uo u) (W.K.num 0 one64)) := by kernel_rfl
noncomputable def pa4X (v : Nat → Value) : Nat → SV := fun j => ((pa4 W e cells off len cap c u).sel [0, 1, 2, 3, 4] [] v).T.getD j .np
theorem paT4 (v : Nat → Value) (M' : List Blk) : ((pa4 W e cells off len cap c u).sel [0, 1, 2, 3, 4] M' v).T = paT off len cap (.b false) (pa4X W e cells off len cap c u v) := by kernel_rfl
theorem paLz : Lands Tryz.prog EG (OPa W) 60 paTl (paS e cells off len cap c a er s sure (.b gl) x (some [true])) .ret := by unfold Lands; kernel_rfl
theorem paOz : (aft Tryz.prog EG (OPa W) 60 paTl (paS e cells off len cap c a er s sure (.b gl) x (some [true]))).ob = [(er != 0, true)] := by kernel_rfl
theorem paRz : resultS Tryz.prog Tryz.f28 (aft Tryz.prog EG (OPa W) 60 paTl (paS e cells off len cap c a er s sure (.b gl) x (some [true]))) = some (.tup [.i .i64 0, .b false, .b false, .si .i64 er]) := by kernel_rfl
theorem paMz : (aft Tryz.prog EG (OPa W) 60 paTl (paS e cells off len cap c a er s sure (.b gl) x (some [true]))).M = paM e cells c a er s sure := by kernel_rfl
theorem paLy : Lands Tryz.prog EG (OPa W) 60 paTl (paS e cells off len cap c a er s sure (.b gl) x (some [false])) .ret := by unfold Lands; kernel_rfl
theorem paOy : (aft Tryz.prog EG (OPa W) 60 paTl (paS e cells off len cap c a er s sure (.b gl) x (some [false]))).ob = [(er != 0, false)] := by kernel_rfl
theorem paRy : resultS Tryz.prog Tryz.f28 (aft Tryz.prog EG (OPa W) 60 paTl (paS e cells off len cap c a er s sure (.b gl) x (some [false]))) = some (.tup [.si .i64 a, .b gl, .b sure, .i .i64 0]) := by kernel_rfl
theorem paMy : (aft Tryz.prog EG (OPa W) 60 paTl (paS e cells off len cap c a er s sure (.b gl) x (some [false]))).M = paM e cells c a er s sure := by kernel_rfl
end
/-- what Path tells -/
structure PaR where
  a : Int
  g : Bool
  s : Bool
  e : Int
def paRes (r : Pst × Bool) : PaR := bif decide (r.1.er = 0) then ⟨r.1.a, r.2, r.1.sure, 0⟩ else ⟨0, false, false, r.1.er⟩
def paW (W : Npa) (c : I) (u : Int) (cs : List SV) (len : Nat) : Pst × Bool := pathF W.K W.D c cs len ⟨len - 1, W.uo u, true, 0⟩
def paSv (r : Pst × Bool) : SV := bif decide (r.1.er = 0) then .tup [.si .i64 r.1.a, .b r.2, .b r.1.sure, .i .i64 0] else .tup [.i .i64 0, .b false, .b false, .si .i64 r.1.er]
def paV (r : PaR) : Value := .tuple #[.int .i64 r.a, .bool r.g, .bool r.s, .int .i64 r.e]
theorem paSv_plain (r : Pst × Bool) : plain (paSv r) = some (paV (paRes r)) := by
  unfold paSv paRes
  cases decide (r.1.er = 0) <;> rfl
section
variable {W : Npa} (hO : OracleOk Tryz.prog (OPa W)) (hnum : W.K.num 0 one64 = (pt one64, 0)) {e : TypeId} {cells cs : List SV} {c : I} {u : Int} {off len cap : Nat} {B : Bs} (hB1 : B.M.length = 1) (K : OkPg cs len) (hca : CellsAt cells off cs) (hB : paB W.D W.dO c cs len = true)
include hO hB1 K hca hB hnum
set_option maxRecDepth 20000 in
theorem pa_all (ho : ObsOk (paEO W cells off len c u)) : RunsB Tryz.prog B paC (paE e cells off len cap c u none) .ret
    (fun t => resultS Tryz.prog Tryz.f28 t = some (paSv (paW W c u cs len)) ∧ ∃ rest, t.M = ⟨e, cells, .num⟩ :: rest) := by
  have hlo := K.lo
  have hhi := K.hi
  have hw : IntKind.i64.wrap ((len : Int) - 1) = ((len - 1 : Nat) : Int) := by rw [IntKind.wrap_i64]; omega
  refine RunsB.re (d := some [true, false, false]) (o := []) ?_
  rw [paC_cut]
  refine LandsB.seq goodG hO (paL0 W e cells off len cap c u) (by have h0 := paOb0 W e cells off len cap c u; have K0 : ObsOk [] := ob_n; exact h0 ▸ K0) ?_
  refine RunsB.scope ?_
  refine (paL4 W e cells off len cap c u).ok goodG hO (by rw [paO4]; exact ho) ?_
  have hM := paM4 W e cells off len cap c u
  rw [hnum, hw] at hM
  refine RunsB.keep (ids := [0, 1, 2, 3, 4]) rfl hM (fun n hn => by
    rw [hB1] at hn
    have : n = 0 := by omega
    subst this; rfl) fun v => ?_
  have hs : SameSt (paP e cells off len cap c ⟨len - 1, W.uo u, true, 0⟩ false (pa4X W e cells off len cap c u v)) ((pa4 W e cells off len cap c u).sel [0, 1, 2, 3, 4] (paM0 e cells c ((len - 1 : Nat) : Int) (W.uo u) (pt one64, 0)) v) := same_eq (paT4 W e cells off len cap c u v _).symm rfl
  refine RunsB.retell hs ?_
  rw [paIn_cut]
  refine RunsB.seq (pa_loop hO hB1 K hca hB len ⟨len - 1, W.uo u, true, 0⟩ (pa4X W e cells off len cap c u v) (by show len - 1 < len; omega) (by show len - 1 < len; omega) rfl) fun t ⟨_, y, ht⟩ => ?_
  subst ht
  show RunsB Tryz.prog B paTl (paP e cells off len cap c (paW W c u cs len).1 (paW W c u cs len).2 y) .ret _
  generalize paW W c u cs len = r
  unfold paSv
  by_cases he : r.1.er = 0
  · rw [decide_eq_true he, cond_true]
    refine RunsB.re (d := some [false]) (o := []) (RunsP.bs (Lands.all goodG hO (paLy W e cells off len cap c r.1.a r.1.er r.1.s r.1.sure r.2 y) ?_ ⟨paRy W e cells off len cap c r.1.a r.1.er r.1.s r.1.sure r.2 y, ?_⟩))
    · have h0 := paOy W e cells off len cap c r.1.a r.1.er r.1.s r.1.sure r.2 y
      have K0 : ObsOk [(r.1.er != 0, false)] := ob_c (ne_0 he) ob_n
      exact h0 ▸ K0
    · exact ⟨_, paMy W e cells off len cap c r.1.a r.1.er r.1.s r.1.sure r.2 y⟩
  · rw [decide_eq_false he, cond_false]
    refine RunsB.re (d := some [true]) (o := []) (RunsP.bs (Lands.all goodG hO (paLz W e cells off len cap c r.1.a r.1.er r.1.s r.1.sure r.2 y) ?_ ⟨paRz W e cells off len cap c r.1.a r.1.er r.1.s r.1.sure r.2 y, ?_⟩))
    · have h0 := paOz W e cells off len cap c r.1.a r.1.er r.1.s r.1.sure r.2 y
      have K0 : ObsOk [(r.1.er != 0, true)] := ob_c (by simpa using he) ob_n
      exact h0 ▸ K0
    · exact ⟨_, paMz W e cells off len cap c r.1.a r.1.er r.1.s r.1.sure r.2 y⟩
end
/-- names -/
structure Npt where
  o : List SV → Nat → Bool
  b : I → List SV → Nat → Bool
  u : Int → Bool
  g : I → Int → List SV → Nat → PaR
def cosO (c : I) : Obs := [(decide (one64.k < c.hi.k), false), (decide (c.lo.k < z64.k), false), (rt c, true)]
def kPt_ (T : Npt) : RdF := fun cs len l ds => match l with
  | [.agg [.fl lo, .fl hi], y] => match intS y with
    | some (.u64, u) => (takeB ds (T.g ⟨lo, hi⟩ u cs len).g).map fun r => (.tup [.si .i64 (T.g ⟨lo, hi⟩ u cs len).a, .b r.1, .b (T.g ⟨lo, hi⟩ u cs len).s, .si .i64 (T.g ⟨lo, hi⟩ u cs len).e], r.2.1, ((decide (cs.length = len * 19), true) :: (T.o cs len, true) :: (T.b ⟨lo, hi⟩ cs len, true) :: (T.u u, true) :: cosO ⟨lo, hi⟩) ++ r.2.2)
    | _ => none
  | _ => none
def nPt (W : Npa) : Npt := ⟨okPg, paB W.D W.dO, W.u, fun c u cs len => paRes (paW W c u cs len)⟩
theorem ptRd {W : Npa} (hO : OracleOk Tryz.prog (OPa W)) (hnum : W.K.num 0 one64 = (pt one64, 0)) (hW : W.o = okPg) : RdOk Tryz.prog 28 (kPt_ (nPt W)) := by
  intro cs len l ds x ds' ob h ho
  unfold kPt_ at h
  split at h
  · rename_i lo hi y
    split at h
    · rename_i u hu
      simp only [Option.map_eq_some_iff, Prod.mk.injEq] at h
      obtain ⟨⟨r, dd, oo⟩, h1, rfl, rfl, rfl⟩ := h
      have hd := takeB_ok h1 ho.right
      subst hd
      have h2 := ho.left
      have hl : cs.length = len * 19 := of_decide_eq_true (h2 _ (List.mem_cons_self ..))
      have hok : okPg cs len = true := h2 _ (List.mem_cons_of_mem _ (List.mem_cons_self ..))
      have K := okPg_ok hok
      have hB : paB W.D W.dO ⟨lo, hi⟩ cs len = true := h2 _ (List.mem_cons_of_mem _ (List.mem_cons_of_mem _ (List.mem_cons_self ..)))
      have hU : W.u u = true := h2 _ (List.mem_cons_of_mem _ (List.mem_cons_of_mem _ (List.mem_cons_of_mem _ (List.mem_cons_self ..))))
      have hC : ObsOk (cosO ⟨lo, hi⟩) := fun p hp => h2 p (List.mem_cons_of_mem _ (List.mem_cons_of_mem _ (List.mem_cons_of_mem _ (List.mem_cons_of_mem _ hp))))
      obtain ⟨vc, hc⟩ := K.pl
      have hy := intS_plain hu
      refine ⟨vc, [.agg #[.float .f64 lo.b, .float .f64 hi.b], .int .u64 u], paV (paRes (paW W ⟨lo, hi⟩ u cs len)), hc, ?_, rfl, fun w q off cap hw => ?_⟩
      · show plains [.agg [.fl lo, .fl hi], y] = _
        unfold plains plains
        rw [hy]; rfl
      · refine rd_of_runsB (d := none) Tryz.func28 paBody hc (l := [.agg [.fl lo, .fl hi], .si .u64 u]) rfl (paSv_plain (paW W ⟨lo, hi⟩ u cs len)) (fun e cells off cap hca hid B hBM => ?_) w q off cap hw
        exact pa_all (c := ⟨lo, hi⟩) hO hnum (by rw [hBM]; rfl) K hca hB (ob_c hU (by
          have h3 : W.o ((cells.drop off).take (len * 19)) len = true := by rw [hW, ← hl, at_take hca]; exact hok
          intro p hp
          simp only [List.mem_cons, List.not_mem_nil, or_false] at hp
          rcases hp with rfl | rfl | rfl | rfl
          · exact hC _ (List.mem_cons_self ..)
          · exact hC _ (List.mem_cons_of_mem _ (List.mem_cons_self ..))
          · exact hC _ (List.mem_cons_of_mem _ (List.mem_cons_of_mem _ (List.mem_cons_self ..)))
          · exact h3))
    · cases h
  · cases h
end Go.Proofs.YtgjohjgmlleebaaGreat
namespace Go.Proofs.YtgjohjgmlleebaaGreat
set_option linter.all false
open Go.RowKit Bu Rx
/-- names -/
structure Ndr where
  K : Kk
  T : Npt
  un : F → F → F → V3
  ub : F → F → F → Bool
  cd : Int → Int → I × I × I
  vd : V3 → I → Int → Int → V3 × Int
  vo : V3 → I → Int → Int → Obs
  re : V3 → V3 → V3 × Int
  mp : F → F → F → F → F → F → Bool
  md : F → F → F → F → F → F → F × F × F
def ODw (N : Ndr) : OracleF := lookO (OCL N.K ++ [(31, kRd 19 (kRgt N.T.o)), (33, plainO (kUn N.un N.ub)), (28, kRd 19 (kPt_ N.T)), (116, plainO (kDraw N.cd N.T.u)), (117, plainO (kVd N.vd N.vo)), (118, plainO (kRe N.re)), (69, plainO (kSt N.ub)), (71, plainO (kMid N.mp N.md))])
end Go.Proofs.YtgjohjgmlleebaaGreat
namespace Go.Proofs.YtgjohjgmlleebaaGreat
set_option linter.all false
open Go.RowKit Bu Rx
section
variable (N : Ndr) (e : TypeId) (cells : List SV) (off len cap : Nat) (x y z : F) (u0 u1 u2 : Int)
def dwArgs (off len cap : Nat) (x y z : F) (u0 u1 u2 : Int) : List SV := [.ssl 0 off len cap, .agg [.fl x, .fl y, .fl z], .agg [.si .u64 u0, .si .u64 u1, .si .u64 u2]]
noncomputable abbrev dwRun (N : Ndr) (e : TypeId) (cells : List SV) (off len cap : Nat) (x y z : F) (u0 u1 u2 : Int) (d : List Bool) : Option (SV × List Blk × Dec × Obs) := ((run Tryz.prog EG (ODw N) 80).1 30 (dwArgs off len cap x y z u0 u1 u2) [⟨e, cells, .num⟩] (some d)).map (fun q => (q.1, q.2.1.take 1, q.2.2))
/-- what is drawn, as a row -/
def dwS (k : Int) (p : F × F × F) (b : V3) (a : SV) (s : Bool) (e : SV) : SV := .tup [.agg [.i .u8 k, .fl p.1, .fl p.2.1, .fl p.2.2, .fl b.x.lo, .fl b.x.hi, .fl b.y.lo, .fl b.y.hi, .fl b.z.lo, .fl b.z.hi, a, .b s], e]
def z3 : F × F × F := (toF 0, toF 0, toF 0)
def zV : V3 := ⟨⟨toF 0, toF 0⟩, ⟨toF 0, toF 0⟩, ⟨toF 0, toF 0⟩⟩
def dwP (N : Ndr) (cs : List SV) (len : Nat) (x y z : F) (u0 : Int) : PaR := N.T.g (N.un x y z).z u0 cs len
def dwNd (N : Ndr) (cells : List SV) (off len : Nat) (x y z : F) (u0 : Int) : Nd := ndR cells (off + (dwP N (cutC cells off len) len x y z u0).a.toNat * 19)
def dwMir (N : Ndr) (x y z : F) : V3 := ⟨(N.K.neg 0 (N.un x y z).x).1, (N.K.neg (N.K.neg 0 (N.un x y z).x).2 (N.un x y z).y).1, (N.un x y z).z⟩
def dwMid (N : Ndr) (b : V3) : F × F × F := N.md b.x.lo b.x.hi b.y.lo b.y.hi b.z.lo b.z.hi
def dwMp (N : Ndr) (b : V3) : Bool := N.mp b.x.lo b.x.hi b.y.lo b.y.hi b.z.lo b.z.hi
def dwCos (N : Ndr) (u1 u2 : Int) : V3 := ⟨(N.cd u1 u2).1, (N.cd u1 u2).2.1, (N.cd u1 u2).2.2⟩
def dwN (N : Ndr) (v : V3) (al : F) (u1 u2 : Int) : V3 × Int := N.vd v (pt al) u1 u2
def dwO0 (N : Ndr) (cs : List SV) (len : Nat) (x y z : F) (b : Bool) : Obs := [(N.ub x y z, b), (N.T.o cs len, true)]
def dwO1 (N : Ndr) (cs : List SV) (len : Nat) (x y z : F) : Obs := (decide (z.k ≤ z64.k), false) :: dwO0 N cs len x y z true
def dwPO (N : Ndr) (cs : List SV) (len : Nat) (x y z : F) (u0 : Int) (g : Bool) : Obs := ((decide (cs.length = len * 19), true) :: (N.T.o cs len, true) :: (N.T.b (N.un x y z).z cs len, true) :: (N.T.u u0, true) :: cosO (N.un x y z).z) ++ [((dwP N cs len x y z u0).g, g)]
def dwO2 (N : Ndr) (cs : List SV) (len : Nat) (x y z : F) (u0 : Int) (g b : Bool) : Obs := ((dwP N cs len x y z u0).e != 0, b) :: (dwPO N cs len x y z u0 g ++ dwO1 N cs len x y z)
def dwO3 (N : Ndr) (cells : List SV) (off len : Nat) (x y z : F) (u0 : Int) : Obs := (ckAll cells (off + (dwP N (cutC cells off len) len x y z u0).a.toNat * 19) ndCK, true) :: (ixB (dwP N (cutC cells off len) len x y z u0).a len, true) :: dwO2 N (cutC cells off len) len x y z u0 false false
def dwEnd (N : Ndr) (b : V3) (c d : Bool) (t : Obs) : Obs := (decide ((dwMid N b).2.2.k ≤ z64.k), d) :: (N.ub (dwMid N b).1 (dwMid N b).2.1 (dwMid N b).2.2, c) :: (dwMp N b, true) :: t
theorem dwR_a : dwRun N e cells off len cap x y z u0 u1 u2 [false] = some (dwS 0 z3 zV (.i .i64 0) false (.i .i64 50), [⟨e, cells, .num⟩], some [], dwO0 N (cutC cells off len) len x y z false) := by kernel_rfl
theorem dwR_b : dwRun N e cells off len cap x y z u0 u1 u2 [true, true] = some (dwS 0 z3 zV (.i .i64 0) false (.i .i64 0), [⟨e, cells, .num⟩], some [], (decide (z.k ≤ z64.k), true) :: dwO0 N (cutC cells off len) len x y z true) := by kernel_rfl
theorem dwR_c : dwRun N e cells off len cap x y z u0 u1 u2 [true, false, false, true] = some (dwS 0 z3 zV (.i .i64 0) false (.si .i64 (dwP N (cutC cells off len) len x y z u0).e), [⟨e, cells, .num⟩], some [], dwO2 N (cutC cells off len) len x y z u0 false true) := by kernel_rfl
theorem dwR_d : dwRun N e cells off len cap x y z u0 u1 u2 [true, false, true, false] = some (dwS 1 (x.neg, y.neg, z) (dwMir N x y z) (.si .i64 (dwP N (cutC cells off len) len x y z u0).a) (dwP N (cutC cells off len) len x y z u0).s (.i .i64 0), [⟨e, cells, .num⟩], some [], (N.ub x y z, true) :: dwO2 N (cutC cells off len) len x y z u0 true false) := by kernel_rfl
theorem dwR_v : dwRun N e cells off len cap x y z u0 u1 u2 [true, false, false, false, false, false, true, true, true] = some (dwS 0 z3 zV (.i .i64 0) false (.si .i64 (dwN N (N.un x y z) ((dwNd N cells off len x y z u0).f 13) u1 u2).2), [⟨e, cells, .num⟩], some [], ((dwN N (N.un x y z) ((dwNd N cells off len x y z u0).f 13) u1 u2).2 != 0, true) :: ((dwN N (N.un x y z) ((dwNd N cells off len x y z u0).f 13) u1 u2).2 != 0, true) :: (((N.vo (N.un x y z) (pt ((dwNd N cells off len x y z u0).f 13)) u1 u2 ++ [(decide (((dwNd N cells off len x y z u0).f 13).k ≤ one64.k), true)]) ++ [((dwNd N cells off len x y z u0).k == 2, false), ((dwNd N cells off len x y z u0).k == 1, false)]) ++ dwO3 N cells off len x y z u0)) := by kernel_rfl
theorem dwR_r : dwRun N e cells off len cap x y z u0 u1 u2 [true, false, false, false, false, false, true, false, true] = some (dwS 0 z3 zV (.i .i64 0) false (.si .i64 (N.re (N.un x y z) (dwN N (N.un x y z) ((dwNd N cells off len x y z u0).f 13) u1 u2).1).2), [⟨e, cells, .num⟩], some [], ((N.re (N.un x y z) (dwN N (N.un x y z) ((dwNd N cells off len x y z u0).f 13) u1 u2).1).2 != 0, true) :: (reO (N.un x y z) (dwN N (N.un x y z) ((dwNd N cells off len x y z u0).f 13) u1 u2).1 ++ (((dwN N (N.un x y z) ((dwNd N cells off len x y z u0).f 13) u1 u2).2 != 0, false) :: (((N.vo (N.un x y z) (pt ((dwNd N cells off len x y z u0).f 13)) u1 u2 ++ [(decide (((dwNd N cells off len x y z u0).f 13).k ≤ one64.k), true)]) ++ [((dwNd N cells off len x y z u0).k == 2, false), ((dwNd N cells off len x y z u0).k == 1, false)]) ++ dwO3 N cells off len x y z u0)))) := by kernel_rfl
theorem dwR_ett : dwRun N e cells off len cap x y z u0 u1 u2 [true, false, false, false, true, true, true, true] = some (dwS 0 z3 zV (.si .i64 (dwP N (cutC cells off len) len x y z u0).a) (dwP N (cutC cells off len) len x y z u0).s (.i .i64 0), [⟨e, cells, .num⟩], some [], dwEnd N (dwCos N u1 u2) true true ((N.T.u u1, true) :: (N.T.u u2, true) :: ((dwNd N cells off len x y z u0).k == 1, true) :: dwO3 N cells off len x y z u0)) := by kernel_rfl
theorem dwR_etf : dwRun N e cells off len cap x y z u0 u1 u2 [true, false, false, false, true, true, true, false] = some (dwS 2 (dwMid N (dwCos N u1 u2)) (dwCos N u1 u2) (.si .i64 (dwP N (cutC cells off len) len x y z u0).a) (dwP N (cutC cells off len) len x y z u0).s (.i .i64 0), [⟨e, cells, .num⟩], some [], dwEnd N (dwCos N u1 u2) true false ((N.T.u u1, true) :: (N.T.u u2, true) :: ((dwNd N cells off len x y z u0).k == 1, true) :: dwO3 N cells off len x y z u0)) := by kernel_rfl
theorem dwR_eft : dwRun N e cells off len cap x y z u0 u1 u2 [true, false, false, false, true, true, false, true] = some (dwS 0 z3 zV (.si .i64 (dwP N (cutC cells off len) len x y z u0).a) (dwP N (cutC cells off len) len x y z u0).s (.i .i64 0), [⟨e, cells, .num⟩], some [], dwEnd N (dwCos N u1 u2) false true ((N.T.u u1, true) :: (N.T.u u2, true) :: ((dwNd N cells off len x y z u0).k == 1, true) :: dwO3 N cells off len x y z u0)) := by kernel_rfl
theorem dwR_eff : dwRun N e cells off len cap x y z u0 u1 u2 [true, false, false, false, true, true, false, false] = some (dwS 0 z3 zV (.si .i64 (dwP N (cutC cells off len) len x y z u0).a) (dwP N (cutC cells off len) len x y z u0).s (.i .i64 0), [⟨e, cells, .num⟩], some [], dwEnd N (dwCos N u1 u2) false false ((N.T.u u1, true) :: (N.T.u u2, true) :: ((dwNd N cells off len x y z u0).k == 1, true) :: dwO3 N cells off len x y z u0)) := by kernel_rfl
theorem dwR_ftt : dwRun N e cells off len cap x y z u0 u1 u2 [true, false, false, false, false, true, true, true, true] = some (dwS 0 z3 zV (.si .i64 (dwP N (cutC cells off len) len x y z u0).a) (dwP N (cutC cells off len) len x y z u0).s (.i .i64 0), [⟨e, cells, .num⟩], some [], dwEnd N (dwCos N u1 u2) true true ((N.T.u u1, true) :: (N.T.u u2, true) :: ((dwNd N cells off len x y z u0).k == 2, true) :: ((dwNd N cells off len x y z u0).k == 1, false) :: dwO3 N cells off len x y z u0)) := by kernel_rfl
theorem dwR_ftf : dwRun N e cells off len cap x y z u0 u1 u2 [true, false, false, false, false, true, true, true, false] = some (dwS 2 (dwMid N (dwCos N u1 u2)) (dwCos N u1 u2) (.si .i64 (dwP N (cutC cells off len) len x y z u0).a) (dwP N (cutC cells off len) len x y z u0).s (.i .i64 0), [⟨e, cells, .num⟩], some [], dwEnd N (dwCos N u1 u2) true false ((N.T.u u1, true) :: (N.T.u u2, true) :: ((dwNd N cells off len x y z u0).k == 2, true) :: ((dwNd N cells off len x y z u0).k == 1, false) :: dwO3 N cells off len x y z u0)) := by kernel_rfl
theorem dwR_fft : dwRun N e cells off len cap x y z u0 u1 u2 [true, false, false, false, false, true, true, false, true] = some (dwS 0 z3 zV (.si .i64 (dwP N (cutC cells off len) len x y z u0).a) (dwP N (cutC cells off len) len x y z u0).s (.i .i64 0), [⟨e, cells, .num⟩], some [], dwEnd N (dwCos N u1 u2) false true ((N.T.u u1, true) :: (N.T.u u2, true) :: ((dwNd N cells off len x y z u0).k == 2, true) :: ((dwNd N cells off len x y z u0).k == 1, false) :: dwO3 N cells off len x y z u0)) := by kernel_rfl
theorem dwR_fff : dwRun N e cells off len cap x y z u0 u1 u2 [true, false, false, false, false, true, true, false, false] = some (dwS 0 z3 zV (.si .i64 (dwP N (cutC cells off len) len x y z u0).a) (dwP N (cutC cells off len) len x y z u0).s (.i .i64 0), [⟨e, cells, .num⟩], some [], dwEnd N (dwCos N u1 u2) false false ((N.T.u u1, true) :: (N.T.u u2, true) :: ((dwNd N cells off len x y z u0).k == 2, true) :: ((dwNd N cells off len x y z u0).k == 1, false) :: dwO3 N cells off len x y z u0)) := by kernel_rfl
theorem dwR_gtt : dwRun N e cells off len cap x y z u0 u1 u2 [true, false, false, false, false, false, true, false, false, true, true, true] = some (dwS 0 z3 zV (.si .i64 (dwP N (cutC cells off len) len x y z u0).a) (dwP N (cutC cells off len) len x y z u0).s (.i .i64 0), [⟨e, cells, .num⟩], some [], dwEnd N (N.re (N.un x y z) (dwN N (N.un x y z) ((dwNd N cells off len x y z u0).f 13) u1 u2).1).1 true true (((N.re (N.un x y z) (dwN N (N.un x y z) ((dwNd N cells off len x y z u0).f 13) u1 u2).1).2 != 0, false) :: (reO (N.un x y z) (dwN N (N.un x y z) ((dwNd N cells off len x y z u0).f 13) u1 u2).1 ++ (((dwN N (N.un x y z) ((dwNd N cells off len x y z u0).f 13) u1 u2).2 != 0, false) :: (((N.vo (N.un x y z) (pt ((dwNd N cells off len x y z u0).f 13)) u1 u2 ++ [(decide (((dwNd N cells off len x y z u0).f 13).k ≤ one64.k), true)]) ++ [((dwNd N cells off len x y z u0).k == 2, false), ((dwNd N cells off len x y z u0).k == 1, false)]) ++ dwO3 N cells off len x y z u0))))) := by kernel_rfl
theorem dwR_gtf : dwRun N e cells off len cap x y z u0 u1 u2 [true, false, false, false, false, false, true, false, false, true, true, false] = some (dwS 2 (dwMid N (N.re (N.un x y z) (dwN N (N.un x y z) ((dwNd N cells off len x y z u0).f 13) u1 u2).1).1) (N.re (N.un x y z) (dwN N (N.un x y z) ((dwNd N cells off len x y z u0).f 13) u1 u2).1).1 (.si .i64 (dwP N (cutC cells off len) len x y z u0).a) (dwP N (cutC cells off len) len x y z u0).s (.i .i64 0), [⟨e, cells, .num⟩], some [], dwEnd N (N.re (N.un x y z) (dwN N (N.un x y z) ((dwNd N cells off len x y z u0).f 13) u1 u2).1).1 true false (((N.re (N.un x y z) (dwN N (N.un x y z) ((dwNd N cells off len x y z u0).f 13) u1 u2).1).2 != 0, false) :: (reO (N.un x y z) (dwN N (N.un x y z) ((dwNd N cells off len x y z u0).f 13) u1 u2).1 ++ (((dwN N (N.un x y z) ((dwNd N cells off len x y z u0).f 13) u1 u2).2 != 0, false) :: (((N.vo (N.un x y z) (pt ((dwNd N cells off len x y z u0).f 13)) u1 u2 ++ [(decide (((dwNd N cells off len x y z u0).f 13).k ≤ one64.k), true)]) ++ [((dwNd N cells off len x y z u0).k == 2, false), ((dwNd N cells off len x y z u0).k == 1, false)]) ++ dwO3 N cells off len x y z u0))))) := by kernel_rfl
theorem dwR_gft : dwRun N e cells off len cap x y z u0 u1 u2 [true, false, false, false, false, false, true, false, false, true, false, true] = some (dwS 0 z3 zV (.si .i64 (dwP N (cutC cells off len) len x y z u0).a) (dwP N (cutC cells off len) len x y z u0).s (.i .i64 0), [⟨e, cells, .num⟩], some [], dwEnd N (N.re (N.un x y z) (dwN N (N.un x y z) ((dwNd N cells off len x y z u0).f 13) u1 u2).1).1 false true (((N.re (N.un x y z) (dwN N (N.un x y z) ((dwNd N cells off len x y z u0).f 13) u1 u2).1).2 != 0, false) :: (reO (N.un x y z) (dwN N (N.un x y z) ((dwNd N cells off len x y z u0).f 13) u1 u2).1 ++ (((dwN N (N.un x y z) ((dwNd N cells off len x y z u0).f 13) u1 u2).2 != 0, false) :: (((N.vo (N.un x y z) (pt ((dwNd N cells off len x y z u0).f 13)) u1 u2 ++ [(decide (((dwNd N cells off len x y z u0).f 13).k ≤ one64.k), true)]) ++ [((dwNd N cells off len x y z u0).k == 2, false), ((dwNd N cells off len x y z u0).k == 1, false)]) ++ dwO3 N cells off len x y z u0))))) := by kernel_rfl
theorem dwR_gff : dwRun N e cells off len cap x y z u0 u1 u2 [true, false, false, false, false, false, true, false, false, true, false, false] = some (dwS 0 z3 zV (.si .i64 (dwP N (cutC cells off len) len x y z u0).a) (dwP N (cutC cells off len) len x y z u0).s (.i .i64 0), [⟨e, cells, .num⟩], some [], dwEnd N (N.re (N.un x y z) (dwN N (N.un x y z) ((dwNd N cells off len x y z u0).f 13) u1 u2).1).1 false false (((N.re (N.un x y z) (dwN N (N.un x y z) ((dwNd N cells off len x y z u0).f 13) u1 u2).1).2 != 0, false) :: (reO (N.un x y z) (dwN N (N.un x y z) ((dwNd N cells off len x y z u0).f 13) u1 u2).1 ++ (((dwN N (N.un x y z) ((dwNd N cells off len x y z u0).f 13) u1 u2).2 != 0, false) :: (((N.vo (N.un x y z) (pt ((dwNd N cells off len x y z u0).f 13)) u1 u2 ++ [(decide (((dwNd N cells off len x y z u0).f 13).k ≤ one64.k), true)]) ++ [((dwNd N cells off len x y z u0).k == 2, false), ((dwNd N cells off len x y z u0).k == 1, false)]) ++ dwO3 N cells off len x y z u0))))) := by kernel_rfl
end
end Go.Proofs.YtgjohjgmlleebaaGreat
namespace Go.Proofs.YtgjohjgmlleebaaGreat
set_option linter.all false
open Go.RowKit Bu Rx
structure DwR where
  k : Int
  p : F × F × F
  b : V3
  a : Int
  s : Bool
  e : Int
def dwZ (e : Int) : DwR := ⟨0, z3, zV, 0, false, e⟩
def dwSv (r : DwR) : SV := .tup [.agg [.si .u8 r.k, .fl r.p.1, .fl r.p.2.1, .fl r.p.2.2, .fl r.b.x.lo, .fl r.b.x.hi, .fl r.b.y.lo, .fl r.b.y.hi, .fl r.b.z.lo, .fl r.b.z.hi, .si .i64 r.a, .b r.s], .si .i64 r.e]
def dwV (r : DwR) : Value := .tuple #[.agg #[.int .u8 r.k, .float .f64 r.p.1.b, .float .f64 r.p.2.1.b, .float .f64 r.p.2.2.b, .float .f64 r.b.x.lo.b, .float .f64 r.b.x.hi.b, .float .f64 r.b.y.lo.b, .float .f64 r.b.y.hi.b, .float .f64 r.b.z.lo.b, .float .f64 r.b.z.hi.b, .int .i64 r.a, .bool r.s], .int .i64 r.e]
def bxF (N : Ndr) (nd : Nd) (v : V3) (u1 u2 : Int) : V3 × Int :=
  bif decide (nd.k = 1) || decide (nd.k = 2) then (dwCos N u1 u2, 0) else bif decide ((dwN N v (nd.f 13) u1 u2).2 = 0) then N.re v (dwN N v (nd.f 13) u1 u2).1 else (V3.zero, (dwN N v (nd.f 13) u1 u2).2)
def bxO (N : Ndr) (nd : Nd) (v : V3) (u1 u2 : Int) : Obs :=
  bif decide (nd.k = 1) || decide (nd.k = 2) then [(N.T.u u1, true), (N.T.u u2, true)] else (N.vo v (pt (nd.f 13)) u1 u2 ++ [(decide ((nd.f 13).k ≤ one64.k), true)]) ++ (bif decide ((dwN N v (nd.f 13) u1 u2).2 = 0) then reO v (dwN N v (nd.f 13) u1 u2).1 else [])
def dwLf (N : Ndr) (P : PaR) (b : V3) : DwR := bif N.ub (dwMid N b).1 (dwMid N b).2.1 (dwMid N b).2.2 && !decide ((dwMid N b).2.2.k ≤ z64.k) then ⟨2, dwMid N b, b, P.a, P.s, 0⟩ else ⟨0, z3, zV, P.a, P.s, 0⟩
def dwF (N : Ndr) (cs : List SV) (len : Nat) (x y z : F) (u0 u1 u2 : Int) : DwR :=
  bif N.ub x y z then
    bif decide (z.k ≤ z64.k) then dwZ 0
    else bif decide ((dwP N cs len x y z u0).e = 0) then
      bif (dwP N cs len x y z u0).g then ⟨1, (x.neg, y.neg, z), dwMir N x y z, (dwP N cs len x y z u0).a, (dwP N cs len x y z u0).s, 0⟩
      else bif decide ((bxF N (ndR cs ((dwP N cs len x y z u0).a.toNat * 19)) (N.un x y z) u1 u2).2 = 0) then dwLf N (dwP N cs len x y z u0) (bxF N (ndR cs ((dwP N cs len x y z u0).a.toNat * 19)) (N.un x y z) u1 u2).1 else dwZ (bxF N (ndR cs ((dwP N cs len x y z u0).a.toNat * 19)) (N.un x y z) u1 u2).2
    else dwZ (dwP N cs len x y z u0).e
  else dwZ 50
def dwOb (N : Ndr) (cs : List SV) (len : Nat) (x y z : F) (u0 u1 u2 : Int) : Obs :=
  (decide (cs.length = len * 19), true) :: (N.T.o cs len, true) ::
  (bif N.ub x y z then
    bif decide (z.k ≤ z64.k) then []
    else (N.T.b (N.un x y z).z cs len, true) :: (N.T.u u0, true) :: (cosO (N.un x y z).z ++
      (bif decide ((dwP N cs len x y z u0).e = 0) then
        bif (dwP N cs len x y z u0).g then []
        else (decide (0 ≤ (dwP N cs len x y z u0).a ∧ (dwP N cs len x y z u0).a < len), true) :: (bxO N (ndR cs ((dwP N cs len x y z u0).a.toNat * 19)) (N.un x y z) u1 u2 ++
          (bif decide ((bxF N (ndR cs ((dwP N cs len x y z u0).a.toNat * 19)) (N.un x y z) u1 u2).2 = 0) then [(dwMp N (bxF N (ndR cs ((dwP N cs len x y z u0).a.toNat * 19)) (N.un x y z) u1 u2).1, true)] else []))
      else [((dwP N cs len x y z u0).g, false)]))
  else [])
theorem ob_hd {c b : Bool} {o : Obs} (h : ObsOk ((c, b) :: o)) : c = b ∧ ObsOk o := ⟨h _ (List.mem_cons_self ..), fun p hp => h p (List.mem_cons_of_mem _ hp)⟩
section
variable {N : Ndr} (hO : OracleOk Tryz.prog (ODw N)) (hD : N.T.o = okPg) {cs : List SV} {len : Nat} {x y z : F} {u0 u1 u2 : Int}
include hO hD
set_option maxRecDepth 20000 in
theorem dw_all (h : ObsOk (dwOb N cs len x y z u0 u1 u2)) : ∃ vc, plains cs = some vc ∧ ∀ (w : World) (q off cap : Nat), RowAt w q off vc → Calls Tryz.prog 30 (Value.slice (some ⟨q, off, none⟩) len cap :: [.agg #[.float .f64 x.b, .float .f64 y.b, .float .f64 z.b], .agg #[.int .u64 u0, .int .u64 u1, .int .u64 u2]]).toArray w fun e w' => e = .returned (dwV (dwF N cs len x y z u0 u1 u2)) ∧ Below w.heap.size w w' := by
  unfold dwOb at h
  obtain ⟨h1, h⟩ := ob_hd h
  obtain ⟨h2, h⟩ := ob_hd h
  have hl : cs.length = len * 19 := of_decide_eq_true h1
  have K := okPg_ok (hD ▸ h2)
  obtain ⟨vc, hc⟩ := K.pl
  refine ⟨vc, hc, fun w q off cap hw => ?_⟩
  have fin : ∀ {d : List Bool} {res : SV} (hx : plain res = some (dwV (dwF N cs len x y z u0 u1 u2))) (hr : ∀ (e : TypeId) (cells : List SV) (off cap : Nat), CellsAt cells off cs → ∃ ob, dwRun N e cells off len cap x y z u0 u1 u2 d = some (res, [⟨e, cells, .num⟩], some [], ob) ∧ ObsOk ob), Calls Tryz.prog 30 (Value.slice (some ⟨q, off, none⟩) len cap :: [.agg #[.float .f64 x.b, .float .f64 y.b, .float .f64 z.b], .agg #[.int .u64 u0, .int .u64 u1, .int .u64 u2]]).toArray w fun e w' => e = .returned (dwV (dwF N cs len x y z u0 u1 u2)) ∧ Below w.heap.size w w' := by
    intro d res hx hr
    refine rd_of_runT goodG hO 80 (l := [.agg [.fl x, .fl y, .fl z], .agg [.si .u64 u0, .si .u64 u1, .si .u64 u2]]) hc rfl hx (fun e cells off cap hca => ?_) w q off cap hw
    obtain ⟨ob, h3, h4⟩ := hr e cells off cap hca
    exact ⟨_, _, ob, h3, h4⟩
  generalize hR : dwF N cs len x y z u0 u1 u2 = R at fin ⊢
  unfold dwF at hR
  cases g0 : N.ub x y z
  · rw [g0, cond_false] at hR; subst hR
    exact fin (res := dwS 0 z3 zV (.i .i64 0) false (.i .i64 50)) rfl fun e cells off cap hca => ⟨_, by have hr := dwR_a N e cells off len cap x y z u0 u1 u2; rw [cut_at hca hl] at hr; exact hr, ob_c g0 (ob_c h2 ob_n)⟩
  rw [g0, cond_true] at hR h
  by_cases gz : z.k ≤ z64.k
  · rw [decide_eq_true gz, cond_true] at hR; subst hR
    exact fin (res := dwS 0 z3 zV (.i .i64 0) false (.i .i64 0)) rfl fun e cells off cap hca => ⟨_, by have hr := dwR_b N e cells off len cap x y z u0 u1 u2; rw [cut_at hca hl] at hr; exact hr, ob_c (decide_eq_true gz) (ob_c g0 (ob_c h2 ob_n))⟩
  rw [decide_eq_false gz, cond_false] at hR h
  obtain ⟨h3, h⟩ := ob_hd h
  obtain ⟨h4, h⟩ := ob_hd h
  have h5 := h.left
  have h6 := h.right
  have o1 : ObsOk (dwO1 N cs len x y z) := ob_c (decide_eq_false gz) (ob_c g0 (ob_c h2 ob_n))
  have oP : ∀ {g : Bool}, (dwP N cs len x y z u0).g = g → ObsOk (dwPO N cs len x y z u0 g) := fun hg => ob_a (ob_c (decide_eq_true hl) (ob_c h2 (ob_c h3 (ob_c h4 h5)))) (ob_c hg ob_n)
  clear h
  by_cases ge : (dwP N cs len x y z u0).e = 0
  · rw [decide_eq_true ge, cond_true] at hR h6
    cases gg : (dwP N cs len x y z u0).g
    · rw [gg, cond_false] at hR h6
      have o2 : ObsOk (dwO2 N cs len x y z u0 false false) := ob_c (ne_0 ge) (ob_a (oP gg) o1)
      obtain ⟨h7, h8⟩ := ob_hd h6
      have h7 := of_decide_eq_true h7
      have h9 := h8.left
      have h10 := h8.right
      clear h8 h6
      have o3 : ∀ {cells : List SV} {off : Nat}, CellsAt cells off cs → ObsOk (dwO3 N cells off len x y z u0) := fun {cells off} hca => by
        unfold dwO3
        rw [cut_at hca hl]
        obtain ⟨hck, _⟩ := K.at hca (show (dwP N cs len x y z u0).a.toNat < len by omega)
        exact ob_c hck (ob_c (ix_of h7.1 h7.2) o2)
      have hnd : ∀ {cells : List SV} {off : Nat}, CellsAt cells off cs → dwNd N cells off len x y z u0 = ndR cs ((dwP N cs len x y z u0).a.toNat * 19) := fun {cells off} hca => by
        unfold dwNd
        rw [cut_at hca hl]
        exact (K.at hca (show (dwP N cs len x y z u0).a.toNat < len by omega)).2
      generalize ndR cs ((dwP N cs len x y z u0).a.toNat * 19) = nd at hR h9 h10 hnd
      by_cases k1 : nd.k = 1
      · have eb : bxF N nd (N.un x y z) u1 u2 = (dwCos N u1 u2, 0) := by unfold bxF; rw [decide_eq_true k1, Bool.true_or, cond_true]
        have oo : ObsOk [(N.T.u u1, true), (N.T.u u2, true)] := by unfold bxO at h9; rwa [decide_eq_true k1, Bool.true_or, cond_true] at h9
        rw [eb] at hR h10
        obtain ⟨u1k, oo⟩ := ob_hd oo
        obtain ⟨u2k, _⟩ := ob_hd oo
        rw [decide_eq_true rfl, cond_true] at hR h10
        obtain ⟨mp, _⟩ := ob_hd h10
        unfold dwLf at hR
        by_cases gw : (dwMid N (dwCos N u1 u2)).2.2.k ≤ z64.k
        · cases gu : N.ub (dwMid N (dwCos N u1 u2)).1 (dwMid N (dwCos N u1 u2)).2.1 (dwMid N (dwCos N u1 u2)).2.2
          · rw [gu, decide_eq_true gw] at hR
            simp only [Bool.not_true, Bool.not_false, Bool.and_true, Bool.and_false, Bool.true_and, Bool.false_and, cond_true, cond_false] at hR
            subst hR
            exact fin (res := dwS 0 z3 zV (.si .i64 (dwP N cs len x y z u0).a) (dwP N cs len x y z u0).s (.i .i64 0)) rfl fun e cells off cap hca => ⟨_, by have hr := dwR_eft N e cells off len cap x y z u0 u1 u2; rw [hnd hca, cut_at hca hl] at hr; exact hr, ob_c (decide_eq_true gw) (ob_c gu (ob_c mp (ob_c u1k (ob_c u2k (ob_c (beq_t k1) (o3 hca))))))⟩
          · rw [gu, decide_eq_true gw] at hR
            simp only [Bool.not_true, Bool.not_false, Bool.and_true, Bool.and_false, Bool.true_and, Bool.false_and, cond_true, cond_false] at hR
            subst hR
            exact fin (res := dwS 0 z3 zV (.si .i64 (dwP N cs len x y z u0).a) (dwP N cs len x y z u0).s (.i .i64 0)) rfl fun e cells off cap hca => ⟨_, by have hr := dwR_ett N e cells off len cap x y z u0 u1 u2; rw [hnd hca, cut_at hca hl] at hr; exact hr, ob_c (decide_eq_true gw) (ob_c gu (ob_c mp (ob_c u1k (ob_c u2k (ob_c (beq_t k1) (o3 hca))))))⟩
        · cases gu : N.ub (dwMid N (dwCos N u1 u2)).1 (dwMid N (dwCos N u1 u2)).2.1 (dwMid N (dwCos N u1 u2)).2.2
          · rw [gu, decide_eq_false gw] at hR
            simp only [Bool.not_true, Bool.not_false, Bool.and_true, Bool.and_false, Bool.true_and, Bool.false_and, cond_true, cond_false] at hR
            subst hR
            exact fin (res := dwS 0 z3 zV (.si .i64 (dwP N cs len x y z u0).a) (dwP N cs len x y z u0).s (.i .i64 0)) rfl fun e cells off cap hca => ⟨_, by have hr := dwR_eff N e cells off len cap x y z u0 u1 u2; rw [hnd hca, cut_at hca hl] at hr; exact hr, ob_c (decide_eq_false gw) (ob_c gu (ob_c mp (ob_c u1k (ob_c u2k (ob_c (beq_t k1) (o3 hca))))))⟩
          · rw [gu, decide_eq_false gw] at hR
            simp only [Bool.not_true, Bool.not_false, Bool.and_true, Bool.and_false, Bool.true_and, Bool.false_and, cond_true, cond_false] at hR
            subst hR
            exact fin (res := dwS 2 (dwMid N (dwCos N u1 u2)) (dwCos N u1 u2) (.si .i64 (dwP N cs len x y z u0).a) (dwP N cs len x y z u0).s (.i .i64 0)) rfl fun e cells off cap hca => ⟨_, by have hr := dwR_etf N e cells off len cap x y z u0 u1 u2; rw [hnd hca, cut_at hca hl] at hr; exact hr, ob_c (decide_eq_false gw) (ob_c gu (ob_c mp (ob_c u1k (ob_c u2k (ob_c (beq_t k1) (o3 hca))))))⟩
      · by_cases k2 : nd.k = 2
        · have eb : bxF N nd (N.un x y z) u1 u2 = (dwCos N u1 u2, 0) := by unfold bxF; rw [decide_eq_true k2, Bool.or_true, cond_true]
          have oo : ObsOk [(N.T.u u1, true), (N.T.u u2, true)] := by unfold bxO at h9; rwa [decide_eq_true k2, Bool.or_true, cond_true] at h9
          rw [eb] at hR h10
          obtain ⟨u1k, oo⟩ := ob_hd oo
          obtain ⟨u2k, _⟩ := ob_hd oo
          rw [decide_eq_true rfl, cond_true] at hR h10
          obtain ⟨mp, _⟩ := ob_hd h10
          unfold dwLf at hR
          by_cases gw : (dwMid N (dwCos N u1 u2)).2.2.k ≤ z64.k
          · cases gu : N.ub (dwMid N (dwCos N u1 u2)).1 (dwMid N (dwCos N u1 u2)).2.1 (dwMid N (dwCos N u1 u2)).2.2
            · rw [gu, decide_eq_true gw] at hR
              simp only [Bool.not_true, Bool.not_false, Bool.and_true, Bool.and_false, Bool.true_and, Bool.false_and, cond_true, cond_false] at hR
              subst hR
              exact fin (res := dwS 0 z3 zV (.si .i64 (dwP N cs len x y z u0).a) (dwP N cs len x y z u0).s (.i .i64 0)) rfl fun e cells off cap hca => ⟨_, by have hr := dwR_fft N e cells off len cap x y z u0 u1 u2; rw [hnd hca, cut_at hca hl] at hr; exact hr, ob_c (decide_eq_true gw) (ob_c gu (ob_c mp (ob_c u1k (ob_c u2k (ob_c (beq_t k2) (ob_c (beq_f k1) (o3 hca)))))))⟩
            · rw [gu, decide_eq_true gw] at hR
              simp only [Bool.not_true, Bool.not_false, Bool.and_true, Bool.and_false, Bool.true_and, Bool.false_and, cond_true, cond_false] at hR
              subst hR
              exact fin (res := dwS 0 z3 zV (.si .i64 (dwP N cs len x y z u0).a) (dwP N cs len x y z u0).s (.i .i64 0)) rfl fun e cells off cap hca => ⟨_, by have hr := dwR_ftt N e cells off len cap x y z u0 u1 u2; rw [hnd hca, cut_at hca hl] at hr; exact hr, ob_c (decide_eq_true gw) (ob_c gu (ob_c mp (ob_c u1k (ob_c u2k (ob_c (beq_t k2) (ob_c (beq_f k1) (o3 hca)))))))⟩
          · cases gu : N.ub (dwMid N (dwCos N u1 u2)).1 (dwMid N (dwCos N u1 u2)).2.1 (dwMid N (dwCos N u1 u2)).2.2
            · rw [gu, decide_eq_false gw] at hR
              simp only [Bool.not_true, Bool.not_false, Bool.and_true, Bool.and_false, Bool.true_and, Bool.false_and, cond_true, cond_false] at hR
              subst hR
              exact fin (res := dwS 0 z3 zV (.si .i64 (dwP N cs len x y z u0).a) (dwP N cs len x y z u0).s (.i .i64 0)) rfl fun e cells off cap hca => ⟨_, by have hr := dwR_fff N e cells off len cap x y z u0 u1 u2; rw [hnd hca, cut_at hca hl] at hr; exact hr, ob_c (decide_eq_false gw) (ob_c gu (ob_c mp (ob_c u1k (ob_c u2k (ob_c (beq_t k2) (ob_c (beq_f k1) (o3 hca)))))))⟩
            · rw [gu, decide_eq_false gw] at hR
              simp only [Bool.not_true, Bool.not_false, Bool.and_true, Bool.and_false, Bool.true_and, Bool.false_and, cond_true, cond_false] at hR
              subst hR
              exact fin (res := dwS 2 (dwMid N (dwCos N u1 u2)) (dwCos N u1 u2) (.si .i64 (dwP N cs len x y z u0).a) (dwP N cs len x y z u0).s (.i .i64 0)) rfl fun e cells off cap hca => ⟨_, by have hr := dwR_ftf N e cells off len cap x y z u0 u1 u2; rw [hnd hca, cut_at hca hl] at hr; exact hr, ob_c (decide_eq_false gw) (ob_c gu (ob_c mp (ob_c u1k (ob_c u2k (ob_c (beq_t k2) (ob_c (beq_f k1) (o3 hca)))))))⟩
        · have ek : (decide (nd.k = 1) || decide (nd.k = 2)) = false := by rw [decide_eq_false k1, decide_eq_false k2]; rfl
          unfold bxO at h9
          rw [ek, cond_false] at h9
          have oV : ∀ {cells : List SV} {off : Nat}, CellsAt cells off cs → ObsOk (((N.vo (N.un x y z) (pt (nd.f 13)) u1 u2 ++ [(decide ((nd.f 13).k ≤ one64.k), true)]) ++ [(nd.k == 2, false), (nd.k == 1, false)]) ++ dwO3 N cells off len x y z u0) := fun {cells off} hca => ob_a (ob_a h9.left (ob_c (beq_f k2) (ob_c (beq_f k1) ob_n))) (o3 hca)
          have h11 := h9.right
          by_cases gn : (dwN N (N.un x y z) (nd.f 13) u1 u2).2 = 0
          · rw [decide_eq_true gn, cond_true] at h11
            have eb : bxF N nd (N.un x y z) u1 u2 = N.re (N.un x y z) (dwN N (N.un x y z) (nd.f 13) u1 u2).1 := by unfold bxF; rw [ek, cond_false, decide_eq_true gn, cond_true]
            rw [eb] at hR h10
            by_cases gr : (N.re (N.un x y z) (dwN N (N.un x y z) (nd.f 13) u1 u2).1).2 = 0
            · rw [decide_eq_true gr, cond_true] at hR h10
              obtain ⟨mp, _⟩ := ob_hd h10
              unfold dwLf at hR
              by_cases gw : (dwMid N (N.re (N.un x y z) (dwN N (N.un x y z) (nd.f 13) u1 u2).1).1).2.2.k ≤ z64.k
              · cases gu : N.ub (dwMid N (N.re (N.un x y z) (dwN N (N.un x y z) (nd.f 13) u1 u2).1).1).1 (dwMid N (N.re (N.un x y z) (dwN N (N.un x y z) (nd.f 13) u1 u2).1).1).2.1 (dwMid N (N.re (N.un x y z) (dwN N (N.un x y z) (nd.f 13) u1 u2).1).1).2.2
                · rw [gu, decide_eq_true gw] at hR
                  simp only [Bool.not_true, Bool.not_false, Bool.and_true, Bool.and_false, Bool.true_and, Bool.false_and, cond_true, cond_false] at hR
                  subst hR
                  exact fin (res := dwS 0 z3 zV (.si .i64 (dwP N cs len x y z u0).a) (dwP N cs len x y z u0).s (.i .i64 0)) rfl fun e cells off cap hca => ⟨_, by have hr := dwR_gft N e cells off len cap x y z u0 u1 u2; rw [hnd hca, cut_at hca hl] at hr; exact hr, ob_c (decide_eq_true gw) (ob_c gu (ob_c mp (ob_c (ne_0 gr) (ob_a h11 (ob_c (ne_0 gn) (oV hca))))))⟩
                · rw [gu, decide_eq_true gw] at hR
                  simp only [Bool.not_true, Bool.not_false, Bool.and_true, Bool.and_false, Bool.true_and, Bool.false_and, cond_true, cond_false] at hR
                  subst hR
                  exact fin (res := dwS 0 z3 zV (.si .i64 (dwP N cs len x y z u0).a) (dwP N cs len x y z u0).s (.i .i64 0)) rfl fun e cells off cap hca => ⟨_, by have hr := dwR_gtt N e cells off len cap x y z u0 u1 u2; rw [hnd hca, cut_at hca hl] at hr; exact hr, ob_c (decide_eq_true gw) (ob_c gu (ob_c mp (ob_c (ne_0 gr) (ob_a h11 (ob_c (ne_0 gn) (oV hca))))))⟩
              · cases gu : N.ub (dwMid N (N.re (N.un x y z) (dwN N (N.un x y z) (nd.f 13) u1 u2).1).1).1 (dwMid N (N.re (N.un x y z) (dwN N (N.un x y z) (nd.f 13) u1 u2).1).1).2.1 (dwMid N (N.re (N.un x y z) (dwN N (N.un x y z) (nd.f 13) u1 u2).1).1).2.2
                · rw [gu, decide_eq_false gw] at hR
                  simp only [Bool.not_true, Bool.not_false, Bool.and_true, Bool.and_false, Bool.true_and, Bool.false_and, cond_true, cond_false] at hR
                  subst hR
                  exact fin (res := dwS 0 z3 zV (.si .i64 (dwP N cs len x y z u0).a) (dwP N cs len x y z u0).s (.i .i64 0)) rfl fun e cells off cap hca => ⟨_, by have hr := dwR_gff N e cells off len cap x y z u0 u1 u2; rw [hnd hca, cut_at hca hl] at hr; exact hr, ob_c (decide_eq_false gw) (ob_c gu (ob_c mp (ob_c (ne_0 gr) (ob_a h11 (ob_c (ne_0 gn) (oV hca))))))⟩
                · rw [gu, decide_eq_false gw] at hR
                  simp only [Bool.not_true, Bool.not_false, Bool.and_true, Bool.and_false, Bool.true_and, Bool.false_and, cond_true, cond_false] at hR
                  subst hR
                  exact fin (res := dwS 2 (dwMid N (N.re (N.un x y z) (dwN N (N.un x y z) (nd.f 13) u1 u2).1).1) (N.re (N.un x y z) (dwN N (N.un x y z) (nd.f 13) u1 u2).1).1 (.si .i64 (dwP N cs len x y z u0).a) (dwP N cs len x y z u0).s (.i .i64 0)) rfl fun e cells off cap hca => ⟨_, by have hr := dwR_gtf N e cells off len cap x y z u0 u1 u2; rw [hnd hca, cut_at hca hl] at hr; exact hr, ob_c (decide_eq_false gw) (ob_c gu (ob_c mp (ob_c (ne_0 gr) (ob_a h11 (ob_c (ne_0 gn) (oV hca))))))⟩
            · rw [decide_eq_false gr, cond_false] at hR; subst hR
              exact fin (res := dwS 0 z3 zV (.i .i64 0) false (.si .i64 (N.re (N.un x y z) (dwN N (N.un x y z) (nd.f 13) u1 u2).1).2)) rfl fun e cells off cap hca => ⟨_, by have hr := dwR_r N e cells off len cap x y z u0 u1 u2; rw [hnd hca] at hr; exact hr, ob_c (by simpa using gr) (ob_a h11 (ob_c (ne_0 gn) (oV hca)))⟩
          · have eb : bxF N nd (N.un x y z) u1 u2 = (V3.zero, (dwN N (N.un x y z) (nd.f 13) u1 u2).2) := by unfold bxF; rw [ek, cond_false, decide_eq_false gn, cond_false]
            rw [eb] at hR
            simp only at hR
            rw [decide_eq_false gn, cond_false] at hR; subst hR
            exact fin (res := dwS 0 z3 zV (.i .i64 0) false (.si .i64 (dwN N (N.un x y z) (nd.f 13) u1 u2).2)) rfl fun e cells off cap hca => ⟨_, by have hr := dwR_v N e cells off len cap x y z u0 u1 u2; rw [hnd hca] at hr; exact hr, ob_c (by simpa using gn) (ob_c (by simpa using gn) (oV hca))⟩
    · rw [gg, cond_true] at hR
      subst hR
      exact fin (res := dwS 1 (x.neg, y.neg, z) (dwMir N x y z) (.si .i64 (dwP N cs len x y z u0).a) (dwP N cs len x y z u0).s (.i .i64 0)) rfl fun e cells off cap hca => ⟨_, by have hr := dwR_d N e cells off len cap x y z u0 u1 u2; rw [cut_at hca hl] at hr; exact hr, ob_c g0 (ob_c (ne_0 ge) (ob_a (oP gg) o1))⟩
  · rw [decide_eq_false ge, cond_false] at hR h6
    obtain ⟨gg, _⟩ := ob_hd h6
    subst hR
    exact fin (res := dwS 0 z3 zV (.i .i64 0) false (.si .i64 (dwP N cs len x y z u0).e)) rfl fun e cells off cap hca => ⟨_, by have hr := dwR_c N e cells off len cap x y z u0 u1 u2; rw [cut_at hca hl] at hr; exact hr, ob_c (by simpa using ge) (ob_a (oP gg) o1)⟩
end
def kDw (G : List SV → Nat → F → F → F → Int → Int → Int → DwR) (O : List SV → Nat → F → F → F → Int → Int → Int → Obs) : RdF := fun cs len l ds => match l with
  | [.agg [.fl x, .fl y, .fl z], .agg [a, b, c]] => match intS a, intS b, intS c with
    | some (.u64, u0), some (.u64, u1), some (.u64, u2) => some (dwSv (G cs len x y z u0 u1 u2), ds, O cs len x y z u0 u1 u2)
    | _, _, _ => none
  | _ => none
theorem dwRd {N : Ndr} (hO : OracleOk Tryz.prog (ODw N)) (hD : N.T.o = okPg) : RdOk Tryz.prog 30 (kDw (dwF N) (dwOb N)) := by
  intro cs len l ds x ds' ob h ho
  unfold kDw at h
  split at h
  · rename_i x y z a b c
    split at h
    · rename_i u0 u1 u2 e0 e1 e2
      simp only [Option.some.injEq, Prod.mk.injEq] at h
      obtain ⟨rfl, _, rfl⟩ := h
      obtain ⟨vc, hc, hw⟩ := dw_all hO hD ho
      refine ⟨vc, _, dwV (dwF N cs len x y z u0 u1 u2), hc, ?_, rfl, hw⟩
      have ha := intS_plain e0; have hb := intS_plain e1; have hcc := intS_plain e2
      exact plains_cons rfl (plains_cons (plain_agg (plains_cons ha (plains_cons hb (plains_cons hcc plains_nil)))) plains_nil)
    · cases h
  · cases h
end Go.Proofs.YtgjohjgmlleebaaGreat
namespace Go.Proofs.YtgjohjgmlleebaaGreat
set_option linter.all false
open Go.RowKit Bu Rx
noncomputable def PaN : Npa := ⟨KkR, okPg, fun c n => lnR (fdK KkR c n) 0, fdO, unI, fun n => decide (0 ≤ n ∧ n ≤ 18446744073709551615)⟩
theorem oraclePa : OracleOk Tryz.prog (OPa PaN) :=
  .cons addC <| .cons subC <| .cons mulC <| .cons divC <| .cons cmax_I <| .cons sqrC <| .cons csqrt_I <|
  .cons negC <|
  .cons numC <| .cons irtK.of <| .cons rightG.of <| .cons absG.of <| .cons vwG.of <| .cons piG.of <| .cons rgtG.of <| .cons fdG.of <| .cons unitG.of <| .nil _
theorem ptK_ : RdOk Tryz.prog 28 (kPt_ (nPt PaN)) := ptRd oraclePa rfl rfl
noncomputable def TpR : Npt := nPt PaN
noncomputable def DwN : Ndr := ⟨KkR, TpR, unV KkR, unB, dV (KqR atR), vdR, drO (KqR atR), reR KkR, rt3, midM⟩
theorem oracleDw : OracleOk Tryz.prog (ODw DwN) :=
  .cons addC <| .cons subC <| .cons mulC <| .cons divC <| .cons cmax_I <| .cons sqrC <| .cons csqrt_I <|
  .cons negC <|
  .cons numC <| .cons irtK.of <| .cons rightG.of <| .cons absG.of <| .cons vwG.of <| .cons piG.of <| .cons rgtG.of <| .cons unG.of <| .cons ptK_.of <| .cons drawG.of <| .cons drG.of <| .cons reG.of <| .cons stG.of <| .cons midG.of <| .nil _
/-- names of a draw -/
structure Nds where
  g : List SV → Nat → F → F → F → Int → Int → Int → DwR
  o : List SV → Nat → F → F → F → Int → Int → Int → Obs
noncomputable def DsR : Nds := ⟨dwF DwN, dwOb DwN⟩
theorem dwK : RdOk Tryz.prog 30 (kDw DsR.g DsR.o) := dwRd oracleDw rfl
def kDwS (D : Nds) : RdF := fun cs len l ds => match l with
  | [.agg [.fl x, .fl y, .fl z], .agg [a, b, c]] => match intS a, intS b, intS c with
    | some (.u64, u0), some (.u64, u1), some (.u64, u2) => (takeB ds (D.g cs len x y z u0 u1 u2).s).map fun r => (dwSv ⟨(D.g cs len x y z u0 u1 u2).k, (D.g cs len x y z u0 u1 u2).p, (D.g cs len x y z u0 u1 u2).b, (D.g cs len x y z u0 u1 u2).a, r.1, (D.g cs len x y z u0 u1 u2).e⟩, r.2.1, D.o cs len x y z u0 u1 u2 ++ r.2.2)
    | _, _, _ => none
  | _ => none
theorem kDwS_of {D : Nds} {g : FuncId} (h : RdOk Tryz.prog g (kDw D.g D.o)) : RdOk Tryz.prog g (kDwS D) := by
  intro cs len l ds x ds' ob h1 ho
  unfold kDwS at h1
  split at h1
  · rename_i x y z a b c
    split at h1
    · rename_i u0 u1 u2 e0 e1 e2
      simp only [Option.map_eq_some_iff, Prod.mk.injEq] at h1
      obtain ⟨⟨r, dd, oo⟩, h2, rfl, rfl, rfl⟩ := h1
      have hd := takeB_ok h2 ho.right
      subst hd
      refine h cs len [.agg [.fl x, .fl y, .fl z], .agg [a, b, c]] ds _ ds _ ?_ ho.left
      unfold kDw
      simp only [e0, e1, e2]
    · cases h1
  · cases h1
end Go.Proofs.YtgjohjgmlleebaaGreat
namespace Go.Proofs.YtgjohjgmlleebaaGreat
set_option linter.all false
open Go.RowKit Bu Rx
/-- a draw of no program -/
def kDwNil : List SV → Dec → Option (SV × Dec × Obs)
  | [.o (.slice none 0 0), .agg [.fl x, .fl y, .fl z], .agg [a, b, c]], ds => match intS a, intS b, intS c with
    | some (.u64, _), some (.u64, _), some (.u64, _) => some (dwSv (dwZ 210), ds, [])
    | _, _, _ => none
  | _, _ => none
def ONil : OracleF := lookO [(31, plainO kNilR)]
theorem dwNilRun (x y z : F) (a b c : Int) : valR ((run Tryz.prog EG ONil 60).1 30 [.o (.slice none 0 0), .agg [.fl x, .fl y, .fl z], .agg [.si .u64 a, .si .u64 b, .si .u64 c]] [] (some [])) = some (dwS 0 z3 zV (.i .i64 0) false (.i .i64 210), some [], []) := by kernel_rfl
theorem dwNilG : PlainOk Tryz.prog 30 kDwNil := by
  intro args ds x ds' ob h ho
  unfold kDwNil at h
  split at h
  · rename_i x y z a b c
    split at h
    · rename_i u0 u1 u2 e0 e1 e2
      simp only [Option.some.injEq, Prod.mk.injEq] at h
      obtain ⟨rfl, _, rfl⟩ := h
      refine ⟨[.slice none 0 0, .agg #[.float .f64 x.b, .float .f64 y.b, .float .f64 z.b], .agg #[.int .u64 u0, .int .u64 u1, .int .u64 u2]], dwV (dwZ 210), ?_, rfl, fun w => ?_⟩
      · have ha := intS_plain e0; have hb := intS_plain e1; have hcc := intS_plain e2
        exact plains_cons rfl (plains_cons rfl (plains_cons (plain_agg (plains_cons ha (plains_cons hb (plains_cons hcc plains_nil)))) plains_nil))
      · exact calls_of_val goodG (.cons nilRG.of (.nil _)) 60 (dwNilRun x y z u0 u1 u2) ob_n rfl rfl w
    · cases h
  · cases h
def dwO_ (D : Nds) : OF := eiO (plainO kDwNil) (kRd 19 (kDwS D))
theorem dwOG : OfOk Tryz.prog 30 (dwO_ DsR) := eiO_ok dwNilG.of (kDwS_of dwK).of
def OA23 (D : Nds) : OracleF := lookO [(30, dwO_ D)]
def awD23 : List Bool := [true, true, true, false, false] ++ List.replicate 15 true
/-- what a run asks -/
noncomputable def aw23 (D : Nds) : Obs := match valR ((run Tryz.prog EG (OA23 D) 120).1 29 [] [] (some awD23)) with
  | some r => r.2.2
  | none => []
theorem aw23Run (D : Nds) : valR ((run Tryz.prog EG (OA23 D) 120).1 29 [] [] (some awD23)) = some (.b true, some [], aw23 D) := by kernel_rfl
set_option maxRecDepth 100000 in
theorem aw23_B : Bu.obsB (aw23 DsR) = true := by decide +kernel
theorem oracleA23 : OracleOk Tryz.prog (OA23 DsR) := .cons dwOG (.nil _)
theorem awake23G : PlainOk Tryz.prog 29 (oConst (.b true)) := constG rfl fun w => calls_of_val goodG oracleA23 120 (aw23Run DsR) (obsB_ok aw23_B) rfl rfl w
end Go.Proofs.YtgjohjgmlleebaaGreat
namespace Go.Proofs.YtgjohjgmlleebaaGreat
set_option linter.all false
open Go.RowKit Bu Rx
def u3S (a b c : Int) : SV := .agg [.si .u32 a, .si .u32 b, .si .u32 c]
def u3L (a b c : Int) : SV := .agg [.si .u64 a, .si .u64 b, .si .u64 c]
/-- are two triples, two boxes the same? -/
def eqF3 (p q : F × F × F) : Bool := decide (p.1.k = q.1.k) && (decide (p.2.1.k = q.2.1.k) && (decide (p.2.2.k = q.2.2.k) && true))
def eqV3 (p q : V3) : Bool := eqIv p.x q.x && (eqIv p.y q.y && (eqIv p.z q.z && true))
section
variable (N : Npr) (D : Nds) (a : U8) (w x y z u0 u1 u2 : Int)
end
end Go.Proofs.YtgjohjgmlleebaaGreat
namespace Bu
set_option linter.all false
open Rx Go
/-- a direction that may be: every part an interval, not below the horizon -/
structure DirP (v : V3) : Prop where
  x : In1 v.x
  y : In1 v.y
  z : InB v.z bz1
theorem irt {a : I} (h : In1 a) : rt a = true := decide_eq_true h.rt
theorem DirP.zi {v : V3} (h : DirP v) : In1 v.z := ⟨Int.le_trans (by decide +kernel : mone64.k ≤ z64.k) h.z.1, h.z.2.1, h.z.2.2⟩
theorem kept_in1 {a : I} (h : rt a = true) : InB (keptF a) bz1 := by
  obtain ⟨e1, e2⟩ := keptI_k a z64 one64
  have h1 := of_decide_eq_true h
  have zo : z64.k ≤ one64.k := by decide +kernel
  unfold keptF
  refine ⟨?_, ?_, ?_⟩
  · rw [e1]; show z64.k ≤ _; omega
  · rw [e2]; show _ ≤ one64.k; omega
  · rw [e1, e2]; omega
theorem onB_er {s t : I} (hs : rt s = true) (ht : rt t = true) : Er (onB KkR 0 s t).2 := by
  have h := eval_er' (l := [.div 1 0]) (s := [false, false]) (v := [t, s]) rfl (fun i hi => by
    match i, hi with
    | 0, h => exact absurd h (by decide)
    | 1, h => exact absurd h (by decide)
    | i + 2, h => exact absurd h (by simp)) (fun a ha => by
    simp only [List.mem_cons, List.not_mem_nil, or_false] at ha
    rcases ha with rfl | rfl <;> assumption)
  exact h
theorem onN_er {s t : I} (hs : rt s = true) (ht : rt t = true) : Er (onN KkR 0 s t).2 := by
  have h := eval_er' (l := [.sub 1 0, .sub 3 1, .div 1 0]) (s := [false, false, false]) (v := [t, s, pt one64]) rfl (fun i hi => by
    match i, hi with
    | 0, h => exact absurd h (by decide)
    | 1, h => exact absurd h (by decide)
    | 2, h => exact absurd h (by decide)
    | i + 3, h => exact absurd h (by simp)) (fun a ha => by
    simp only [List.mem_cons, List.not_mem_nil, or_false] at ha
    rcases ha with rfl | rfl | rfl
    · assumption
    · assumption
    · exact decide_eq_true (Int.le_refl _))
  exact h
theorem ask_z {e : Int} {g : Bool} {r : I × Int} (h : (askI e g r).2 ≠ 0) : (askI e g r).1 = I.zero := by
  unfold askI at h ⊢
  cases h1 : !(e == 0)
  · rw [h1, cond_false] at h
    have he : e = 0 := by simpa using h1
    cases g
    · rfl
    · rw [cond_true] at h
      cases h2 : !(r.2 == 0)
      · rw [h2, cond_false] at h
        exact absurd he h
      · rfl
  · rfl
theorem div_rt {e : Int} {a b : I} : rt (KkR.div e a b).1 = true := by
  by_cases h : (KkR.div e a b).2 = 0
  · exact (div_0 h).2.2.2.2.2.rt
  · have h' : (cDiv pDiv e a b).2 ≠ 0 := h
    show rt (cDiv pDiv e a b).1 = true
    unfold cDiv at h' ⊢
    rw [ask_z h']; decide
theorem onB_in {e : Int} {s t : I} : InB (onB KkR e s t).1 bz1 := kept_in1 div_rt
theorem onN_in {e : Int} {s t : I} : InB (onN KkR e s t).1 bz1 := kept_in1 div_rt
theorem inb_rt {a b : I} (h : InB a b) : rt a = true := decide_eq_true h.2.2
end Bu
namespace Go.Proofs.YtgjohjgmlleebaaGreat
set_option linter.all false
open Go.RowKit Bu Rx
theorem dirP_of {v : V3} (h : OneP v) : DirP v := ⟨h.x, h.y, bzz_bz1 (one_box h).2.2⟩
/-- where a way ends -/
structure EndP (cs : List SV) (len : Nat) (r : Pst × Bool) : Prop where
  er : Er r.1.er
  a : r.1.a < len
  g : r.2 = true → r.1.er = 0 ∧ (ndR cs (r.1.a * 19)).k = 6
  l : r.2 = false → r.1.er = 0 → (ndR cs (r.1.a * 19)).k ≠ 5 ∧ (ndR cs (r.1.a * 19)).k ≠ 6
theorem path_end {D : I → I → I × Int} {c : I} {cs : List SV} {len : Nat} (K : OkPg cs len) (hD : ∀ i, i < len → (ndR cs (i * 19)).k = 6 → rt (D c (pt ((ndR cs (i * 19)).f 14))).1 = true) :
    ∀ (n : Nat) (p : Pst), p.a < n → p.a < len → Er p.er → rt p.s = true → EndP cs len (pathF KkR D c cs n p)
  | 0, p, h, _, _, _ => absurd h (by omega)
  | n + 1, p, hn, hl, he, hs => by
    have hnd := K.nd p.a hl
    have hd := hD p.a hl
    unfold pathF
    by_cases h0 : p.er = 0
    · rw [decide_eq_true h0, cond_true]
      by_cases h5 : (ndR cs (p.a * 19)).k = 5
      · obtain ⟨⟨a0, a1⟩, b0, b1⟩ := okNd_mix hnd h5
        rw [decide_eq_true h5, cond_true, h0]
        cases decide (p.s.hi.k < ((ndR cs (p.a * 19)).f 15).k)
        · rw [cond_false]
          cases decide (p.s.lo.k < ((ndR cs (p.a * 19)).f 15).k)
          · exact path_end K hD n _ (by show (ndR cs (p.a * 19)).a.toNat < n; omega) (by show (ndR cs (p.a * 19)).a.toNat < len; omega) (onN_er hs (decide_eq_true (Int.le_refl _))) (inb_rt onN_in)
          · exact path_end K hD n _ (by show (ndR cs (p.a * 19)).b.toNat < n; omega) (by show (ndR cs (p.a * 19)).b.toNat < len; omega) (onB_er hs (decide_eq_true (Int.le_refl _))) (inb_rt onB_in)
        · exact path_end K hD n _ (by show (ndR cs (p.a * 19)).b.toNat < n; omega) (by show (ndR cs (p.a * 19)).b.toNat < len; omega) (onB_er hs (decide_eq_true (Int.le_refl _))) (inb_rt onB_in)
      · rw [decide_eq_false h5, cond_false]
        by_cases h6 : (ndR cs (p.a * 19)).k = 6
        · obtain ⟨a0, a1⟩ := okNd_coat hnd h6
          rw [decide_eq_true h6, cond_true]
          cases decide (p.s.hi.k < (D c (pt ((ndR cs (p.a * 19)).f 14))).1.lo.k)
          · rw [cond_false]
            cases decide (p.s.lo.k < (D c (pt ((ndR cs (p.a * 19)).f 14))).1.hi.k)
            · rw [cond_false, h0]
              exact path_end K hD n _ (by show (ndR cs (p.a * 19)).a.toNat < n; omega) (by show (ndR cs (p.a * 19)).a.toNat < len; omega) (onN_er hs (hd h6)) (inb_rt onN_in)
            · exact ⟨he, hl, fun _ => ⟨h0, h6⟩, (fun h => by cases h)⟩
          · exact ⟨he, hl, fun _ => ⟨h0, h6⟩, (fun h => by cases h)⟩
        · rw [decide_eq_false h6, cond_false]
          exact ⟨he, hl, (fun h => by cases h), fun _ _ => ⟨h5, h6⟩⟩
    · rw [decide_eq_false h0, cond_false]
      exact ⟨he, hl, (fun h => by cases h), fun _ h => absurd h h0⟩
theorem fdD_ok {c : I} (hc : InB c bz1) {cs : List SV} {len : Nat} (K : OkPg cs len) : paB PaN.D PaN.dO c cs len = true ∧ ∀ i, i < len → (ndR cs (i * 19)).k = 6 → rt (PaN.D c (pt ((ndR cs (i * 19)).f 14))).1 = true := by
  constructor
  · refine List.all_eq_true.2 fun i hi => ?_
    have hi' := List.mem_range.1 hi
    by_cases h6 : (ndR cs (i * 19)).k = 6
    · obtain ⟨c1, _⟩ := okNd_coatf (K.nd i hi') h6
      obtain ⟨o, o1, o2⟩ := fd_all hc (bn_of c1)
      have e1 : PaN.D c (pt ((ndR cs (i * 19)).f 14)) = (o, 0) := o1
      have e2 : Bu.obsB (PaN.dO c (pt ((ndR cs (i * 19)).f 14))) = true := obsB_of (fd_o hc c1)
      rw [decide_eq_true h6, cond_true, e1, e2]; rfl
    · rw [decide_eq_false h6]; rfl
  · intro i hi h6
    obtain ⟨c1, _⟩ := okNd_coatf (K.nd i hi) h6
    obtain ⟨o, o1, o2⟩ := fd_all hc (bn_of c1)
    have e1 : PaN.D c (pt ((ndR cs (i * 19)).f 14)) = (o, 0) := o1
    rw [e1]; exact o2.rt
def u64P (n : Int) : Prop := 0 ≤ n ∧ n ≤ 18446744073709551615
theorem cosO_ok {c : I} (h : InB c bz1) : ObsOk (cosO c) := by
  have a := h.2.1
  have b := h.1
  have e1 : one64.k = bz1.hi.k := rfl
  have e2 : z64.k = bz1.lo.k := rfl
  exact ob_c (decide_eq_false (by omega)) (ob_c (decide_eq_false (by omega)) (ob_c (inb_rt h) ob_n))
/-- the way of a right program -/
theorem pt_end {c : I} (hc : InB c bz1) {cs : List SV} {len : Nat} (K : OkPg cs len) {u : Int} (hu : u64P u) : EndP cs len (paW PaN c u cs len) := by
  have h1 := K.lo
  exact path_end K (fdD_ok hc K).2 len _ (by show len - 1 < len; omega) (by show len - 1 < len; omega) (.inl rfl) (rt_q (unI_U u hu.1 hu.2).rt)
end Go.Proofs.YtgjohjgmlleebaaGreat
namespace Bu
set_option linter.all false
open Rx Go
theorem cond_rt : ∀ {l : List Bu.Op} {v u : List I}, (∀ a ∈ v, rt a = true) → CondE l v → Chain l v u → ∀ a ∈ u, rt a = true
  | [], v, u, hv, _, hc => by
    have e : u = v := hc
    subst e; exact hv
  | o :: l, v, u, hv, hc, hh => by
    obtain ⟨r, hr, hu⟩ := hh
    have h1 := fact_rt hv hc.1 hr
    exact cond_rt (fun a ha => by
      rcases List.mem_cons.1 ha with rfl | ha
      · exact h1
      · exact hv a ha) (hc.2 r hr h1) hu
theorem keptIn_ {a : I} {l h : F} (hr : rt a = true) (hl : mone64.k ≤ l.k) (hh : h.k ≤ one64.k) (lh : l.k ≤ h.k) : In1 (keptI a l h) := by
  obtain ⟨e1, e2⟩ := keptI_k a l h
  have h1 := of_decide_eq_true hr
  refine ⟨?_, ?_, ?_⟩
  · rw [e1]; omega
  · rw [e2]; omega
  · rw [e1, e2]; omega
theorem oz_k : mone64.k ≤ z64.k ∧ z64.k ≤ one64.k ∧ mone64.k ≤ one64.k := by decide +kernel
theorem line_kept {l : List Bu.Op} {s : List Bool} {v : List I} (hc : chk l s = true) (hf : Flags s v) (hv : ∀ a ∈ v, rt a = true) (h : (evalK KkR l v 0).2 = 0) {p j : Nat} {lo hi : F} (hp : l.reverse[p]? = some (.kept lo hi j)) (hl : mone64.k ≤ lo.k) (hh : hi.k ≤ one64.k) (lh : lo.k ≤ hi.k) :
    In1 (gt (evalK KkR l v 0).1 p) ∧ lo.k ≤ (gt (evalK KkR l v 0).1 p).lo.k := by
  have hr := cond_rt hv (chk_cond hc hf hv) (eval_chain h).2
  have hR := eval_chainR h
  generalize (evalK KkR l v 0).1 = u at hr hR ⊢
  obtain ⟨f, _⟩ := chain_at hR hp
  have e : gt u p = keptI (gt (u.drop (p + 1)) j) lo hi := f
  rw [e]
  have r := gt_rt (fun a ha => hr a (List.mem_of_mem_drop ha)) (v := u.drop (p + 1)) j
  refine ⟨keptIn_ r hl hh lh, ?_⟩
  obtain ⟨e1, _⟩ := keptI_k (gt (u.drop (p + 1)) j) lo hi
  rw [e1]; omega
def drFl_ : List Bool := [true, false, false, true, true, false, false]
theorem dr_chk_ : chk drP1 drFl_ = true ∧ chk drTa drFl_ = true ∧ chk drTb drFl_ = true ∧ chk drA drFl_ = true ∧ chk drB drFl_ = true := by decide +kernel
theorem re_chk : chk reP [false, false, false, false, false, false] = true := by decide +kernel
/-- an alpha that may be -/
structure AlQ (al : I) : Prop where
  lo : minA.k ≤ al.lo.k
  rt : rt al = true
  hi : al.hi.k ≤ one64.k
theorem no_flags {v : List I} : Flags [false, false, false, false, false, false] v := fun i hi => by
  match i, hi with
  | 0, h => exact absurd h (by decide)
  | 1, h => exact absurd h (by decide)
  | 2, h => exact absurd h (by decide)
  | 3, h => exact absurd h (by decide)
  | 4, h => exact absurd h (by decide)
  | 5, h => exact absurd h (by decide)
  | i + 6, h => exact absurd h (by simp)
def V3rt (v : V3) : Prop := rt v.x = true ∧ rt v.y = true ∧ rt v.z = true
structure V3in (v : V3) : Prop where
  x : In1 v.x
  y : In1 v.y
  z : In1 v.z
theorem V3in.rt {v : V3} (h : V3in v) : V3rt v := ⟨irt h.x, irt h.y, irt h.z⟩
theorem DirP.i {v : V3} (h : DirP v) : V3in v := ⟨h.x, h.y, h.zi⟩
theorem re_cases (K : Kk) (v w : V3) {P : V3 → Prop} (hE : Er (reE K v w).2) (hP : (reE K v w).2 = 0 → P ⟨gt (reE K v w).1 2, gt (reE K v w).1 1, gt (reE K v w).1 0⟩) : Er (reR K v w).2 ∧ ((reR K v w).2 = 0 → P (reR K v w).1) := by
  unfold reR
  cases h : neB (reE K v w).2
  · rw [cond_false]
    exact ⟨.inl rfl, fun _ => hP (by unfold neB at h; simpa using h)⟩
  · rw [cond_true]
    refine ⟨hE, fun h0 => ?_⟩
    simp only at h0
    rw [h0] at h; cases h
theorem re_ok {v w : V3} (hv : V3in v) (hw : V3in w) : Er (reR KkR v w).2 ∧ ((reR KkR v w).2 = 0 → V3in (reR KkR v w).1) := by
  have r : ∀ a ∈ [w.z, w.y, w.x, v.z, v.y, v.x], rt a = true := fun a ha => by
    simp only [List.mem_cons, List.not_mem_nil, or_false] at ha
    rcases ha with rfl | rfl | rfl | rfl | rfl | rfl
    · exact irt hw.z
    · exact irt hw.y
    · exact irt hw.x
    · exact irt hv.z
    · exact irt hv.y
    · exact irt hv.x
  obtain ⟨a, b, c⟩ := oz_k
  refine re_cases KkR v w (P := V3in) (eval_er' re_chk no_flags r) fun h0 => ?_
  refine ⟨?_, ?_, ?_⟩
  · show In1 (gt (evalK KkR reP [w.z, w.y, w.x, v.z, v.y, v.x] 0).1 2)
    exact (line_kept re_chk no_flags r h0 (p := 2) (j := 2) rfl (Int.le_refl _) (Int.le_refl _) c).1
  · show In1 (gt (evalK KkR reP [w.z, w.y, w.x, v.z, v.y, v.x] 0).1 1)
    exact (line_kept re_chk no_flags r h0 (p := 1) (j := 2) rfl (Int.le_refl _) (Int.le_refl _) c).1
  · show In1 (gt (evalK KkR reP [w.z, w.y, w.x, v.z, v.y, v.x] 0).1 0)
    exact (line_kept re_chk no_flags r h0 (p := 0) (j := 2) rfl (Int.le_refl _) (Int.le_refl _) c).1
theorem dr_env {v : V3} {al : I} {d e : Int} (hv : DirP v) (ha : AlQ al) (hd : 0 ≤ d ∧ d ≤ 18446744073709551615) : (∀ a ∈ drEnv (KqR atR) v al d e, rt a = true) ∧ Flags drFl_ (drEnv (KqR atR) v al d e) := by
  have hu := unI_U d hd.1 hd.2
  have c := cosM_in (unI e).lo (unI e).hi
  have s := sinM_in (unI e).lo (unI e).hi
  constructor
  · intro a h
    simp only [drEnv, List.mem_cons, List.not_mem_nil, or_false] at h
    rcases h with rfl | rfl | rfl | rfl | rfl | rfl | rfl
    · exact rt_q hu.rt
    · exact irt c
    · exact irt s
    · exact ha.rt
    · exact irt hv.zi
    · exact irt hv.y
    · exact irt hv.x
  · intro i hi
    match i, hi with
    | 0, _ => exact hu.lo
    | 1, h => exact absurd h (by decide)
    | 2, h => exact absurd h (by decide)
    | 3, _ =>
      have h1 := q_le.2 ha.lo
      have h2 : 0 ≤ minA.q := by have : minA.q * 32 = 1 := q_of' (n := 1) (s := 5) (by decide +kernel) rfl; grind
      exact Rat.le_trans h2 h1
    | 4, _ =>
      have h1 := q_le.2 hv.z.1
      have h2 : z64.q = 0 := zero0_q
      show 0 ≤ v.z.lo.q
      have h3 : z64.q ≤ v.z.lo.q := h1
      rw [h2] at h3; exact h3
    | 5, h => exact absurd h (by decide)
    | 6, h => exact absurd h (by decide)
    | i + 7, h => exact absurd h (by simp [drFl_])
theorem drX_c {K : Kk} {p1 p2 : List Bu.Op} {v : List I} {P : V3 → Prop} (h1 : Er (evalK K p1 v 0).2) (h2 : Er (evalK K p2 v 0).2) (hP : (evalK K p2 v 0).2 = 0 → P (drV K p2 v)) : Er (drX K p1 p2 v).2 ∧ ((drX K p1 p2 v).2 = 0 → P (drX K p1 p2 v).1) := by
  unfold drX
  cases e1 : neB (evalK K p1 v 0).2
  · rw [cond_false]
    cases e2 : neB (evalK K p2 v 0).2
    · rw [cond_false]
      exact ⟨.inl rfl, fun _ => hP (by unfold neB at e2; simpa using e2)⟩
    · rw [cond_true]
      refine ⟨h2, fun h0 => ?_⟩
      simp only at h0
      rw [h0] at e2; cases e2
  · rw [cond_true]
    refine ⟨h1, fun h0 => ?_⟩
    simp only at h0
    rw [h0] at e1; cases e1
theorem drR_c {K : Kk} {v : List I} {P : V3 → Prop} (h1 : Er (evalK K drP1 v 0).2) (h2 : Er (evalK K drTa v 0).2) (h3 : Er (evalK K drTb v 0).2) (h4 : Er (evalK K drA v 0).2) (h5 : Er (evalK K drB v 0).2)
    (hA : (evalK K drA v 0).2 = 0 → P (drV K drA v)) (hB : (evalK K drB v 0).2 = 0 → P (drV K drB v)) : Er (drR K v).2 ∧ ((drR K v).2 = 0 → P (drR K v).1) := by
  unfold drR
  cases decide ((drQ K v).hi.k = z64.k)
  · cases decide (z64.k < (drQ K v).lo.k)
    · rw [cond_false, cond_false]
      unfold drN
      cases e1 : neB (evalK K drP1 v 0).2
      · rw [cond_false]
        exact ⟨.inr (.inr rfl), fun h0 => by simp only at h0; exact absurd h0 (by decide)⟩
      · rw [cond_true]
        refine ⟨h1, fun h0 => ?_⟩
        simp only at h0
        rw [h0] at e1; cases e1
    · rw [cond_false, cond_true]
      exact drX_c h3 h5 hB
  · rw [cond_true]
    exact drX_c h2 h4 hA
theorem vd_ok {v : V3} {al : I} {d e : Int} (hv : DirP v) (ha : AlQ al) (hd : 0 ≤ d ∧ d ≤ 18446744073709551615) : Er (drR KkR (drEnv (KqR atR) v al d e)).2 ∧ ((drR KkR (drEnv (KqR atR) v al d e)).2 = 0 → DirP (drR KkR (drEnv (KqR atR) v al d e)).1) := by
  obtain ⟨r, f⟩ := dr_env (e := e) hv ha hd
  obtain ⟨c1, c2, c3, c4, c5⟩ := dr_chk_
  obtain ⟨a, b, c⟩ := oz_k
  generalize drEnv (KqR atR) v al d e = w at r f ⊢
  refine drR_c (P := DirP) (eval_er' c1 f r) (eval_er' c2 f r) (eval_er' c3 f r) (eval_er' c4 f r) (eval_er' c5 f r) (fun h0 => ?_) (fun h0 => ?_)
  · obtain ⟨z1, z2⟩ := line_kept c4 f r h0 (p := 0) (j := 2) rfl a (Int.le_refl _) b
    refine ⟨?_, ?_, ⟨z2, z1.hi, z1.rt⟩⟩
    · show In1 (gt (evalK KkR drA w 0).1 2)
      exact (line_kept c4 f r h0 (p := 2) (j := 2) rfl (Int.le_refl _) (Int.le_refl _) c).1
    · show In1 (gt (evalK KkR drA w 0).1 1)
      exact (line_kept c4 f r h0 (p := 1) (j := 2) rfl (Int.le_refl _) (Int.le_refl _) c).1
  · obtain ⟨z1, z2⟩ := line_kept c5 f r h0 (p := 0) (j := 2) rfl a (Int.le_refl _) b
    refine ⟨?_, ?_, ⟨z2, z1.hi, z1.rt⟩⟩
    · show In1 (gt (evalK KkR drB w 0).1 2)
      exact (line_kept c5 f r h0 (p := 2) (j := 2) rfl (Int.le_refl _) (Int.le_refl _) c).1
    · show In1 (gt (evalK KkR drB w 0).1 1)
      exact (line_kept c5 f r h0 (p := 1) (j := 2) rfl (Int.le_refl _) (Int.le_refl _) c).1
end Bu
namespace Go.Proofs.YtgjohjgmlleebaaGreat
set_option linter.all false
open Go.RowKit Bu Rx
theorem cos_rt {u1 u2 : Int} (h : u64P u1) : V3rt (dwCos DwN u1 u2) := by
  obtain ⟨D, hD⟩ := draw_ok (b := u2) h.1 h.2
  refine ⟨?_, ?_, ?_⟩
  · show rt (keptI (dX (KqR atR) u1 u2).1 mone64 one64) = true
    rw [hD.ex]; exact keptI_rt hD.mx.rt
  · show rt (keptI (dY (KqR atR) u1 u2).1 mone64 one64) = true
    rw [hD.ey]; exact keptI_rt hD.my.rt
  · show rt (keptI (dZ (KqR atR) u1 u2).1 (toF 0) one64) = true
    rw [hD.ez]; exact keptI_rt (rt_q hD.zu.rt)
theorem leaf_al {nd : Nd} {p : Int} (h : okNd nd p = true) (h5 : nd.k ≠ 5) (h6 : nd.k ≠ 6) (h1 : nd.k ≠ 1) (h2 : nd.k ≠ 2) : AlQ (pt (nd.f 13)) := by
  have o := nd_leaf h h5 h6
  have r : Rn minA one64 (nd.f 13) := by
    rcases rt_kind o with e | e | e | e
    · exact absurd e h1
    · exact absurd e h2
    · rw [e] at o; exact (rt3_in o).1
    · rw [e] at o; exact (rt4_in o (c := 0) (by decide)).1
  exact ⟨r.1, decide_eq_true (Int.le_refl _), r.2⟩
theorem in1O_ok {a : I} (h : In1 a) : ObsOk (in1O a) := ob_c (decide_eq_true h.hi) (ob_c (decide_eq_true h.lo) (ob_c (irt h) ob_n))
theorem reO_ok {v w : V3} (hv : V3in v) (hw : V3in w) : ObsOk (reO v w) := ob_a (in1O_ok hw.z) (ob_a (in1O_ok hw.y) (ob_a (in1O_ok hw.x) (ob_a (in1O_ok hv.z) (ob_a (in1O_ok hv.y) (in1O_ok hv.x)))))
theorem dirQ {v : V3} (h : DirP v) : ObsOk (dirO v) := by
  have z1 : z64.k ≤ v.z.lo.k := h.z.1
  have z2 : v.z.hi.k ≤ one64.k := h.z.2.1
  exact ob_c (decide_eq_true z2) (ob_c (decide_eq_true z1) (ob_c (decide_eq_true h.y.hi) (ob_c (decide_eq_true h.y.lo) (ob_c (decide_eq_true h.x.hi) (ob_c (decide_eq_true h.x.lo) (ob_c (inb_rt h.z) (ob_c (irt h.y) (ob_c (irt h.x) ob_n))))))))
theorem uP {u : Int} (h : u64P u) : decide (0 ≤ u ∧ u ≤ 18446744073709551615) = true := decide_eq_true h
theorem bx_ok {nd : Nd} {p : Int} (hnd : okNd nd p = true) (h5 : nd.k ≠ 5) (h6 : nd.k ≠ 6) {v : V3} (hv : DirP v) {u1 u2 : Int} (k1 : u64P u1) (k2 : u64P u2) :
    ObsOk (bxO DwN nd v u1 u2) ∧ Er (bxF DwN nd v u1 u2).2 ∧ ((bxF DwN nd v u1 u2).2 = 0 → V3rt (bxF DwN nd v u1 u2).1) := by
  unfold bxO bxF
  by_cases e : nd.k = 1 ∨ nd.k = 2
  · have ee : (decide (nd.k = 1) || decide (nd.k = 2)) = true := by rcases e with e | e <;> rw [decide_eq_true e] <;> simp
    rw [ee, cond_true, cond_true]
    exact ⟨ob_c (uP k1) (ob_c (uP k2) ob_n), .inl rfl, fun _ => cos_rt k1⟩
  · have ee : (decide (nd.k = 1) || decide (nd.k = 2)) = false := by rw [decide_eq_false (fun h => e (.inl h)), decide_eq_false (fun h => e (.inr h))]; rfl
    rw [ee, cond_false, cond_false]
    have al := leaf_al hnd h5 h6 (fun h => e (.inl h)) (fun h => e (.inr h))
    have hO : ObsOk (DwN.vo v (pt (nd.f 13)) u1 u2 ++ [(decide ((nd.f 13).k ≤ one64.k), true)]) := by
      have a1 : (nd.f 13).k ≤ one64.k := al.hi
      have a2 : minA.k ≤ (nd.f 13).k := al.lo
      refine ob_a ?_ (ob_c (decide_eq_true a1) ob_n)
      exact ob_a (ob_a (ob_c (uP k1) (ob_c (unI_in u2 k2.1 k2.2) (ob_c (uP k2) ob_n))) (dirQ hv)) (ob_c (decide_eq_true a1) (ob_c (decide_eq_true a2) (ob_c al.rt ob_n)))
    have hd := vd_ok (e := u2) hv al k1
    have hd' : Er (dwN DwN v (nd.f 13) u1 u2).2 ∧ ((dwN DwN v (nd.f 13) u1 u2).2 = 0 → DirP (dwN DwN v (nd.f 13) u1 u2).1) := hd
    clear hd
    generalize dwN DwN v (nd.f 13) u1 u2 = n at hd' ⊢
    obtain ⟨d1, d2⟩ := hd'
    by_cases g : n.2 = 0
    · rw [decide_eq_true g, cond_true, cond_true]
      have r := re_ok hv.i (d2 g).i
      have r' : Er (DwN.re v n.1).2 ∧ ((DwN.re v n.1).2 = 0 → V3in (DwN.re v n.1).1) := r
      exact ⟨ob_a hO (reO_ok hv.i (d2 g).i), r'.1, fun h => (r'.2 h).rt⟩
    · rw [decide_eq_false g, cond_false, cond_false]
      exact ⟨ob_a hO ob_n, d1, fun h => absurd h g⟩
theorem rt3_ok {b : V3} (h : V3rt b) : dwMp DwN b = true := by
  show rt3 b.x.lo b.x.hi b.y.lo b.y.hi b.z.lo b.z.hi = true
  have h1 : rt ⟨b.x.lo, b.x.hi⟩ = true := h.1
  have h2 : rt ⟨b.y.lo, b.y.hi⟩ = true := h.2.1
  have h3 : rt ⟨b.z.lo, b.z.hi⟩ = true := h.2.2
  unfold rt3; rw [h1, h2, h3]; rfl
def InK (a : I) (y : F) : Prop := a.lo.k ≤ y.k ∧ y.k ≤ a.hi.k
theorem mid_in_ {a : I} (h : rt a = true) : InK a (midI a.lo a.hi) := by
  obtain ⟨_, _, _, h1, h2⟩ := mid_no (a := a.lo) (b := a.hi) h
  exact ⟨q_le.1 h1, q_le.1 h2⟩
theorem mid3 {b : V3} (h : V3rt b) : InK b.x (dwMid DwN b).1 ∧ InK b.y (dwMid DwN b).2.1 ∧ InK b.z (dwMid DwN b).2.2 := ⟨mid_in_ h.1, mid_in_ h.2.1, mid_in_ h.2.2⟩
/-- what is drawn of a right program, from above the horizon -/
structure DwP_ (cs : List SV) (len : Nat) (x y z : F) (u0 : Int) (r : DwR) : Prop where
  er : Er r.e
  no : r.e ≠ 0 → r = dwZ r.e
  a : r.e = 0 → 0 ≤ r.a ∧ r.a < len ∧ r.a = (dwP DwN cs len x y z u0).a ∧ r.s = (dwP DwN cs len x y z u0).s
  m : r.e = 0 → (dwP DwN cs len x y z u0).g = true → r = ⟨1, (x.neg, y.neg, z), dwMir DwN x y z, (dwP DwN cs len x y z u0).a, (dwP DwN cs len x y z u0).s, 0⟩ ∧ (ndR cs (r.a.toNat * 19)).k = 6
  l : r.e = 0 → (dwP DwN cs len x y z u0).g = false → (ndR cs (r.a.toNat * 19)).k ≠ 5 ∧ (ndR cs (r.a.toNat * 19)).k ≠ 6 ∧ ((r.k = 0 ∧ r.p = z3 ∧ r.b = zV) ∨ (r.k = 2 ∧ unB r.p.1 r.p.2.1 r.p.2.2 = true ∧ z64.k < r.p.2.2.k ∧ InK r.b.x r.p.1 ∧ InK r.b.y r.p.2.1 ∧ InK r.b.z r.p.2.2))
theorem pa_res {cs : List SV} {len : Nat} {r : Pst × Bool} (h : EndP cs len r) : Er (paRes r).e ∧ ((paRes r).e ≠ 0 → (paRes r).g = false) ∧ ((paRes r).e = 0 → 0 ≤ (paRes r).a ∧ (paRes r).a < len ∧ ((paRes r).g = true → (ndR cs ((paRes r).a.toNat * 19)).k = 6) ∧ ((paRes r).g = false → (ndR cs ((paRes r).a.toNat * 19)).k ≠ 5 ∧ (ndR cs ((paRes r).a.toNat * 19)).k ≠ 6)) := by
  unfold paRes
  by_cases he : r.1.er = 0
  · rw [decide_eq_true he, cond_true]
    have ha := h.a
    exact ⟨.inl rfl, fun h => absurd rfl h, fun _ => ⟨by show (0 : Int) ≤ (r.1.a : Int); omega, by show (r.1.a : Int) < len; omega, fun g => (h.g g).2, fun g => h.l g he⟩⟩
  · rw [decide_eq_false he, cond_false]
    exact ⟨h.er, fun _ => rfl, fun h => absurd h he⟩
theorem dw_ok {cs : List SV} {len : Nat} (hl : cs.length = len * 19) (hok : okPg cs len = true) {x y z : F} (hB : unB x y z = true) (hz : z64.k < z.k) (hv : DirP (unV KkR x y z)) {u0 u1 u2 : Int} (k0 : u64P u0) (k1 : u64P u1) (k2 : u64P u2) :
    ObsOk (dwOb DwN cs len x y z u0 u1 u2) ∧ DwP_ cs len x y z u0 (dwF DwN cs len x y z u0 u1 u2) := by
  have K := okPg_ok hok
  have hb : DwN.ub x y z = true := hB
  have gz : ¬ z.k ≤ z64.k := by omega
  have E := pa_res (pt_end hv.z K k0)
  have EP : dwP DwN cs len x y z u0 = paRes (paW PaN (unV KkR x y z).z u0 cs len) := rfl
  rw [← EP] at E
  clear EP
  have hbx : ∀ {nd : Nd} {p : Int}, okNd nd p = true → nd.k ≠ 5 → nd.k ≠ 6 → ObsOk (bxO DwN nd (DwN.un x y z) u1 u2) ∧ Er (bxF DwN nd (DwN.un x y z) u1 u2).2 ∧ ((bxF DwN nd (DwN.un x y z) u1 u2).2 = 0 → V3rt (bxF DwN nd (DwN.un x y z) u1 u2).1) := fun a b c => bx_ok a b c hv k1 k2
  unfold dwOb dwF
  rw [hb, cond_true, cond_true, decide_eq_false gz, cond_false, cond_false]
  obtain ⟨e1, e2, e3⟩ := E
  have hpre : ∀ {o : Obs}, ObsOk o → ObsOk ((decide (cs.length = len * 19), true) :: (DwN.T.o cs len, true) :: (DwN.T.b (DwN.un x y z).z cs len, true) :: (DwN.T.u u0, true) :: (cosO (DwN.un x y z).z ++ o)) := fun ho => ob_c (decide_eq_true hl) (ob_c hok (ob_c (fdD_ok hv.z K).1 (ob_c (uP k0) (ob_a (cosO_ok hv.z) ho))))
  generalize hP : dwP DwN cs len x y z u0 = P at e1 e2 e3 ⊢
  by_cases ge : P.e = 0
  · obtain ⟨a0, a1, ag, al⟩ := e3 ge
    rw [decide_eq_true ge, cond_true, cond_true]
    cases gg : P.g
    · rw [cond_false, cond_false]
      obtain ⟨l5, l6⟩ := al gg
      have hnd := K.nd P.a.toNat (by omega)
      obtain ⟨o1, o2, o3⟩ := hbx hnd l5 l6
      generalize bxF DwN (ndR cs (P.a.toNat * 19)) (DwN.un x y z) u1 u2 = b at o2 o3 ⊢
      by_cases gb : b.2 = 0
      · rw [decide_eq_true gb, cond_true, cond_true]
        refine ⟨hpre (ob_c (decide_eq_true ⟨a0, a1⟩) (ob_a o1 (ob_c (rt3_ok (o3 gb)) ob_n))), ?_⟩
        obtain ⟨m1, m2, m3⟩ := mid3 (o3 gb)
        unfold dwLf
        cases gw : DwN.ub (dwMid DwN b.1).1 (dwMid DwN b.1).2.1 (dwMid DwN b.1).2.2 && !decide ((dwMid DwN b.1).2.2.k ≤ z64.k)
        · rw [cond_false]
          exact ⟨.inl rfl, fun h => absurd rfl h, fun _ => ⟨a0, a1, by rw [hP], by rw [hP]⟩, (fun _ h => by rw [hP, gg] at h; cases h), fun _ _ => ⟨l5, l6, .inl ⟨rfl, rfl, rfl⟩⟩⟩
        · rw [cond_true]
          rw [Bool.and_eq_true] at gw
          obtain ⟨w1, w2⟩ := gw
          have w3 : ¬ (dwMid DwN b.1).2.2.k ≤ z64.k := by simpa using w2
          exact ⟨.inl rfl, fun h => absurd rfl h, fun _ => ⟨a0, a1, by rw [hP], by rw [hP]⟩, (fun _ h => by rw [hP, gg] at h; cases h), fun _ _ => ⟨l5, l6, .inr ⟨rfl, w1, by show z64.k < (dwMid DwN b.1).2.2.k; omega, m1, m2, m3⟩⟩⟩
      · rw [decide_eq_false gb, cond_false, cond_false]
        exact ⟨hpre (ob_c (decide_eq_true ⟨a0, a1⟩) (ob_a o1 ob_n)), ⟨o2, fun _ => rfl, fun h => absurd h gb, fun h => absurd h gb, fun h => absurd h gb⟩⟩
    · rw [cond_true, cond_true]
      exact ⟨hpre ob_n, ⟨.inl rfl, fun h => absurd rfl h, fun _ => ⟨a0, a1, by rw [hP], by rw [hP]⟩, fun _ _ => ⟨by rw [hP], ag gg⟩, (fun _ h => by rw [hP, gg] at h; cases h)⟩⟩
  · rw [decide_eq_false ge, cond_false, cond_false]
    exact ⟨hpre (ob_c (e2 ge) ob_n), ⟨e1, fun _ => rfl, fun h => absurd h ge, fun h => absurd h ge, fun h => absurd h ge⟩⟩
end Go.Proofs.YtgjohjgmlleebaaGreat
namespace Bu
set_option linter.all false
open Rx Go
end Bu
namespace Go.Proofs.YtgjohjgmlleebaaGreat
set_option linter.all false
open Go.RowKit Bu Rx
end Go.Proofs.YtgjohjgmlleebaaGreat
namespace Go.Proofs.YtgjohjgmlleebaaGreat
set_option linter.all false
open Go.RowKit Bu Rx
theorem eqIv_rr (a : I) : eqIv a a = true := by unfold eqIv; rw [decide_eq_true rfl, decide_eq_true rfl]; rfl
theorem eqV3_r (a : V3) : eqV3 a a = true := by unfold eqV3; rw [eqIv_rr, eqIv_rr, eqIv_rr]; rfl
theorem eqF3_r (p : F × F × F) : eqF3 p p = true := by unfold eqF3; rw [decide_eq_true rfl, decide_eq_true rfl, decide_eq_true rfl]; rfl
theorem u64_w {n : Int} (h : (Lit.int .u64 n).wf = true) : u64P n := by
  have : 0 ≤ n ∧ n ≤ 18446744073709551615 := by simpa [Lit.wf, IntKind.min, IntKind.max, IntKind.signed, IntKind.bits] using h
  exact this
end Go.Proofs.YtgjohjgmlleebaaGreat
namespace Go.Proofs.YtgjohjgmlleebaaGreat
set_option linter.all false
open Go.RowKit Bu Rx
structure Nbx where
  N : Npr
  g : List SV → Nat → List SV
  b : List SV → Nat → Bool
  o : List SV → Nat → Bool
  D : Nds
  un : F → F → F → V3
  ub : F → F → F → Bool
def OBx (W : Nbx) : OracleF := lookO [(15, prgB_O W.g W.b), (19, plainO (kBw W.N.b W.N.p W.N.w)), (30, dwO_ W.D), (31, kRd 19 (kRgt W.o)), (33, plainO (kUn W.un W.ub)), (29, plainO (oConst (.b true)))]
noncomputable def wbC : Code := bodyOf Tryz.prog 6
theorem wbBody : Tryz.f6.body = some wbC := by kernel_rfl
structure B8 where
  x : Int
  y : Int
  z : Int
  a : Int
  b : Int
  c : Int
  d : Int
  e : Int
def B8.args (q : B8) : List SV := [u3S q.x q.y q.z, u3L q.a q.b q.c, .si .u64 q.d, .si .u64 q.e]
noncomputable def wbA (el : TypeId) (z : Nat × Nat) (cells : List SV) (off len cap : Nat) (q : B8) : St := ⟨(.ssl 0 off len cap :: q.args) ++ List.replicate (Tryz.f6.ntmps - 5) (.tup []), [⟨el, cells, .ro z⟩], none, []⟩
noncomputable def wbZ (q : B8) : St := ⟨(.o (.slice none 0 0) :: q.args) ++ List.replicate (Tryz.f6.ntmps - 5) (.tup []), [], none, []⟩
def wbT (n : Nat) (q : B8) (x : Nat → SV) : List SV :=
  [x 0, x 1, x 2, .si .u64 q.d, .si .u64 q.e, x 5, .p 0 0, .p 1 0, x 8, x 9, .b false, .osl true 2 n, .p 3 0, x 13, x 14, x 15, x 16, x 17, x 18, x 19, x 20, x 21, x 22, x 23, x 24, x 25, x 26, x 27, x 28, x 29, x 30, x 31, x 32, x 33, x 34, x 35, x 36, x 37, x 38, x 39, x 40, x 41, x 42, x 43, x 44, x 45, x 46, x 47, x 48, x 49, x 50, x 51, x 52, x 53, x 54, x 55, x 56, x 57, x 58, x 59, x 60, x 61, x 62, x 63, x 64, x 65, x 66, x 67, x 68, x 69, x 70, x 71, x 72, x 73, x 74, x 75, x 76, x 77, x 78, x 79, x 80, x 81, x 82, x 83, x 84, x 85, x 86, x 87, x 88, x 89, x 90, x 91, x 92, x 93, x 94, x 95, x 96, x 97, x 98, x 99, x 100, x 101, x 102, x 103, x 104, x 105, x 106, x 107, x 108, x 109, x 110, x 111, x 112, x 113, x 114, x 115, x 116, x 117, x 118, x 119, x 120, x 121, x 122, x 123, x 124, x 125, x 126, x 127, x 128, x 129, x 130, x 131, x 132, x 133, x 134, x 135, x 136, x 137, x 138, x 139, x 140, x 141, x 142, x 143, x 144, x 145, x 146, x 147, x 148, x 149, x 150, x 151, x 152, x 153, x 154, x 155, x 156, x 157, x 158, x 159, x 160, x 161, x 162, x 163, x 164, x 165, x 166, x 167, x 168, x 169, x 170, x 171, x 172, x 173, x 174, x 175, x 176, x 177, x 178, x 179, x 180, x 181, x 182, x 183, x 184, x 185, x 186, x 187, x 188, x 189, x 190, x 191, x 192, x 193, x 194, x 195, x 196, x 197, x 198, x 199, x 200, x 201, x 202, x 203, x 204, x 205, x 206, x 207, x 208, x 209, x 210, x 211, x 212, x 213, x 214, x 215, x 216, x 217, x 218, x 219, x 220, x 221, x 222, x 223, x 224, x 225, x 226]
def wbM (pc : List SV) (q : B8) (X Y Z : F) : List Blk := [⟨62, [.si .u32 q.x, .si .u32 q.y, .si .u32 q.z], .ex⟩, ⟨63, [.si .u64 q.a, .si .u64 q.b, .si .u64 q.c], .ex⟩, ⟨44, pc, .rown 19⟩, ⟨51, [.fl X, .fl Y, .fl Z], .ex⟩]
def wbS (pc : List SV) (n : Nat) (q : B8) (X Y Z : F) (x : Nat → SV) (d : Dec) : St := ⟨wbT n q x, wbM pc q X Y Z, d, []⟩
end Go.Proofs.YtgjohjgmlleebaaGreat
namespace Go.Proofs.YtgjohjgmlleebaaGreat
set_option linter.all false
open Go.RowKit Bu Rx
noncomputable abbrev wbA2 (W : Nbx) (el : TypeId) (z : Nat × Nat) (cells : List SV) (off len cap : Nat) (q : B8) : St := aftN Tryz.prog EG (OBx W) 60 2 wbC (wbA el z cells off len cap q)
noncomputable abbrev wbZ2 (W : Nbx) (q : B8) : St := aftN Tryz.prog EG (OBx W) 60 2 wbC (wbZ q)
theorem wbLa (W : Nbx) (el : TypeId) (z : Nat × Nat) (cells : List SV) (off len cap : Nat) (q : B8) : LandsN Tryz.prog EG (OBx W) 60 2 wbC (wbA el z cells off len cap q) := by unfold LandsN; kernel_rfl
theorem wbLz (W : Nbx) (q : B8) : LandsN Tryz.prog EG (OBx W) 60 2 wbC (wbZ q) := by unfold LandsN; kernel_rfl
def wbX (W : Nbx) (q : B8) : F := W.N.b mone64 one64 q.x
def wbY (W : Nbx) (q : B8) : F := W.N.b mone64 one64 q.y
def wbZz (W : Nbx) (q : B8) : F := W.N.b d64 one64 q.z
section
variable (W : Nbx) (el : TypeId) (z : Nat × Nat) (cells : List SV) (off len cap : Nat) (q : B8)
theorem wbOa : (wbA2 W el z cells off len cap q).ob = dirU W.N q.x q.y q.z ++ [(decide (len ≤ cap), true), (W.b ((cells.drop off).take (len * 8)) len, true)] := by kernel_rfl
theorem wbOz : (wbZ2 W q).ob = dirU W.N q.x q.y q.z := by kernel_rfl
theorem wbRa : ∃ rest, (wbA2 W el z cells off len cap q).M = [⟨el, cells, .ro z⟩] ++ rest := ⟨wbM (W.g ((cells.drop off).take (len * 8)) len) q (wbX W q) (wbY W q) (wbZz W q), by kernel_rfl⟩
theorem wbMa : selM (wbA2 W el z cells off len cap q).M [1, 2, 3, 4] = some (wbM (W.g ((cells.drop off).take (len * 8)) len) q (wbX W q) (wbY W q) (wbZz W q)) := by kernel_rfl
theorem wbMz : selM (wbZ2 W q).M [0, 1, 2, 3] = some (wbM (W.g [] 0) q (wbX W q) (wbY W q) (wbZz W q)) := by kernel_rfl
noncomputable def wbXa (v : Nat → Value) : Nat → SV := fun j => ((wbA2 W el z cells off len cap q).sel [1, 2, 3, 4] [] v).T.getD j .np
noncomputable def wbXz (v : Nat → Value) : Nat → SV := fun j => ((wbZ2 W q).sel [0, 1, 2, 3] [] v).T.getD j .np
theorem wbTa (v : Nat → Value) (M' : List Blk) : ((wbA2 W el z cells off len cap q).sel [1, 2, 3, 4] M' v).T = wbT (prK len + 1) q (wbXa W el z cells off len cap q v) := by kernel_rfl
theorem wbTz (v : Nat → Value) (M' : List Blk) : ((wbZ2 W q).sel [0, 1, 2, 3] M' v).T = wbT 1 q (wbXz W q v) := by kernel_rfl
end
inductive E3 where
  | z
  | w
  | o
def E3.v : E3 → Int
  | .z => 0
  | .w => 10
  | .o => 11
def E3.d : E3 → List Bool
  | .z => [true]
  | .w => [false, false, true]
  | .o => [false, true]
def cdO (v : Int) : E3 → Obs
  | .z => [(v == 0, true)]
  | .w => [(v == 10, true), (v == 11, false), (v == 0, false)]
  | .o => [(v == 11, true), (v == 0, false)]
def neD : E3 → List Bool
  | .z => [false, true]
  | _ => [true]
def neO (a b : Int) : E3 → Obs
  | .z => [(b != 0, true), (a != 0, false)]
  | _ => [(a != 0, true)]
def eqDr (A B : DwR) (s : Bool) : Bool := (A.k == B.k) && (eqF3 A.p B.p && (eqV3 A.b B.b && ((A.a == B.a) && ((s == s) && true))))
def wbD (s t : Bool) (e f : E3) : List Bool := [s, t] ++ (neD e ++ (e.d ++ f.d))
inductive K3 where
  | f
  | m
  | d
def K3.i : K3 → Int
  | .f => 0
  | .m => 1
  | .d => 2
def kmB : K3 → Bool
  | .m => true
  | _ => false
def kmD : K3 → List Bool
  | .f => [true, true, true, true]
  | .m => [false, true, true, true, true]
  | .d => [false, false, true, true, true, true, true, true, true, true, true]
def wkD (s : Bool) (k : K3) : List Bool := [s, s, false, false, false, kmB k, kmB k, false, false] ++ kmD k
section
variable (W : Nbx) (pc : List SV) (n : Nat) (q : B8) (X Y Z : F) (x : Nat → SV)
def wbC1 (pc : List SV) (n : Nat) : List SV := (pc.drop 0).take (n * 19)
def wA (W : Nbx) (pc : List SV) (n : Nat) (q : B8) (X Y Z : F) : DwR := W.D.g (wbC1 pc n) n X Y Z q.a q.b q.c
def wB (W : Nbx) (pc : List SV) (n : Nat) (q : B8) (X Y Z : F) : DwR := W.D.g (wbC1 pc n) n X Y Z q.a q.d q.e
def wbP (W : Nbx) (pc : List SV) (n : Nat) (q : B8) (X Y Z : F) (s t : Bool) : Obs := (W.o (wbC1 pc n) n, true) :: ((W.D.o (wbC1 pc n) n X Y Z q.a q.d q.e ++ [((wB W pc n q X Y Z).s, t)]) ++ ((W.D.o (wbC1 pc n) n X Y Z q.a q.b q.c ++ [((wA W pc n q X Y Z).s, s)]) ++ []))
def wbO (W : Nbx) (pc : List SV) (n : Nat) (q : B8) (X Y Z : F) (s t : Bool) (e f : E3) : Obs :=
  cdO (wB W pc n q X Y Z).e f ++ (cdO (wA W pc n q X Y Z).e e ++ (neO (wA W pc n q X Y Z).e (wB W pc n q X Y Z).e e ++ wbP W pc n q X Y Z s t))
noncomputable abbrev wbR (d : List Bool) : St := aft Tryz.prog EG (OBx W) 60 (post 2 wbC) (wbS pc n q X Y Z x (some d))
theorem wbL_zw (s t : Bool) : Lands Tryz.prog EG (OBx W) 60 (post 2 wbC) (wbS pc n q X Y Z x (some (wbD s t .z .w))) .ret := by unfold Lands; kernel_rfl
theorem wbO_zw (s t : Bool) : (wbR W pc n q X Y Z x (wbD s t .z .w)).ob = wbO W pc n q X Y Z s t .z .w := by kernel_rfl
theorem wbV_zw (s t : Bool) : resultS Tryz.prog Tryz.f6 (wbR W pc n q X Y Z x (wbD s t .z .w)) = some (.b true) := by kernel_rfl
theorem wbL_zo (s t : Bool) : Lands Tryz.prog EG (OBx W) 60 (post 2 wbC) (wbS pc n q X Y Z x (some (wbD s t .z .o))) .ret := by unfold Lands; kernel_rfl
theorem wbO_zo (s t : Bool) : (wbR W pc n q X Y Z x (wbD s t .z .o)).ob = wbO W pc n q X Y Z s t .z .o := by kernel_rfl
theorem wbV_zo (s t : Bool) : resultS Tryz.prog Tryz.f6 (wbR W pc n q X Y Z x (wbD s t .z .o)) = some (.b true) := by kernel_rfl
theorem wbL_wz (s t : Bool) : Lands Tryz.prog EG (OBx W) 60 (post 2 wbC) (wbS pc n q X Y Z x (some (wbD s t .w .z))) .ret := by unfold Lands; kernel_rfl
theorem wbO_wz (s t : Bool) : (wbR W pc n q X Y Z x (wbD s t .w .z)).ob = wbO W pc n q X Y Z s t .w .z := by kernel_rfl
theorem wbV_wz (s t : Bool) : resultS Tryz.prog Tryz.f6 (wbR W pc n q X Y Z x (wbD s t .w .z)) = some (.b true) := by kernel_rfl
theorem wbL_ww (s t : Bool) : Lands Tryz.prog EG (OBx W) 60 (post 2 wbC) (wbS pc n q X Y Z x (some (wbD s t .w .w))) .ret := by unfold Lands; kernel_rfl
theorem wbO_ww (s t : Bool) : (wbR W pc n q X Y Z x (wbD s t .w .w)).ob = wbO W pc n q X Y Z s t .w .w := by kernel_rfl
theorem wbV_ww (s t : Bool) : resultS Tryz.prog Tryz.f6 (wbR W pc n q X Y Z x (wbD s t .w .w)) = some (.b true) := by kernel_rfl
theorem wbL_wo (s t : Bool) : Lands Tryz.prog EG (OBx W) 60 (post 2 wbC) (wbS pc n q X Y Z x (some (wbD s t .w .o))) .ret := by unfold Lands; kernel_rfl
theorem wbO_wo (s t : Bool) : (wbR W pc n q X Y Z x (wbD s t .w .o)).ob = wbO W pc n q X Y Z s t .w .o := by kernel_rfl
theorem wbV_wo (s t : Bool) : resultS Tryz.prog Tryz.f6 (wbR W pc n q X Y Z x (wbD s t .w .o)) = some (.b true) := by kernel_rfl
theorem wbL_oz (s t : Bool) : Lands Tryz.prog EG (OBx W) 60 (post 2 wbC) (wbS pc n q X Y Z x (some (wbD s t .o .z))) .ret := by unfold Lands; kernel_rfl
theorem wbO_oz (s t : Bool) : (wbR W pc n q X Y Z x (wbD s t .o .z)).ob = wbO W pc n q X Y Z s t .o .z := by kernel_rfl
theorem wbV_oz (s t : Bool) : resultS Tryz.prog Tryz.f6 (wbR W pc n q X Y Z x (wbD s t .o .z)) = some (.b true) := by kernel_rfl
theorem wbL_ow (s t : Bool) : Lands Tryz.prog EG (OBx W) 60 (post 2 wbC) (wbS pc n q X Y Z x (some (wbD s t .o .w))) .ret := by unfold Lands; kernel_rfl
theorem wbO_ow (s t : Bool) : (wbR W pc n q X Y Z x (wbD s t .o .w)).ob = wbO W pc n q X Y Z s t .o .w := by kernel_rfl
theorem wbV_ow (s t : Bool) : resultS Tryz.prog Tryz.f6 (wbR W pc n q X Y Z x (wbD s t .o .w)) = some (.b true) := by kernel_rfl
theorem wbL_oo (s t : Bool) : Lands Tryz.prog EG (OBx W) 60 (post 2 wbC) (wbS pc n q X Y Z x (some (wbD s t .o .o))) .ret := by unfold Lands; kernel_rfl
theorem wbO_oo (s t : Bool) : (wbR W pc n q X Y Z x (wbD s t .o .o)).ob = wbO W pc n q X Y Z s t .o .o := by kernel_rfl
theorem wbV_oo (s t : Bool) : resultS Tryz.prog Tryz.f6 (wbR W pc n q X Y Z x (wbD s t .o .o)) = some (.b true) := by kernel_rfl
def ixN (pc : List SV) (n : Nat) (a : Int) : Obs := [(ckAll pc (a.toNat * 19) [.i .u8], true), (ixB a n, true)]
def kmO (W : Nbx) (pc : List SV) (n : Nat) (A B : DwR) (X Y Z : F) (s : Bool) : K3 → Obs
  | .f => (eqV3 A.b zV, true) :: (eqF3 A.p z3, true) :: (decide (inAt pc (A.a.toNat * 19) ≤ 4), true) :: (ixN pc n A.a ++ [(A.k == 0, true)])
  | .m => (eqDr A B s, true) :: (eqF3 A.p (X.neg, Y.neg, Z), true) :: (!decide (Y.k = 0), true) :: (!decide (X.k = 0), true) :: (inAt pc (A.a.toNat * 19) == 6, true) :: (ixN pc n A.a ++ [(A.k == 1, true), (A.k == 0, false)])
  | .d => [(decide (A.p.2.2.k ≤ A.b.z.hi.k), true), (decide (A.b.z.lo.k ≤ A.p.2.2.k), true), (decide (A.p.2.1.k ≤ A.b.y.hi.k), true), (decide (A.b.y.lo.k ≤ A.p.2.1.k), true), (decide (A.p.1.k ≤ A.b.x.hi.k), true), (decide (A.b.x.lo.k ≤ A.p.1.k), true), (decide (z64.k < A.p.2.2.k), true), (decide (inAt pc (A.a.toNat * 19) ≤ 4), true)] ++
    (ixN pc n A.a ++ [(W.ub A.p.1 A.p.2.1 A.p.2.2, true), (A.k == 1, false), (A.k == 0, false)])
def wkO (W : Nbx) (pc : List SV) (n : Nat) (q : B8) (X Y Z : F) (s : Bool) (k : K3) : Obs :=
  kmO W pc n (wA W pc n q X Y Z) (wB W pc n q X Y Z) X Y Z s k ++ ([(decide ((n : Int) ≤ (wA W pc n q X Y Z).a), false), (decide ((wA W pc n q X Y Z).a < 0), false), ((wB W pc n q X Y Z).k == 1, kmB k), ((wA W pc n q X Y Z).k == 1, kmB k), ((wA W pc n q X Y Z).a != (wB W pc n q X Y Z).a, false), ((wB W pc n q X Y Z).e != 0, false), ((wA W pc n q X Y Z).e != 0, false)] ++ wbP W pc n q X Y Z s s)
theorem wkL_f (s : Bool) : Lands Tryz.prog EG (OBx W) 60 (post 2 wbC) (wbS pc n q X Y Z x (some (wkD s .f))) .ret := by cases s <;> (unfold Lands; kernel_rfl)
theorem wkO_f (s : Bool) : (wbR W pc n q X Y Z x (wkD s .f)).ob = wkO W pc n q X Y Z s .f := by cases s <;> kernel_rfl
theorem wkV_f (s : Bool) : resultS Tryz.prog Tryz.f6 (wbR W pc n q X Y Z x (wkD s .f)) = some (.b true) := by cases s <;> kernel_rfl
theorem wkL_m (s : Bool) : Lands Tryz.prog EG (OBx W) 60 (post 2 wbC) (wbS pc n q X Y Z x (some (wkD s .m))) .ret := by cases s <;> (unfold Lands; kernel_rfl)
theorem wkO_m (s : Bool) : (wbR W pc n q X Y Z x (wkD s .m)).ob = wkO W pc n q X Y Z s .m := by cases s <;> kernel_rfl
theorem wkV_m (s : Bool) : resultS Tryz.prog Tryz.f6 (wbR W pc n q X Y Z x (wkD s .m)) = some (.b true) := by cases s <;> kernel_rfl
theorem wkL_d (s : Bool) : Lands Tryz.prog EG (OBx W) 60 (post 2 wbC) (wbS pc n q X Y Z x (some (wkD s .d))) .ret := by cases s <;> (unfold Lands; kernel_rfl)
theorem wkO_d (s : Bool) : (wbR W pc n q X Y Z x (wkD s .d)).ob = wkO W pc n q X Y Z s .d := by cases s <;> kernel_rfl
theorem wkV_d (s : Bool) : resultS Tryz.prog Tryz.f6 (wbR W pc n q X Y Z x (wkD s .d)) = some (.b true) := by cases s <;> kernel_rfl
end
end Go.Proofs.YtgjohjgmlleebaaGreat
namespace Bu
set_option linter.all false
open Ieee
/-- a quotient to 1 at most, as it is rounded -/
theorem div_near {x y : F} (hx : 0 < x.k) (hy : 0 < y.k) (h : x.z ≤ y.z) {r m n A B more : Nat} (hr : nv r = S) (hT : r < T) (hmm : man x.k.natAbs = m) (hnn : man y.k.natAbs = n) (hpa : pl x.k.natAbs = A) (hpb : pl y.k.natAbs = B) (hmo : 52 + 2 + n.log2 - m.log2 = more) :
    ∃ t : F, double.div x.b y.b = some t.b ∧ t.k = ((near ((2 * (m * 2 ^ more / n) + (m * 2 ^ more % n != 0).toNat) * 2 ^ (-1074 + (A : Int) - (-1074 + (B : Int)) - (more : Int) - 1 + 1074).toNat) (2 ^ (-(-1074 + (A : Int) - (-1074 + (B : Int)) - (more : Int) - 1 + 1074)).toNat) : Nat) : Int) := by
  have m1 : man x.k.natAbs ≠ 0 := fun h => by have := man_zero _ h; omega
  have m2 : man y.k.natAbs ≠ 0 := fun h => by have := man_zero _ h; omega
  have hz : man x.k.natAbs * 2 ^ pl x.k.natAbs ≤ man y.k.natAbs * 2 ^ pl y.k.natAbs := by
    have a := z_natAbs x
    have b := z_natAbs y
    have s1 := (z_sign x); have s2 := (z_sign y)
    omega
  unfold Format.div
  rw [read_F, read_F]
  simp only [Datum.quotient, if_neg m2, Option.map_some, Format.write]
  rw [decide_eq_false (show ¬ x.k < 0 by omega), decide_eq_false (show ¬ y.k < 0 by omega)]
  rw [hmm] at m1 hz ⊢
  rw [hnn] at m2 hz ⊢
  rw [hpa] at hz ⊢
  rw [hpb] at hz ⊢
  have hfb : double.fractionBits = 52 := rfl
  rw [hfb, hmo, Nat.shiftLeft_eq]
  have l1 := Nat.log2_self_le m1
  have l2 : n < 2 ^ (n.log2 + 1) := Nat.lt_log2_self
  have hAB : A + m.log2 < n.log2 + 1 + B := by
    have h1 : 2 ^ (A + m.log2) ≤ m * 2 ^ A := by rw [Nat.pow_add, Nat.mul_comm]; exact Nat.mul_le_mul_right _ l1
    have h2 : n * 2 ^ B < 2 ^ (n.log2 + 1 + B) := by rw [Nat.pow_add]; exact Nat.mul_lt_mul_of_pos_right l2 (Nat.two_pow_pos B)
    exact (Nat.pow_lt_pow_iff_right (by omega)).1 (Nat.lt_of_le_of_lt h1 (Nat.lt_of_le_of_lt hz h2))
  have hA : A ≤ B + more := by omega
  have hq := quot_le m2 hz hA
  have hne : 2 * (m * 2 ^ more / n) + (m * 2 ^ more % n != 0).toNat ≠ 0 := by
    intro h0
    have hd := Nat.div_add_mod (m * 2 ^ more) n
    have h1 : m * 2 ^ more / n = 0 := by omega
    have h2 : (m * 2 ^ more % n != 0).toNat = 0 := by omega
    have h3 : m * 2 ^ more % n = 0 := by
      by_cases c : m * 2 ^ more % n = 0
      · exact c
      · simp [c] at h2
    rw [h1, h3] at hd
    have := Nat.mul_pos (Nat.pos_of_ne_zero m1) (Nat.two_pow_pos more)
    omega
  rw [nearest_eq _ _ _ hne]
  generalize 2 * (m * 2 ^ more / n) + (m * 2 ^ more % n != 0).toNat = mag at *
  have hn : near (mag * 2 ^ (-1074 + (A : Int) - (-1074 + (B : Int)) - (more : Int) - 1 + 1074).toNat) (2 ^ (-(-1074 + (A : Int) - (-1074 + (B : Int)) - (more : Int) - 1 + 1074)).toNat) ≤ r := by
    refine near_le (Nat.two_pow_pos _) ?_
    obtain ⟨sx, hs1, hs2⟩ := S_pow
    rw [hr, hs2, ← Nat.pow_add]
    refine Nat.le_trans (Nat.mul_le_mul_right _ hq) ?_
    rw [← Nat.pow_add]
    exact Nat.pow_le_pow_right (by omega) (by omega)
  rw [Nat.min_eq_left (by omega), word_F _ _ (by omega) (by simp)]
  refine ⟨_, rfl, ?_⟩
  rw [if_neg (by decide), F.of_k (by omega)]
/-- halves and an odd one: what is at most, at least an even number of halves -/
theorem mag_le {M n R : Nat} (hn : n ≠ 0) (h : M ≤ R * n) : 2 * (M / n) + (M % n != 0).toNat ≤ 2 * R := by
  have hd := Nat.div_add_mod M n
  have hr := Nat.mod_lt M (Nat.pos_of_ne_zero hn)
  have hQ : M / n ≤ R := by
    have := Nat.div_le_div_right (c := n) h
    rwa [Nat.mul_div_cancel _ (Nat.pos_of_ne_zero hn)] at this
  by_cases hR : M % n = 0
  · rw [hR]; simp; omega
  · have hs : (M % n != 0).toNat = 1 := by simp [hR]
    rw [hs]
    have : M / n ≠ R := by
      intro e
      rw [e, Nat.mul_comm] at hd
      omega
    omega
theorem mag_ge {M n R : Nat} (hn : n ≠ 0) (h : R * n ≤ M) : 2 * R ≤ 2 * (M / n) + (M % n != 0).toNat := by
  have : R ≤ M / n := (Nat.le_div_iff_mul_le (Nat.pos_of_ne_zero hn)).2 h
  omega
end Bu
