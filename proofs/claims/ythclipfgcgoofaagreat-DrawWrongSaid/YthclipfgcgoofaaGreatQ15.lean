/- eval.Eval: what each node's light is; a round. draw.Path: the contract. eval.Eval: the contract. draw.Path: entry, end; the known function. draw.Draw by the reckoner: pieces. draw.Draw by the reckoner: the runs. draw.Draw: the known function. The draws, really; their known functions with sureness decided. The chapter's examples of layer 23. The examples of layer 12; CosineFalls, by the reckoner. CosineMid, by the reckoner. vec.Unit, draw.Draw, draw.Path of any words. draw.Draw, draw.Path of any words. burnishlow.Prog makes right programs. eval.Eval really; eval.At. layer 21: the chapter's examples; EvalCoat's run. layer 21: the chapter's examples. -/
import Derived.Test.YthclipfgcgoofaaGreatQ14
import Derived.Test.YthclipfgcgoofaaGreatQ12
import Derived.Test.YthclipfgcgoofaaGreatQ13
import Derived.Test.YthclipfgcgoofaaGreatQ11
import Derived.Test.YthclipfgcgoofaaGreatQ10
namespace Bu
set_option linter.all false
open Rx Go
end Bu
namespace Go.Proofs.YthclipfgcgoofaaGreat
set_option linter.all false
open Go.RowKit Bu Rx
def allE (N : Nde) (v u : V3) (cs : List SV) (k : Nat) : (Nat → Ch) → Nat → Ch × Int := fun l i => evN N v u k l (ndR cs (i * 19))
def evNB (N : Nde) (v u : V3) (l : Nat → Nat → Ch) (n : Nd) : Bool :=
  (bif decide (n.k = 5) then true
  else bif decide (n.k = 6) then (Bu.obsB (N.dO v.z ⟨n.f 14, n.f 14⟩) && decide ((N.D v.z ⟨n.f 14, n.f 14⟩).2 = 0)) && (Bu.obsB (N.dO u.z ⟨n.f 14, n.f 14⟩) && decide ((N.D u.z ⟨n.f 14, n.f 14⟩).2 = 0))
  else Bu.obsB (lfOb N v u n 0) && (Bu.obsB (lfOb N v u n 1) && Bu.obsB (lfOb N v u n 2))) &&
  (decide ((evN N v u 0 (l 0) n).2 = 0) && (decide ((evN N v u 1 (l 1) n).2 = 0) && decide ((evN N v u 2 (l 2) n).2 = 0)))
def evB (N : Nde) (v u : V3) (cs : List SV) (len : Nat) : Bool :=
  (List.range len).all fun i => evNB N v u (fun k j => (chL (allE N v u cs k) i).getD j Ch.zero) (ndR cs (i * 19))
theorem beq_t {a b : Int} (h : a = b) : (a == b) = true := by rw [h]; exact beq_self_eq_true b
theorem beq_f {a b : Int} (h : a ≠ b) : (a == b) = false := by simpa using h
section
variable {N : Nde} {o : List SV → Nat → Bool} (hO : OracleOk Tryz.prog (OE o N)) {e : TypeId} {cells cs : List SV} {v u : V3} {off len cap i : Nat} {x : Nat → SV} {B : Bs} (hB1 : B.M.length = 1) (K : OkPg cs len) (hca : CellsAt cells off cs) (hB : evNB N v u (fun k j => (chL (allE N v u cs k) i).getD j Ch.zero) (ndR cs (i * 19)) = true) (hi : i < len)
include hO hB1 K hca hB hi
end
end Go.Proofs.YthclipfgcgoofaaGreat
namespace Rx
set_option linter.all false
open Go Go.RowKit
theorem RunsB.scope {P : Program} {B : Bs} {c : Code} {s : St} {Φ : St → Prop} (h : RunsB P B c s .ret Φ) : RunsB P B (.scope c) s .ret Φ := by
  intro m a w Q hs hg hq
  refine wp_scope_straight (h m a w _ hs hg fun t m' a' w' h1 hst hg' => ?_)
  exact hq t m' a' w' h1 hst hg'
end Rx
namespace Bu
set_option linter.all false
open Rx Go
structure Pst where
  a : Nat
  s : I
  sure : Bool
  er : Int
def pathF (K : Kk) (D : I → I → I × Int) (c : I) (cs : List SV) : Nat → Pst → Pst × Bool
  | 0, p => (p, false)
  | n + 1, p =>
    bif decide (p.er = 0) then
      bif decide ((ndR cs (p.a * 19)).k = 5) then
        bif decide (p.s.hi.k < ((ndR cs (p.a * 19)).f 15).k) then pathF K D c cs n ⟨(ndR cs (p.a * 19)).b.toNat, (onB K p.er p.s (pt ((ndR cs (p.a * 19)).f 15))).1, p.sure, (onB K p.er p.s (pt ((ndR cs (p.a * 19)).f 15))).2⟩
        else bif decide (p.s.lo.k < ((ndR cs (p.a * 19)).f 15).k) then pathF K D c cs n ⟨(ndR cs (p.a * 19)).b.toNat, (onB K p.er p.s (pt ((ndR cs (p.a * 19)).f 15))).1, false, (onB K p.er p.s (pt ((ndR cs (p.a * 19)).f 15))).2⟩
        else pathF K D c cs n ⟨(ndR cs (p.a * 19)).a.toNat, (onN K p.er p.s (pt ((ndR cs (p.a * 19)).f 15))).1, p.sure, (onN K p.er p.s (pt ((ndR cs (p.a * 19)).f 15))).2⟩
      else bif decide ((ndR cs (p.a * 19)).k = 6) then
        bif decide (p.s.hi.k < (D c (pt ((ndR cs (p.a * 19)).f 14))).1.lo.k) then (p, true)
        else bif decide (p.s.lo.k < (D c (pt ((ndR cs (p.a * 19)).f 14))).1.hi.k) then (⟨p.a, p.s, false, p.er⟩, true)
        else pathF K D c cs n ⟨(ndR cs (p.a * 19)).a.toNat, (onN K p.er p.s (D c (pt ((ndR cs (p.a * 19)).f 14))).1).1, p.sure, (onN K p.er p.s (D c (pt ((ndR cs (p.a * 19)).f 14))).1).2⟩
      else (p, false)
    else (p, false)
end Bu
namespace Go.Proofs.YthclipfgcgoofaaGreat
set_option linter.all false
open Go.RowKit Bu Rx
def paB (D : I → I → I × Int) (dO : I → I → Obs) (c : I) (cs : List SV) (len : Nat) : Bool :=
  (List.range len).all fun i => bif decide ((ndR cs (i * 19)).k = 6) then Bu.obsB (dO c (pt ((ndR cs (i * 19)).f 14))) && decide ((D c (pt ((ndR cs (i * 19)).f 14))).2 = 0) else true
theorem paB_at {D : I → I → I × Int} {dO : I → I → Obs} {c : I} {cs : List SV} {len i : Nat} (h : paB D dO c cs len = true) (hi : i < len) (h6 : (ndR cs (i * 19)).k = 6) : ObsOk (dO c (pt ((ndR cs (i * 19)).f 14))) ∧ (D c (pt ((ndR cs (i * 19)).f 14))).2 = 0 := by
  have h1 := List.all_eq_true.1 h i (List.mem_range.2 hi)
  rw [decide_eq_true h6, cond_true, Bool.and_eq_true, decide_eq_true_eq] at h1
  exact ⟨Bu.obsB_ok h1.1, h1.2⟩
section
variable {W : Npa} (hO : OracleOk Tryz.prog (OPa W)) {e : TypeId} {cells cs : List SV} {c : I} {off len cap : Nat} {B : Bs} (hB1 : B.M.length = 1) (K : OkPg cs len) (hca : CellsAt cells off cs) (hB : paB W.D W.dO c cs len = true)
noncomputable abbrev paP (e : TypeId) (cells : List SV) (off len cap : Nat) (c : I) (p : Pst) (g : Bool) (x : Nat → SV) : St := paS e cells off len cap c (p.a : Int) p.er p.s p.sure (.b g) x none
include hO hB1
theorem pa_step {a er : Int} {s : I} {sure : Bool} {x : Nat → SV} {d : List Bool} {ex : Ex} {A E : Int} {s' : I} {u' g' : Bool} (hL : Lands Tryz.prog EG (OPa W) 60 paBd (paS e cells off len cap c a er s sure (.b false) x (some d)) ex) (ho : ObsOk (paR W e cells off len cap c a er s sure x d).ob)
    (hM : selM (paR W e cells off len cap c a er s sure x d).M [0, 1, 2, 3, 4] = some (paM e cells c A E s' u')) (hT : ∀ (v : Nat → Value) (M' : List Blk), ∃ y, ((paR W e cells off len cap c a er s sure x d).sel [0, 1, 2, 3, 4] M' v).T = paT off len cap (.b g') y) :
    RunsB Tryz.prog B paBd (paS e cells off len cap c a er s sure (.b false) x none) ex (fun t => ∃ y, t = paS e cells off len cap c A E s' u' (.b g') y none) := by
  have hk : ∀ n, n < B.M.length → ([0, 1, 2, 3, 4] : List Nat)[n]? = some n := fun n hn => by
    rw [hB1] at hn
    have : n = 0 := by omega
    subst this; rfl
  refine RunsB.re (d := some d) (o := []) (RunsB.sel (RunsP.bs (Lands.runs goodG hO hL ho)) rfl hM hk fun v => ?_)
  obtain ⟨y, hy⟩ := hT v (paM e cells c A E s' u')
  exact ⟨_, ⟨y, rfl⟩, same_eq hy.symm rfl⟩
include K hca hB
set_option maxRecDepth 20000 in
theorem pa_loop {R : Pst × Bool} (n : Nat) (p : Pst) (x : Nat → SV) (hn : p.a < n) (hl : p.a < len) (hR : pathF W.K W.D c cs n p = R) :
    RunsB Tryz.prog B (.block 1 (.loop paBd)) (paP e cells off len cap c p false x) .normal (fun t => R.1.a < len ∧ ∃ y, t = paP e cells off len cap c R.1 R.2 y) := by
  refine loop_outB (fun q : Nat × Pst × (Nat → SV) => paP e cells off len cap c q.2.1 false q.2.2) (fun q => q.1) (fun q => q.2.1.a < q.1 ∧ q.2.1.a < len ∧ pathF W.K W.D c cs q.1 q.2.1 = R) ?_ (n, p, x) ⟨hn, hl, hR⟩
  rintro ⟨n, p, x⟩ ⟨h1, h2, h3⟩
  simp only at h1 h2 h3
  obtain ⟨n, rfl⟩ : ∃ k, n = k + 1 := ⟨n - 1, by omega⟩
  obtain ⟨hck, hnr⟩ := K.at hca h2
  have hnd := K.nd p.a h2
  have hcb := fun h6 => paB_at hB h2 h6
  have hnd0 : nd0 cells off (p.a : Int) = ndR cs (p.a * 19) := by unfold nd0; rw [Int.toNat_natCast]; exact hnr
  have hH : ∀ {er : Int}, er = 0 → ObsOk (paHd cells off len (p.a : Int) er) := fun he => by
    unfold paHd
    rw [Int.toNat_natCast]
    exact ob_c hck (ob_c (ix_of (by omega) (by omega)) (ob_c (beq_t he) ob_n))
  unfold pathF at h3
  obtain ⟨a, s, sure, er⟩ := p
  simp only at h1 h2 h3 hck hnr hnd hcb hnd0 hH ⊢
  have fin : ∀ {A E : Int} {s' : I} {u' : Bool} (a' : Nat), (a' : Int) = A → a' < a → pathF W.K W.D c cs n ⟨a', s', u', E⟩ = R → ∀ t : St, (∃ y, t = paS e cells off len cap c A E s' u' (.b false) y none) → ∃ q : Nat × Pst × (Nat → SV), (q.2.1.a < q.1 ∧ q.2.1.a < len ∧ pathF W.K W.D c cs q.1 q.2.1 = R) ∧ q.1 < n + 1 ∧ t = paP e cells off len cap c q.2.1 false q.2.2 := by
    intro A E s' u' a' hA ha hp t ⟨y, hy⟩
    subst hA
    exact ⟨(n, ⟨a', s', u', E⟩, y), ⟨by show a' < n; omega, by show a' < len; omega, hp⟩, Nat.lt_succ_self n, hy⟩
  by_cases he : er = 0
  · rw [decide_eq_true he, cond_true] at h3
    generalize hgn : ndR cs (a * 19) = nd at h3 hnd hcb hnd0
    by_cases h5 : nd.k = 5
    · obtain ⟨⟨a0, a1⟩, b0, b1⟩ := okNd_mix hnd h5
      rw [decide_eq_true h5, cond_true] at h3
      refine .inr ?_
      by_cases g1 : s.hi.k < (nd.f 15).k
      · rw [decide_eq_true g1, cond_true] at h3
        refine (pa_step hO hB1 (paL_mb W e cells off len cap c a er s sure x) ?_ (paM_mb W e cells off len cap c a er s sure x) (paT_mb W e cells off len cap c a er s sure x)).mono (fin nd.b.toNat ?_ ?_ ?_)
        · rw [paO_mb]; simp only [pw, hnd0]
          exact ob_c (decide_eq_true g1) (ob_c (beq_t h5) (hH he))
        · rw [hnd0]; exact Int.toNat_of_nonneg b0
        · omega
        · simp only [pw, hnd0]; exact h3
      · rw [decide_eq_false g1, cond_false] at h3
        by_cases g2 : s.lo.k < (nd.f 15).k
        · rw [decide_eq_true g2, cond_true] at h3
          refine (pa_step hO hB1 (paL_mu W e cells off len cap c a er s sure x) ?_ (paM_mu W e cells off len cap c a er s sure x) (paT_mu W e cells off len cap c a er s sure x)).mono (fin nd.b.toNat ?_ ?_ ?_)
          · rw [paO_mu]; simp only [pw, hnd0]
            exact ob_c (decide_eq_true g2) (ob_c (decide_eq_false g1) (ob_c (beq_t h5) (hH he)))
          · rw [hnd0]; exact Int.toNat_of_nonneg b0
          · omega
          · simp only [pw, hnd0]; exact h3
        · rw [decide_eq_false g2, cond_false] at h3
          refine (pa_step hO hB1 (paL_mn W e cells off len cap c a er s sure x) ?_ (paM_mn W e cells off len cap c a er s sure x) (paT_mn W e cells off len cap c a er s sure x)).mono (fin nd.a.toNat ?_ ?_ ?_)
          · rw [paO_mn]; simp only [pw, hnd0]
            exact ob_c (decide_eq_false g2) (ob_c (decide_eq_false g1) (ob_c (beq_t h5) (hH he)))
          · rw [hnd0]; exact Int.toNat_of_nonneg a0
          · omega
          · simp only [pw, hnd0]; exact h3
    · rw [decide_eq_false h5, cond_false] at h3
      by_cases h6 : nd.k = 6
      · obtain ⟨a0, a1⟩ := okNd_coat hnd h6
        obtain ⟨k1, k2⟩ := hcb h6
        rw [decide_eq_true h6, cond_true] at h3
        have hC : ObsOk (((W.D c (pt (nd.f 14))).2 != 0, false) :: (W.dO c (pt (nd.f 14)) ++ ((nd.k == 6, true) :: (nd.k == 5, false) :: paHd cells off len a er))) := ob_c (ne_0 k2) (ob_a k1 (ob_c (beq_t h6) (ob_c (beq_f h5) (hH he))))
        by_cases g1 : s.hi.k < (W.D c (pt (nd.f 14))).1.lo.k
        · rw [decide_eq_true g1, cond_true] at h3
          refine .inl ((pa_step hO hB1 (paL_cb W e cells off len cap c a er s sure x) ?_ (paM_cb W e cells off len cap c a er s sure x) (paT_cb W e cells off len cap c a er s sure x)).mono fun t ⟨y, hy⟩ => ?_)
          · rw [paO_cb]; simp only [pO, pI, hnd0]
            exact ob_c (decide_eq_true g1) hC
          · subst h3; exact ⟨h2, y, hy⟩
        · rw [decide_eq_false g1, cond_false] at h3
          by_cases g2 : s.lo.k < (W.D c (pt (nd.f 14))).1.hi.k
          · rw [decide_eq_true g2, cond_true] at h3
            refine .inl ((pa_step hO hB1 (paL_cu W e cells off len cap c a er s sure x) ?_ (paM_cu W e cells off len cap c a er s sure x) (paT_cu W e cells off len cap c a er s sure x)).mono fun t ⟨y, hy⟩ => ?_)
            · rw [paO_cu]; simp only [pO, pI, hnd0]
              exact ob_c (decide_eq_true g2) (ob_c (decide_eq_false g1) hC)
            · subst h3; exact ⟨h2, y, hy⟩
          · rw [decide_eq_false g2, cond_false] at h3
            refine .inr ((pa_step hO hB1 (paL_cn W e cells off len cap c a er s sure x) ?_ (paM_cn W e cells off len cap c a er s sure x) (paT_cn W e cells off len cap c a er s sure x)).mono (fin nd.a.toNat ?_ ?_ ?_))
            · rw [paO_cn]; simp only [pO, pI, hnd0]
              exact ob_c (decide_eq_false g2) (ob_c (decide_eq_false g1) hC)
            · rw [hnd0]; exact Int.toNat_of_nonneg a0
            · omega
            · simp only [pO, pI, hnd0]; exact h3
      · rw [decide_eq_false h6, cond_false] at h3
        refine .inl ((pa_step hO hB1 (paL_lf W e cells off len cap c a er s sure x) ?_ (paM_lf W e cells off len cap c a er s sure x) (paT_lf W e cells off len cap c a er s sure x)).mono fun t ⟨y, hy⟩ => ?_)
        · rw [paO_lf]; simp only [hnd0]
          exact ob_c (beq_f h6) (ob_c (beq_f h5) (hH he))
        · subst h3; exact ⟨h2, y, hy⟩
  · rw [decide_eq_false he, cond_false] at h3
    refine .inl ((pa_step hO hB1 (paL_er W e cells off len cap c a er s sure x) ?_ (paM_er W e cells off len cap c a er s sure x) (paT_er W e cells off len cap c a er s sure x)).mono fun t ⟨y, hy⟩ => ?_)
    · rw [paO_er]
      exact ob_c (beq_f he) ob_n
    · subst h3; exact ⟨h2, y, hy⟩
end
end Go.Proofs.YthclipfgcgoofaaGreat
namespace Rx
set_option linter.all false
open Go Go.RowKit
theorem RunsB.keep {P : Program} {B : Bs} {d : Code} {t : St} {ex : Ex} {Φ : St → Prop} {ids : List Nat} {M' : List Blk} (hn : nodupB ids = true) (hM : selM t.M ids = some M') (hk : ∀ (n : Nat), n < B.M.length → ids[n]? = some n) (h : ∀ v, RunsB P B d (t.sel ids M' v) ex Φ) : RunsB P B d t ex Φ :=
  fun m _ w Q hs hg hq => h _ (m.sel ids) _ w Q (hs.sel hn hM) (hg.sel hn hM hk) hq
theorem rd_of_runsB {P : Program} {g : FuncId} {fn : Func} {c : Code} (hg : P.funcs[g]? = some fn) (hb : fn.body = some c) {cs l : List SV} {len : Nat} {vc vs : List Value} {x : SV} {v : Value} (hc : plains cs = some vc) (hl : plains l = some vs) (hx : plain x = some v) {d : Dec}
    (h : ∀ (e : TypeId) (cells : List SV) (off cap : Nat), CellsAt cells off cs → idsLts 0 cells = true → ∀ B : Bs, B.M = [⟨e, cells, .num⟩] →
      RunsB P B c ⟨(.ssl 0 off len cap :: l) ++ List.replicate (fn.ntmps - (l.length + 1)) (.tup []), [⟨e, cells, .num⟩], d, []⟩ .ret (fun t => resultS P fn t = some x ∧ ∃ rest, t.M = ⟨e, cells, .num⟩ :: rest))
    (w : World) (r off cap : Nat) (hw : RowAt w r off vc) : Calls P g (Value.slice (some ⟨r, off, none⟩) len cap :: vs).toArray w fun e w' => e = .returned v ∧ Below w.heap.size w w' := by
  obtain ⟨m, e, cells, hM, h0, hca, hid⟩ := rd_cells hc hw
  have hd : dens m (.ssl 0 off len cap :: l) = some (Value.slice (some ⟨r, off, none⟩) len cap :: vs) := dens_cons (by simp only [den, h0, Option.map_some]) (dens_plains hl)
  refine Calls.mono (RunsB.call hg hb (args := .ssl 0 off len cap :: l) (x := fun _ => x) hd hM (h e cells off cap hca hid ⟨m, [⟨e, cells, .num⟩], w, hM⟩ rfl) (fun t ht => ht.1)) fun ex w' ⟨t, m', u, ⟨_, rest, hr⟩, he, hv, hM', hgo⟩ => ?_
  rw [den_plain hx] at hv
  have := Option.some.inj hv
  subst this
  rw [hr] at hM' hgo
  exact ⟨he, Goes.read hM hgo hM'⟩
end Rx
namespace Bu
set_option linter.all false
open Rx Go
end Bu
namespace Go.Proofs.YthclipfgcgoofaaGreat
set_option linter.all false
open Go.RowKit Bu Rx
section
variable {N : Nde} {o : List SV → Nat → Bool} (hO : OracleOk Tryz.prog (OE o N)) {e : TypeId} {cells cs : List SV} {v u : V3} {off len cap : Nat} {B : Bs} (hB1 : B.M.length = 1) (K : OkPg cs len) (hca : CellsAt cells off cs)
include hO hB1 K hca
variable (hB : evB N v u cs len = true)
include hB
end
section
variable (W : Npa) (e : TypeId) (cells : List SV) (off len cap : Nat) (c : I) (u : Int) (a er : Int) (s : I) (sure gl : Bool) (x : Nat → SV)
noncomputable abbrev pa0 : St := aft Tryz.prog EG (OPa W) 60 (seqL paC) (paE e cells off len cap c u (some [true, false, false]))
noncomputable abbrev pa4 : St := aftN Tryz.prog EG (OPa W) 60 4 paIn (pa0 W e cells off len cap c u)
theorem paL0 : Lands Tryz.prog EG (OPa W) 60 (seqL paC) (paE e cells off len cap c u (some [true, false, false])) .normal := by unfold Lands; kernel_rfl
theorem paOb0 : (pa0 W e cells off len cap c u).ob = [] := by kernel_rfl
theorem paL4 : LandsN Tryz.prog EG (OPa W) 60 4 paIn (pa0 W e cells off len cap c u) := by unfold LandsN; kernel_rfl
def paEO (W : Npa) (cells : List SV) (off len : Nat) (c : I) (u : Int) : Obs := [(W.u u, true), (decide (one64.k < c.hi.k), false), (decide (c.lo.k < z64.k), false), (rt c, true), (W.o ((cells.drop off).take (len * 19)) len, true)]
theorem paO4 : (pa4 W e cells off len cap c u).ob = paEO W cells off len c u := by kernel_rfl
def paM0 (e : TypeId) (cells : List SV) (c : I) (a : Int) (s : I) (q : I × Int) : List Blk := [⟨e, cells, .num⟩, ⟨27, [.fl c.lo, .fl c.hi], .ex⟩, ⟨76, [.si .i64 q.2], .ex⟩, ⟨123, [.p 2 0, .si .i64 a, .fl s.lo, .fl s.hi, .b true], .ex⟩, ⟨27, [.fl q.1.lo, .fl q.1.hi], .ex⟩]
theorem paM4 : selM (pa4 W e cells off len cap c u).M [0, 1, 2, 3, 4] = some (paM0 e cells c (IntKind.i64.wrap ((len : Int) - 1)) (W.uo u) (W.K.num 0 one64)) := by kernel_rfl
noncomputable def pa4X (v : Nat → Value) : Nat → SV := fun j => ((pa4 W e cells off len cap c u).sel [0, 1, 2, 3, 4] [] v).T.getD j .np
theorem paT4 (v : Nat → Value) (M' : List Blk) : ((pa4 W e cells off len cap c u).sel [0, 1, 2, 3, 4] M' v).T = paT off len cap (.b false) (pa4X W e cells off len cap c u v) := by kernel_rfl
theorem paLz : Lands Tryz.prog EG (OPa W) 60 paTl (paS e cells off len cap c a er s sure (.b gl) x (some [true])) .ret := by unfold Lands; kernel_rfl
theorem paOz : (aft Tryz.prog EG (OPa W) 60 paTl (paS e cells off len cap c a er s sure (.b gl) x (some [true]))).ob = [(er != 0, true)] := by kernel_rfl
theorem paRz : resultS Tryz.prog Tryz.f18 (aft Tryz.prog EG (OPa W) 60 paTl (paS e cells off len cap c a er s sure (.b gl) x (some [true]))) = some (.tup [.i .i64 0, .b false, .b false, .si .i64 er]) := by kernel_rfl
theorem paMz : (aft Tryz.prog EG (OPa W) 60 paTl (paS e cells off len cap c a er s sure (.b gl) x (some [true]))).M = paM e cells c a er s sure := by kernel_rfl
theorem paLy : Lands Tryz.prog EG (OPa W) 60 paTl (paS e cells off len cap c a er s sure (.b gl) x (some [false])) .ret := by unfold Lands; kernel_rfl
theorem paOy : (aft Tryz.prog EG (OPa W) 60 paTl (paS e cells off len cap c a er s sure (.b gl) x (some [false]))).ob = [(er != 0, false)] := by kernel_rfl
theorem paRy : resultS Tryz.prog Tryz.f18 (aft Tryz.prog EG (OPa W) 60 paTl (paS e cells off len cap c a er s sure (.b gl) x (some [false]))) = some (.tup [.si .i64 a, .b gl, .b sure, .i .i64 0]) := by kernel_rfl
theorem paMy : (aft Tryz.prog EG (OPa W) 60 paTl (paS e cells off len cap c a er s sure (.b gl) x (some [false]))).M = paM e cells c a er s sure := by kernel_rfl
end
structure PaR where
  a : Int
  g : Bool
  s : Bool
  e : Int
def paRes (r : Pst × Bool) : PaR := bif decide (r.1.er = 0) then ⟨r.1.a, r.2, r.1.sure, 0⟩ else ⟨0, false, false, r.1.er⟩
def paW (W : Npa) (c : I) (u : Int) (cs : List SV) (len : Nat) : Pst × Bool := pathF W.K W.D c cs len ⟨len - 1, W.uo u, true, 0⟩
def paSv (r : Pst × Bool) : SV := bif decide (r.1.er = 0) then .tup [.si .i64 r.1.a, .b r.2, .b r.1.sure, .i .i64 0] else .tup [.i .i64 0, .b false, .b false, .si .i64 r.1.er]
def paV (r : PaR) : Value := .tuple #[.int .i64 r.a, .bool r.g, .bool r.s, .int .i64 r.e]
theorem paSv_plain (r : Pst × Bool) : plain (paSv r) = some (paV (paRes r)) := by
  unfold paSv paRes
  cases decide (r.1.er = 0) <;> rfl
section
variable {W : Npa} (hO : OracleOk Tryz.prog (OPa W)) (hnum : W.K.num 0 one64 = (pt one64, 0)) {e : TypeId} {cells cs : List SV} {c : I} {u : Int} {off len cap : Nat} {B : Bs} (hB1 : B.M.length = 1) (K : OkPg cs len) (hca : CellsAt cells off cs) (hB : paB W.D W.dO c cs len = true)
include hO hB1 K hca hB hnum
set_option maxRecDepth 20000 in
theorem pa_all (ho : ObsOk (paEO W cells off len c u)) : RunsB Tryz.prog B paC (paE e cells off len cap c u none) .ret
    (fun t => resultS Tryz.prog Tryz.f18 t = some (paSv (paW W c u cs len)) ∧ ∃ rest, t.M = ⟨e, cells, .num⟩ :: rest) := by
  have hlo := K.lo
  have hhi := K.hi
  have hw : IntKind.i64.wrap ((len : Int) - 1) = ((len - 1 : Nat) : Int) := by rw [IntKind.wrap_i64]; omega
  refine RunsB.re (d := some [true, false, false]) (o := []) ?_
  rw [paC_cut]
  refine LandsB.seq goodG hO (paL0 W e cells off len cap c u) (by have h0 := paOb0 W e cells off len cap c u; have K0 : ObsOk [] := ob_n; exact h0 ▸ K0) ?_
  refine RunsB.scope ?_
  refine (paL4 W e cells off len cap c u).ok goodG hO (by rw [paO4]; exact ho) ?_
  have hM := paM4 W e cells off len cap c u
  rw [hnum, hw] at hM
  refine RunsB.keep (ids := [0, 1, 2, 3, 4]) rfl hM (fun n hn => by
    rw [hB1] at hn
    have : n = 0 := by omega
    subst this; rfl) fun v => ?_
  have hs : SameSt (paP e cells off len cap c ⟨len - 1, W.uo u, true, 0⟩ false (pa4X W e cells off len cap c u v)) ((pa4 W e cells off len cap c u).sel [0, 1, 2, 3, 4] (paM0 e cells c ((len - 1 : Nat) : Int) (W.uo u) (pt one64, 0)) v) := same_eq (paT4 W e cells off len cap c u v _).symm rfl
  refine RunsB.retell hs ?_
  rw [paIn_cut]
  refine RunsB.seq (pa_loop hO hB1 K hca hB len ⟨len - 1, W.uo u, true, 0⟩ (pa4X W e cells off len cap c u v) (by show len - 1 < len; omega) (by show len - 1 < len; omega) rfl) fun t ⟨_, y, ht⟩ => ?_
  subst ht
  show RunsB Tryz.prog B paTl (paP e cells off len cap c (paW W c u cs len).1 (paW W c u cs len).2 y) .ret _
  generalize paW W c u cs len = r
  unfold paSv
  by_cases he : r.1.er = 0
  · rw [decide_eq_true he, cond_true]
    refine RunsB.re (d := some [false]) (o := []) (RunsP.bs (Lands.all goodG hO (paLy W e cells off len cap c r.1.a r.1.er r.1.s r.1.sure r.2 y) ?_ ⟨paRy W e cells off len cap c r.1.a r.1.er r.1.s r.1.sure r.2 y, ?_⟩))
    · have h0 := paOy W e cells off len cap c r.1.a r.1.er r.1.s r.1.sure r.2 y
      have K0 : ObsOk [(r.1.er != 0, false)] := ob_c (ne_0 he) ob_n
      exact h0 ▸ K0
    · exact ⟨_, paMy W e cells off len cap c r.1.a r.1.er r.1.s r.1.sure r.2 y⟩
  · rw [decide_eq_false he, cond_false]
    refine RunsB.re (d := some [true]) (o := []) (RunsP.bs (Lands.all goodG hO (paLz W e cells off len cap c r.1.a r.1.er r.1.s r.1.sure r.2 y) ?_ ⟨paRz W e cells off len cap c r.1.a r.1.er r.1.s r.1.sure r.2 y, ?_⟩))
    · have h0 := paOz W e cells off len cap c r.1.a r.1.er r.1.s r.1.sure r.2 y
      have K0 : ObsOk [(r.1.er != 0, true)] := ob_c (by simpa using he) ob_n
      exact h0 ▸ K0
    · exact ⟨_, paMz W e cells off len cap c r.1.a r.1.er r.1.s r.1.sure r.2 y⟩
end
structure Npt where
  o : List SV → Nat → Bool
  b : I → List SV → Nat → Bool
  u : Int → Bool
  g : I → Int → List SV → Nat → PaR
def cosO (c : I) : Obs := [(decide (one64.k < c.hi.k), false), (decide (c.lo.k < z64.k), false), (rt c, true)]
def kPt_ (T : Npt) : RdF := fun cs len l ds => match l with
  | [.agg [.fl lo, .fl hi], y] => match intS y with
    | some (.u64, u) => (takeB ds (T.g ⟨lo, hi⟩ u cs len).g).map fun r => (.tup [.si .i64 (T.g ⟨lo, hi⟩ u cs len).a, .b r.1, .b (T.g ⟨lo, hi⟩ u cs len).s, .si .i64 (T.g ⟨lo, hi⟩ u cs len).e], r.2.1, ((decide (cs.length = len * 19), true) :: (T.o cs len, true) :: (T.b ⟨lo, hi⟩ cs len, true) :: (T.u u, true) :: cosO ⟨lo, hi⟩) ++ r.2.2)
    | _ => none
  | _ => none
def nPt (W : Npa) : Npt := ⟨okPg, paB W.D W.dO, W.u, fun c u cs len => paRes (paW W c u cs len)⟩
theorem ptRd {W : Npa} (hO : OracleOk Tryz.prog (OPa W)) (hnum : W.K.num 0 one64 = (pt one64, 0)) (hW : W.o = okPg) : RdOk Tryz.prog 18 (kPt_ (nPt W)) := by
  intro cs len l ds x ds' ob h ho
  unfold kPt_ at h
  split at h
  · rename_i lo hi y
    split at h
    · rename_i u hu
      simp only [Option.map_eq_some_iff, Prod.mk.injEq] at h
      obtain ⟨⟨r, dd, oo⟩, h1, rfl, rfl, rfl⟩ := h
      have hd := takeB_ok h1 ho.right
      subst hd
      have h2 := ho.left
      have hl : cs.length = len * 19 := of_decide_eq_true (h2 _ (List.mem_cons_self ..))
      have hok : okPg cs len = true := h2 _ (List.mem_cons_of_mem _ (List.mem_cons_self ..))
      have K := okPg_ok hok
      have hB : paB W.D W.dO ⟨lo, hi⟩ cs len = true := h2 _ (List.mem_cons_of_mem _ (List.mem_cons_of_mem _ (List.mem_cons_self ..)))
      have hU : W.u u = true := h2 _ (List.mem_cons_of_mem _ (List.mem_cons_of_mem _ (List.mem_cons_of_mem _ (List.mem_cons_self ..))))
      have hC : ObsOk (cosO ⟨lo, hi⟩) := fun p hp => h2 p (List.mem_cons_of_mem _ (List.mem_cons_of_mem _ (List.mem_cons_of_mem _ (List.mem_cons_of_mem _ hp))))
      obtain ⟨vc, hc⟩ := K.pl
      have hy := intS_plain hu
      refine ⟨vc, [.agg #[.float .f64 lo.b, .float .f64 hi.b], .int .u64 u], paV (paRes (paW W ⟨lo, hi⟩ u cs len)), hc, ?_, rfl, fun w q off cap hw => ?_⟩
      · show plains [.agg [.fl lo, .fl hi], y] = _
        unfold plains plains
        rw [hy]; rfl
      · refine rd_of_runsB (d := none) Tryz.func18 paBody hc (l := [.agg [.fl lo, .fl hi], .si .u64 u]) rfl (paSv_plain (paW W ⟨lo, hi⟩ u cs len)) (fun e cells off cap hca hid B hBM => ?_) w q off cap hw
        exact pa_all (c := ⟨lo, hi⟩) hO hnum (by rw [hBM]; rfl) K hca hB (ob_c hU (by
          have h3 : W.o ((cells.drop off).take (len * 19)) len = true := by rw [hW, ← hl, at_take hca]; exact hok
          intro p hp
          simp only [List.mem_cons, List.not_mem_nil, or_false] at hp
          rcases hp with rfl | rfl | rfl | rfl
          · exact hC _ (List.mem_cons_self ..)
          · exact hC _ (List.mem_cons_of_mem _ (List.mem_cons_self ..))
          · exact hC _ (List.mem_cons_of_mem _ (List.mem_cons_of_mem _ (List.mem_cons_self ..)))
          · exact h3))
    · cases h
  · cases h
structure Ndr where
  K : Kk
  T : Npt
  un : F → F → F → V3
  ub : F → F → F → Bool
  cd : Int → Int → I × I × I
  vd : V3 → I → Int → Int → V3 × Int
  vo : V3 → I → Int → Int → Obs
  re : V3 → V3 → V3 × Int
  mp : F → F → F → F → F → F → Bool
  md : F → F → F → F → F → F → F × F × F
def ODw (N : Ndr) : OracleF := lookO (OCL N.K ++ [(39, kRd 19 (kRgt N.T.o)), (16, plainO (kUn N.un N.ub)), (18, kRd 19 (kPt_ N.T)), (120, plainO (kDraw N.cd N.T.u)), (121, plainO (kVd N.vd N.vo)), (122, plainO (kRe N.re)), (59, plainO (kSt N.ub)), (61, plainO (kMid N.mp N.md))])
section
variable (N : Ndr) (e : TypeId) (cells : List SV) (off len cap : Nat) (x y z : F) (u0 u1 u2 : Int)
def dwArgs (off len cap : Nat) (x y z : F) (u0 u1 u2 : Int) : List SV := [.ssl 0 off len cap, .agg [.fl x, .fl y, .fl z], .agg [.si .u64 u0, .si .u64 u1, .si .u64 u2]]
noncomputable abbrev dwRun (N : Ndr) (e : TypeId) (cells : List SV) (off len cap : Nat) (x y z : F) (u0 u1 u2 : Int) (d : List Bool) : Option (SV × List Blk × Dec × Obs) := ((run Tryz.prog EG (ODw N) 80).1 17 (dwArgs off len cap x y z u0 u1 u2) [⟨e, cells, .num⟩] (some d)).map (fun q => (q.1, q.2.1.take 1, q.2.2))
def dwS (k : Int) (p : F × F × F) (b : V3) (a : SV) (s : Bool) (e : SV) : SV := .tup [.agg [.i .u8 k, .fl p.1, .fl p.2.1, .fl p.2.2, .fl b.x.lo, .fl b.x.hi, .fl b.y.lo, .fl b.y.hi, .fl b.z.lo, .fl b.z.hi, a, .b s], e]
def z3 : F × F × F := (toF 0, toF 0, toF 0)
def zV : V3 := ⟨⟨toF 0, toF 0⟩, ⟨toF 0, toF 0⟩, ⟨toF 0, toF 0⟩⟩
def dwP (N : Ndr) (cs : List SV) (len : Nat) (x y z : F) (u0 : Int) : PaR := N.T.g (N.un x y z).z u0 cs len
def dwNd (N : Ndr) (cells : List SV) (off len : Nat) (x y z : F) (u0 : Int) : Nd := ndR cells (off + (dwP N (cutC cells off len) len x y z u0).a.toNat * 19)
def dwMir (N : Ndr) (x y z : F) : V3 := ⟨(N.K.neg 0 (N.un x y z).x).1, (N.K.neg (N.K.neg 0 (N.un x y z).x).2 (N.un x y z).y).1, (N.un x y z).z⟩
def dwMid (N : Ndr) (b : V3) : F × F × F := N.md b.x.lo b.x.hi b.y.lo b.y.hi b.z.lo b.z.hi
def dwMp (N : Ndr) (b : V3) : Bool := N.mp b.x.lo b.x.hi b.y.lo b.y.hi b.z.lo b.z.hi
def dwCos (N : Ndr) (u1 u2 : Int) : V3 := ⟨(N.cd u1 u2).1, (N.cd u1 u2).2.1, (N.cd u1 u2).2.2⟩
def dwN (N : Ndr) (v : V3) (al : F) (u1 u2 : Int) : V3 × Int := N.vd v (pt al) u1 u2
def dwO0 (N : Ndr) (cs : List SV) (len : Nat) (x y z : F) (b : Bool) : Obs := [(N.ub x y z, b), (N.T.o cs len, true)]
def dwO1 (N : Ndr) (cs : List SV) (len : Nat) (x y z : F) : Obs := (decide (z.k ≤ z64.k), false) :: dwO0 N cs len x y z true
def dwPO (N : Ndr) (cs : List SV) (len : Nat) (x y z : F) (u0 : Int) (g : Bool) : Obs := ((decide (cs.length = len * 19), true) :: (N.T.o cs len, true) :: (N.T.b (N.un x y z).z cs len, true) :: (N.T.u u0, true) :: cosO (N.un x y z).z) ++ [((dwP N cs len x y z u0).g, g)]
def dwO2 (N : Ndr) (cs : List SV) (len : Nat) (x y z : F) (u0 : Int) (g b : Bool) : Obs := ((dwP N cs len x y z u0).e != 0, b) :: (dwPO N cs len x y z u0 g ++ dwO1 N cs len x y z)
def dwO3 (N : Ndr) (cells : List SV) (off len : Nat) (x y z : F) (u0 : Int) : Obs := (ckAll cells (off + (dwP N (cutC cells off len) len x y z u0).a.toNat * 19) ndCK, true) :: (ixB (dwP N (cutC cells off len) len x y z u0).a len, true) :: dwO2 N (cutC cells off len) len x y z u0 false false
def dwEnd (N : Ndr) (b : V3) (c d : Bool) (t : Obs) : Obs := (decide ((dwMid N b).2.2.k ≤ z64.k), d) :: (N.ub (dwMid N b).1 (dwMid N b).2.1 (dwMid N b).2.2, c) :: (dwMp N b, true) :: t
theorem dwR_a : dwRun N e cells off len cap x y z u0 u1 u2 [false] = some (dwS 0 z3 zV (.i .i64 0) false (.i .i64 50), [⟨e, cells, .num⟩], some [], dwO0 N (cutC cells off len) len x y z false) := by kernel_rfl
theorem dwR_b : dwRun N e cells off len cap x y z u0 u1 u2 [true, true] = some (dwS 0 z3 zV (.i .i64 0) false (.i .i64 0), [⟨e, cells, .num⟩], some [], (decide (z.k ≤ z64.k), true) :: dwO0 N (cutC cells off len) len x y z true) := by kernel_rfl
theorem dwR_c : dwRun N e cells off len cap x y z u0 u1 u2 [true, false, false, true] = some (dwS 0 z3 zV (.i .i64 0) false (.si .i64 (dwP N (cutC cells off len) len x y z u0).e), [⟨e, cells, .num⟩], some [], dwO2 N (cutC cells off len) len x y z u0 false true) := by kernel_rfl
theorem dwR_d : dwRun N e cells off len cap x y z u0 u1 u2 [true, false, true, false] = some (dwS 1 (x.neg, y.neg, z) (dwMir N x y z) (.si .i64 (dwP N (cutC cells off len) len x y z u0).a) (dwP N (cutC cells off len) len x y z u0).s (.i .i64 0), [⟨e, cells, .num⟩], some [], (N.ub x y z, true) :: dwO2 N (cutC cells off len) len x y z u0 true false) := by kernel_rfl
theorem dwR_v : dwRun N e cells off len cap x y z u0 u1 u2 [true, false, false, false, false, false, true, true, true] = some (dwS 0 z3 zV (.i .i64 0) false (.si .i64 (dwN N (N.un x y z) ((dwNd N cells off len x y z u0).f 13) u1 u2).2), [⟨e, cells, .num⟩], some [], ((dwN N (N.un x y z) ((dwNd N cells off len x y z u0).f 13) u1 u2).2 != 0, true) :: ((dwN N (N.un x y z) ((dwNd N cells off len x y z u0).f 13) u1 u2).2 != 0, true) :: (((N.vo (N.un x y z) (pt ((dwNd N cells off len x y z u0).f 13)) u1 u2 ++ [(decide (((dwNd N cells off len x y z u0).f 13).k ≤ one64.k), true)]) ++ [((dwNd N cells off len x y z u0).k == 2, false), ((dwNd N cells off len x y z u0).k == 1, false)]) ++ dwO3 N cells off len x y z u0)) := by kernel_rfl
theorem dwR_r : dwRun N e cells off len cap x y z u0 u1 u2 [true, false, false, false, false, false, true, false, true] = some (dwS 0 z3 zV (.i .i64 0) false (.si .i64 (N.re (N.un x y z) (dwN N (N.un x y z) ((dwNd N cells off len x y z u0).f 13) u1 u2).1).2), [⟨e, cells, .num⟩], some [], ((N.re (N.un x y z) (dwN N (N.un x y z) ((dwNd N cells off len x y z u0).f 13) u1 u2).1).2 != 0, true) :: (reO (N.un x y z) (dwN N (N.un x y z) ((dwNd N cells off len x y z u0).f 13) u1 u2).1 ++ (((dwN N (N.un x y z) ((dwNd N cells off len x y z u0).f 13) u1 u2).2 != 0, false) :: (((N.vo (N.un x y z) (pt ((dwNd N cells off len x y z u0).f 13)) u1 u2 ++ [(decide (((dwNd N cells off len x y z u0).f 13).k ≤ one64.k), true)]) ++ [((dwNd N cells off len x y z u0).k == 2, false), ((dwNd N cells off len x y z u0).k == 1, false)]) ++ dwO3 N cells off len x y z u0)))) := by kernel_rfl
theorem dwR_ett : dwRun N e cells off len cap x y z u0 u1 u2 [true, false, false, false, true, true, true, true] = some (dwS 0 z3 zV (.si .i64 (dwP N (cutC cells off len) len x y z u0).a) (dwP N (cutC cells off len) len x y z u0).s (.i .i64 0), [⟨e, cells, .num⟩], some [], dwEnd N (dwCos N u1 u2) true true ((N.T.u u1, true) :: (N.T.u u2, true) :: ((dwNd N cells off len x y z u0).k == 1, true) :: dwO3 N cells off len x y z u0)) := by kernel_rfl
theorem dwR_etf : dwRun N e cells off len cap x y z u0 u1 u2 [true, false, false, false, true, true, true, false] = some (dwS 2 (dwMid N (dwCos N u1 u2)) (dwCos N u1 u2) (.si .i64 (dwP N (cutC cells off len) len x y z u0).a) (dwP N (cutC cells off len) len x y z u0).s (.i .i64 0), [⟨e, cells, .num⟩], some [], dwEnd N (dwCos N u1 u2) true false ((N.T.u u1, true) :: (N.T.u u2, true) :: ((dwNd N cells off len x y z u0).k == 1, true) :: dwO3 N cells off len x y z u0)) := by kernel_rfl
theorem dwR_eft : dwRun N e cells off len cap x y z u0 u1 u2 [true, false, false, false, true, true, false, true] = some (dwS 0 z3 zV (.si .i64 (dwP N (cutC cells off len) len x y z u0).a) (dwP N (cutC cells off len) len x y z u0).s (.i .i64 0), [⟨e, cells, .num⟩], some [], dwEnd N (dwCos N u1 u2) false true ((N.T.u u1, true) :: (N.T.u u2, true) :: ((dwNd N cells off len x y z u0).k == 1, true) :: dwO3 N cells off len x y z u0)) := by kernel_rfl
theorem dwR_eff : dwRun N e cells off len cap x y z u0 u1 u2 [true, false, false, false, true, true, false, false] = some (dwS 0 z3 zV (.si .i64 (dwP N (cutC cells off len) len x y z u0).a) (dwP N (cutC cells off len) len x y z u0).s (.i .i64 0), [⟨e, cells, .num⟩], some [], dwEnd N (dwCos N u1 u2) false false ((N.T.u u1, true) :: (N.T.u u2, true) :: ((dwNd N cells off len x y z u0).k == 1, true) :: dwO3 N cells off len x y z u0)) := by kernel_rfl
theorem dwR_ftt : dwRun N e cells off len cap x y z u0 u1 u2 [true, false, false, false, false, true, true, true, true] = some (dwS 0 z3 zV (.si .i64 (dwP N (cutC cells off len) len x y z u0).a) (dwP N (cutC cells off len) len x y z u0).s (.i .i64 0), [⟨e, cells, .num⟩], some [], dwEnd N (dwCos N u1 u2) true true ((N.T.u u1, true) :: (N.T.u u2, true) :: ((dwNd N cells off len x y z u0).k == 2, true) :: ((dwNd N cells off len x y z u0).k == 1, false) :: dwO3 N cells off len x y z u0)) := by kernel_rfl
theorem dwR_ftf : dwRun N e cells off len cap x y z u0 u1 u2 [true, false, false, false, false, true, true, true, false] = some (dwS 2 (dwMid N (dwCos N u1 u2)) (dwCos N u1 u2) (.si .i64 (dwP N (cutC cells off len) len x y z u0).a) (dwP N (cutC cells off len) len x y z u0).s (.i .i64 0), [⟨e, cells, .num⟩], some [], dwEnd N (dwCos N u1 u2) true false ((N.T.u u1, true) :: (N.T.u u2, true) :: ((dwNd N cells off len x y z u0).k == 2, true) :: ((dwNd N cells off len x y z u0).k == 1, false) :: dwO3 N cells off len x y z u0)) := by kernel_rfl
theorem dwR_fft : dwRun N e cells off len cap x y z u0 u1 u2 [true, false, false, false, false, true, true, false, true] = some (dwS 0 z3 zV (.si .i64 (dwP N (cutC cells off len) len x y z u0).a) (dwP N (cutC cells off len) len x y z u0).s (.i .i64 0), [⟨e, cells, .num⟩], some [], dwEnd N (dwCos N u1 u2) false true ((N.T.u u1, true) :: (N.T.u u2, true) :: ((dwNd N cells off len x y z u0).k == 2, true) :: ((dwNd N cells off len x y z u0).k == 1, false) :: dwO3 N cells off len x y z u0)) := by kernel_rfl
theorem dwR_fff : dwRun N e cells off len cap x y z u0 u1 u2 [true, false, false, false, false, true, true, false, false] = some (dwS 0 z3 zV (.si .i64 (dwP N (cutC cells off len) len x y z u0).a) (dwP N (cutC cells off len) len x y z u0).s (.i .i64 0), [⟨e, cells, .num⟩], some [], dwEnd N (dwCos N u1 u2) false false ((N.T.u u1, true) :: (N.T.u u2, true) :: ((dwNd N cells off len x y z u0).k == 2, true) :: ((dwNd N cells off len x y z u0).k == 1, false) :: dwO3 N cells off len x y z u0)) := by kernel_rfl
theorem dwR_gtt : dwRun N e cells off len cap x y z u0 u1 u2 [true, false, false, false, false, false, true, false, false, true, true, true] = some (dwS 0 z3 zV (.si .i64 (dwP N (cutC cells off len) len x y z u0).a) (dwP N (cutC cells off len) len x y z u0).s (.i .i64 0), [⟨e, cells, .num⟩], some [], dwEnd N (N.re (N.un x y z) (dwN N (N.un x y z) ((dwNd N cells off len x y z u0).f 13) u1 u2).1).1 true true (((N.re (N.un x y z) (dwN N (N.un x y z) ((dwNd N cells off len x y z u0).f 13) u1 u2).1).2 != 0, false) :: (reO (N.un x y z) (dwN N (N.un x y z) ((dwNd N cells off len x y z u0).f 13) u1 u2).1 ++ (((dwN N (N.un x y z) ((dwNd N cells off len x y z u0).f 13) u1 u2).2 != 0, false) :: (((N.vo (N.un x y z) (pt ((dwNd N cells off len x y z u0).f 13)) u1 u2 ++ [(decide (((dwNd N cells off len x y z u0).f 13).k ≤ one64.k), true)]) ++ [((dwNd N cells off len x y z u0).k == 2, false), ((dwNd N cells off len x y z u0).k == 1, false)]) ++ dwO3 N cells off len x y z u0))))) := by kernel_rfl
theorem dwR_gtf : dwRun N e cells off len cap x y z u0 u1 u2 [true, false, false, false, false, false, true, false, false, true, true, false] = some (dwS 2 (dwMid N (N.re (N.un x y z) (dwN N (N.un x y z) ((dwNd N cells off len x y z u0).f 13) u1 u2).1).1) (N.re (N.un x y z) (dwN N (N.un x y z) ((dwNd N cells off len x y z u0).f 13) u1 u2).1).1 (.si .i64 (dwP N (cutC cells off len) len x y z u0).a) (dwP N (cutC cells off len) len x y z u0).s (.i .i64 0), [⟨e, cells, .num⟩], some [], dwEnd N (N.re (N.un x y z) (dwN N (N.un x y z) ((dwNd N cells off len x y z u0).f 13) u1 u2).1).1 true false (((N.re (N.un x y z) (dwN N (N.un x y z) ((dwNd N cells off len x y z u0).f 13) u1 u2).1).2 != 0, false) :: (reO (N.un x y z) (dwN N (N.un x y z) ((dwNd N cells off len x y z u0).f 13) u1 u2).1 ++ (((dwN N (N.un x y z) ((dwNd N cells off len x y z u0).f 13) u1 u2).2 != 0, false) :: (((N.vo (N.un x y z) (pt ((dwNd N cells off len x y z u0).f 13)) u1 u2 ++ [(decide (((dwNd N cells off len x y z u0).f 13).k ≤ one64.k), true)]) ++ [((dwNd N cells off len x y z u0).k == 2, false), ((dwNd N cells off len x y z u0).k == 1, false)]) ++ dwO3 N cells off len x y z u0))))) := by kernel_rfl
theorem dwR_gft : dwRun N e cells off len cap x y z u0 u1 u2 [true, false, false, false, false, false, true, false, false, true, false, true] = some (dwS 0 z3 zV (.si .i64 (dwP N (cutC cells off len) len x y z u0).a) (dwP N (cutC cells off len) len x y z u0).s (.i .i64 0), [⟨e, cells, .num⟩], some [], dwEnd N (N.re (N.un x y z) (dwN N (N.un x y z) ((dwNd N cells off len x y z u0).f 13) u1 u2).1).1 false true (((N.re (N.un x y z) (dwN N (N.un x y z) ((dwNd N cells off len x y z u0).f 13) u1 u2).1).2 != 0, false) :: (reO (N.un x y z) (dwN N (N.un x y z) ((dwNd N cells off len x y z u0).f 13) u1 u2).1 ++ (((dwN N (N.un x y z) ((dwNd N cells off len x y z u0).f 13) u1 u2).2 != 0, false) :: (((N.vo (N.un x y z) (pt ((dwNd N cells off len x y z u0).f 13)) u1 u2 ++ [(decide (((dwNd N cells off len x y z u0).f 13).k ≤ one64.k), true)]) ++ [((dwNd N cells off len x y z u0).k == 2, false), ((dwNd N cells off len x y z u0).k == 1, false)]) ++ dwO3 N cells off len x y z u0))))) := by kernel_rfl
theorem dwR_gff : dwRun N e cells off len cap x y z u0 u1 u2 [true, false, false, false, false, false, true, false, false, true, false, false] = some (dwS 0 z3 zV (.si .i64 (dwP N (cutC cells off len) len x y z u0).a) (dwP N (cutC cells off len) len x y z u0).s (.i .i64 0), [⟨e, cells, .num⟩], some [], dwEnd N (N.re (N.un x y z) (dwN N (N.un x y z) ((dwNd N cells off len x y z u0).f 13) u1 u2).1).1 false false (((N.re (N.un x y z) (dwN N (N.un x y z) ((dwNd N cells off len x y z u0).f 13) u1 u2).1).2 != 0, false) :: (reO (N.un x y z) (dwN N (N.un x y z) ((dwNd N cells off len x y z u0).f 13) u1 u2).1 ++ (((dwN N (N.un x y z) ((dwNd N cells off len x y z u0).f 13) u1 u2).2 != 0, false) :: (((N.vo (N.un x y z) (pt ((dwNd N cells off len x y z u0).f 13)) u1 u2 ++ [(decide (((dwNd N cells off len x y z u0).f 13).k ≤ one64.k), true)]) ++ [((dwNd N cells off len x y z u0).k == 2, false), ((dwNd N cells off len x y z u0).k == 1, false)]) ++ dwO3 N cells off len x y z u0))))) := by kernel_rfl
end
structure DwR where
  k : Int
  p : F × F × F
  b : V3
  a : Int
  s : Bool
  e : Int
def dwZ (e : Int) : DwR := ⟨0, z3, zV, 0, false, e⟩
def dwSv (r : DwR) : SV := .tup [.agg [.si .u8 r.k, .fl r.p.1, .fl r.p.2.1, .fl r.p.2.2, .fl r.b.x.lo, .fl r.b.x.hi, .fl r.b.y.lo, .fl r.b.y.hi, .fl r.b.z.lo, .fl r.b.z.hi, .si .i64 r.a, .b r.s], .si .i64 r.e]
def dwV (r : DwR) : Value := .tuple #[.agg #[.int .u8 r.k, .float .f64 r.p.1.b, .float .f64 r.p.2.1.b, .float .f64 r.p.2.2.b, .float .f64 r.b.x.lo.b, .float .f64 r.b.x.hi.b, .float .f64 r.b.y.lo.b, .float .f64 r.b.y.hi.b, .float .f64 r.b.z.lo.b, .float .f64 r.b.z.hi.b, .int .i64 r.a, .bool r.s], .int .i64 r.e]
def bxF (N : Ndr) (nd : Nd) (v : V3) (u1 u2 : Int) : V3 × Int :=
  bif decide (nd.k = 1) || decide (nd.k = 2) then (dwCos N u1 u2, 0) else bif decide ((dwN N v (nd.f 13) u1 u2).2 = 0) then N.re v (dwN N v (nd.f 13) u1 u2).1 else (V3.zero, (dwN N v (nd.f 13) u1 u2).2)
def bxO (N : Ndr) (nd : Nd) (v : V3) (u1 u2 : Int) : Obs :=
  bif decide (nd.k = 1) || decide (nd.k = 2) then [(N.T.u u1, true), (N.T.u u2, true)] else (N.vo v (pt (nd.f 13)) u1 u2 ++ [(decide ((nd.f 13).k ≤ one64.k), true)]) ++ (bif decide ((dwN N v (nd.f 13) u1 u2).2 = 0) then reO v (dwN N v (nd.f 13) u1 u2).1 else [])
def dwLf (N : Ndr) (P : PaR) (b : V3) : DwR := bif N.ub (dwMid N b).1 (dwMid N b).2.1 (dwMid N b).2.2 && !decide ((dwMid N b).2.2.k ≤ z64.k) then ⟨2, dwMid N b, b, P.a, P.s, 0⟩ else ⟨0, z3, zV, P.a, P.s, 0⟩
def dwF (N : Ndr) (cs : List SV) (len : Nat) (x y z : F) (u0 u1 u2 : Int) : DwR :=
  bif N.ub x y z then
    bif decide (z.k ≤ z64.k) then dwZ 0
    else bif decide ((dwP N cs len x y z u0).e = 0) then
      bif (dwP N cs len x y z u0).g then ⟨1, (x.neg, y.neg, z), dwMir N x y z, (dwP N cs len x y z u0).a, (dwP N cs len x y z u0).s, 0⟩
      else bif decide ((bxF N (ndR cs ((dwP N cs len x y z u0).a.toNat * 19)) (N.un x y z) u1 u2).2 = 0) then dwLf N (dwP N cs len x y z u0) (bxF N (ndR cs ((dwP N cs len x y z u0).a.toNat * 19)) (N.un x y z) u1 u2).1 else dwZ (bxF N (ndR cs ((dwP N cs len x y z u0).a.toNat * 19)) (N.un x y z) u1 u2).2
    else dwZ (dwP N cs len x y z u0).e
  else dwZ 50
def dwOb (N : Ndr) (cs : List SV) (len : Nat) (x y z : F) (u0 u1 u2 : Int) : Obs :=
  (decide (cs.length = len * 19), true) :: (N.T.o cs len, true) ::
  (bif N.ub x y z then
    bif decide (z.k ≤ z64.k) then []
    else (N.T.b (N.un x y z).z cs len, true) :: (N.T.u u0, true) :: (cosO (N.un x y z).z ++
      (bif decide ((dwP N cs len x y z u0).e = 0) then
        bif (dwP N cs len x y z u0).g then []
        else (decide (0 ≤ (dwP N cs len x y z u0).a ∧ (dwP N cs len x y z u0).a < len), true) :: (bxO N (ndR cs ((dwP N cs len x y z u0).a.toNat * 19)) (N.un x y z) u1 u2 ++
          (bif decide ((bxF N (ndR cs ((dwP N cs len x y z u0).a.toNat * 19)) (N.un x y z) u1 u2).2 = 0) then [(dwMp N (bxF N (ndR cs ((dwP N cs len x y z u0).a.toNat * 19)) (N.un x y z) u1 u2).1, true)] else []))
      else [((dwP N cs len x y z u0).g, false)]))
  else [])
theorem ob_hd {c b : Bool} {o : Obs} (h : ObsOk ((c, b) :: o)) : c = b ∧ ObsOk o := ⟨h _ (List.mem_cons_self ..), fun p hp => h p (List.mem_cons_of_mem _ hp)⟩
section
variable {N : Ndr} (hO : OracleOk Tryz.prog (ODw N)) (hD : N.T.o = okPg) {cs : List SV} {len : Nat} {x y z : F} {u0 u1 u2 : Int}
include hO hD
set_option maxRecDepth 20000 in
theorem dw_all (h : ObsOk (dwOb N cs len x y z u0 u1 u2)) : ∃ vc, plains cs = some vc ∧ ∀ (w : World) (q off cap : Nat), RowAt w q off vc → Calls Tryz.prog 17 (Value.slice (some ⟨q, off, none⟩) len cap :: [.agg #[.float .f64 x.b, .float .f64 y.b, .float .f64 z.b], .agg #[.int .u64 u0, .int .u64 u1, .int .u64 u2]]).toArray w fun e w' => e = .returned (dwV (dwF N cs len x y z u0 u1 u2)) ∧ Below w.heap.size w w' := by
  unfold dwOb at h
  obtain ⟨h1, h⟩ := ob_hd h
  obtain ⟨h2, h⟩ := ob_hd h
  have hl : cs.length = len * 19 := of_decide_eq_true h1
  have K := okPg_ok (hD ▸ h2)
  obtain ⟨vc, hc⟩ := K.pl
  refine ⟨vc, hc, fun w q off cap hw => ?_⟩
  have fin : ∀ {d : List Bool} {res : SV} (hx : plain res = some (dwV (dwF N cs len x y z u0 u1 u2))) (hr : ∀ (e : TypeId) (cells : List SV) (off cap : Nat), CellsAt cells off cs → ∃ ob, dwRun N e cells off len cap x y z u0 u1 u2 d = some (res, [⟨e, cells, .num⟩], some [], ob) ∧ ObsOk ob), Calls Tryz.prog 17 (Value.slice (some ⟨q, off, none⟩) len cap :: [.agg #[.float .f64 x.b, .float .f64 y.b, .float .f64 z.b], .agg #[.int .u64 u0, .int .u64 u1, .int .u64 u2]]).toArray w fun e w' => e = .returned (dwV (dwF N cs len x y z u0 u1 u2)) ∧ Below w.heap.size w w' := by
    intro d res hx hr
    refine rd_of_runT goodG hO 80 (l := [.agg [.fl x, .fl y, .fl z], .agg [.si .u64 u0, .si .u64 u1, .si .u64 u2]]) hc rfl hx (fun e cells off cap hca => ?_) w q off cap hw
    obtain ⟨ob, h3, h4⟩ := hr e cells off cap hca
    exact ⟨_, _, ob, h3, h4⟩
  generalize hR : dwF N cs len x y z u0 u1 u2 = R at fin ⊢
  unfold dwF at hR
  cases g0 : N.ub x y z
  · rw [g0, cond_false] at hR; subst hR
    exact fin (res := dwS 0 z3 zV (.i .i64 0) false (.i .i64 50)) rfl fun e cells off cap hca => ⟨_, by have hr := dwR_a N e cells off len cap x y z u0 u1 u2; rw [cut_at hca hl] at hr; exact hr, ob_c g0 (ob_c h2 ob_n)⟩
  rw [g0, cond_true] at hR h
  by_cases gz : z.k ≤ z64.k
  · rw [decide_eq_true gz, cond_true] at hR; subst hR
    exact fin (res := dwS 0 z3 zV (.i .i64 0) false (.i .i64 0)) rfl fun e cells off cap hca => ⟨_, by have hr := dwR_b N e cells off len cap x y z u0 u1 u2; rw [cut_at hca hl] at hr; exact hr, ob_c (decide_eq_true gz) (ob_c g0 (ob_c h2 ob_n))⟩
  rw [decide_eq_false gz, cond_false] at hR h
  obtain ⟨h3, h⟩ := ob_hd h
  obtain ⟨h4, h⟩ := ob_hd h
  have h5 := h.left
  have h6 := h.right
  have o1 : ObsOk (dwO1 N cs len x y z) := ob_c (decide_eq_false gz) (ob_c g0 (ob_c h2 ob_n))
  have oP : ∀ {g : Bool}, (dwP N cs len x y z u0).g = g → ObsOk (dwPO N cs len x y z u0 g) := fun hg => ob_a (ob_c (decide_eq_true hl) (ob_c h2 (ob_c h3 (ob_c h4 h5)))) (ob_c hg ob_n)
  clear h
  by_cases ge : (dwP N cs len x y z u0).e = 0
  · rw [decide_eq_true ge, cond_true] at hR h6
    cases gg : (dwP N cs len x y z u0).g
    · rw [gg, cond_false] at hR h6
      have o2 : ObsOk (dwO2 N cs len x y z u0 false false) := ob_c (ne_0 ge) (ob_a (oP gg) o1)
      obtain ⟨h7, h8⟩ := ob_hd h6
      have h7 := of_decide_eq_true h7
      have h9 := h8.left
      have h10 := h8.right
      clear h8 h6
      have o3 : ∀ {cells : List SV} {off : Nat}, CellsAt cells off cs → ObsOk (dwO3 N cells off len x y z u0) := fun {cells off} hca => by
        unfold dwO3
        rw [cut_at hca hl]
        obtain ⟨hck, _⟩ := K.at hca (show (dwP N cs len x y z u0).a.toNat < len by omega)
        exact ob_c hck (ob_c (ix_of h7.1 h7.2) o2)
      have hnd : ∀ {cells : List SV} {off : Nat}, CellsAt cells off cs → dwNd N cells off len x y z u0 = ndR cs ((dwP N cs len x y z u0).a.toNat * 19) := fun {cells off} hca => by
        unfold dwNd
        rw [cut_at hca hl]
        exact (K.at hca (show (dwP N cs len x y z u0).a.toNat < len by omega)).2
      generalize ndR cs ((dwP N cs len x y z u0).a.toNat * 19) = nd at hR h9 h10 hnd
      by_cases k1 : nd.k = 1
      · have eb : bxF N nd (N.un x y z) u1 u2 = (dwCos N u1 u2, 0) := by unfold bxF; rw [decide_eq_true k1, Bool.true_or, cond_true]
        have oo : ObsOk [(N.T.u u1, true), (N.T.u u2, true)] := by unfold bxO at h9; rwa [decide_eq_true k1, Bool.true_or, cond_true] at h9
        rw [eb] at hR h10
        obtain ⟨u1k, oo⟩ := ob_hd oo
        obtain ⟨u2k, _⟩ := ob_hd oo
        rw [decide_eq_true rfl, cond_true] at hR h10
        obtain ⟨mp, _⟩ := ob_hd h10
        unfold dwLf at hR
        by_cases gw : (dwMid N (dwCos N u1 u2)).2.2.k ≤ z64.k
        · cases gu : N.ub (dwMid N (dwCos N u1 u2)).1 (dwMid N (dwCos N u1 u2)).2.1 (dwMid N (dwCos N u1 u2)).2.2
          · rw [gu, decide_eq_true gw] at hR
            simp only [Bool.not_true, Bool.not_false, Bool.and_true, Bool.and_false, Bool.true_and, Bool.false_and, cond_true, cond_false] at hR
            subst hR
            exact fin (res := dwS 0 z3 zV (.si .i64 (dwP N cs len x y z u0).a) (dwP N cs len x y z u0).s (.i .i64 0)) rfl fun e cells off cap hca => ⟨_, by have hr := dwR_eft N e cells off len cap x y z u0 u1 u2; rw [hnd hca, cut_at hca hl] at hr; exact hr, ob_c (decide_eq_true gw) (ob_c gu (ob_c mp (ob_c u1k (ob_c u2k (ob_c (beq_t k1) (o3 hca))))))⟩
          · rw [gu, decide_eq_true gw] at hR
            simp only [Bool.not_true, Bool.not_false, Bool.and_true, Bool.and_false, Bool.true_and, Bool.false_and, cond_true, cond_false] at hR
            subst hR
            exact fin (res := dwS 0 z3 zV (.si .i64 (dwP N cs len x y z u0).a) (dwP N cs len x y z u0).s (.i .i64 0)) rfl fun e cells off cap hca => ⟨_, by have hr := dwR_ett N e cells off len cap x y z u0 u1 u2; rw [hnd hca, cut_at hca hl] at hr; exact hr, ob_c (decide_eq_true gw) (ob_c gu (ob_c mp (ob_c u1k (ob_c u2k (ob_c (beq_t k1) (o3 hca))))))⟩
        · cases gu : N.ub (dwMid N (dwCos N u1 u2)).1 (dwMid N (dwCos N u1 u2)).2.1 (dwMid N (dwCos N u1 u2)).2.2
          · rw [gu, decide_eq_false gw] at hR
            simp only [Bool.not_true, Bool.not_false, Bool.and_true, Bool.and_false, Bool.true_and, Bool.false_and, cond_true, cond_false] at hR
            subst hR
            exact fin (res := dwS 0 z3 zV (.si .i64 (dwP N cs len x y z u0).a) (dwP N cs len x y z u0).s (.i .i64 0)) rfl fun e cells off cap hca => ⟨_, by have hr := dwR_eff N e cells off len cap x y z u0 u1 u2; rw [hnd hca, cut_at hca hl] at hr; exact hr, ob_c (decide_eq_false gw) (ob_c gu (ob_c mp (ob_c u1k (ob_c u2k (ob_c (beq_t k1) (o3 hca))))))⟩
          · rw [gu, decide_eq_false gw] at hR
            simp only [Bool.not_true, Bool.not_false, Bool.and_true, Bool.and_false, Bool.true_and, Bool.false_and, cond_true, cond_false] at hR
            subst hR
            exact fin (res := dwS 2 (dwMid N (dwCos N u1 u2)) (dwCos N u1 u2) (.si .i64 (dwP N cs len x y z u0).a) (dwP N cs len x y z u0).s (.i .i64 0)) rfl fun e cells off cap hca => ⟨_, by have hr := dwR_etf N e cells off len cap x y z u0 u1 u2; rw [hnd hca, cut_at hca hl] at hr; exact hr, ob_c (decide_eq_false gw) (ob_c gu (ob_c mp (ob_c u1k (ob_c u2k (ob_c (beq_t k1) (o3 hca))))))⟩
      · by_cases k2 : nd.k = 2
        · have eb : bxF N nd (N.un x y z) u1 u2 = (dwCos N u1 u2, 0) := by unfold bxF; rw [decide_eq_true k2, Bool.or_true, cond_true]
          have oo : ObsOk [(N.T.u u1, true), (N.T.u u2, true)] := by unfold bxO at h9; rwa [decide_eq_true k2, Bool.or_true, cond_true] at h9
          rw [eb] at hR h10
          obtain ⟨u1k, oo⟩ := ob_hd oo
          obtain ⟨u2k, _⟩ := ob_hd oo
          rw [decide_eq_true rfl, cond_true] at hR h10
          obtain ⟨mp, _⟩ := ob_hd h10
          unfold dwLf at hR
          by_cases gw : (dwMid N (dwCos N u1 u2)).2.2.k ≤ z64.k
          · cases gu : N.ub (dwMid N (dwCos N u1 u2)).1 (dwMid N (dwCos N u1 u2)).2.1 (dwMid N (dwCos N u1 u2)).2.2
            · rw [gu, decide_eq_true gw] at hR
              simp only [Bool.not_true, Bool.not_false, Bool.and_true, Bool.and_false, Bool.true_and, Bool.false_and, cond_true, cond_false] at hR
              subst hR
              exact fin (res := dwS 0 z3 zV (.si .i64 (dwP N cs len x y z u0).a) (dwP N cs len x y z u0).s (.i .i64 0)) rfl fun e cells off cap hca => ⟨_, by have hr := dwR_fft N e cells off len cap x y z u0 u1 u2; rw [hnd hca, cut_at hca hl] at hr; exact hr, ob_c (decide_eq_true gw) (ob_c gu (ob_c mp (ob_c u1k (ob_c u2k (ob_c (beq_t k2) (ob_c (beq_f k1) (o3 hca)))))))⟩
            · rw [gu, decide_eq_true gw] at hR
              simp only [Bool.not_true, Bool.not_false, Bool.and_true, Bool.and_false, Bool.true_and, Bool.false_and, cond_true, cond_false] at hR
              subst hR
              exact fin (res := dwS 0 z3 zV (.si .i64 (dwP N cs len x y z u0).a) (dwP N cs len x y z u0).s (.i .i64 0)) rfl fun e cells off cap hca => ⟨_, by have hr := dwR_ftt N e cells off len cap x y z u0 u1 u2; rw [hnd hca, cut_at hca hl] at hr; exact hr, ob_c (decide_eq_true gw) (ob_c gu (ob_c mp (ob_c u1k (ob_c u2k (ob_c (beq_t k2) (ob_c (beq_f k1) (o3 hca)))))))⟩
          · cases gu : N.ub (dwMid N (dwCos N u1 u2)).1 (dwMid N (dwCos N u1 u2)).2.1 (dwMid N (dwCos N u1 u2)).2.2
            · rw [gu, decide_eq_false gw] at hR
              simp only [Bool.not_true, Bool.not_false, Bool.and_true, Bool.and_false, Bool.true_and, Bool.false_and, cond_true, cond_false] at hR
              subst hR
              exact fin (res := dwS 0 z3 zV (.si .i64 (dwP N cs len x y z u0).a) (dwP N cs len x y z u0).s (.i .i64 0)) rfl fun e cells off cap hca => ⟨_, by have hr := dwR_fff N e cells off len cap x y z u0 u1 u2; rw [hnd hca, cut_at hca hl] at hr; exact hr, ob_c (decide_eq_false gw) (ob_c gu (ob_c mp (ob_c u1k (ob_c u2k (ob_c (beq_t k2) (ob_c (beq_f k1) (o3 hca)))))))⟩
            · rw [gu, decide_eq_false gw] at hR
              simp only [Bool.not_true, Bool.not_false, Bool.and_true, Bool.and_false, Bool.true_and, Bool.false_and, cond_true, cond_false] at hR
              subst hR
              exact fin (res := dwS 2 (dwMid N (dwCos N u1 u2)) (dwCos N u1 u2) (.si .i64 (dwP N cs len x y z u0).a) (dwP N cs len x y z u0).s (.i .i64 0)) rfl fun e cells off cap hca => ⟨_, by have hr := dwR_ftf N e cells off len cap x y z u0 u1 u2; rw [hnd hca, cut_at hca hl] at hr; exact hr, ob_c (decide_eq_false gw) (ob_c gu (ob_c mp (ob_c u1k (ob_c u2k (ob_c (beq_t k2) (ob_c (beq_f k1) (o3 hca)))))))⟩
        · have ek : (decide (nd.k = 1) || decide (nd.k = 2)) = false := by rw [decide_eq_false k1, decide_eq_false k2]; rfl
          unfold bxO at h9
          rw [ek, cond_false] at h9
          have oV : ∀ {cells : List SV} {off : Nat}, CellsAt cells off cs → ObsOk (((N.vo (N.un x y z) (pt (nd.f 13)) u1 u2 ++ [(decide ((nd.f 13).k ≤ one64.k), true)]) ++ [(nd.k == 2, false), (nd.k == 1, false)]) ++ dwO3 N cells off len x y z u0) := fun {cells off} hca => ob_a (ob_a h9.left (ob_c (beq_f k2) (ob_c (beq_f k1) ob_n))) (o3 hca)
          have h11 := h9.right
          by_cases gn : (dwN N (N.un x y z) (nd.f 13) u1 u2).2 = 0
          · rw [decide_eq_true gn, cond_true] at h11
            have eb : bxF N nd (N.un x y z) u1 u2 = N.re (N.un x y z) (dwN N (N.un x y z) (nd.f 13) u1 u2).1 := by unfold bxF; rw [ek, cond_false, decide_eq_true gn, cond_true]
            rw [eb] at hR h10
            by_cases gr : (N.re (N.un x y z) (dwN N (N.un x y z) (nd.f 13) u1 u2).1).2 = 0
            · rw [decide_eq_true gr, cond_true] at hR h10
              obtain ⟨mp, _⟩ := ob_hd h10
              unfold dwLf at hR
              by_cases gw : (dwMid N (N.re (N.un x y z) (dwN N (N.un x y z) (nd.f 13) u1 u2).1).1).2.2.k ≤ z64.k
              · cases gu : N.ub (dwMid N (N.re (N.un x y z) (dwN N (N.un x y z) (nd.f 13) u1 u2).1).1).1 (dwMid N (N.re (N.un x y z) (dwN N (N.un x y z) (nd.f 13) u1 u2).1).1).2.1 (dwMid N (N.re (N.un x y z) (dwN N (N.un x y z) (nd.f 13) u1 u2).1).1).2.2
                · rw [gu, decide_eq_true gw] at hR
                  simp only [Bool.not_true, Bool.not_false, Bool.and_true, Bool.and_false, Bool.true_and, Bool.false_and, cond_true, cond_false] at hR
                  subst hR
                  exact fin (res := dwS 0 z3 zV (.si .i64 (dwP N cs len x y z u0).a) (dwP N cs len x y z u0).s (.i .i64 0)) rfl fun e cells off cap hca => ⟨_, by have hr := dwR_gft N e cells off len cap x y z u0 u1 u2; rw [hnd hca, cut_at hca hl] at hr; exact hr, ob_c (decide_eq_true gw) (ob_c gu (ob_c mp (ob_c (ne_0 gr) (ob_a h11 (ob_c (ne_0 gn) (oV hca))))))⟩
                · rw [gu, decide_eq_true gw] at hR
                  simp only [Bool.not_true, Bool.not_false, Bool.and_true, Bool.and_false, Bool.true_and, Bool.false_and, cond_true, cond_false] at hR
                  subst hR
                  exact fin (res := dwS 0 z3 zV (.si .i64 (dwP N cs len x y z u0).a) (dwP N cs len x y z u0).s (.i .i64 0)) rfl fun e cells off cap hca => ⟨_, by have hr := dwR_gtt N e cells off len cap x y z u0 u1 u2; rw [hnd hca, cut_at hca hl] at hr; exact hr, ob_c (decide_eq_true gw) (ob_c gu (ob_c mp (ob_c (ne_0 gr) (ob_a h11 (ob_c (ne_0 gn) (oV hca))))))⟩
              · cases gu : N.ub (dwMid N (N.re (N.un x y z) (dwN N (N.un x y z) (nd.f 13) u1 u2).1).1).1 (dwMid N (N.re (N.un x y z) (dwN N (N.un x y z) (nd.f 13) u1 u2).1).1).2.1 (dwMid N (N.re (N.un x y z) (dwN N (N.un x y z) (nd.f 13) u1 u2).1).1).2.2
                · rw [gu, decide_eq_false gw] at hR
                  simp only [Bool.not_true, Bool.not_false, Bool.and_true, Bool.and_false, Bool.true_and, Bool.false_and, cond_true, cond_false] at hR
                  subst hR
                  exact fin (res := dwS 0 z3 zV (.si .i64 (dwP N cs len x y z u0).a) (dwP N cs len x y z u0).s (.i .i64 0)) rfl fun e cells off cap hca => ⟨_, by have hr := dwR_gff N e cells off len cap x y z u0 u1 u2; rw [hnd hca, cut_at hca hl] at hr; exact hr, ob_c (decide_eq_false gw) (ob_c gu (ob_c mp (ob_c (ne_0 gr) (ob_a h11 (ob_c (ne_0 gn) (oV hca))))))⟩
                · rw [gu, decide_eq_false gw] at hR
                  simp only [Bool.not_true, Bool.not_false, Bool.and_true, Bool.and_false, Bool.true_and, Bool.false_and, cond_true, cond_false] at hR
                  subst hR
                  exact fin (res := dwS 2 (dwMid N (N.re (N.un x y z) (dwN N (N.un x y z) (nd.f 13) u1 u2).1).1) (N.re (N.un x y z) (dwN N (N.un x y z) (nd.f 13) u1 u2).1).1 (.si .i64 (dwP N cs len x y z u0).a) (dwP N cs len x y z u0).s (.i .i64 0)) rfl fun e cells off cap hca => ⟨_, by have hr := dwR_gtf N e cells off len cap x y z u0 u1 u2; rw [hnd hca, cut_at hca hl] at hr; exact hr, ob_c (decide_eq_false gw) (ob_c gu (ob_c mp (ob_c (ne_0 gr) (ob_a h11 (ob_c (ne_0 gn) (oV hca))))))⟩
            · rw [decide_eq_false gr, cond_false] at hR; subst hR
              exact fin (res := dwS 0 z3 zV (.i .i64 0) false (.si .i64 (N.re (N.un x y z) (dwN N (N.un x y z) (nd.f 13) u1 u2).1).2)) rfl fun e cells off cap hca => ⟨_, by have hr := dwR_r N e cells off len cap x y z u0 u1 u2; rw [hnd hca] at hr; exact hr, ob_c (by simpa using gr) (ob_a h11 (ob_c (ne_0 gn) (oV hca)))⟩
          · have eb : bxF N nd (N.un x y z) u1 u2 = (V3.zero, (dwN N (N.un x y z) (nd.f 13) u1 u2).2) := by unfold bxF; rw [ek, cond_false, decide_eq_false gn, cond_false]
            rw [eb] at hR
            simp only at hR
            rw [decide_eq_false gn, cond_false] at hR; subst hR
            exact fin (res := dwS 0 z3 zV (.i .i64 0) false (.si .i64 (dwN N (N.un x y z) (nd.f 13) u1 u2).2)) rfl fun e cells off cap hca => ⟨_, by have hr := dwR_v N e cells off len cap x y z u0 u1 u2; rw [hnd hca] at hr; exact hr, ob_c (by simpa using gn) (ob_c (by simpa using gn) (oV hca))⟩
    · rw [gg, cond_true] at hR
      subst hR
      exact fin (res := dwS 1 (x.neg, y.neg, z) (dwMir N x y z) (.si .i64 (dwP N cs len x y z u0).a) (dwP N cs len x y z u0).s (.i .i64 0)) rfl fun e cells off cap hca => ⟨_, by have hr := dwR_d N e cells off len cap x y z u0 u1 u2; rw [cut_at hca hl] at hr; exact hr, ob_c g0 (ob_c (ne_0 ge) (ob_a (oP gg) o1))⟩
  · rw [decide_eq_false ge, cond_false] at hR h6
    obtain ⟨gg, _⟩ := ob_hd h6
    subst hR
    exact fin (res := dwS 0 z3 zV (.i .i64 0) false (.si .i64 (dwP N cs len x y z u0).e)) rfl fun e cells off cap hca => ⟨_, by have hr := dwR_c N e cells off len cap x y z u0 u1 u2; rw [cut_at hca hl] at hr; exact hr, ob_c (by simpa using ge) (ob_a (oP gg) o1)⟩
end
def kDw (G : List SV → Nat → F → F → F → Int → Int → Int → DwR) (O : List SV → Nat → F → F → F → Int → Int → Int → Obs) : RdF := fun cs len l ds => match l with
  | [.agg [.fl x, .fl y, .fl z], .agg [a, b, c]] => match intS a, intS b, intS c with
    | some (.u64, u0), some (.u64, u1), some (.u64, u2) => some (dwSv (G cs len x y z u0 u1 u2), ds, O cs len x y z u0 u1 u2)
    | _, _, _ => none
  | _ => none
theorem dwRd {N : Ndr} (hO : OracleOk Tryz.prog (ODw N)) (hD : N.T.o = okPg) : RdOk Tryz.prog 17 (kDw (dwF N) (dwOb N)) := by
  intro cs len l ds x ds' ob h ho
  unfold kDw at h
  split at h
  · rename_i x y z a b c
    split at h
    · rename_i u0 u1 u2 e0 e1 e2
      simp only [Option.some.injEq, Prod.mk.injEq] at h
      obtain ⟨rfl, _, rfl⟩ := h
      obtain ⟨vc, hc, hw⟩ := dw_all hO hD ho
      refine ⟨vc, _, dwV (dwF N cs len x y z u0 u1 u2), hc, ?_, rfl, hw⟩
      have ha := intS_plain e0; have hb := intS_plain e1; have hcc := intS_plain e2
      exact plains_cons rfl (plains_cons (plain_agg (plains_cons ha (plains_cons hb (plains_cons hcc plains_nil)))) plains_nil)
    · cases h
  · cases h
noncomputable def PaN : Npa := ⟨KkR, okPg, fun c n => lnR (fdK KkR c n) 0, fdO, unI, fun n => decide (0 ≤ n ∧ n ≤ 18446744073709551615)⟩
theorem oraclePa : OracleOk Tryz.prog (OPa PaN) :=
  .cons addC <| .cons subC <| .cons mulC <| .cons divC <| .cons cmax_I <| .cons sqrC <| .cons csqrt_I <|
  .cons negC <|
  .cons numC <| .cons irtK.of <| .cons rightG.of <| .cons absG.of <| .cons vwG.of <| .cons piG.of <| .cons rgtG.of <| .cons fdG.of <| .cons unitG.of <| .nil _
theorem ptK_ : RdOk Tryz.prog 18 (kPt_ (nPt PaN)) := ptRd oraclePa rfl rfl
noncomputable def TpR : Npt := nPt PaN
noncomputable def DwN : Ndr := ⟨KkR, TpR, unV KkR, unB, dV (KqR atR), vdR, drO (KqR atR), reR KkR, rt3, midM⟩
theorem oracleDw : OracleOk Tryz.prog (ODw DwN) :=
  .cons addC <| .cons subC <| .cons mulC <| .cons divC <| .cons cmax_I <| .cons sqrC <| .cons csqrt_I <|
  .cons negC <|
  .cons numC <| .cons irtK.of <| .cons rightG.of <| .cons absG.of <| .cons vwG.of <| .cons piG.of <| .cons rgtG.of <| .cons unG.of <| .cons ptK_.of <| .cons drawG.of <| .cons drG.of <| .cons reG.of <| .cons stG.of <| .cons midG.of <| .nil _
structure Nds where
  g : List SV → Nat → F → F → F → Int → Int → Int → DwR
  o : List SV → Nat → F → F → F → Int → Int → Int → Obs
noncomputable def DsR : Nds := ⟨dwF DwN, dwOb DwN⟩
theorem dwK : RdOk Tryz.prog 17 (kDw DsR.g DsR.o) := dwRd oracleDw rfl
def kDwS (D : Nds) : RdF := fun cs len l ds => match l with
  | [.agg [.fl x, .fl y, .fl z], .agg [a, b, c]] => match intS a, intS b, intS c with
    | some (.u64, u0), some (.u64, u1), some (.u64, u2) => (takeB ds (D.g cs len x y z u0 u1 u2).s).map fun r => (dwSv ⟨(D.g cs len x y z u0 u1 u2).k, (D.g cs len x y z u0 u1 u2).p, (D.g cs len x y z u0 u1 u2).b, (D.g cs len x y z u0 u1 u2).a, r.1, (D.g cs len x y z u0 u1 u2).e⟩, r.2.1, D.o cs len x y z u0 u1 u2 ++ r.2.2)
    | _, _, _ => none
  | _ => none
theorem kDwS_of {D : Nds} {g : FuncId} (h : RdOk Tryz.prog g (kDw D.g D.o)) : RdOk Tryz.prog g (kDwS D) := by
  intro cs len l ds x ds' ob h1 ho
  unfold kDwS at h1
  split at h1
  · rename_i x y z a b c
    split at h1
    · rename_i u0 u1 u2 e0 e1 e2
      simp only [Option.map_eq_some_iff, Prod.mk.injEq] at h1
      obtain ⟨⟨r, dd, oo⟩, h2, rfl, rfl, rfl⟩ := h1
      have hd := takeB_ok h2 ho.right
      subst hd
      refine h cs len [.agg [.fl x, .fl y, .fl z], .agg [a, b, c]] ds _ ds _ ?_ ho.left
      unfold kDw
      simp only [e0, e1, e2]
    · cases h1
  · cases h1
def kDwNil : List SV → Dec → Option (SV × Dec × Obs)
  | [.o (.slice none 0 0), .agg [.fl x, .fl y, .fl z], .agg [a, b, c]], ds => match intS a, intS b, intS c with
    | some (.u64, _), some (.u64, _), some (.u64, _) => some (dwSv (dwZ 210), ds, [])
    | _, _, _ => none
  | _, _ => none
def ONil : OracleF := lookO [(39, plainO kNilR)]
theorem dwNilRun (x y z : F) (a b c : Int) : valR ((run Tryz.prog EG ONil 60).1 17 [.o (.slice none 0 0), .agg [.fl x, .fl y, .fl z], .agg [.si .u64 a, .si .u64 b, .si .u64 c]] [] (some [])) = some (dwS 0 z3 zV (.i .i64 0) false (.i .i64 210), some [], []) := by kernel_rfl
theorem dwNilG : PlainOk Tryz.prog 17 kDwNil := by
  intro args ds x ds' ob h ho
  unfold kDwNil at h
  split at h
  · rename_i x y z a b c
    split at h
    · rename_i u0 u1 u2 e0 e1 e2
      simp only [Option.some.injEq, Prod.mk.injEq] at h
      obtain ⟨rfl, _, rfl⟩ := h
      refine ⟨[.slice none 0 0, .agg #[.float .f64 x.b, .float .f64 y.b, .float .f64 z.b], .agg #[.int .u64 u0, .int .u64 u1, .int .u64 u2]], dwV (dwZ 210), ?_, rfl, fun w => ?_⟩
      · have ha := intS_plain e0; have hb := intS_plain e1; have hcc := intS_plain e2
        exact plains_cons rfl (plains_cons rfl (plains_cons (plain_agg (plains_cons ha (plains_cons hb (plains_cons hcc plains_nil)))) plains_nil))
      · exact calls_of_val goodG (.cons nilRG.of (.nil _)) 60 (dwNilRun x y z u0 u1 u2) ob_n rfl rfl w
    · cases h
  · cases h
def dwO_ (D : Nds) : OF := eiO (plainO kDwNil) (kRd 19 (kDwS D))
theorem dwOG : OfOk Tryz.prog 17 (dwO_ DsR) := eiO_ok dwNilG.of (kDwS_of dwK).of
def OA23 (D : Nds) : OracleF := lookO [(17, dwO_ D)]
def awD23 : List Bool := [true, true, true, false, false] ++ List.replicate 15 true
noncomputable def aw23 (D : Nds) : Obs := match valR ((run Tryz.prog EG (OA23 D) 120).1 19 [] [] (some awD23)) with
  | some r => r.2.2
  | none => []
theorem aw23Run (D : Nds) : valR ((run Tryz.prog EG (OA23 D) 120).1 19 [] [] (some awD23)) = some (.b true, some [], aw23 D) := by kernel_rfl
set_option maxRecDepth 100000 in
theorem aw23_B : Bu.obsB (aw23 DsR) = true := by decide +kernel
theorem oracleA23 : OracleOk Tryz.prog (OA23 DsR) := .cons dwOG (.nil _)
theorem awake23G : PlainOk Tryz.prog 19 (oConst (.b true)) := constG rfl fun w => calls_of_val goodG oracleA23 120 (aw23Run DsR) (obsB_ok aw23_B) rfl rfl w
def rtW (a b : Nat) : Bool := rightB a && (rightB b && decide ((toF a).k ≤ (toF b).k))
def kRtW (r : Nat → Nat → Bool) : List SV → Dec → Option (SV × Dec × Obs)
  | [.agg [.f a, .f b]], ds => (takeB ds (r a b)).map fun q => (.b q.1, q.2.1, (Nat.blt a 18446744073709551616, true) :: (Nat.blt b 18446744073709551616, true) :: q.2.2)
  | _, _ => none
theorem rwRun0 (a b : Nat) : valR ((run Tryz.prog EG OIR 60).1 62 [.agg [.f a, .f b]] [] (some [false])) = some (.b false, some [], [(Nat.blt a 18446744073709551616, true), (rightB a, false)]) := by kernel_rfl
theorem rwRun1 (a b : Nat) : valR ((run Tryz.prog EG OIR 60).1 62 [.agg [.f a, .f b]] [] (some [true, false])) = some (.b false, some [], [(Nat.blt b 18446744073709551616, true), (rightB b, false), (rightB a, true)]) := by kernel_rfl
theorem rightWG : PlainOk Tryz.prog 62 (kRtW rtW) := by
  intro args ds x ds' ob h ho
  unfold kRtW at h
  split at h
  · rename_i a b
    simp only [Option.map_eq_some_iff, Prod.mk.injEq] at h
    obtain ⟨⟨d, e, o⟩, h1, rfl, rfl, rfl⟩ := h
    have la : Nat.blt a 18446744073709551616 = true := ho _ (List.mem_cons_self ..)
    have lb : Nat.blt b 18446744073709551616 = true := ho (_, true) (List.mem_cons_of_mem _ (List.mem_cons_self ..))
    have hd : d = rtW a b := takeB_ok h1 (fun p hp => ho p (List.mem_cons_of_mem _ (List.mem_cons_of_mem _ hp)))
    refine ⟨[.agg #[.float .f64 a, .float .f64 b]], .bool d, rfl, rfl, fun w => ?_⟩
    unfold rtW at hd
    cases g1 : rightB a
    · rw [g1, Bool.false_and] at hd; subst hd
      exact calls_of_val goodG oracleIR 60 (rwRun0 a b) (ObsOk.of_B (obsB_yes la (obsB_yes g1 obsB_nil))) rfl rfl w
    · cases g2 : rightB b
      · rw [g1, g2, Bool.false_and, Bool.and_false] at hd; subst hd
        exact calls_of_val goodG oracleIR 60 (rwRun1 a b) (ObsOk.of_B (obsB_yes lb (obsB_yes g2 (obsB_yes g1 obsB_nil)))) rfl rfl w
      · rw [g1, g2, Bool.true_and, Bool.true_and] at hd
        obtain ⟨x, rfl⟩ := F_of_right g1
        obtain ⟨y, rfl⟩ := F_of_right g2
        rw [toF_F, toF_F] at hd
        exact calls_of_val goodG oracleIR 60 (irightRun x y d) (ObsOk.of_B (obsB_yes hd.symm obsB_nil)) rfl rfl w
  · cases h
def blw (a : Nat) : Bool × Bool := (Nat.blt a 18446744073709551616, true)
theorem blw_ok {a : Nat} (h : a < 18446744073709551616) : (blw a).1 = (blw a).2 := by
  show Nat.blt a 18446744073709551616 = true
  rw [Nat.blt_eq]; exact h
def geW (a : Nat) (x : F) : Bool := Ieee.double.order a x.b == some .gt || Ieee.double.order a x.b == some .eq
def leW (a : Nat) (x : F) : Bool := Ieee.double.order a x.b == some .lt || Ieee.double.order a x.b == some .eq
theorem geW_F (p c : F) : geW p.b c = decide (c.k ≤ p.k) := by
  have e2 := Bu.order_gt p c
  have e3 := Bu.order_eq p c
  unfold geW
  rw [e2, e3, Bool.eq_iff_iff]; simp; omega
theorem leW_F (p c : F) : leW p.b c = decide (p.k ≤ c.k) := by
  have e2 := Bu.order_lt p c
  have e3 := Bu.order_eq p c
  unfold leW
  rw [e2, e3, Bool.eq_iff_iff]; simp; omega
def kUnT (f : Nat → Nat → Nat → V3) (e : Nat → Nat → Nat → Int) : List SV → Dec → Option (SV × Dec × Obs)
  | [.agg [.f x, .f y, .f z]], ds => some (.tup [(f x y z).sv, .si .i64 (e x y z)], ds, [blw x, blw y, blw z])
  | _, _ => none
def un3W (x y z : Nat) : Bool := rt3W x y z && unB (toF x) (toF y) (toF z)
noncomputable def uwV (x y z : Nat) : V3 := bif un3W x y z then unV KkR (toF x) (toF y) (toF z) else V3.zero
def uwE (x y z : Nat) : Int := bif un3W x y z then 0 else 50
theorem rt3_of {x y z : Nat} (h : rt3W x y z = true) : ∃ a b c : F, x = a.b ∧ y = b.b ∧ z = c.b := by
  unfold rt3W at h
  rw [Bool.and_eq_true, Bool.and_eq_true] at h
  obtain ⟨a, ha⟩ := F_of_right h.1.1
  obtain ⟨b, hb⟩ := F_of_right h.1.2
  obtain ⟨c, hc⟩ := F_of_right h.2
  exact ⟨a, b, c, ha.symm, hb.symm, hc.symm⟩
def v3V (v : V3) : Value := .agg #[.float .f64 v.x.lo.b, .float .f64 v.x.hi.b, .float .f64 v.y.lo.b, .float .f64 v.y.hi.b, .float .f64 v.z.lo.b, .float .f64 v.z.hi.b]
theorem unTG : PlainOk Tryz.prog 16 (kUnT uwV uwE) := by
  intro args ds r ds' ob h ho
  unfold kUnT at h
  split at h
  · rename_i x y z
    simp only [Option.some.injEq, Prod.mk.injEq] at h
    obtain ⟨rfl, _, rfl⟩ := h
    have hx : blw x ∈ [blw x, blw y, blw z] := List.mem_cons_self ..
    have hy : blw y ∈ [blw x, blw y, blw z] := List.mem_cons_of_mem _ (List.mem_cons_self ..)
    have hz : blw z ∈ [blw x, blw y, blw z] := List.mem_cons_of_mem _ (List.mem_cons_of_mem _ (List.mem_cons_self ..))
    refine ⟨[.agg #[.float .f64 x, .float .f64 y, .float .f64 z]], .tuple #[v3V (uwV x y z), .int .i64 (uwE x y z)], rfl, rfl, ?_⟩
    cases g : rt3W x y z
    · have e : un3W x y z = false := by unfold un3W; rw [g]; rfl
      have e1 : uwV x y z = V3.zero := by unfold uwV; rw [e, cond_false]
      have e2 : uwE x y z = 50 := by unfold uwE; rw [e, cond_false]
      rw [e1, e2]
      obtain ⟨vs, v, h1, h2, h3⟩ := unWG [.agg [.f x, .f y, .f z]] none _ _ _ rfl (ob_c (ho _ hx) (ob_c (ho _ hy) (ob_c (ho _ hz) (ob_c g ob_n))))
      obtain rfl : vs = [.agg #[.float .f64 x, .float .f64 y, .float .f64 z]] := (Option.some.inj h1).symm
      obtain rfl : v = .tuple #[v3V V3.zero, .int .i64 50] := (Option.some.inj h2).symm
      exact h3
    · obtain ⟨a, b, c, rfl, rfl, rfl⟩ := rt3_of g
      obtain ⟨vs, v, h1, h2, h3⟩ := unG [.agg [.fl a, .fl b, .fl c]] none _ _ _ rfl ob_n
      obtain rfl : vs = [.agg #[.float .f64 a.b, .float .f64 b.b, .float .f64 c.b]] := (Option.some.inj h1).symm
      have e1 : uwV a.b b.b c.b = bif unB a b c then unV KkR a b c else V3.zero := by unfold uwV un3W; rw [g, Bool.true_and, toF_F, toF_F, toF_F]
      have e2 : uwE a.b b.b c.b = bif unB a b c then 0 else 50 := by unfold uwE un3W; rw [g, Bool.true_and, toF_F, toF_F, toF_F]
      rw [e1, e2]
      cases q : unB a b c
      · rw [q] at h2
        obtain rfl : v = .tuple #[v3V V3.zero, .int .i64 50] := (Option.some.inj h2).symm
        exact h3
      · rw [q] at h2
        obtain rfl : v = .tuple #[v3V (unV KkR a b c), .int .i64 0] := (Option.some.inj h2).symm
        exact h3
  · cases h
def ODt (o : List SV → Nat → Bool) (v : Nat → Nat → Nat → V3) (e : Nat → Nat → Nat → Int) : OracleF := lookO [(39, kRd 19 (kRgt o)), (16, plainO (kUnT v e))]
def OPt (o : List SV → Nat → Bool) : OracleF := lookO [(39, kRd 19 (kRgt o)), (62, plainO (kRtW rtW))]
def OPf (o : List SV → Nat → Bool) : OracleF := lookO [(39, kRd 19 (kRgt o)), (62, plainO (kBI rt))]
section
variable (o : List SV → Nat → Bool) (v : Nat → Nat → Nat → V3) (e : Nat → Nat → Nat → Int) (el : TypeId) (cells : List SV) (off len cap : Nat) (x y z : Nat) (a b c : F) (u0 u1 u2 : Int)
theorem dtRun : ((run Tryz.prog EG (ODt o v e) 60).1 17 [.ssl 0 off len cap, .agg [.f x, .f y, .f z], .agg [.si .u64 u0, .si .u64 u1, .si .u64 u2]] [⟨el, cells, .num⟩] (some [true])).map (fun q => (q.1, q.2.1.take 1, q.2.2)) =
    some (dwS 0 z3 zV (.i .i64 0) false (.i .i64 50), [⟨el, cells, .num⟩], some [], (e x y z != 0, true) :: ([blw x, blw y, blw z] ++ [(o (cutC cells off len) len, true)])) := by kernel_rfl
theorem dtNil : valR ((run Tryz.prog EG ONil 60).1 17 [.o (.slice none 0 0), .agg [.f x, .f y, .f z], .agg [.si .u64 u0, .si .u64 u1, .si .u64 u2]] [] (some [])) = some (dwS 0 z3 zV (.i .i64 0) false (.i .i64 210), some [], []) := by kernel_rfl
theorem ptNil : valR ((run Tryz.prog EG ONil 60).1 18 [.o (.slice none 0 0), .agg [.f x, .f y], .si .u64 u0] [] (some [])) = some (.tup [.i .i64 0, .b false, .b false, .i .i64 210], some [], []) := by kernel_rfl
theorem ptRun0 : ((run Tryz.prog EG (OPt o) 60).1 18 [.ssl 0 off len cap, .agg [.f x, .f y], .si .u64 u0] [⟨el, cells, .num⟩] (some [false])).map (fun q => (q.1, q.2.1.take 1, q.2.2)) =
    some (.tup [.i .i64 0, .b false, .b false, .i .i64 20], [⟨el, cells, .num⟩], some [], (Nat.blt x 18446744073709551616, true) :: (Nat.blt y 18446744073709551616, true) :: (rtW x y, false) :: [(o (cutC cells off len) len, true)]) := by kernel_rfl
theorem ptRun1 : ((run Tryz.prog EG (OPf o) 60).1 18 [.ssl 0 off len cap, .agg [.fl a, .fl b], .si .u64 u0] [⟨el, cells, .num⟩] (some [true, true])).map (fun q => (q.1, q.2.1.take 1, q.2.2)) =
    some (.tup [.i .i64 0, .b false, .b false, .i .i64 2], [⟨el, cells, .num⟩], some [], (decide (a.k < z64.k), true) :: (rt ⟨a, b⟩, true) :: [(o (cutC cells off len) len, true)]) := by kernel_rfl
theorem ptRun2 : ((run Tryz.prog EG (OPf o) 60).1 18 [.ssl 0 off len cap, .agg [.fl a, .fl b], .si .u64 u0] [⟨el, cells, .num⟩] (some [true, false, true])).map (fun q => (q.1, q.2.1.take 1, q.2.2)) =
    some (.tup [.i .i64 0, .b false, .b false, .i .i64 2], [⟨el, cells, .num⟩], some [], (decide (one64.k < b.k), true) :: (decide (a.k < z64.k), false) :: (rt ⟨a, b⟩, true) :: [(o (cutC cells off len) len, true)]) := by kernel_rfl
end
structure Nwd where
  g : List SV → Nat → Nat → Nat → Nat → Int → Int → Int → DwR
  o : List SV → Nat → Nat → Nat → Nat → Int → Int → Int → Obs
noncomputable def WdR : Nwd := ⟨fun cs len x y z u0 u1 u2 => bif rt3W x y z then dwF DwN cs len (toF x) (toF y) (toF z) u0 u1 u2 else dwZ 50,
  fun cs len x y z u0 u1 u2 => (decide (cs.length = len * 19), true) :: (okPg cs len, true) :: blw x :: blw y :: blw z :: (bif rt3W x y z then dwOb DwN cs len (toF x) (toF y) (toF z) u0 u1 u2 else [])⟩
def kDwT (D : Nwd) : RdF := fun cs len l ds => match l with
  | [.agg [.f x, .f y, .f z], .agg [a, b, c]] => match intS a, intS b, intS c with
    | some (.u64, u0), some (.u64, u1), some (.u64, u2) => some (dwSv (D.g cs len x y z u0 u1 u2), ds, D.o cs len x y z u0 u1 u2)
    | _, _, _ => none
  | _ => none
theorem oracleDt : OracleOk Tryz.prog (ODt okPg uwV uwE) := .cons rgtG.of (.cons unTG.of (.nil _))
theorem dwTG : RdOk Tryz.prog 17 (kDwT WdR) := by
  intro cs len l ds r ds' ob h ho
  unfold kDwT at h
  split at h
  · rename_i x y z a b c
    split at h
    · rename_i u0 u1 u2 e0 e1 e2
      simp only [Option.some.injEq, Prod.mk.injEq] at h
      obtain ⟨rfl, _, rfl⟩ := h
      have hargs : plains [.agg [.f x, .f y, .f z], .agg [a, b, c]] = some [.agg #[.float .f64 x, .float .f64 y, .float .f64 z], .agg #[.int .u64 u0, .int .u64 u1, .int .u64 u2]] :=
        plains_cons rfl (plains_cons (plain_agg (plains_cons (intS_plain e0) (plains_cons (intS_plain e1) (plains_cons (intS_plain e2) plains_nil)))) plains_nil)
      have ho' : ObsOk ((decide (cs.length = len * 19), true) :: (okPg cs len, true) :: blw x :: blw y :: blw z :: (bif rt3W x y z then dwOb DwN cs len (toF x) (toF y) (toF z) u0 u1 u2 else [])) := ho
      obtain ⟨h1, ho'⟩ := ob_hd ho'
      obtain ⟨h2, ho'⟩ := ob_hd ho'
      obtain ⟨hx, ho'⟩ := ob_hd ho'
      obtain ⟨hy, ho'⟩ := ob_hd ho'
      obtain ⟨hz, ho'⟩ := ob_hd ho'
      have hl : cs.length = len * 19 := of_decide_eq_true h1
      obtain ⟨vc, hc⟩ := (okPg_ok h2).pl
      have hE : WdR.g cs len x y z u0 u1 u2 = bif rt3W x y z then dwF DwN cs len (toF x) (toF y) (toF z) u0 u1 u2 else dwZ 50 := rfl
      rw [hE]
      cases g : rt3W x y z
      · rw [cond_false]
        refine ⟨vc, _, dwV (dwZ 50), hc, hargs, rfl, fun w q off cap hw => ?_⟩
        refine rd_of_runT goodG oracleDt 60 (l := [.agg [.f x, .f y, .f z], .agg [.si .u64 u0, .si .u64 u1, .si .u64 u2]]) (x := dwS 0 z3 zV (.i .i64 0) false (.i .i64 50)) hc rfl rfl (fun e cells off cap hca => ?_) w q off cap hw
        have hr := dtRun okPg uwV uwE e cells off len cap x y z u0 u1 u2
        rw [cut_at hca hl] at hr
        have he : uwE x y z = 50 := by unfold uwE un3W; rw [g]; rfl
        exact ⟨_, _, _, hr, ob_c (by rw [he]; rfl) (ob_c hx (ob_c hy (ob_c hz (ob_c h2 ob_n))))⟩
      · rw [cond_true]
        rw [g, cond_true] at ho'
        obtain ⟨p, q, s, rfl, rfl, rfl⟩ := rt3_of g
        rw [toF_F, toF_F, toF_F] at ho' ⊢
        obtain ⟨vc', vs, v, k1, k2, k3, k4⟩ := dwK cs len [.agg [.fl p, .fl q, .fl s], .agg [a, b, c]] none _ none _ (by unfold kDw; simp only [e0, e1, e2]; rfl) ho'
        exact ⟨vc', vs, v, k1, k2, k3, k4⟩
    · cases h
  · cases h
def kDwNilT : List SV → Dec → Option (SV × Dec × Obs)
  | [.o (.slice none 0 0), .agg [.f x, .f y, .f z], .agg [a, b, c]], ds => match intS a, intS b, intS c with
    | some (.u64, _), some (.u64, _), some (.u64, _) => some (dwS 0 z3 zV (.i .i64 0) false (.i .i64 210), ds, [])
    | _, _, _ => none
  | _, _ => none
theorem dwNilTG : PlainOk Tryz.prog 17 kDwNilT := by
  intro args ds x ds' ob h ho
  unfold kDwNilT at h
  split at h
  · rename_i x y z a b c
    split at h
    · rename_i u0 u1 u2 e0 e1 e2
      simp only [Option.some.injEq, Prod.mk.injEq] at h
      obtain ⟨rfl, _, rfl⟩ := h
      refine ⟨[.slice none 0 0, .agg #[.float .f64 x, .float .f64 y, .float .f64 z], .agg #[.int .u64 u0, .int .u64 u1, .int .u64 u2]], dwV (dwZ 210), ?_, rfl, fun w => ?_⟩
      · have ha := intS_plain e0; have hb := intS_plain e1; have hcc := intS_plain e2
        exact plains_cons rfl (plains_cons rfl (plains_cons (plain_agg (plains_cons ha (plains_cons hb (plains_cons hcc plains_nil)))) plains_nil))
      · exact calls_of_val goodG (.cons nilRG.of (.nil _)) 60 (dtNil x y z u0 u1 u2) ob_n rfl rfl w
    · cases h
  · cases h
def dwT_O (D : Nwd) : OF := eiO (plainO kDwNilT) (kRd 19 (kDwT D))
theorem dwTOG : OfOk Tryz.prog 17 (dwT_O WdR) := eiO_ok dwNilTG.of dwTG.of
structure Nwp where
  g : List SV → Nat → Nat → Nat → Int → PaR
  o : List SV → Nat → Nat → Nat → Int → Obs
def inC (x y : Nat) : Bool := !decide ((toF x).k < z64.k) && !decide (one64.k < (toF y).k)
noncomputable def WpR : Nwp := ⟨fun cs len x y u => bif rtW x y then bif inC x y then TpR.g ⟨toF x, toF y⟩ u cs len else ⟨0, false, false, 2⟩ else ⟨0, false, false, 20⟩,
  fun cs len x y u => (decide (cs.length = len * 19), true) :: (okPg cs len, true) :: blw x :: blw y :: (bif rtW x y && inC x y then [(TpR.b ⟨toF x, toF y⟩ cs len, true), (TpR.u u, true)] else [])⟩
def paSr (r : PaR) : SV := .tup [.si .i64 r.a, .b r.g, .b r.s, .si .i64 r.e]
def kPtT (T : Nwp) : RdF := fun cs len l ds => match l with
  | [.agg [.f x, .f y], b] => match intS b with
    | some (.u64, u) => some (paSr (T.g cs len x y u), ds, T.o cs len x y u)
    | _ => none
  | _ => none
theorem oraclePt_ : OracleOk Tryz.prog (OPt okPg) := .cons rgtG.of (.cons rightWG.of (.nil _))
theorem oraclePf_ : OracleOk Tryz.prog (OPf okPg) := .cons rgtG.of (.cons irtK.of (.nil _))
theorem ptTG : RdOk Tryz.prog 18 (kPtT WpR) := by
  intro cs len l ds r ds' ob h ho
  unfold kPtT at h
  split at h
  · rename_i x y b
    split at h
    · rename_i u e0
      simp only [Option.some.injEq, Prod.mk.injEq] at h
      obtain ⟨rfl, _, rfl⟩ := h
      have hargs : plains [.agg [.f x, .f y], b] = some [.agg #[.float .f64 x, .float .f64 y], .int .u64 u] := plains_cons rfl (plains_cons (intS_plain e0) plains_nil)
      have ho' : ObsOk ((decide (cs.length = len * 19), true) :: (okPg cs len, true) :: blw x :: blw y :: (bif rtW x y && inC x y then [(TpR.b ⟨toF x, toF y⟩ cs len, true), (TpR.u u, true)] else [])) := ho
      obtain ⟨h1, ho'⟩ := ob_hd ho'
      obtain ⟨h2, ho'⟩ := ob_hd ho'
      obtain ⟨hx, ho'⟩ := ob_hd ho'
      obtain ⟨hy, ho'⟩ := ob_hd ho'
      have hl : cs.length = len * 19 := of_decide_eq_true h1
      obtain ⟨vc, hc⟩ := (okPg_ok h2).pl
      have hE : WpR.g cs len x y u = bif rtW x y then bif inC x y then TpR.g ⟨toF x, toF y⟩ u cs len else ⟨0, false, false, 2⟩ else ⟨0, false, false, 20⟩ := rfl
      rw [hE]
      cases g : rtW x y
      · rw [cond_false]
        refine ⟨vc, _, paV ⟨0, false, false, 20⟩, hc, hargs, rfl, fun w q off cap hw => ?_⟩
        refine rd_of_runT goodG oraclePt_ 60 (l := [.agg [.f x, .f y], .si .u64 u]) (x := .tup [.i .i64 0, .b false, .b false, .i .i64 20]) hc rfl rfl (fun e cells off cap hca => ?_) w q off cap hw
        have hr := ptRun0 okPg e cells off len cap x y u
        rw [cut_at hca hl] at hr
        exact ⟨_, _, _, hr, ob_c hx (ob_c hy (ob_c g (ob_c h2 ob_n)))⟩
      · rw [cond_true]
        rw [g, Bool.true_and] at ho'
        unfold rtW at g
        rw [Bool.and_eq_true, Bool.and_eq_true] at g
        obtain ⟨ga, gb, gc⟩ := g
        obtain ⟨p, rfl⟩ := F_of_right ga
        obtain ⟨s, rfl⟩ := F_of_right gb
        rw [toF_F, toF_F] at gc
        unfold inC at ho' ⊢
        rw [toF_F, toF_F] at ho' ⊢
        have hrt : rt ⟨p, s⟩ = true := gc
        cases k1 : decide (p.k < z64.k)
        · cases k2 : decide (one64.k < s.k)
          · rw [k1, k2] at ho'
            simp only [Bool.not_false, Bool.and_self, cond_true] at ho' ⊢
            obtain ⟨h3, ho'⟩ := ob_hd ho'
            obtain ⟨h4, _⟩ := ob_hd ho'
            obtain ⟨vc', vs, v, m1, m2, m3, m4⟩ := ptK_ cs len [.agg [.fl p, .fl s], b] none _ none _ (by unfold kPt_; simp only [e0]; rfl) (ob_a (ob_c h1 (ob_c h2 (ob_c h3 (ob_c h4 (ob_c k2 (ob_c k1 (ob_c hrt ob_n))))))) ob_n)
            exact ⟨vc', vs, v, m1, m2, m3, m4⟩
          · simp only [Bool.not_false, Bool.not_true, Bool.and_false, cond_false]
            refine ⟨vc, _, paV ⟨0, false, false, 2⟩, hc, hargs, rfl, fun w q off cap hw => ?_⟩
            refine rd_of_runT goodG oraclePf_ 60 (l := [.agg [.fl p, .fl s], .si .u64 u]) (x := .tup [.i .i64 0, .b false, .b false, .i .i64 2]) hc rfl rfl (fun e cells off cap hca => ?_) w q off cap hw
            have hr := ptRun2 okPg e cells off len cap p s u
            rw [cut_at hca hl] at hr
            exact ⟨_, _, _, hr, ob_c k2 (ob_c k1 (ob_c hrt (ob_c h2 ob_n)))⟩
        · simp only [Bool.not_true, Bool.false_and, cond_false]
          refine ⟨vc, _, paV ⟨0, false, false, 2⟩, hc, hargs, rfl, fun w q off cap hw => ?_⟩
          refine rd_of_runT goodG oraclePf_ 60 (l := [.agg [.fl p, .fl s], .si .u64 u]) (x := .tup [.i .i64 0, .b false, .b false, .i .i64 2]) hc rfl rfl (fun e cells off cap hca => ?_) w q off cap hw
          have hr := ptRun1 okPg e cells off len cap p s u
          rw [cut_at hca hl] at hr
          exact ⟨_, _, _, hr, ob_c k1 (ob_c hrt (ob_c h2 ob_n))⟩
    · cases h
  · cases h
def kPtNilT : List SV → Dec → Option (SV × Dec × Obs)
  | [.o (.slice none 0 0), .agg [.f x, .f y], a], ds => match intS a with
    | some (.u64, _) => some (.tup [.i .i64 0, .b false, .b false, .i .i64 210], ds, [])
    | _ => none
  | _, _ => none
theorem ptNilTG : PlainOk Tryz.prog 18 kPtNilT := by
  intro args ds x ds' ob h ho
  unfold kPtNilT at h
  split at h
  · rename_i x y a
    split at h
    · rename_i u0 e0
      simp only [Option.some.injEq, Prod.mk.injEq] at h
      obtain ⟨rfl, _, rfl⟩ := h
      refine ⟨[.slice none 0 0, .agg #[.float .f64 x, .float .f64 y], .int .u64 u0], paV ⟨0, false, false, 210⟩, ?_, rfl, fun w => ?_⟩
      · exact plains_cons rfl (plains_cons rfl (plains_cons (intS_plain e0) plains_nil))
      · exact calls_of_val goodG (.cons nilRG.of (.nil _)) 60 (ptNil x y u0) ob_n rfl rfl w
    · cases h
  · cases h
def ptT_O (T : Nwp) : OF := eiO (plainO kPtNilT) (kRd 19 (kPtT T))
theorem ptTOG : OfOk Tryz.prog 18 (ptT_O WpR) := eiO_ok ptNilTG.of ptTG.of
end Go.Proofs.YthclipfgcgoofaaGreat
namespace Bu
set_option linter.all false
open Rx Go
theorem CellsAt.left {a b cs : List SV} {off : Nat} (h : CellsAt a off cs) : CellsAt (a ++ b) off cs := fun j x hx => by
  have := h j x hx
  rw [List.getElem?_append_left (List.getElem?_eq_some_iff.1 this).1]; exact this
theorem CellsAt.right (a b : List SV) : CellsAt (a ++ b) a.length b := fun j x hx => by
  rw [List.getElem?_append_right (by omega), show a.length + j - a.length = j by omega]; exact hx
theorem nd_of {cells cs : List SV} {off : Nat} (h : CellsAt cells off cs) (hk : ckAll cs 0 ndCK = true) : ckAll cells off ndCK = true ∧ ndR cells off = ndR cs 0 := by
  obtain ⟨a, b⟩ := at_row h hk
  rw [Nat.add_zero] at a b
  refine ⟨b, ?_⟩
  have e := nd_row cells off
  rw [a, nd_row cs 0] at e
  exact (Option.some.inj e).symm
end Bu
namespace Go.Proofs.YthclipfgcgoofaaGreat
set_option linter.all false
open Go.RowKit Bu Rx
def rowP (N : Npr) (U : Nat → U8) : Nat → List SV
  | 0 => nzC (N.k (U 0)) (N.f (U 0))
  | j + 1 => rowN N (U (j + 1)) (j + 1)
theorem prgC_row (N : Npr) (U : Nat → U8) : ∀ {k j : Nat}, j ≤ k → CellsAt (prgC N U k) (j * 19) (rowP N U j)
  | 0, j, h => by
    obtain rfl : j = 0 := by omega
    intro i x hx
    rw [Nat.zero_mul, Nat.zero_add]; exact hx
  | k + 1, j, h => by
    rcases Nat.lt_or_ge j (k + 1) with h1 | h1
    · exact CellsAt.left (prgC_row N U (k := k) (j := j) (by omega))
    · obtain rfl : j = k + 1 := by omega
      have := CellsAt.right (prgC N U k) (rowN N (U (k + 1)) (k + 1))
      rw [prgC_len] at this
      exact this
theorem rowP_ck (N : Npr) (U : Nat → U8) : ∀ j, ckAll (rowP N U j) 0 ndCK = true
  | 0 => rfl
  | j + 1 => by
    show ckAll (rowN N (U (j + 1)) (j + 1)) 0 ndCK = true
    unfold rowN
    cases decide (prT (U (j + 1)) = 0)
    · cases decide (prT (U (j + 1)) = 1) || decide (prT (U (j + 1)) = 2) <;> rfl
    · rfl
theorem rowP_pl (N : Npr) (U : Nat → U8) : ∀ j, ∃ vs, plains (rowP N U j) = some vs
  | 0 => ⟨_, rfl⟩
  | j + 1 => by
    show ∃ vs, plains (rowN N (U (j + 1)) (j + 1)) = some vs
    unfold rowN
    cases decide (prT (U (j + 1)) = 0)
    · cases decide (prT (U (j + 1)) = 1) || decide (prT (U (j + 1)) = 2) <;> exact ⟨_, rfl⟩
    · exact ⟨_, rfl⟩
theorem prgC_pl (N : Npr) (U : Nat → U8) : ∀ k, ∃ vs, plains (prgC N U k) = some vs
  | 0 => rowP_pl N U 0
  | k + 1 => by
    obtain ⟨a, ha⟩ := prgC_pl N U k
    obtain ⟨b, hb⟩ := rowP_pl N U (k + 1)
    exact ⟨a ++ b, plains_app ha hb⟩
theorem tmod_in {a : Int} {n : Nat} (ha : 0 ≤ a) (h1 : 1 ≤ n) (h8 : n ≤ 8) : 0 ≤ IntKind.i64.wrap (a.tmod (IntKind.u32.wrap (n : Int))) ∧ IntKind.i64.wrap (a.tmod (IntKind.u32.wrap (n : Int))) < n := by
  rw [u32_small h8, Int.tmod_eq_emod_of_nonneg ha, IntKind.wrap_i64]
  have h2 := Int.emod_nonneg a (show (n : Int) ≠ 0 by omega)
  have h3 := Int.emod_lt_of_pos a (show 0 < (n : Int) by omega)
  omega
theorem w32_nn {n : Int} (h : wN32 n = true) : 0 ≤ n := (of_decide_eq_true h).1
theorem nd_co (n t0 t1 t2 : F) (a : Int) : ndR (coC n t0 t1 t2 a) 0 = ⟨6, ndM z64 z64 z64 t0 t1 t2 z64 z64 z64 z64 z64 z64 z64 z64 n z64, a, 0⟩ := by kernel_rfl
theorem nd_mx (w : F) (a b : Int) : ndR (mxC w a b) 0 = ⟨5, ndM z64 z64 z64 z64 z64 z64 z64 z64 z64 z64 z64 z64 z64 z64 z64 w, a, b⟩ := by kernel_rfl
theorem nd_lf (u : U8) : ndR (nzC (leK u) (leF bwF u)) 0 = leNd u := by kernel_rfl
theorem okNd_row {u : U8} {n : Nat} (hu : prgB NprR u = true) (h1 : 1 ≤ n) (h8 : n ≤ 8) : okNd (ndR (rowN NprR u n) 0) n = true := by
  unfold prgB at hu
  simp only [Bool.and_eq_true] at hu
  obtain ⟨o, w3, w4, w5, w6⟩ := hu
  have ok : u.ok = true := o
  unfold U8.ok at ok
  simp only [Bool.and_eq_true] at ok
  obtain ⟨_, a1, a2, _⟩ := ok
  have m1 := tmod_in (w32_nn a1) h1 h8
  have m2 := tmod_in (w32_nn a2) h1 h8
  unfold rowN
  cases decide (prT u = 0)
  · cases decide (prT u = 1) || decide (prT u = 2)
    · show okNd (ndR (coC (bwF minIo four64 u.a3) (frT u.a4) (frT u.a5) (frT u.a6) (prA u n)) 0) n = true
      rw [nd_co]
      exact okNd_6 (bw_rn rk_le.2.2.1) (fr_rn w4) (fr_rn w5) (fr_rn w6) m1.1 m1.2
    · show okNd (ndR (mxC (frT u.a3) (prA u n) (prB u n)) 0) n = true
      rw [nd_mx]
      exact okNd_5 (fr_rn w3) m1.1 m1.2 m2.1 m2.2
  · show okNd (ndR (nzC (leK u) (leF bwF u)) 0) n = true
    rw [nd_lf]
    exact okNd_le u n
theorem okPg_prg {U : Nat → U8} {k : Nat} (hk : k ≤ 8) (hU : ∀ j, j ≤ k → prgB NprR (U j) = true) : okPg (prgC NprR U k) (k + 1) = true := by
  obtain ⟨vs, hv⟩ := prgC_pl NprR U k
  refine okPg_mk (by rw [hv]; rfl) (by omega) (by omega) fun i hi => ?_
  obtain ⟨c1, c2⟩ := nd_of (prgC_row NprR U (k := k) (j := i) (by omega)) (rowP_ck NprR U i)
  refine okAt_n c1 c2 ?_
  cases i with
  | zero =>
    show okNd (ndR (nzC (leK (U 0)) (leF bwF (U 0))) 0) _ = true
    rw [nd_lf]
    exact okNd_le _ _
  | succ i => exact okNd_row (hU (i + 1) (by omega)) (by omega) (by omega)
theorem u8Z_B : prgB NprR u8Z = true := by decide +kernel
theorem prog_ok {cs : List SV} {len : Nat} (h : prInB NprR cs len = true) : okPg (prgC NprR (prU cs len) (prK len)) (prK len + 1) = true ∧ prK len ≤ 7 := by
  have K := prInB_ok h
  have h7 : prK len ≤ 7 := by
    rcases Nat.eq_zero_or_pos len with h0 | h0
    · subst h0; rw [prK_0]; omega
    · have := (prK_s h0).1; omega
  refine ⟨okPg_prg (by omega) fun j hj => ?_, h7⟩
  unfold prU
  cases len with
  | zero => exact u8Z_B
  | succ n =>
    have := (prK_s (len := n + 1) (by omega)).1
    exact K.ok j (by omega) (by omega)
structure Nee where
  o : List SV → Nat → Bool
  g : V3 → V3 → List SV → Nat → Nat → Ch
  b : V3 → V3 → List SV → Nat → Bool
section
variable (E : Nee) (un : F → F → F → V3) (ub : F → F → F → Bool) (e : TypeId) (cells : List SV) (off len cap : Nat) (x y z r s t : F)
end
end Go.Proofs.YthclipfgcgoofaaGreat
