/- dens.all, dens.Chance with errors: the known functions. dens.Chance with errors, a known .. -/
import Derived.Test.YtejcekikbnlllaaGreatT12
import Derived.Test.YtejcekikbnlllaaGreatT11
set_option linter.all false
namespace Go.Proofs.YtejcekikbnlllaaGreat
open Go.RowKit Bu Rx
theorem loop2r {P:Program} {body:Code} {id:Nat} {Φ:St → Prop} (S:Nat → (Nat → SV) → List SV → St) (I:Nat → List SV → Prop) (n:Nat) (hr:∀ i x y,i < n → I i y → RunsP P body (S i x y) .normal (fun t => ∃ x' y',I (i + 1) y' ∧ t = S (i + 1) x' y'))
  (he:∀ x y,I n y → RunsP P body (S n x y) .ret Φ) (x:Nat → SV) (y:List SV) (h0:I 0 y):RunsP P (.block id (.loop body)) (S 0 x y) .ret Φ :=
 loop_ret (fun i (p:(Nat → SV) × List SV) => S i p.1 p.2) (fun i p => I i p.2) n (fun i p hi h => (hr i p.1 p.2 hi h).mono fun t ⟨x',y',h1,h2⟩ => ⟨(x',y'),h1,h2⟩) (fun p h => he p.1 p.2 h) (x,y) h0
def nodE (N:Nde) (cos:I) (lf:Nd → I × Int) (l:Nat → Ch) (n:Nd):Int :=
 bif decide (n.k = 6) then (bif decide ((N.D cos ⟨n.f 14,n.f 14⟩).2 = 0) then (nodC N cos lf l n).2 else (N.D cos ⟨n.f 14,n.f 14⟩).2) else (nodC N cos lf l n).2
def nodP (N:Nde) (cos:I) (lo:Nd → Obs) (n:Nd):Bool := bif decide (n.k = 5) then true else bif decide (n.k = 6) then Bu.obsB (N.dO cos ⟨n.f 14,n.f 14⟩) else Bu.obsB (lo n)
def daL (N:Nde) (cos:I) (lf:Nd → I × Int) (cs:List SV) (i:Nat):Nat → Ch := fun j => (chL (allF N cos lf cs) i).getD j Ch.zero
def daF (N:Nde) (cos:I) (lf:Nd → I × Int) (cs:List SV) (i:Nat):Int := nodE N cos lf (daL N cos lf cs i) (ndR cs (i * 19))
def daE (N:Nde) (cos:I) (lf:Nd → I × Int) (cs:List SV):Nat → Int
 | 0 => 0
 | i + 1 => bif decide (daE N cos lf cs i = 0) then daF N cos lf cs i else daE N cos lf cs i
def daPs (N:Nde) (cos:I) (lo:Nd → Obs) (cs:List SV) (len:Nat):Bool := (List.range len).all fun i => nodP N cos lo (ndR cs (i * 19))
theorem daPs_at {N:Nde} {cos:I} {lo:Nd → Obs} {cs:List SV} {len:Nat} (h:daPs N cos lo cs len = true) {i:Nat} (hi:i < len):nodP N cos lo (ndR cs (i * 19)) = true := List.all_eq_true.1 h i (List.mem_range.2 hi)
theorem nodB_of {N:Nde} {cos:I} {lf:Nd → I × Int} {lo:Nd → Obs} {l:Nat → Ch} {n:Nd} (h:nodE N cos lf l n = 0) (p:nodP N cos lo n = true):nodB N cos lf lo l n = true := by
 unfold nodE at h
 unfold nodP at p
 unfold nodB
 by_cases h5:n.k = 5
 ·rw [decide_eq_false (show n.k ≠ 6 by omega),cond_false] at h
  rw [decide_eq_true h5,cond_true,decide_eq_true h]; rfl
 ·rw [decide_eq_false h5,cond_false] at p
  by_cases h6:n.k = 6
  ·rw [decide_eq_true h6,cond_true] at h p
   by_cases d:(N.D cos ⟨n.f 14,n.f 14⟩).2 = 0
   ·rw [decide_eq_true d,cond_true] at h
    rw [decide_eq_false h5,decide_eq_true h6,cond_false,cond_true,p,decide_eq_true d,decide_eq_true h]; rfl
   ·rw [decide_eq_false d,cond_false] at h; exact absurd h d
  ·rw [decide_eq_false h6,cond_false] at h p
   rw [decide_eq_false h5,decide_eq_false h6,cond_false,cond_false,p,decide_eq_true h]; rfl
theorem daE_0 {N:Nde} {cos:I} {lf:Nd → I × Int} {cs:List SV}:∀ {j:Nat},daE N cos lf cs j = 0 → ∀ i,i < j → daF N cos lf cs i = 0
 | 0,_,i,hi => by omega
 | j + 1, h, i, hi => by
   have e:daE N cos lf cs (j + 1) = bif decide (daE N cos lf cs j = 0) then daF N cos lf cs j else daE N cos lf cs j := rfl
   rw [e] at h
   by_cases hj:daE N cos lf cs j = 0
   ·rw [decide_eq_true hj,cond_true] at h
    rcases Nat.lt_or_ge i j with h1 | h1
    ·exact daE_0 hj i h1
    ·have:i = j := by omega
     subst this; exact h
   ·rw [decide_eq_false hj,cond_false] at h; exact absurd h hj
theorem daE_n {N:Nde} {cos:I} {lf:Nd → I × Int} {cs:List SV}:∀ {j:Nat},daE N cos lf cs j ≠ 0 → ∃ i,i < j ∧ (∀ k,k < i → daF N cos lf cs k = 0) ∧ daF N cos lf cs i ≠ 0 ∧ daE N cos lf cs j = daF N cos lf cs i
 | 0,h => absurd rfl h
 | j + 1, h => by
   have e:daE N cos lf cs (j + 1) = bif decide (daE N cos lf cs j = 0) then daF N cos lf cs j else daE N cos lf cs j := rfl
   rw [e] at h ⊢
   by_cases hj:daE N cos lf cs j = 0
   ·rw [decide_eq_true hj,cond_true] at h ⊢
    exact ⟨j,Nat.lt_succ_self j,daE_0 hj,h,rfl⟩
   ·rw [decide_eq_false hj,cond_false]
    obtain ⟨i,h1,h2,h3,h4⟩ := daE_n hj
    exact ⟨i,Nat.lt_succ_of_lt h1,h2,h3,h4⟩
theorem daB_of {N:Nde} {cos:I} {lf:Nd → I × Int} {lo:Nd → Obs} {cs:List SV} {len:Nat} (hP:daPs N cos lo cs len = true) (h:daE N cos lf cs len = 0):allB N cos lf lo cs len = true :=
 List.all_eq_true.2 fun i hi => nodB_of (daE_0 h i (List.mem_range.1 hi)) (daPs_at hP (List.mem_range.1 hi))
def RetD (e:TypeId) (cells:List SV) (v u:V3) (er:Int) (t:St):Prop := resultS Tryz.prog Tryz.f68 t = some (.tup [zCs,.si .i64 er]) ∧ ∃ more,t.M = preA e cells v u ++ more
theorem daRound {N:Nde} (hO:OracleOk Tryz.prog (OD N)) {e:TypeId} {cs cells lc:List SV} {v u:V3} {off len cap i:Nat} {cos:I} {x:Nat → SV} (K:OkPg cs len) (hca:CellsAt cells off cs)
  (hP:daPs N cos (lfRo N.go v u) cs len = true) (hi:i < len) (hE:daF N cos (lfR N.g v u) cs i ≠ 0) (hl:ChRow (chF (allF N cos (lfR N.g v u) cs)) len i lc) :
  RunsP Tryz.prog aBd (aS (preA e cells v u) 3 off len cap cos lfA (.si .i64 (i:Int)) x lc none) .ret (RetD e cells v u (daF N cos (lfR N.g v u) cs i)) := by
 have p := daPs_at hP hi
 obtain ⟨_,hR⟩ := K.at hca hi
 have hnd := K.nd i hi
 have hH := hd_ok K hca hi
 have hg:∀ {a:Int},0 ≤ a → a < i → daL N cos (lfR N.g v u) cs i a.toNat = chAt lc (0 + a.toNat * 4) := fun h0 h1 => by
  rw [(hl.at h0 h1).1]; exact chL_get _ (by omega)
 have fin:∀ {d:List Bool} {er:Int} {ob:Obs},er = daF N cos (lfR N.g v u) cs i → Lands Tryz.prog EG (OD N) 60 aBd (aS (preA e cells v u) 3 off len cap cos lfA (.si .i64 (i:Int)) x lc (some d)) .ret → (aA N e cells lc v u off len cap cos (i:Int) x d).ob = ob → ObsOk ob →
   resultS Tryz.prog Tryz.f68 (aA N e cells lc v u off len cap cos (i:Int) x d) = some (.tup [zCs,.si .i64 er]) → (aA N e cells lc v u off len cap cos (i:Int) x d).M = preA e cells v u ++ (aA N e cells lc v u off len cap cos (i:Int) x d).M.drop 3 →
   RunsP Tryz.prog aBd (aS (preA e cells v u) 3 off len cap cos lfA (.si .i64 (i:Int)) x lc none) .ret (RetD e cells v u (daF N cos (lfR N.g v u) cs i)) := fun {d er ob} he hL hb ho hr hM => by
  subst he
  exact RunsP.re (d := some d) (o := []) (Lands.all goodG hO hL (hb ▸ ho) ⟨hr,_,hM⟩)
 have hF:daF N cos (lfR N.g v u) cs i = nodE N cos (lfR N.g v u) (daL N cos (lfR N.g v u) cs i) (ndR cs (i * 19)) := rfl
 have hE' := hE
 rw [hF] at hE'
 have hR':ndR cells (off + ((i:Nat):Int).toNat * 19) = ndR cs (i * 19) := by rw [Int.toNat_natCast]; exact hR
 generalize ndR cs (i * 19) = n at hnd p hF hE' hR'
 unfold nodE at hF hE'
 unfold nodP at p
 by_cases h5:n.k = 5
 ·obtain ⟨⟨a0,a1⟩,b0,b1⟩ := okNd_mix hnd h5
  rw [decide_eq_false (show n.k ≠ 6 by omega),cond_false] at hF hE'
  have ev:(mixC N.K (n.f 15) (chsAt lc n.a.toNat) (chsAt lc n.b.toNat)).2 = (nodC N cos (lfR N.g v u) (daL N cos (lfR N.g v u) cs i) n).2 := by
   unfold nodC chsAt
   rw [decide_eq_true h5,cond_true,hg a0 a1,hg b0 b1]
  rw [← ev] at hF hE'
  obtain ⟨_,ca,ia⟩ := hl.at a0 a1
  obtain ⟨_,cb,ib⟩ := hl.at b0 b1
  refine fin (by rw [hF,hR']) (daL_m N e cells lc v u off len cap cos (i:Int) x) (daO_m N e cells lc v u off len cap cos (i:Int) x) ?_ (daR_m N e cells lc v u off len cap cos (i:Int) x) (daM_m N e cells lc v u off len cap cos (i:Int) x)
  rw [hR']
  exact ob_a (ob_c (by simpa using hE') (ob_c cb (ob_c (ix_of b0 (by omega)) (ob_c ca (ob_c (ix_of a0 (by omega)) (ob_c (decide_eq_true h5) ob_n)))))) hH
 ·rw [decide_eq_false h5,cond_false] at p
  by_cases h6:n.k = 6
  ·obtain ⟨a0,a1⟩ := okNd_coat hnd h6
   rw [decide_eq_true h6,cond_true] at hF hE' p
   have pO := Bu.obsB_ok p
   have oT:ObsOk ((N.dO cos ⟨n.f 14,n.f 14⟩ ++ [(decide (n.k = 6),true),(decide (n.k = 5),false)]) ++ aHdO cells off len (i:Int)) := ob_a (ob_a pO (ob_c (decide_eq_true h6) (ob_c (decide_eq_false h5) ob_n))) hH
   by_cases d:(N.D cos ⟨n.f 14,n.f 14⟩).2 = 0
   ·rw [decide_eq_true d,cond_true] at hF hE'
    have ev:(coatC N.K (N.D cos ⟨n.f 14,n.f 14⟩).1 (chsAt lc n.a.toNat)).2 = (nodC N cos (lfR N.g v u) (daL N cos (lfR N.g v u) cs i) n).2 := by
     unfold nodC chsAt
     rw [decide_eq_false h5,decide_eq_true h6,cond_false,cond_true,hg a0 a1]
    rw [← ev] at hF hE'
    obtain ⟨_,_,p2,p3⟩ := hl.at a0 a1
    refine fin (by rw [hF,hR']) (daL_c N e cells lc v u off len cap cos (i:Int) x) (daO_c N e cells lc v u off len cap cos (i:Int) x) ?_ (daR_c N e cells lc v u off len cap cos (i:Int) x) (daM_c N e cells lc v u off len cap cos (i:Int) x)
    rw [hR']
    exact ob_a (ob_c (by simpa using hE') (ob_c p3 (ob_c (ix_of a0 (by omega)) (ob_c p2 (ob_c (ix_of a0 (by omega)) (ob_c (ne_0 d) ob_n)))))) oT
   ·rw [decide_eq_false d,cond_false] at hF
    refine fin (by rw [hF,hR']) (daL_d N e cells lc v u off len cap cos (i:Int) x) (daO_d N e cells lc v u off len cap cos (i:Int) x) ?_ (daR_d N e cells lc v u off len cap cos (i:Int) x) (daM_d N e cells lc v u off len cap cos (i:Int) x)
    rw [hR']
    exact ob_c (by simpa using d) (ob_c (by simpa using d) oT)
  ·rw [decide_eq_false h6,cond_false] at hF hE' p
   have ev:(lfR N.g v u n).2 = (nodC N cos (lfR N.g v u) (daL N cos (lfR N.g v u) cs i) n).2 := by
    unfold nodC
    rw [decide_eq_false h5,decide_eq_false h6,cond_false,cond_false]
   rw [← ev] at hF hE'
   refine fin (by rw [hF,hR']) (daL_l N e cells lc v u off len cap cos (i:Int) x) (daO_l N e cells lc v u off len cap cos (i:Int) x) ?_ (daR_l N e cells lc v u off len cap cos (i:Int) x) (daM_l N e cells lc v u off len cap cos (i:Int) x)
   rw [hR']
   exact ob_a (ob_c (by simpa using hE') ob_n) (ob_a (ob_a (ob_a (Bu.obsB_ok p) ob_n) (ob_c (decide_eq_false h6) (ob_c (decide_eq_false h5) ob_n))) hH)
theorem daAll {N:Nde} (hO:OracleOk Tryz.prog (OD N)) {e:TypeId} {cs cells:List SV} {v u:V3} {off len cap:Nat} {cos:I} (K:OkPg cs len) (hca:CellsAt cells off cs) (hid:idsLts 0 cells = true)
  (hP:daPs N cos (lfRo N.go v u) cs len = true) (hE:daE N cos (lfR N.g v u) cs len ≠ 0) :
  RunsP Tryz.prog aC (en0 (preA e cells v u) off len cap cos lfA) .ret (RetD e cells v u (daE N cos (lfR N.g v u) cs len)) := by
 have hmk:(mkC 32 len len && decide ((len:Int) ≤ 9223372036854775807)) = true := by
  have := K.hi
  unfold mkC; simp; omega
 obtain ⟨n,h1,h2,h3,h4⟩ := daE_n hE
 rw [h4]
 rw [aC_cut]
 refine Lands.seq goodG hO (enA0 N e cells v u off len cap cos) (by rw [enA0o]; exact obs_nil) ?_
 refine Lands.seq goodG hO (enA1 N e cells v u off len cap cos) (by rw [enA1o]; exact ob_c hmk obs_nil) ?_
 refine RunsP.seq_ret (Lands.seq goodG hO (enA2 N e cells v u off len cap cos) (by rw [enA2o]; exact ob_c hmk obs_nil) ?_)
 have hs:SameSt (aS (preA e cells v u) 3 off len cap cos lfA (.si .i64 ((0:Nat):Int)) (xA N e cells v u off len cap cos) (lc0 len) none) (sA2 N e cells v u off len cap cos) := by
  refine same_T (fun m => ?_) ?_
  ·rw [enA2T]; simp only [aS,aT,dens,den,Int.natCast_zero]
  ·rw [enA2M]; rfl
 refine RunsP.retell hs ?_
 refine loop2r (fun (i:Nat) (x:Nat → SV) (y:List SV) => aS (preA e cells v u) 3 off len cap cos lfA (.si .i64 (i:Int)) x y none) (fun i y => ChRow (chF (allF N cos (lfR N.g v u) cs)) len i y) n ?_ ?_ _ _ (lc0_row _ len)
 ·intro i x lc hi hl
  exact roundA1 hO K hca hid (nodB_of (h2 i hi) (daPs_at hP (by omega))) (by omega) hl
 ·intro x lc hl
  exact daRound hO K hca hP h1 h3 hl
def daC (N:Nde) (cos:I) (lf:Nd → I × Int) (cs:List SV) (len:Nat):Ch := bif decide (daE N cos lf cs len = 0) then chP N cos lf cs len else ⟨⟨toF 0,toF 0⟩,⟨toF 0,toF 0⟩⟩
def kAlE (N:Nde):RdsF := fun cs len l rest ds => match l,rest with
 | [.agg [.fl a, .fl b], .fn (.func 152) [] [.p 1 0, .p 2 0]], [⟨35, [.fl x0, .fl x1, .fl x2, .fl x3, .fl x4, .fl x5], .ex⟩, ⟨35, [.fl y0, .fl y1, .fl y2, .fl y3, .fl y4, .fl y5], .ex⟩] =>
   some (.tup [(daC N ⟨a,b⟩ (lfR N.g ⟨⟨x0,x1⟩,⟨x2,x3⟩,⟨x4,x5⟩⟩ ⟨⟨y0,y1⟩,⟨y2,y3⟩,⟨y4,y5⟩⟩) cs len).sv,.si .i64 (daE N ⟨a,b⟩ (lfR N.g ⟨⟨x0,x1⟩,⟨x2,x3⟩,⟨x4,x5⟩⟩ ⟨⟨y0,y1⟩,⟨y2,y3⟩,⟨y4,y5⟩⟩) cs len)],ds,
    [(okPg cs len,true),(daPs N ⟨a,b⟩ (lfRo N.go ⟨⟨x0,x1⟩,⟨x2,x3⟩,⟨x4,x5⟩⟩ ⟨⟨y0,y1⟩,⟨y2,y3⟩,⟨y4,y5⟩⟩) cs len,true)])
 | _,_ => none
theorem chE_plain (c:Ch) (e:Int):plain (.tup [c.sv,.si .i64 e]) = some (.tuple #[chV c,.int .i64 e]) := rfl
theorem alEK {N:Nde} (hO:OracleOk Tryz.prog (OD N)):RdsOk Tryz.prog 68 (kAlE N) := by
 intro cs len l rest ds x ds' ob h ho
 unfold kAlE at h
 split at h
 ·rename_i a b x0 x1 x2 x3 x4 x5 y0 y1 y2 y3 y4 y5
  simp only [Option.some.injEq,Prod.mk.injEq] at h
  obtain ⟨rfl,_,rfl⟩ := h
  have K := okPg_ok (ho _ (List.mem_cons_self ..))
  have hP:daPs N ⟨a,b⟩ (lfRo N.go ⟨⟨x0,x1⟩,⟨x2,x3⟩,⟨x4,x5⟩⟩ ⟨⟨y0,y1⟩,⟨y2,y3⟩,⟨y4,y5⟩⟩) cs len = true := ho _ (List.mem_cons_of_mem _ (List.mem_cons_self ..))
  refine ⟨K.pl,_,chE_plain _ _,fun m w e cells off cap vs hM hca hid hd => ?_⟩
  have hx:∀ b ∈ [(⟨35,[.fl x0,.fl x1,.fl x2,.fl x3,.fl x4,.fl x5],.ex⟩:Blk),⟨35,[.fl y0,.fl y1,.fl y2,.fl y3,.fl y4,.fl y5],.ex⟩],b.exact = true := fun b hb => by
   simp only [List.mem_cons,List.not_mem_nil,or_false] at hb
   rcases hb with rfl | rfl <;> rfl
  by_cases hE:daE N ⟨a,b⟩ (lfR N.g ⟨⟨x0,x1⟩,⟨x2,x3⟩,⟨x4,x5⟩⟩ ⟨⟨y0,y1⟩,⟨y2,y3⟩,⟨y4,y5⟩⟩) cs len = 0
  ·have e2:daC N ⟨a,b⟩ (lfR N.g ⟨⟨x0,x1⟩,⟨x2,x3⟩,⟨x4,x5⟩⟩ ⟨⟨y0,y1⟩,⟨y2,y3⟩,⟨y4,y5⟩⟩) cs len = chP N ⟨a,b⟩ (lfR N.g ⟨⟨x0,x1⟩,⟨x2,x3⟩,⟨x4,x5⟩⟩ ⟨⟨y0,y1⟩,⟨y2,y3⟩,⟨y4,y5⟩⟩) cs len := by
    unfold daC; rw [decide_eq_true hE,cond_true]
   rw [hE,e2]
   refine rds_of_runs (d := none) Tryz.func68 aBody (ch_plain _) hx ?_ hM hd
   rw [aNt]
   exact allA (v := ⟨⟨x0,x1⟩,⟨x2,x3⟩,⟨x4,x5⟩⟩) (u := ⟨⟨y0,y1⟩,⟨y2,y3⟩,⟨y4,y5⟩⟩) (cos := ⟨a,b⟩) hO K hca hid (daB_of hP hE)
  ·have e2:daC N ⟨a,b⟩ (lfR N.g ⟨⟨x0,x1⟩,⟨x2,x3⟩,⟨x4,x5⟩⟩ ⟨⟨y0,y1⟩,⟨y2,y3⟩,⟨y4,y5⟩⟩) cs len = ⟨⟨toF 0,toF 0⟩,⟨toF 0,toF 0⟩⟩ := by
    unfold daC; rw [decide_eq_false hE,cond_false]
   rw [e2]
   refine rds_of_runs (d := none) Tryz.func68 aBody (x := .tup [zCs,.si .i64 (daE N ⟨a,b⟩ (lfR N.g ⟨⟨x0,x1⟩,⟨x2,x3⟩,⟨x4,x5⟩⟩ ⟨⟨y0,y1⟩,⟨y2,y3⟩,⟨y4,y5⟩⟩) cs len)]) rfl hx ?_ hM hd
   rw [aNt]
   exact daAll (v := ⟨⟨x0,x1⟩,⟨x2,x3⟩,⟨x4,x5⟩⟩) (u := ⟨⟨y0,y1⟩,⟨y2,y3⟩,⟨y4,y5⟩⟩) (cos := ⟨a,b⟩) hO K hca hid hP hE
 ·cases h
end Go.Proofs.YtejcekikbnlllaaGreat
namespace Bu
open Rx Go
structure Nce where
 o:List SV → Nat → Bool
 g:I → V3 → V3 → List SV → Nat → Ch
 e:I → V3 → V3 → List SV → Nat → Int
 b:I → V3 → V3 → List SV → Nat → Bool
end Bu
namespace Go.Proofs.YtejcekikbnlllaaGreat
open Go.RowKit Bu Rx
def kAl3 (D:Nce):RdsF := fun cs len l rest ds => match l,rest with
 | [.agg [.fl a, .fl b], .fn (.func 152) [] [.p 1 0, .p 2 0]], [⟨35, [.fl x0, .fl x1, .fl x2, .fl x3, .fl x4, .fl x5], .ex⟩, ⟨35, [.fl y0, .fl y1, .fl y2, .fl y3, .fl y4, .fl y5], .ex⟩] =>
   some (.tup [(D.g ⟨a,b⟩ ⟨⟨x0,x1⟩,⟨x2,x3⟩,⟨x4,x5⟩⟩ ⟨⟨y0,y1⟩,⟨y2,y3⟩,⟨y4,y5⟩⟩ cs len).sv,.si .i64 (D.e ⟨a,b⟩ ⟨⟨x0,x1⟩,⟨x2,x3⟩,⟨x4,x5⟩⟩ ⟨⟨y0,y1⟩,⟨y2,y3⟩,⟨y4,y5⟩⟩ cs len)],ds,[(D.o cs len,true),(D.b ⟨a,b⟩ ⟨⟨x0,x1⟩,⟨x2,x3⟩,⟨x4,x5⟩⟩ ⟨⟨y0,y1⟩,⟨y2,y3⟩,⟨y4,y5⟩⟩ cs len,true)])
 | _,_ => none
def ndE (N:Nde):Nce := ⟨okPg,fun cos v u cs len => daC N cos (lfR N.g v u) cs len,fun cos v u cs len => daE N cos (lfR N.g v u) cs len,fun cos v u cs len => daPs N cos (lfRo N.go v u) cs len⟩
theorem kAlE_3 (N:Nde):kAlE N = kAl3 (ndE N) := by
 funext cs len l rest ds
 unfold kAlE kAl3
 rfl
def OCe (D:Nce):OracleF := lookO [(50,kRd 19 (kRgt D.o)),(67,plainO oRt),(68,kRds 19 (kAl3 D))]
section
variable (D:Nce) (e:TypeId) (cells:List SV) (off len cap:Nat) (v u:V3) (cos:I)
theorem ceRun:((run Tryz.prog EG (OCe D) 60).1 78 [.ssl 0 off len cap,v.sv,u.sv] [⟨e,cells,.num⟩] (some (List.replicate 18 true))).map (fun q => (q.1,q.2.1.take 1,q.2.2)) =
  some (.tup [(D.g u.z v u (cutC cells off len) len).sv,.si .i64 (D.e u.z v u (cutC cells off len) len)],[⟨e,cells,.num⟩],some [],[(D.o (cutC cells off len) len,true),(D.b u.z v u (cutC cells off len) len,true)] ++ (vcO u ++ (vcO v ++ [(D.o (cutC cells off len) len,true)]))) := by kernel_rfl
end
def kCe (D:Nce):RdF := fun cs len l ds => match l with
 | [.agg [.fl x0, .fl x1, .fl x2, .fl x3, .fl x4, .fl x5], .agg [.fl y0, .fl y1, .fl y2, .fl y3, .fl y4, .fl y5]] =>
   some (.tup [(D.g ⟨y4,y5⟩ ⟨⟨x0,x1⟩,⟨x2,x3⟩,⟨x4,x5⟩⟩ ⟨⟨y0,y1⟩,⟨y2,y3⟩,⟨y4,y5⟩⟩ cs len).sv,.si .i64 (D.e ⟨y4,y5⟩ ⟨⟨x0,x1⟩,⟨x2,x3⟩,⟨x4,x5⟩⟩ ⟨⟨y0,y1⟩,⟨y2,y3⟩,⟨y4,y5⟩⟩ cs len)],ds,
    (decide (cs.length = len * 19),true) :: (D.o cs len,true) :: (D.b ⟨y4,y5⟩ ⟨⟨x0,x1⟩,⟨x2,x3⟩,⟨x4,x5⟩⟩ ⟨⟨y0,y1⟩,⟨y2,y3⟩,⟨y4,y5⟩⟩ cs len,true) :: (vcO ⟨⟨y0,y1⟩,⟨y2,y3⟩,⟨y4,y5⟩⟩ ++ vcO ⟨⟨x0,x1⟩,⟨x2,x3⟩,⟨x4,x5⟩⟩))
 | _ => none
theorem ceG {D:Nce} (hO:OracleOk Tryz.prog (OCe D)) (hD:D.o = okPg):RdOk Tryz.prog 78 (kCe D) := by
 intro cs len l ds x ds' ob h ho
 unfold kCe at h
 split at h
 ·rename_i x0 x1 x2 x3 x4 x5 y0 y1 y2 y3 y4 y5
  simp only [Option.some.injEq,Prod.mk.injEq] at h
  obtain ⟨rfl,_,rfl⟩ := h
  have h1:cs.length = len * 19 := of_decide_eq_true (ho _ (List.mem_cons_self ..))
  have h2:D.o cs len = true := ho _ (List.mem_cons_of_mem _ (List.mem_cons_self ..))
  have h3 := ho _ (List.mem_cons_of_mem _ (List.mem_cons_of_mem _ (List.mem_cons_self ..)))
  have h4:ObsOk (vcO ⟨⟨y0,y1⟩,⟨y2,y3⟩,⟨y4,y5⟩⟩ ++ vcO ⟨⟨x0,x1⟩,⟨x2,x3⟩,⟨x4,x5⟩⟩) := fun p hp => ho p (List.mem_cons_of_mem _ (List.mem_cons_of_mem _ (List.mem_cons_of_mem _ hp)))
  obtain ⟨vc,hc⟩ := (okPg_ok (hD ▸ h2)).pl
  refine ⟨vc,_,_,hc,rfl,chE_plain _ _,fun w r off cap hw => ?_⟩
  refine rd_of_runT goodG hO 60 (l := [V3.sv ⟨⟨x0,x1⟩,⟨x2,x3⟩,⟨x4,x5⟩⟩,V3.sv ⟨⟨y0,y1⟩,⟨y2,y3⟩,⟨y4,y5⟩⟩]) hc rfl (chE_plain _ _) (fun e cells off cap hca => ?_) w r off cap hw
  have hr := ceRun D e cells off len cap ⟨⟨x0,x1⟩,⟨x2,x3⟩,⟨x4,x5⟩⟩ ⟨⟨y0,y1⟩,⟨y2,y3⟩,⟨y4,y5⟩⟩
  rw [cut_at hca h1] at hr
  exact ⟨_,_,_,hr,ob_app (obs_cons h2 (obs_cons h3 obs_nil)) (ob_app h4.left (ob_app h4.right (obs_cons h2 obs_nil)))⟩
 ·cases h
theorem oracleCe {N:Nde} (hO:OracleOk Tryz.prog (OD N)):OracleOk Tryz.prog (OCe (ndE N)) :=
 .cons (show RdOk Tryz.prog 50 (kRgt okPg) from rgtG).of <| .cons irightG.of <| .cons (RdsOk.of (by rw [← kAlE_3]; exact alEK hO)) <| .nil _
theorem chE {N:Nde} (hO:OracleOk Tryz.prog (OD N)):RdOk Tryz.prog 78 (kCe (ndE N)) := ceG (oracleCe hO) rfl
end Go.Proofs.YtejcekikbnlllaaGreat
namespace Rx
open Go Go.RowKit
mutual
def noOsl:SV → Bool
 | .osl _ _ _ => false
 | .fn _ a b => noOsls a && noOsls b
 | .agg l => noOsls l
 | .tup l => noOsls l
 | _ => true
def noOsls:List SV → Bool
 | [] => true
 | x :: l => noOsl x && noOsls l
end
mutual
theorem den_cap {m m2:Nms} (hf:∀ n,m2 n = m n):∀ {x:SV},noOsl x = true → den m2 x = den m x
 | .b _,_ => by simp only [den]
 | .i _ _,_ => by simp only [den]
 | .si _ _,_ => by simp only [den]
 | .f _,_ => by simp only [den]
 | .fl _,_ => by simp only [den]
 | .np,_ => by simp only [den]
 | .o _,_ => by simp only [den]
 | .p n off,_ => by simp only [den,hf]
 | .sp n off,_ => by simp only [den,hf]
 | .sl n off len cap,_ => by simp only [den,hf]
 | .ssl n off len cap,_ => by simp only [den,hf]
 | .osl y n len,h => by simp [noOsl] at h
 | .fn f first cap, h => by
   simp only [noOsl,Bool.and_eq_true] at h
   simp only [den,dens_cap hf h.1,dens_cap hf h.2]
 | .agg l, h => by
   simp only [noOsl] at h
   simp only [den,dens_cap hf h]
 | .tup l, h => by
   simp only [noOsl] at h
   simp only [den,dens_cap hf h]
theorem dens_cap {m m2:Nms} (hf:∀ n,m2 n = m n):∀ {l:List SV},noOsls l = true → dens m2 l = dens m l
 | [],_ => by simp only [dens]
 | x :: l, h => by
   simp only [noOsls,Bool.and_eq_true] at h
   unfold dens
   rw [den_cap hf h.1,dens_cap hf h.2]
end
theorem dens_put1 {m:Nms} {T:List SV} {vs:List Value} {i:Nat} {x y:SV} (h:dens m T = some vs) (hi:T[i]? = some x) (he:den m y = den m x):dens m (T.set i y) = some vs := by
 induction T generalizing vs i with
 | nil => simp at hi
 | cons a l ih =>
   obtain ⟨u,us,h1,h2,rfl⟩ := dens_cons_some.1 h
   cases i with
   | zero =>
     simp at hi
     subst hi
     simp only [List.set_cons_zero]
     exact dens_cons (by rw [he]; exact h1) h2
   | succ i =>
     simp at hi
     simp only [List.set_cons_succ]
     exact dens_cons h1 (ih h2 hi)
theorem RunsB.own {P:Program} {B:Bs} {c:Code} {s t:St} {ex:Ex} {n L size i:Nat} {e:TypeId} {cells:List SV} (h:RunsB P B c s ex (fun u => u = t)) (hn:B.M.length ≤ n)
  (hb:t.M[n]? = some ⟨e,cells,.ex⟩) (hcl:cells.length = L * size) (hL:L ≤ maxLen) (hx:∀ b ∈ t.M,b.exact = true ∧ idsLts 0 b.cells = true)
  (hT:t.T[i]? = some (.sl n 0 L L)) (hno:noOsls t.T = true):RunsB P B c s ex (fun u => u = ⟨t.T.set i (.osl true n L),t.M.set n ⟨e,cells,.rown size⟩,t.ds,t.ob⟩) := by
 intro m a w Q hs hg hq
 refine h m a w Q hs hg fun t' m' a' w' h1 hst hg' => ?_
 subst h1
 obtain ⟨r,hr,hat⟩ := hst.mem.blk n _ hb
 have hlv:∀ {j q},m' j = some q → liveM t'.M j := fun {j q} hj => by
  have hl := hst.mem.dom j q hj
  refine ⟨t'.M[j],List.getElem?_eq_getElem hl,?_⟩
  have := (hx _ (List.getElem_mem hl)).1
  generalize t'.M[j] = b at this
  obtain ⟨e',cs',k'⟩ := b
  cases k' <;> first | rfl | cases this
 have huni:∀ {j},m' j = some r → j = n := fun {j} hj => hst.mem.inj j n r (hlv hj) (hlv hr) hj hr
 have hf:∀ j,(⟨m'.f,fun q => if q = r then L else m'.c q⟩:Nms) j = m' j := fun _ => rfl
 obtain ⟨cv,hd,hh⟩ := hat.ex
 have hid:idsLts 0 cells = true := (hx _ (List.mem_of_getElem? hb)).2
 have hnl:n < t'.M.length := (List.getElem?_eq_some_iff.1 hb).1
 have hcv:cv.length = cells.length := dens_length hd
 refine hq _ ⟨m'.f,fun q => if q = r then L else m'.c q⟩ a' w' rfl ⟨?_,hst.df,⟨⟨fun j q hj => hst.mem.ok.lt j q hj⟩,fun j j' q l1 l2 h1 h2 => hst.mem.inj j j' q (hlv h1) (hlv h2) h1 h2,fun j b hj => ?_,fun j q hj => ?_⟩⟩ ?_
 ·have h0 := hst.tm
  rw [← dens_cap hf hno] at h0
  refine dens_put1 h0 hT ?_
  have hr':m'.f n = some r := hr
  simp only [den,hr',Option.map_some,Option.bind_some]
  rw [if_pos trivial]
  exact oslV_some.2 ⟨Nat.le_refl _,rfl⟩
 ·have hj0:(t'.M.set n ⟨e,cells,.rown size⟩)[j]? = some b := hj
  rw [List.getElem?_set] at hj0
  split at hj0
  ·rename_i e1
   subst e1
   simp only [Option.some.injEq] at hj0
   subst hj0
   refine ⟨r,hr,fun _ => ⟨cv,[],?_,by simpa [BK.z] using hh,⟨⟨?_,?_⟩,hid⟩⟩⟩
   ·rw [← hd]; exact dens_nums hid
   ·show (cv ++ []).length = (if r = r then L else _) * size
    rw [if_pos rfl,List.append_nil,hcv,hcl]
   ·show (if r = r then L else _) ≤ maxLen
    rw [if_pos rfl]; exact hL
  ·rename_i e1
   obtain ⟨q,hq1,hat1⟩ := hst.mem.blk j b hj0
   refine ⟨q,hq1,fun hl => ?_⟩
   obtain ⟨cv1,sp1,d1,hh1,k1⟩ := hat1 hl
   have hbx := hx b (List.mem_of_getElem? hj0)
   refine ⟨cv1,sp1,by rw [← d1]; exact dens_nums hbx.2,hh1,?_⟩
   obtain ⟨e',cs',k'⟩ := b
   cases k' <;> first | exact k1 | cases hbx.1
 ·show j < (t'.M.set n _).length
  rw [List.length_set]; exact hst.mem.dom j q hj
 ·refine ⟨⟨hg'.ext.n,fun j q hj => ?_⟩,hg'.fr,hg'.new,fun j q hj hl => hg'.dd j q hj (hlv (hg'.ext.n j q hj))⟩
  show (if q = r then L else m'.c q) = _
  rw [if_neg ?_]
  ·exact hg'.ext.c j q hj
  ·intro e1
   subst e1
   have e2 := huni (hg'.ext.n j q hj)
   have := B.mem.dom j q hj
   omega
def post:Nat → Code → Code
 | 0,c => c
 | k + 1,.seq _ b => post k b
 | _ + 1,c => c
def runN (P:Program) (E:ExtF) (O:OracleF) (n:Nat):Nat → Code → St → Option St
 | 0,_,s => some s
 | k + 1, .seq a b, s => match (run P E O n).2 a s with
   | some (.normal,s') => runN P E O n k b s'
   | _ => none
 | _ + 1,_,_ => none
def aftN (P:Program) (E:ExtF) (O:OracleF) (n k:Nat) (c:Code) (s:St):St := match runN P E O n k c s with
 | some s' => s'
 | none => s
def LandsN (P:Program) (E:ExtF) (O:OracleF) (n k:Nat) (c:Code) (s:St):Prop := runN P E O n k c s = some (aftN P E O n k c s)
section
variable {P:Program} {E:ExtF} {O:OracleF} {B:Bs}
theorem runN_suf (hP:Good P E) (hO:OracleOk P O) {n:Nat}:∀ {k:Nat} {c:Code} {s t:St},runN P E O n k c s = some t → Suf s.ob t.ob
 | 0, c, s, t, h => by
   simp only [runN,Option.some.injEq] at h; subst h; exact Suf.refl _
 | k + 1, c, s, t, h => by
   cases c with
   | seq a b =>
     unfold runN at h
     split at h
     ·rename_i s' h1
      exact ((run_ok hP hO n).2.1 _ _ _ _ h1).1.trans (runN_suf hP hO h)
     ·cases h
   | _ => cases h
theorem runN_ok (hP:Good P E) (hO:OracleOk P O) {n:Nat} {ex:Ex} {Φ:St → Prop}:∀ {k:Nat} {c:Code} {s t:St},runN P E O n k c s = some t → ObsOk t.ob → RunsB P B (post k c) t ex Φ → RunsB P B c s ex Φ
 | 0, c, s, t, h, _, g => by
   simp only [runN,Option.some.injEq] at h; subst h; exact g
 | k + 1, c, s, t, h, ho, g => by
   cases c with
   | seq a b =>
     unfold runN at h
     split at h
     ·rename_i s' h1
      have h2:ObsOk s'.ob := (runN_suf hP hO h).ok ho
      exact RunsB.seq (RunsP.bs (RunsP.of (RunsTo.of hP hO h1 h2))) fun u hu => by subst hu; exact runN_ok hP hO h ho g
     ·cases h
   | _ => cases h
theorem LandsN.ok (hP:Good P E) (hO:OracleOk P O) {n k:Nat} {c:Code} {s:St} {ex:Ex} {Φ:St → Prop} (h:LandsN P E O n k c s) (ho:ObsOk (aftN P E O n k c s).ob) (g:RunsB P B (post k c) (aftN P E O n k c s) ex Φ):RunsB P B c s ex Φ := runN_ok hP hO h ho g
def RunsW (P:Program) (B:Bs) (c:Code) (s:St) (ex:Ex) (Φ:St → Prop):Prop :=
 ∀ m a w (Q:Exit → Act → World → Prop),StAt m s a w → Goes B.m B.M B.w m s.M w → (∀ s' m' a' w',Φ s' → StAt m' s' a' w' → Below B.w.heap.size B.w w' → Q (exOf ex) a' w') → c.wp P Q a w
theorem RunsW.seq {c d:Code} {s:St} {ex:Ex} {Φ Ψ:St → Prop} (h:RunsB P B c s .normal Φ) (k:∀ t,Φ t → RunsW P B d t ex Ψ):RunsW P B (.seq c d) s ex Ψ := by
 intro m a w Q hs hg hq
 refine wp_seq (h m a w _ hs hg fun s1 m' a' w' h1 hs' hg' => ?_)
 exact k s1 h1 m' a' w' Q hs' hg' hq
theorem RunsW.fresh {c:Code} {s:St} {ex:Ex} {Φ:St → Prop} {rest M':List Blk} {ids:List Nat} (hx:∀ b ∈ B.M,b.exact = true) (hs:s.M = B.M ++ rest) (hn:nodupB ids = true) (hM:selM s.M ids = some M') (hk:∀ (j n:Nat),ids[j]? = some n → B.M.length ≤ n) (hlv:∀ b ∈ M',b.live = true)
  (h:∀ (B':Bs) v,B'.M = M' → RunsB P B' c (s.sel ids M' v) ex Φ):RunsW P B c s ex Φ := by
 intro m a w Q hst hg hq
 have hst' := hst.sel hn hM
 have hb1:Below B.w.heap.size B.w w := Goes.reads hx B.mem (by rw [← hs]; exact hg) (by rw [← hs]; exact hst.mem)
 refine h ⟨m.sel ids,M',w,hst'.mem⟩ _ rfl (m.sel ids) a w Q hst' (Goes.refl _ _ _) fun s' m' a' w' h1 h2 hg' => ?_
 refine hq s' m' a' w' h1 h2 (hb1.trans ⟨hg'.fr.os,hg'.fr.tape,hg'.fr.output,hg'.fr.size,fun r hr => ?_⟩)
 refine hg'.fr.block r (Nat.lt_of_lt_of_le hr hb1.size) fun ⟨j,hj,_⟩ => ?_
 obtain ⟨n,h3,h4⟩ := sel_inv hj
 have hkj := hk j n h3
 rcases hg.new n r h4 with h5 | h5 | ⟨q,h5,b,h6,h7⟩
 ·have := B.mem.dom n r h5
  omega
 ·omega
 ·have h8 := B.mem.dom q r h5
  have hj':j < M'.length := by
   rw [(selM_get hM).1]
   exact (List.getElem?_eq_some_iff.1 h3).1
  obtain ⟨n2,b2,cs,g1,g2,_,g4⟩ := (selM_get hM).2 j M'[j] (List.getElem?_eq_getElem hj')
  rw [h3] at g1
  cases g1
  have g5 := hlv _ (List.getElem_mem hj')
  rw [g4] at g5
  have e := hst.mem.inj n q r ⟨b2,g2,g5⟩ ⟨b,by rw [hs,List.getElem?_append_left h8]; exact h6,h7⟩ h4 (hg.ext.n q r h5)
  omega
theorem RunsW.call {g:FuncId} {fn:Func} {c:Code} {args:List SV} {M:List Blk} {d:Dec} {x:SV} {v:Value} (hg:P.funcs[g]? = some fn) (hb:fn.body = some c) (hx:plain x = some v) {m:Nms} {w:World} {vs:List Value} (hvs:dens m args = some vs) (hM:MemAt m w M)
  (h:RunsW P ⟨m,M,w,hM⟩ c ⟨args ++ List.replicate (fn.ntmps - args.length) (.tup []),M,d,[]⟩ .ret (fun t => resultS P fn t = some x)) :
  Calls P g vs.toArray w fun e w' => e = .returned v ∧ Below w.heap.size w w' := by
 have hl := dens_length hvs
 refine calls_of_wp hg hb ?_
 have htm:dens m (args ++ List.replicate (fn.ntmps - args.length) (.tup [])) = some (vs.toArray ++ Array.replicate (fn.ntmps - vs.toArray.size) undef).toList := by
  have := dens_append hvs (dens_replicate (undef_den m) (fn.ntmps - args.length))
  rw [this]; simp [hl]
 refine h _ _ w _ ⟨htm,rfl,hM⟩ (Goes.refl m M w) fun t m' a' w' h1 hst hbl => ?_
 obtain ⟨u,hu,hr⟩ := resultS_ok hst h1
 rw [den_plain hx] at hu
 have := Option.some.inj hu
 subst this
 exact ⟨hst.df,v,hr,rfl,hbl⟩
end
end Rx
namespace Bu
open Rx Go
structure Lt where
 f0:I
 f1:I
 f2:I
 r0:I
 r1:I
 r2:I
def Lt.cells (t:Lt):List SV := [.fl t.f0.lo,.fl t.f0.hi,.fl t.f1.lo,.fl t.f1.hi,.fl t.f2.lo,.fl t.f2.hi,.fl t.r0.lo,.fl t.r0.hi,.fl t.r1.lo,.fl t.r1.hi,.fl t.r2.lo,.fl t.r2.hi]
def Lt.sv (t:Lt):SV := .agg t.cells
def Lt.zero:Lt := ⟨I.zero,I.zero,I.zero,I.zero,I.zero,I.zero⟩
end Bu
namespace Go.Proofs.YtejcekikbnlllaaGreat
open Go.RowKit Bu Rx
def kVn (g:Lf → I × Int) (o:Lf → Obs):List SV → Dec → Option (SV × Dec × Obs)
 | [x, ch, .agg [.fl p0, .fl p1, .fl p2, .fl p3, .fl p4, .fl p5], .agg [.fl r0, .fl r1, .fl r2, .fl r3, .fl r4, .fl r5]], ds => match ndOf x, intS ch with
   | some n,some (.i64,c) => some (.tup [.agg [.fl (g ⟨n.k,etaF n.f,c,⟨⟨p0,p1⟩,⟨p2,p3⟩,⟨p4,p5⟩⟩,⟨⟨r0,r1⟩,⟨r2,r3⟩,⟨r4,r5⟩⟩⟩).1.lo,.fl (g ⟨n.k,etaF n.f,c,⟨⟨p0,p1⟩,⟨p2,p3⟩,⟨p4,p5⟩⟩,⟨⟨r0,r1⟩,⟨r2,r3⟩,⟨r4,r5⟩⟩⟩).1.hi],.si .i64 (g ⟨n.k,etaF n.f,c,⟨⟨p0,p1⟩,⟨p2,p3⟩,⟨p4,p5⟩⟩,⟨⟨r0,r1⟩,⟨r2,r3⟩,⟨r4,r5⟩⟩⟩).2],ds,(decide (n.a = 0),true) :: (decide (n.b = 0),true) :: o ⟨n.k,etaF n.f,c,⟨⟨p0,p1⟩,⟨p2,p3⟩,⟨p4,p5⟩⟩,⟨⟨r0,r1⟩,⟨r2,r3⟩,⟨r4,r5⟩⟩⟩)
   | _,_ => none
 | _,_ => none
def OE (o:List SV → Nat → Bool) (N:Nde):OracleF := lookO (OCL N.K ++ [(50,kRd 19 (kRgt o)),(66,plainO (kI2 N.D N.dO)),(231,plainO (kVn N.g N.go))])
noncomputable def eC:Code := bodyOf Tryz.prog 77
noncomputable def eR7:Code := seqL (seqL (post 4 eC))
noncomputable def eBd:Code := inner (inner (seqR (seqL (post 4 eC))))
noncomputable def eTl:Code := seqR (post 4 eC)
theorem eBody:Tryz.f77.body = some eC := by kernel_rfl
theorem eC_cut:post 4 eC = .seq (.seq eR7 (.block 0 (.loop eBd))) eTl := by kernel_rfl
def evT (off len cap:Nat) (v u:V3) (l c:SV) (x:Nat → SV):List SV :=
 [.ssl 0 off len cap,v.sv,u.sv,x 3,.p 1 0,.p 2 0,.p 3 0,x 7,x 8,l,x 10,x 11,x 12,x 13,x 14,x 15,x 16,x 17,x 18,x 19,x 20,x 21,x 22,x 23,x 24,x 25,x 26,x 27,x 28,.ssl 0 off len cap,.si .i64 len,c,x 32,x 33,x 34,x 35,x 36,x 37,x 38,x 39,x 40,x 41,x 42,x 43,x 44,x 45,x 46,x 47,x 48,x 49,x 50,x 51,x 52,x 53,x 54,x 55,x 56,x 57,x 58,x 59,x 60,x 61,x 62,x 63,x 64,x 65,x 66,x 67,x 68,x 69,x 70,x 71,x 72,x 73,x 74,x 75,x 76,x 77,x 78,x 79,x 80,x 81,x 82,x 83]
def evP (e:TypeId) (cells:List SV) (v u:V3):List Blk := [⟨e,cells,.num⟩,vcB v,vcB u,⟨65,Lt.zero.cells,.ex⟩]
def evS0 (e:TypeId) (cells:List SV) (v u:V3) (off len cap:Nat) (i:Int) (x:Nat → SV) (d:Dec):St := ⟨evT off len cap v u (.o (.slice none 0 0)) (.si .i64 i) x,evP e cells v u,d,[]⟩
def evS (e:TypeId) (cells lc:List SV) (v u:V3) (off len cap n:Nat) (i:Int) (x:Nat → SV) (d:Dec):St := ⟨evT off len cap v u (.osl true 4 n) (.si .i64 i) x,evP e cells v u ++ [⟨65,lc,.rown 12⟩],d,[]⟩
noncomputable def eEn (e:TypeId) (cells:List SV) (v u:V3) (off len cap:Nat) (d:Dec):St := ⟨([.ssl 0 off len cap,v.sv,u.sv]:List SV) ++ List.replicate (Tryz.f77.ntmps - 3) (.tup []),[⟨e,cells,.num⟩],d,[]⟩
end Go.Proofs.YtejcekikbnlllaaGreat
namespace Bu
open Rx Go
def ltC (c:Nat → Ch):List SV := [.fl (c 0).p.lo,.fl (c 0).p.hi,.fl (c 1).p.lo,.fl (c 1).p.hi,.fl (c 2).p.lo,.fl (c 2).p.hi,.fl (c 0).m.lo,.fl (c 0).m.hi,.fl (c 1).m.lo,.fl (c 1).m.hi,.fl (c 2).m.lo,.fl (c 2).m.hi]
def lcAt (lc:List SV) (k a:Nat):Ch := ⟨⟨flAt lc (a * 12 + k * 2),flAt lc (a * 12 + k * 2 + 1)⟩,⟨flAt lc (a * 12 + 6 + k * 2),flAt lc (a * 12 + 6 + k * 2 + 1)⟩⟩
def overC (K:Kk) (i o:I) (w:F) (a:Ch):Ch × Int :=
 let q1 := K.num 0 one_
 let qw := K.num q1.2 w
 let s := K.sub qw.2 q1.1 o
 let h := K.sub s.2 q1.1 i
 let x := K.mul h.2 h.1 s.1
 let y := K.mul x.2 x.1 qw.1
 let f := K.mul y.2 y.1 a.p
 let q := K.sqr f.2 s.1
 let t := K.mul q.2 q.1 qw.1
 let z := K.mul t.2 t.1 a.m
 let r := K.add z.2 o z.1
 (⟨f.1,r.1⟩,r.2)
end Bu
namespace Go.Proofs.YtejcekikbnlllaaGreat
open Go.RowKit Bu Rx
def lfE (v u:V3) (k:Nat) (n:Nd):Lf := ⟨n.k,etaF n.f,(k:Int),v,u⟩
def evN (N:Nde) (v u:V3) (k:Nat) (l:Nat → Ch) (n:Nd):Ch × Int :=
 bif decide (n.k = 5) then mixC N.K (n.f 15) (l n.a.toNat) (l n.b.toNat)
 else bif decide (n.k = 6) then overC N.K (N.D v.z ⟨n.f 14,n.f 14⟩).1 (N.D u.z ⟨n.f 14,n.f 14⟩).1 (n.f (3 + k)) (l n.a.toNat)
 else (⟨(N.g (lfE v u k n)).1,I.zero⟩,(N.g (lfE v u k n)).2)
def lfOb (N:Nde) (v u:V3) (n:Nd) (k:Nat):Obs := (decide (n.a = 0),true) :: (decide (n.b = 0),true) :: N.go (lfE v u k n)
def ivCK:List CK := [.f,.f]
def rdOb (lc:List SV) (n:Nat) (a:Int) (k:Nat):Obs := [(ckAll lc (a.toNat * 12 + 6 + k * 2) ivCK,true),(ixB (k:Int) 3,true),(ixB a n,true),(ckAll lc (a.toNat * 12 + k * 2) ivCK,true),(ixB (k:Int) 3,true),(ixB a n,true)]
def evHd (cells:List SV) (off len:Nat) (i:Int):Obs := [(ckAll cells (off + i.toNat * 19) ndCK,true),(ixB i len,true),(decide (i < len),true)]
def evAp (lc:List SV) (n:Nat):Bool := decide (1 ≤ 1) && (decide (n + 1 ≤ maxLen) && (decide ((n + 1) * 96 ≤ 140737488355328) && (decide (0 + 1 * 12 ≤ 12) && (true && decide (lc.length = n * 12)))))
def ndOb (e0 e1 e2:Int) (o0 o1 o2 t:Obs):Obs := (e2 != 0,false) :: ((o2 ++ []) ++ ((e1 == 0,true) :: ((o1 ++ []) ++ ((e0 == 0,true) :: ((o0 ++ []) ++ t)))))
def nd0 (cells:List SV) (off:Nat) (i:Int):Nd := ndR cells (off + i.toNat * 19)
section
variable (N:Nde) (o:List SV → Nat → Bool) (e:TypeId) (cells lc:List SV) (v u:V3) (off len cap n:Nat) (i:Int) (x:Nat → SV)
noncomputable abbrev evZ:St := aft Tryz.prog EG (OE o N) 60 eBd (evS0 e cells v u off len cap i x (some [true,false,false,true,true,false]))
noncomputable abbrev evA (d:List Bool):St := aft Tryz.prog EG (OE o N) 60 eBd (evS e cells lc v u off len cap n i x (some d))
def dLf:List Bool := [true,false,false,true,true,false]
def dMx:List Bool := [true,true,true,true,false]
def dCo:List Bool := [true,false,true,false,true,true,true,false]
theorem evLz:Lands Tryz.prog EG (OE o N) 60 eBd (evS0 e cells v u off len cap i x (some [true,false,false,true,true,false])) .normal := by unfold Lands; kernel_rfl
theorem evLl:Lands Tryz.prog EG (OE o N) 60 eBd (evS e cells lc v u off len cap n i x (some dLf)) .normal := by unfold Lands; kernel_rfl
theorem evLm:Lands Tryz.prog EG (OE o N) 60 eBd (evS e cells lc v u off len cap n i x (some dMx)) .normal := by unfold Lands; kernel_rfl
theorem evLc:Lands Tryz.prog EG (OE o N) 60 eBd (evS e cells lc v u off len cap n i x (some dCo)) .normal := by unfold Lands; kernel_rfl
theorem evLx:Lands Tryz.prog EG (OE o N) 60 eBd (evS e cells lc v u off len cap n i x (some [false])) (.exit 0) := by unfold Lands; kernel_rfl
def lfObs (N:Nde) (cells:List SV) (v u:V3) (off:Nat) (i:Int) (t:Obs):Obs := ndOb (N.g (lfE v u 0 (nd0 cells off i))).2 (N.g (lfE v u 1 (nd0 cells off i))).2 (N.g (lfE v u 2 (nd0 cells off i))).2 (lfOb N v u (nd0 cells off i) 0) (lfOb N v u (nd0 cells off i) 1) (lfOb N v u (nd0 cells off i) 2) ([((nd0 cells off i).k == 6,false),((nd0 cells off i).k == 5,false)] ++ t)
theorem evOz:(evZ N o e cells v u off len cap i x).ob = lfObs N cells v u off i (evHd cells off len i) := by kernel_rfl
theorem evOl:(evA N o e cells lc v u off len cap n i x dLf).ob = (evAp lc n,true) :: (lfObs N cells v u off i (evHd cells off len i)) := by kernel_rfl
def mxObs (N:Nde) (cells lc:List SV) (off n:Nat) (i:Int) (t:Obs):Obs := ndOb (mixC N.K ((nd0 cells off i).f 15) (lcAt lc 0 (nd0 cells off i).a.toNat) (lcAt lc 0 (nd0 cells off i).b.toNat)).2 (mixC N.K ((nd0 cells off i).f 15) (lcAt lc 1 (nd0 cells off i).a.toNat) (lcAt lc 1 (nd0 cells off i).b.toNat)).2 (mixC N.K ((nd0 cells off i).f 15) (lcAt lc 2 (nd0 cells off i).a.toNat) (lcAt lc 2 (nd0 cells off i).b.toNat)).2
 (rdOb lc n (nd0 cells off i).b 0 ++ rdOb lc n (nd0 cells off i).a 0) (rdOb lc n (nd0 cells off i).b 1 ++ rdOb lc n (nd0 cells off i).a 1) (rdOb lc n (nd0 cells off i).b 2 ++ rdOb lc n (nd0 cells off i).a 2) ([((nd0 cells off i).k == 5,true)] ++ t)
theorem evOm:(evA N o e cells lc v u off len cap n i x dMx).ob = (evAp lc n,true) :: (mxObs N cells lc off n i (evHd cells off len i)) := by kernel_rfl
def coO (N:Nde) (cells:List SV) (v u:V3) (off:Nat) (i:Int) (t:Obs):Obs := ((N.D u.z ⟨(nd0 cells off i).f 14,(nd0 cells off i).f 14⟩).2 == 0,true) :: (((N.dO u.z ⟨(nd0 cells off i).f 14,(nd0 cells off i).f 14⟩ ++ (((N.D v.z ⟨(nd0 cells off i).f 14,(nd0 cells off i).f 14⟩).2 != 0,false) :: (N.dO v.z ⟨(nd0 cells off i).f 14,(nd0 cells off i).f 14⟩ ++ []))) ++ [((nd0 cells off i).k == 6,true),((nd0 cells off i).k == 5,false)]) ++ t)
def ovE (N:Nde) (cells lc:List SV) (v u:V3) (off:Nat) (i:Int) (k:Nat):Ch × Int := overC N.K (N.D v.z ⟨(nd0 cells off i).f 14,(nd0 cells off i).f 14⟩).1 (N.D u.z ⟨(nd0 cells off i).f 14,(nd0 cells off i).f 14⟩).1 ((nd0 cells off i).f (3 + k)) (lcAt lc k (nd0 cells off i).a.toNat)
def coObs (N:Nde) (cells lc:List SV) (v u:V3) (off n:Nat) (i:Int) (t:Obs):Obs := ndOb (ovE N cells lc v u off i 0).2 (ovE N cells lc v u off i 1).2 (ovE N cells lc v u off i 2).2 (rdOb lc n (nd0 cells off i).a 0) (rdOb lc n (nd0 cells off i).a 1) (rdOb lc n (nd0 cells off i).a 2) (coO N cells v u off i t)
theorem evOc:(evA N o e cells lc v u off len cap n i x dCo).ob = (evAp lc n,true) :: (coObs N cells lc v u off n i (evHd cells off len i)) := by kernel_rfl
theorem evMz:selM (evZ N o e cells v u off len cap i x).M [0,1,2,3,18] = some (evP e cells v u ++ [⟨65,ltC (fun k => ⟨(N.g (lfE v u k (nd0 cells off i))).1,I.zero⟩),.row 12⟩]) := by kernel_rfl
theorem evMl:selM (evA N o e cells lc v u off len cap n i x dLf).M [0,1,2,3,19] = some (evP e cells v u ++ [⟨65,lc ++ ltC (fun k => ⟨(N.g (lfE v u k (nd0 cells off i))).1,I.zero⟩),.rown 12⟩]) := by kernel_rfl
theorem evMm:selM (evA N o e cells lc v u off len cap n i x dMx).M [0,1,2,3,19] = some (evP e cells v u ++ [⟨65,lc ++ ltC (fun k => (mixC N.K ((nd0 cells off i).f 15) (lcAt lc k (nd0 cells off i).a.toNat) (lcAt lc k (nd0 cells off i).b.toNat)).1),.rown 12⟩]) := by kernel_rfl
theorem evMc:selM (evA N o e cells lc v u off len cap n i x dCo).M [0,1,2,3,20] = some (evP e cells v u ++ [⟨65,lc ++ ltC (fun k => (ovE N cells lc v u off i k).1),.rown 12⟩]) := by kernel_rfl
end
def lt12:List CK := [.f,.f,.f,.f,.f,.f,.f,.f,.f,.f,.f,.f]
def ltS (lc:List SV) (a:Nat):SV := .agg [.fl (flAt lc (a * 12)),.fl (flAt lc (a * 12 + 1)),.fl (flAt lc (a * 12 + 2)),.fl (flAt lc (a * 12 + 3)),.fl (flAt lc (a * 12 + 4)),.fl (flAt lc (a * 12 + 5)),.fl (flAt lc (a * 12 + 6)),.fl (flAt lc (a * 12 + 7)),.fl (flAt lc (a * 12 + 8)),.fl (flAt lc (a * 12 + 9)),.fl (flAt lc (a * 12 + 10)),.fl (flAt lc (a * 12 + 11))]
section
variable (N:Nde) (o:List SV → Nat → Bool) (e:TypeId) (cells lc:List SV) (v u:V3) (off len cap n:Nat) (i:Int) (x:Nat → SV)
noncomputable abbrev ev4:St := aftN Tryz.prog EG (OE o N) 60 4 eC (eEn e cells v u off len cap (some (List.replicate 18 true)))
noncomputable abbrev ev5:St := aft Tryz.prog EG (OE o N) 60 eR7 (ev4 N o e cells v u off len cap)
theorem evL4:LandsN Tryz.prog EG (OE o N) 60 4 eC (eEn e cells v u off len cap (some (List.replicate 18 true))) := by unfold LandsN; kernel_rfl
theorem evL5:Lands Tryz.prog EG (OE o N) 60 eR7 (ev4 N o e cells v u off len cap) .normal := by unfold Lands; kernel_rfl
def evEO (o:List SV → Nat → Bool) (cells:List SV) (v u:V3) (off len:Nat):Obs := vcO u ++ (vcO v ++ [(o ((cells.drop off).take (len * 19)) len,true)])
theorem evO4:(ev4 N o e cells v u off len cap).ob = evEO o cells v u off len := by kernel_rfl
theorem evO5:(ev5 N o e cells v u off len cap).ob = evEO o cells v u off len := by kernel_rfl
theorem evM5:selM (ev5 N o e cells v u off len cap).M [0,1,2,3] = some (evP e cells v u) := by kernel_rfl
noncomputable def ev5X (vv:Nat → Value):Nat → SV := fun j => ((ev5 N o e cells v u off len cap).sel [0,1,2,3] [] vv).T.getD j .np
theorem evT5 (vv:Nat → Value) (M':List Blk):((ev5 N o e cells v u off len cap).sel [0,1,2,3] M' vv).T = evT off len cap v u (.o (.slice none 0 0)) (.i .i64 0) (ev5X N o e cells v u off len cap vv) := by kernel_rfl
noncomputable def evXz (vv:Nat → Value):Nat → SV := fun j => ((evZ N o e cells v u off len cap i x).sel [0,1,2,3,18] [] vv).T.getD j .np
theorem evTz (vv:Nat → Value) (M':List Blk):((evZ N o e cells v u off len cap i x).sel [0,1,2,3,18] M' vv).T = evT off len cap v u (.osl false 4 (0 + 1)) (.si .i64 (IntKind.i64.wrap (i + 1))) (evXz N o e cells v u off len cap i x vv) := by kernel_rfl
noncomputable def evXl (vv:Nat → Value):Nat → SV := fun j => ((evA N o e cells lc v u off len cap n i x dLf).sel [0,1,2,3,19] [] vv).T.getD j .np
theorem evTl (vv:Nat → Value) (M':List Blk):((evA N o e cells lc v u off len cap n i x dLf).sel [0,1,2,3,19] M' vv).T = evT off len cap v u (.osl true 4 (n + 1)) (.si .i64 (IntKind.i64.wrap (i + 1))) (evXl N o e cells lc v u off len cap n i x vv) := by kernel_rfl
noncomputable def evXm (vv:Nat → Value):Nat → SV := fun j => ((evA N o e cells lc v u off len cap n i x dMx).sel [0,1,2,3,19] [] vv).T.getD j .np
theorem evTm (vv:Nat → Value) (M':List Blk):((evA N o e cells lc v u off len cap n i x dMx).sel [0,1,2,3,19] M' vv).T = evT off len cap v u (.osl true 4 (n + 1)) (.si .i64 (IntKind.i64.wrap (i + 1))) (evXm N o e cells lc v u off len cap n i x vv) := by kernel_rfl
noncomputable def evXc (vv:Nat → Value):Nat → SV := fun j => ((evA N o e cells lc v u off len cap n i x dCo).sel [0,1,2,3,20] [] vv).T.getD j .np
theorem evTc (vv:Nat → Value) (M':List Blk):((evA N o e cells lc v u off len cap n i x dCo).sel [0,1,2,3,20] M' vv).T = evT off len cap v u (.osl true 4 (n + 1)) (.si .i64 (IntKind.i64.wrap (i + 1))) (evXc N o e cells lc v u off len cap n i x vv) := by kernel_rfl
theorem evXo:aft Tryz.prog EG (OE o N) 60 eBd (evS e cells lc v u off len cap n i x (some [false])) = ⟨evT off len cap v u (.osl true 4 n) (.si .i64 i) (fun k => bif Nat.beq k 32 then .b false else x k),evP e cells v u ++ [⟨65,lc,.rown 12⟩],some [],[(decide (i < len),false)]⟩ := by kernel_rfl
theorem evEL:Lands Tryz.prog EG (OE o N) 60 eTl (evS e cells lc v u off len cap n i x none) .ret := by unfold Lands; kernel_rfl
theorem evEO_:(aft Tryz.prog EG (OE o N) 60 eTl (evS e cells lc v u off len cap n i x none)).ob = [(ckAll lc ((IntKind.i64.wrap ((n:Int) - 1)).toNat * 12) lt12,true),(ixB (IntKind.i64.wrap ((n:Int) - 1)) n,true)] := by kernel_rfl
theorem evER:resultS Tryz.prog Tryz.f77 (aft Tryz.prog EG (OE o N) 60 eTl (evS e cells lc v u off len cap n i x none)) = some (.tup [ltS lc (IntKind.i64.wrap ((n:Int) - 1)).toNat,.i .i64 0]) := by kernel_rfl
theorem evEM:∃ more,(aft Tryz.prog EG (OE o N) 60 eTl (evS e cells lc v u off len cap n i x none)).M = ⟨e,cells,.num⟩ :: more := ⟨[vcB v,vcB u,⟨65,(match ltS lc (IntKind.i64.wrap ((n:Int) - 1)).toNat with | .agg l => l | _ => []),.ex⟩,⟨65,lc,.rown 12⟩],by kernel_rfl⟩
end
end Go.Proofs.YtejcekikbnlllaaGreat
namespace Bu
open Rx Go
def u32S (x:SV):Option Int := match intS x with
 | some (.u32,n) => some n
 | _ => none
def u8Of:SV → Option U8
 | .agg [x0, x1, x2, x3, x4, x5, x6, x7] => match u32S x0, u32S x1, u32S x2, u32S x3, u32S x4, u32S x5, u32S x6, u32S x7 with
   | some a0,some a1,some a2,some a3,some a4,some a5,some a6,some a7 => some ⟨a0,a1,a2,a3,a4,a5,a6,a7⟩
   | _,_,_,_,_,_,_,_ => none
 | _ => none
def U8.vs (u:U8):List Value := [.int .u32 u.a0,.int .u32 u.a1,.int .u32 u.a2,.int .u32 u.a3,.int .u32 u.a4,.int .u32 u.a5,.int .u32 u.a6,.int .u32 u.a7]
def kLe8 (k:U8 → Int) (f:U8 → Nat → F) (o:U8 → Bool):List SV → Dec → Option (SV × Dec × Obs)
 | [x], ds => match u8Of x with
   | some u => some (nodeZ (k u) (f u),ds,[(o u,true)])
   | none => none
 | _,_ => none
end Bu
namespace Go.Proofs.YtejcekikbnlllaaGreat
open Go.RowKit Bu Rx
structure Npr where
 k:U8 → Int
 f:U8 → Nat → F
 o:U8 → Bool
 q:Int → F
 w:Int → Bool
 b:F → F → Int → F
 p:F → F → Bool
def OPr (N:Npr):OracleF := lookO [(58,plainO (kLe8 N.k N.f N.o)),(23,plainO (kFq N.q N.w)),(36,plainO (kBw N.b N.p N.w))]
end Go.Proofs.YtejcekikbnlllaaGreat
namespace Bu
open Rx Go
def u8At (cs:List SV) (o:Nat):U8 := ⟨inAt cs o,inAt cs (o + 1),inAt cs (o + 2),inAt cs (o + 3),inAt cs (o + 4),inAt cs (o + 5),inAt cs (o + 6),inAt cs (o + 7)⟩
def u8CK:List CK := [.i .u32,.i .u32,.i .u32,.i .u32,.i .u32,.i .u32,.i .u32,.i .u32]
def fz:SV := .fl F.zero
end Bu
namespace Go.Proofs.YtejcekikbnlllaaGreat
open Go.RowKit Bu Rx
def minIor_:F := toF 4607463893776728064
def maxIor_:F := toF 4616189618054758400
section
variable (N:Npr) (e:TypeId × (Nat × Nat)) (cells pc:List SV) (off len cap o1 l1 c1 n:Nat) (i:Int) (x:Nat → SV)
end
def u8Z:U8 := ⟨0,0,0,0,0,0,0,0⟩
section
variable (N:Npr) (e:TypeId × (Nat × Nat)) (cells pc:List SV) (off len cap:Nat) (x:Nat → SV)
end
def prgB (N:Npr) (u:U8):Bool := N.o u && (N.w u.a3 && (N.w u.a4 && (N.w u.a5 && N.w u.a6)))
theorem sel_M (s:St) (ids:List Nat) (M':List Blk) (v:Nat → Value):(s.sel ids M' v).M = M' := rfl
theorem LandsB.seq {P:Program} {E:ExtF} {O:OracleF} {B:Bs} (hP:Rx.Good P E) (hO:OracleOk P O) {n:Nat} {c d:Code} {s:St} {ex:Ex} {Ψ:St → Prop} (h:Lands P E O n c s .normal) (ho:ObsOk (aft P E O n c s).ob) (k:RunsB P B d (aft P E O n c s) ex Ψ):RunsB P B (.seq c d) s ex Ψ :=
 RunsB.seq (RunsP.bs (h.runs hP hO ho)) fun _ ht => ht ▸ k
structure PrIn (N:Npr) (cs:List SV) (len:Nat):Prop where
 row:∀ j,j < len → j < 8 → ckAll cs (j * 8) u8CK = true
 ok:∀ j,j < len → j < 8 → prgB N (u8At cs (j * 8)) = true
section
variable {N:Npr} (hO:OracleOk Tryz.prog (OPr N)) (hN:N.p minIor_ maxIor_ = true) (hZ:N.o u8Z = true) {e:TypeId × (Nat × Nat)} {cells cs:List SV} {off len cap:Nat} {B:Bs} (hB:B.M.length = 1) (hid:idsLts 0 cells = true) (hca:CellsAt cells off cs) (hcap:len ≤ cap) (K:PrIn N cs len)
include hO hN hB hca hcap K
end
end Go.Proofs.YtejcekikbnlllaaGreat
namespace Bu
open Rx Go
theorem lc_at {lc:List SV} {a:Nat} {c:Nat → Ch} (h:CellsAt lc (a * 12) (ltC c)):∀ k,k < 3 → lcAt lc k a = c k ∧ ckAll lc (a * 12 + k * 2) [.f,.f] = true ∧ ckAll lc (a * 12 + 6 + k * 2) [.f,.f] = true := by
 intro k hk
 have e0 := h 0 _ rfl
 have e1 := h 1 _ rfl
 have e2 := h 2 _ rfl
 have e3 := h 3 _ rfl
 have e4 := h 4 _ rfl
 have e5 := h 5 _ rfl
 have e6 := h 6 _ rfl
 have e7 := h 7 _ rfl
 have e8 := h 8 _ rfl
 have e9 := h 9 _ rfl
 have e10 := h 10 _ rfl
 have e11 := h 11 _ rfl
 rw [Nat.add_zero] at e0
 unfold lcAt
 rcases (by omega:k = 0 ∨ k = 1 ∨ k = 2) with rfl | rfl | rfl
 all_goals
  simp only [flAt,ckAll,ckOk,Nat.reduceMul,Nat.add_assoc,Nat.reduceAdd,Nat.add_zero,Nat.zero_mul,Nat.zero_add,e0,e1,e2,e3,e4,e5,e6,e7,e8,e9,e10,e11,Bool.and_self,Bool.and_true,and_self]
theorem lt_ck {lc:List SV} {a:Nat} {c:Nat → Ch} (h:CellsAt lc (a * 12) (ltC c)):ckAll lc (a * 12) [.f,.f,.f,.f,.f,.f,.f,.f,.f,.f,.f,.f] = true := by
 have e0 := h 0 _ rfl
 have e1 := h 1 _ rfl
 have e2 := h 2 _ rfl
 have e3 := h 3 _ rfl
 have e4 := h 4 _ rfl
 have e5 := h 5 _ rfl
 have e6 := h 6 _ rfl
 have e7 := h 7 _ rfl
 have e8 := h 8 _ rfl
 have e9 := h 9 _ rfl
 have e10 := h 10 _ rfl
 have e11 := h 11 _ rfl
 rw [Nat.add_zero] at e0
 simp only [ckAll,ckOk,Nat.add_assoc,Nat.reduceAdd,e0,e1,e2,e3,e4,e5,e6,e7,e8,e9,e10,e11,Bool.and_self]
theorem ltC_ext {c d:Nat → Ch} (h:∀ k,k < 3 → c k = d k):ltC c = ltC d := by
 unfold ltC
 rw [h 0 (by decide),h 1 (by decide),h 2 (by decide)]
def lights (F:Nat → Nat → Ch):Nat → List SV
 | 0 => []
 | n + 1 => lights F n ++ ltC (fun k => F k n)
theorem lights_len (F:Nat → Nat → Ch):∀ n,(lights F n).length = n * 12
 | 0 => rfl
 | n + 1 => by unfold lights; rw [List.length_append,lights_len F n,show (ltC fun k => F k n).length = 12 from rfl]; omega
theorem lights_at (F:Nat → Nat → Ch):∀ {n j:Nat},j < n → CellsAt (lights F n) (j * 12) (ltC (fun k => F k j))
 | n + 1, j, h => by
   unfold lights
   intro t x hx
   have ht:t < 12 := (List.getElem?_eq_some_iff.1 hx).1
   have hl := lights_len F n
   rcases Nat.lt_or_ge j n with h' | h'
   ·rw [List.getElem?_append_left (by rw [hl]; omega)]
    exact lights_at F h' t x hx
   ·obtain rfl:j = n := by omega
    rw [List.getElem?_append_right (by rw [hl]; omega),hl,show j * 12 + t - j * 12 = t by omega]
    exact hx
end Bu
namespace Go.Proofs.YtejcekikbnlllaaGreat
open Go.RowKit Bu Rx
def allE (N:Nde) (v u:V3) (cs:List SV) (k:Nat):(Nat → Ch) → Nat → Ch × Int := fun l i => evN N v u k l (ndR cs (i * 19))
def ltF (N:Nde) (v u:V3) (cs:List SV) (k i:Nat):Ch := chF (allE N v u cs k) i
def evNB (N:Nde) (v u:V3) (l:Nat → Nat → Ch) (n:Nd):Bool :=
 (bif decide (n.k = 5) then true
 else bif decide (n.k = 6) then (Bu.obsB (N.dO v.z ⟨n.f 14,n.f 14⟩) && decide ((N.D v.z ⟨n.f 14,n.f 14⟩).2 = 0)) && (Bu.obsB (N.dO u.z ⟨n.f 14,n.f 14⟩) && decide ((N.D u.z ⟨n.f 14,n.f 14⟩).2 = 0))
 else Bu.obsB (lfOb N v u n 0) && (Bu.obsB (lfOb N v u n 1) && Bu.obsB (lfOb N v u n 2))) &&
 (decide ((evN N v u 0 (l 0) n).2 = 0) && (decide ((evN N v u 1 (l 1) n).2 = 0) && decide ((evN N v u 2 (l 2) n).2 = 0)))
def evB (N:Nde) (v u:V3) (cs:List SV) (len:Nat):Bool :=
 (List.range len).all fun i => evNB N v u (fun k j => (chL (allE N v u cs k) i).getD j Ch.zero) (ndR cs (i * 19))
theorem evB_at {N:Nde} {v u:V3} {cs:List SV} {len:Nat} (h:evB N v u cs len = true) {i:Nat} (hi:i < len):evNB N v u (fun k j => (chL (allE N v u cs k) i).getD j Ch.zero) (ndR cs (i * 19)) = true := List.all_eq_true.1 h i (List.mem_range.2 hi)
theorem ndOb_ok {e0 e1 e2:Int} {o0 o1 o2 t:Obs} (h0:e0 = 0) (h1:e1 = 0) (h2:e2 = 0) (k0:ObsOk o0) (k1:ObsOk o1) (k2:ObsOk o2) (ht:ObsOk t):ObsOk (ndOb e0 e1 e2 o0 o1 o2 t) := by
 subst h0 h1 h2
 exact ob_c rfl (ob_a (ob_a k2 ob_n) (ob_c rfl (ob_a (ob_a k1 ob_n) (ob_c rfl (ob_a (ob_a k0 ob_n) ht)))))
theorem rdOb_ok {F:Nat → Nat → Ch} {n:Nat} {a:Int} {k:Nat} (h0:0 ≤ a) (h:a < n) (hk:k < 3):ObsOk (rdOb (lights F n) n a k) := by
 obtain ⟨_,c1,c2⟩ := lc_at (lights_at F (show a.toNat < n by omega)) k hk
 have ix := ix_of h0 h
 have ik := ix_of (a := (k:Int)) (n := 3) (by omega) (by omega)
 exact ob_c c2 (ob_c ik (ob_c ix (ob_c c1 (ob_c ik (ob_c ix ob_n)))))
theorem evHd_ok {cells:List SV} {off len i:Nat} (hc:ckAll cells (off + i * 19) ndCK = true) (hi:i < len):ObsOk (evHd cells off len (i:Int)) := by
 unfold evHd
 rw [Int.toNat_natCast]
 exact ob_c hc (ob_c (ix_of (by omega) (by omega)) (ob_c (decide_eq_true (by omega)) ob_n))
theorem evAp_ok {F:Nat → Nat → Ch} {n:Nat} (h:n < 4096):evAp (lights F n) n = true := by
 unfold evAp
 have hm:4096 ≤ maxLen := by decide
 rw [lights_len,decide_eq_true (show (1:Nat) ≤ 1 by omega),decide_eq_true (show n + 1 ≤ maxLen by omega),decide_eq_true (show (n + 1) * 96 ≤ 140737488355328 by omega),decide_eq_true (show 0 + 1 * 12 ≤ 12 by omega),decide_eq_true rfl]; rfl
theorem beq_t {a b:Int} (h:a = b):(a == b) = true := by rw [h]; exact beq_self_eq_true b
theorem beq_f {a b:Int} (h:a ≠ b):(a == b) = false := by simpa using h
section
variable {N:Nde} {o:List SV → Nat → Bool} (hO:OracleOk Tryz.prog (OE o N)) {e:TypeId} {cells cs:List SV} {v u:V3} {off len cap i:Nat} {x:Nat → SV} {B:Bs} (hB1:B.M.length = 1) (K:OkPg cs len) (hca:CellsAt cells off cs) (hB:evNB N v u (fun k j => (chL (allE N v u cs k) i).getD j Ch.zero) (ndR cs (i * 19)) = true) (hi:i < len)
include hO hB1 K hca hB hi
theorem ev_round:RunsB Tryz.prog B eBd (evS e cells (lights (ltF N v u cs) i) v u off len cap i (i:Int) x none) .normal (fun t => ∃ x',t = evS e cells (lights (ltF N v u cs) (i + 1)) v u off len cap (i + 1) ((i + 1:Nat):Int) x' none) := by
 have hK := K.hi
 obtain ⟨hck,hnr⟩ := K.at hca hi
 have hw:IntKind.i64.wrap ((i:Int) + 1) = ((i + 1:Nat):Int) := wrap_s (by omega)
 have hk:∀ (j:Nat),∀ n,n < B.M.length → ([0,1,2,3,j]:List Nat)[n]? = some n := fun j n hn => by
  rw [hB1] at hn
  have:n = 0 := by omega
  subst this; rfl
 have hnd0:nd0 cells off (i:Int) = ndR cs (i * 19) := by unfold nd0; rw [Int.toNat_natCast]; exact hnr
 have hH := evHd_ok (len := len) hck hi
 have hA := evAp_ok (F := ltF N v u cs) (n := i) (by omega)
 have b := hB
 have hnd := K.nd i hi
 have hF:∀ k,ltF N v u cs k i = (evN N v u k (fun j => (chL (allE N v u cs k) i).getD j Ch.zero) (ndR cs (i * 19))).1 := fun _ => rfl
 have g:∀ {a:Int} (k:Nat),0 ≤ a → a < i → (chL (allE N v u cs k) i).getD a.toNat Ch.zero = ltF N v u cs k a.toNat := fun _ _ _ => chL_get _ (by omega)
 have gl:∀ {a:Int} (k:Nat),k < 3 → 0 ≤ a → a < i → lcAt (lights (ltF N v u cs) i) k a.toNat = ltF N v u cs k a.toNat := fun k h3 h0 h1 => (lc_at (lights_at (ltF N v u cs) (by omega)) k h3).1
 have hrow:lights (ltF N v u cs) (i + 1) = lights (ltF N v u cs) i ++ ltC (fun k => ltF N v u cs k i) := rfl
 rw [hrow]
 unfold evNB at b
 simp only [Bool.and_eq_true,decide_eq_true_eq] at b
 obtain ⟨b0,b1,b2,b3⟩ := b
 generalize ndR cs (i * 19) = n at hnd hnd0 b0 b1 b2 b3 hF
 by_cases h5:n.k = 5
 ·obtain ⟨⟨a0,a1⟩,c0,c1⟩ := okNd_mix hnd h5
  have ev:∀ k,k < 3 → mixC N.K (n.f 15) (lcAt (lights (ltF N v u cs) i) k n.a.toNat) (lcAt (lights (ltF N v u cs) i) k n.b.toNat) = evN N v u k (fun j => (chL (allE N v u cs k) i).getD j Ch.zero) n := fun k h3 => by
   unfold evN
   rw [decide_eq_true h5,cond_true,gl k h3 a0 a1,gl k h3 c0 c1]
   show _ = mixC N.K (n.f 15) ((chL (allE N v u cs k) i).getD n.a.toNat Ch.zero) ((chL (allE N v u cs k) i).getD n.b.toNat Ch.zero)
   rw [g k a0 a1,g k c0 c1]
  have hob:ObsOk (evA N o e cells (lights (ltF N v u cs) i) v u off len cap i (i:Int) x dMx).ob := by
   rw [evOm]
   unfold mxObs
   rw [hnd0,ev 0 (by decide),ev 1 (by decide),ev 2 (by decide)]
   refine ob_c hA (ndOb_ok b1 b2 b3 (ob_a (rdOb_ok c0 c1 (by decide)) (rdOb_ok a0 a1 (by decide))) (ob_a (rdOb_ok c0 c1 (by decide)) (rdOb_ok a0 a1 (by decide))) (ob_a (rdOb_ok c0 c1 (by decide)) (rdOb_ok a0 a1 (by decide))) (ob_a (ob_c (beq_t h5) ob_n) hH))
  have hM := evMm N o e cells (lights (ltF N v u cs) i) v u off len cap i (i:Int) x
  rw [hnd0,ltC_ext (d := fun k => ltF N v u cs k i) (fun k h3 => by rw [ev k h3]; exact (hF k).symm)] at hM
  refine RunsB.re (d := some dMx) (o := []) (RunsB.sel (RunsP.bs (Lands.runs goodG hO (evLm N o e cells (lights (ltF N v u cs) i) v u off len cap i (i:Int) x) hob)) rfl hM (hk 19) fun vv => ?_)
  refine ⟨_,⟨evXm N o e cells (lights (ltF N v u cs) i) v u off len cap i (i:Int) x vv,rfl⟩,same_eq ?_ ?_⟩
  ·have hT := evTm N o e cells (lights (ltF N v u cs) i) v u off len cap i (i:Int) x vv
   rw [hw] at hT
   exact (hT _).symm
  ·rw [sel_M]; rfl
 by_cases h6:n.k = 6
 ·obtain ⟨a0,a1⟩ := okNd_coat hnd h6
  rw [decide_eq_false h5,decide_eq_true h6,cond_false,cond_true] at b0
  simp only [Bool.and_eq_true,decide_eq_true_eq] at b0
  obtain ⟨⟨v1,v2⟩,u1,u2⟩ := b0
  have ev:∀ k,k < 3 → overC N.K (N.D v.z ⟨n.f 14,n.f 14⟩).1 (N.D u.z ⟨n.f 14,n.f 14⟩).1 (n.f (3 + k)) (lcAt (lights (ltF N v u cs) i) k n.a.toNat) = evN N v u k (fun j => (chL (allE N v u cs k) i).getD j Ch.zero) n := fun k h3 => by
   unfold evN
   rw [decide_eq_false h5,decide_eq_true h6,cond_false,cond_true,gl k h3 a0 a1]
   show _ = overC N.K (N.D v.z ⟨n.f 14,n.f 14⟩).1 (N.D u.z ⟨n.f 14,n.f 14⟩).1 (n.f (3 + k)) ((chL (allE N v u cs k) i).getD n.a.toNat Ch.zero)
   rw [g k a0 a1]
  have hob:ObsOk (evA N o e cells (lights (ltF N v u cs) i) v u off len cap i (i:Int) x dCo).ob := by
   rw [evOc]
   unfold coObs ovE coO
   rw [hnd0,ev 0 (by decide),ev 1 (by decide),ev 2 (by decide)]
   refine ob_c hA (ndOb_ok b1 b2 b3 (rdOb_ok a0 a1 (by decide)) (rdOb_ok a0 a1 (by decide)) (rdOb_ok a0 a1 (by decide)) (ob_c (beq_t u2) (ob_a (ob_a (ob_a (Bu.obsB_ok u1) (ob_c (ne_0 v2) (ob_a (Bu.obsB_ok v1) ob_n))) (ob_c (beq_t h6) (ob_c (beq_f h5) ob_n))) hH)))
  have hM := evMc N o e cells (lights (ltF N v u cs) i) v u off len cap i (i:Int) x
  unfold ovE at hM
  rw [hnd0,ltC_ext (d := fun k => ltF N v u cs k i) (fun k h3 => by rw [ev k h3]; exact (hF k).symm)] at hM
  refine RunsB.re (d := some dCo) (o := []) (RunsB.sel (RunsP.bs (Lands.runs goodG hO (evLc N o e cells (lights (ltF N v u cs) i) v u off len cap i (i:Int) x) hob)) rfl hM (hk 20) fun vv => ?_)
  refine ⟨_,⟨evXc N o e cells (lights (ltF N v u cs) i) v u off len cap i (i:Int) x vv,rfl⟩,same_eq ?_ ?_⟩
  ·have hT := evTc N o e cells (lights (ltF N v u cs) i) v u off len cap i (i:Int) x vv
   rw [hw] at hT
   exact (hT _).symm
  ·rw [sel_M]; rfl
 ·rw [decide_eq_false h5,decide_eq_false h6,cond_false,cond_false] at b0
  simp only [Bool.and_eq_true] at b0
  obtain ⟨l0,l1,l2⟩ := b0
  have ev:∀ k,evN N v u k (fun j => (chL (allE N v u cs k) i).getD j Ch.zero) n = (⟨(N.g (lfE v u k n)).1,I.zero⟩,(N.g (lfE v u k n)).2) := fun k => by
   unfold evN
   rw [decide_eq_false h5,decide_eq_false h6,cond_false,cond_false]
  rw [ev] at b1 b2 b3
  have hob:ObsOk (evA N o e cells (lights (ltF N v u cs) i) v u off len cap i (i:Int) x dLf).ob := by
   rw [evOl]
   unfold lfObs
   rw [hnd0]
   exact ob_c hA (ndOb_ok b1 b2 b3 (Bu.obsB_ok l0) (Bu.obsB_ok l1) (Bu.obsB_ok l2) (ob_a (ob_c (beq_f h6) (ob_c (beq_f h5) ob_n)) hH))
  have hM := evMl N o e cells (lights (ltF N v u cs) i) v u off len cap i (i:Int) x
  rw [hnd0,ltC_ext (d := fun k => ltF N v u cs k i) (fun k h3 => by rw [hF k,ev k])] at hM
  refine RunsB.re (d := some dLf) (o := []) (RunsB.sel (RunsP.bs (Lands.runs goodG hO (evLl N o e cells (lights (ltF N v u cs) i) v u off len cap i (i:Int) x) hob)) rfl hM (hk 19) fun vv => ?_)
  refine ⟨_,⟨evXl N o e cells (lights (ltF N v u cs) i) v u off len cap i (i:Int) x vv,rfl⟩,same_eq ?_ ?_⟩
  ·have hT := evTl N o e cells (lights (ltF N v u cs) i) v u off len cap i (i:Int) x vv
   rw [hw] at hT
   exact (hT _).symm
  ·rw [sel_M]; rfl
end
end Go.Proofs.YtejcekikbnlllaaGreat
namespace Rx
open Go Go.RowKit
theorem RunsB.numr {P:Program} {B:Bs} {c:Code} {s:St} {ex:Ex} {Φ Ψ:St → Prop} (h:RunsB P B c s ex Φ)
  (k:∀ t,Φ t → ∃ n e cells z,t.M[n]? = some ⟨e,cells,.row z⟩ ∧ idsLts 0 cells = true ∧ Ψ ⟨t.T,t.M.set n ⟨e,cells,.rown z⟩,t.ds,t.ob⟩):RunsB P B c s ex Ψ := by
 intro m a w Q hs hg hq
 refine h m a w Q hs hg fun t m' a' w' h1 hst hg' => ?_
 obtain ⟨n,e,cells,z,hb,hi,hΨ⟩ := k t h1
 have hnl:n < t.M.length := (List.getElem?_eq_some_iff.1 hb).1
 have lv:∀ j,liveM (t.M.set n ⟨e,cells,.rown z⟩) j → liveM t.M j := fun j hl => by
  obtain ⟨b,h2,h3⟩ := hl
  rw [List.getElem?_set] at h2
  split at h2
  ·rename_i e1
   subst e1
   exact ⟨_,hb,rfl⟩
  ·exact ⟨b,h2,h3⟩
 refine hq _ m' a' w' hΨ ⟨hst.tm,hst.df,⟨hst.mem.ok,fun j j' q l1 l2 h1 h2 => hst.mem.inj j j' q (lv j l1) (lv j' l2) h1 h2,fun j b hj => ?_,fun j q hj => ?_⟩⟩ ⟨hg'.ext,hg'.fr,hg'.new,fun j q hj hl => hg'.dd j q hj (lv j hl)⟩
 ·have hj0:(t.M.set n ⟨e,cells,.rown z⟩)[j]? = some b := hj
  rw [List.getElem?_set] at hj0
  split at hj0
  ·rename_i e1
   subst e1
   simp only [Option.some.injEq] at hj0
   subst hj0
   obtain ⟨r,hr,hat⟩ := hst.mem.blk n _ hb
   refine ⟨r,hr,fun _ => ?_⟩
   obtain ⟨cv,sp,d1,h2,k1⟩ := hat rfl
   exact ⟨cv,sp,d1,h2,⟨k1,hi⟩⟩
  ·exact hst.mem.blk j b hj0
 ·show j < (t.M.set n _).length
  rw [List.length_set]; exact hst.mem.dom j q hj
theorem RunsB.keep {P:Program} {B:Bs} {d:Code} {t:St} {ex:Ex} {Φ:St → Prop} {ids:List Nat} {M':List Blk} (hn:nodupB ids = true) (hM:selM t.M ids = some M') (hk:∀ (n:Nat),n < B.M.length → ids[n]? = some n) (h:∀ v,RunsB P B d (t.sel ids M' v) ex Φ):RunsB P B d t ex Φ :=
 fun m _ w Q hs hg hq => h _ (m.sel ids) _ w Q (hs.sel hn hM) (hg.sel hn hM hk) hq
theorem rd_of_runsB {P:Program} {g:FuncId} {fn:Func} {c:Code} (hg:P.funcs[g]? = some fn) (hb:fn.body = some c) {cs l:List SV} {len:Nat} {vc vs:List Value} {x:SV} {v:Value} (hc:plains cs = some vc) (hl:plains l = some vs) (hx:plain x = some v) {d:Dec}
  (h:∀ (e:TypeId) (cells:List SV) (off cap:Nat),CellsAt cells off cs → idsLts 0 cells = true → ∀ B:Bs,B.M = [⟨e,cells,.num⟩] →
   RunsB P B c ⟨(.ssl 0 off len cap :: l) ++ List.replicate (fn.ntmps - (l.length + 1)) (.tup []),[⟨e,cells,.num⟩],d,[]⟩ .ret (fun t => resultS P fn t = some x ∧ ∃ rest,t.M = ⟨e,cells,.num⟩ :: rest))
  (w:World) (r off cap:Nat) (hw:RowAt w r off vc):Calls P g (Value.slice (some ⟨r,off,none⟩) len cap :: vs).toArray w fun e w' => e = .returned v ∧ Below w.heap.size w w' := by
 obtain ⟨m,e,cells,hM,h0,hca,hid⟩ := rd_cells hc hw
 have hd:dens m (.ssl 0 off len cap :: l) = some (Value.slice (some ⟨r,off,none⟩) len cap :: vs) := dens_cons (by simp only [den,h0,Option.map_some]) (dens_plains hl)
 refine Calls.mono (RunsB.call hg hb (args := .ssl 0 off len cap :: l) (x := fun _ => x) hd hM (h e cells off cap hca hid ⟨m,[⟨e,cells,.num⟩],w,hM⟩ rfl) (fun t ht => ht.1)) fun ex w' ⟨t,m',u,⟨_,rest,hr⟩,he,hv,hM',hgo⟩ => ?_
 rw [den_plain hx] at hv
 have := Option.some.inj hv
 subst this
 rw [hr] at hM' hgo
 exact ⟨he,Goes.read hM hgo hM'⟩
end Rx
namespace Bu
open Rx Go
theorem lt_s {lc:List SV} {a:Nat} {c:Nat → Ch} (h:CellsAt lc (a * 12) (ltC c)):Go.Proofs.YtejcekikbnlllaaGreat.ltS lc a = .agg (ltC c) := by
 have e0 := h 0 _ rfl
 have e1 := h 1 _ rfl
 have e2 := h 2 _ rfl
 have e3 := h 3 _ rfl
 have e4 := h 4 _ rfl
 have e5 := h 5 _ rfl
 have e6 := h 6 _ rfl
 have e7 := h 7 _ rfl
 have e8 := h 8 _ rfl
 have e9 := h 9 _ rfl
 have e10 := h 10 _ rfl
 have e11 := h 11 _ rfl
 rw [Nat.add_zero] at e0
 unfold Go.Proofs.YtejcekikbnlllaaGreat.ltS
 simp only [flAt,e0,e1,e2,e3,e4,e5,e6,e7,e8,e9,e10,e11]
 rfl
end Bu
namespace Go.Proofs.YtejcekikbnlllaaGreat
open Go.RowKit Bu Rx
section
variable {N:Nde} {o:List SV → Nat → Bool} (hO:OracleOk Tryz.prog (OE o N)) {e:TypeId} {cells cs:List SV} {v u:V3} {off len cap:Nat} {B:Bs} (hB1:B.M.length = 1) (K:OkPg cs len) (hca:CellsAt cells off cs)
include hO hB1 K hca
set_option maxRecDepth 20000 in
theorem ev_first (hB:evNB N v u (fun k j => (chL (allE N v u cs k) 0).getD j Ch.zero) (ndR cs (0 * 19)) = true) {x:Nat → SV}:RunsB Tryz.prog B eBd (evS0 e cells v u off len cap ((0:Nat):Int) x none) .normal (fun t => ∃ x',t = evS e cells (lights (ltF N v u cs) 1) v u off len cap 1 ((1:Nat):Int) x' none) := by
 have hi:0 < len := K.lo
 obtain ⟨hck,hnr⟩ := K.at hca hi
 have hk:∀ n,n < B.M.length → ([0,1,2,3,18]:List Nat)[n]? = some n := fun n hn => by
  rw [hB1] at hn
  have:n = 0 := by omega
  subst this; rfl
 have hnd0:nd0 cells off ((0:Nat):Int) = ndR cs (0 * 19) := by unfold nd0; rw [Int.toNat_natCast]; exact hnr
 have hH := evHd_ok (len := len) hck hi
 have b := hB
 have hnd := K.nd 0 hi
 have hF:∀ k,ltF N v u cs k 0 = (evN N v u k (fun j => (chL (allE N v u cs k) 0).getD j Ch.zero) (ndR cs (0 * 19))).1 := fun _ => rfl
 have hrow:lights (ltF N v u cs) 1 = ltC (fun k => ltF N v u cs k 0) := rfl
 rw [hrow]
 unfold evNB at b
 simp only [Bool.and_eq_true,decide_eq_true_eq] at b
 obtain ⟨b0,b1,b2,b3⟩ := b
 generalize ndR cs (0 * 19) = n at hnd hnd0 b0 b1 b2 b3 hF
 have h5:n.k ≠ 5 := fun h5 => by
  obtain ⟨⟨a0,a1⟩,_⟩ := okNd_mix hnd h5
  have:((0:Nat):Int) = 0 := rfl
  omega
 have h6:n.k ≠ 6 := fun h6 => by
  obtain ⟨a0,a1⟩ := okNd_coat hnd h6
  have:((0:Nat):Int) = 0 := rfl
  omega
 rw [decide_eq_false h5,decide_eq_false h6,cond_false,cond_false] at b0
 simp only [Bool.and_eq_true] at b0
 obtain ⟨l0,l1,l2⟩ := b0
 have ev:∀ k,evN N v u k (fun j => (chL (allE N v u cs k) 0).getD j Ch.zero) n = (⟨(N.g (lfE v u k n)).1,I.zero⟩,(N.g (lfE v u k n)).2) := fun k => by
  unfold evN
  rw [decide_eq_false h5,decide_eq_false h6,cond_false,cond_false]
 rw [ev] at b1 b2 b3
 have hob:ObsOk (evZ N o e cells v u off len cap ((0:Nat):Int) x).ob := by
  rw [evOz]
  unfold lfObs
  rw [hnd0]
  exact ndOb_ok b1 b2 b3 (Bu.obsB_ok l0) (Bu.obsB_ok l1) (Bu.obsB_ok l2) (ob_a (ob_c (beq_f h6) (ob_c (beq_f h5) ob_n)) hH)
 have hM := evMz N o e cells v u off len cap ((0:Nat):Int) x
 rw [hnd0,ltC_ext (d := fun k => ltF N v u cs k 0) (fun k h3 => by rw [hF k,ev k])] at hM
 generalize ltF N v u cs = F at hM ⊢
 have hw:IntKind.i64.wrap (((0:Nat):Int) + 1) = ((1:Nat):Int) := by decide
 refine RunsB.fin (Φ := fun t => ∃ x',t = ⟨evT off len cap v u (.osl false 4 (0 + 1)) (.si .i64 ((1:Nat):Int)) x',evP e cells v u ++ [⟨65,ltC (fun k => F k 0),.rown 12⟩],none,[]⟩) ?_ fun t ⟨x',ht⟩ => ?_
 ·refine RunsB.numr (Φ := fun t => ∃ x',t = ⟨evT off len cap v u (.osl false 4 (0 + 1)) (.si .i64 ((1:Nat):Int)) x',evP e cells v u ++ [⟨65,ltC (fun k => F k 0),.row 12⟩],none,[]⟩) ?_ fun t ⟨x',ht⟩ => ?_
  ·refine RunsB.re (d := some [true,false,false,true,true,false]) (o := []) (RunsB.sel (RunsP.bs (Lands.runs goodG hO (evLz N o e cells v u off len cap ((0:Nat):Int) x) hob)) rfl hM hk fun vv => ?_)
   refine ⟨_,⟨evXz N o e cells v u off len cap ((0:Nat):Int) x vv,rfl⟩,same_eq ?_ ?_⟩
   ·have hT := evTz N o e cells v u off len cap ((0:Nat):Int) x vv
    rw [hw] at hT
    exact (hT _).symm
   ·rw [sel_M]
  ·subst ht
   exact ⟨4,65,ltC (fun k => F k 0),12,rfl,rfl,x',rfl⟩
 ·subst ht
  exact ⟨_,⟨x',rfl⟩,same_T (fun m => by simp only [evS,evT,dens,den,Nat.zero_add]) rfl⟩
variable (hB:evB N v u cs len = true)
include hB
theorem ev_loop {x:Nat → SV}:RunsB Tryz.prog B (.block 0 (.loop eBd)) (evS0 e cells v u off len cap ((0:Nat):Int) x none) .normal (fun t => ∃ y,t = evS e cells (lights (ltF N v u cs) len) v u off len cap len (len:Int) y none) := by
 have hlo := K.lo
 refine loop_invB (fun (j:Nat) (y:Nat → SV) => match j with
  | 0 => evS0 e cells v u off len cap ((0:Nat):Int) y none
  | j + 1 => evS e cells (lights (ltF N v u cs) (j + 1)) v u off len cap (j + 1) ((j + 1:Nat):Int) y none) (fun _ _ => True) len ?_ ?_ _ trivial
 ·intro j y hj _
  cases j with
  | zero => exact RunsB.mono (ev_first hO hB1 K hca (evB_at hB K.lo)) fun t ⟨x',ht⟩ => ⟨x',trivial,ht⟩
  | succ j => exact RunsB.mono (ev_round hO hB1 K hca (evB_at hB hj) hj) fun t ⟨x',ht⟩ => ⟨x',trivial,ht⟩
 ·intro y _
  obtain ⟨n,rfl⟩:∃ n,len = n + 1 := ⟨len - 1,by omega⟩
  have hob:ObsOk (aft Tryz.prog EG (OE o N) 60 eBd (evS e cells (lights (ltF N v u cs) (n + 1)) v u off (n + 1) cap (n + 1) ((n + 1:Nat):Int) y (some [false]))).ob := by rw [evXo]; exact ob_c (decide_eq_false (by omega)) ob_n
  refine RunsB.re (d := some [false]) (o := []) (RunsP.bs (Lands.fin goodG hO (evLx N o e cells _ v u off (n + 1) cap (n + 1) _ y) hob ?_))
  refine ⟨_,⟨_,rfl⟩,same_eq (congrArg St.T (evXo N o e cells _ v u off (n + 1) cap (n + 1) _ y)).symm (congrArg St.M (evXo N o e cells _ v u off (n + 1) cap (n + 1) _ y)).symm⟩
set_option maxRecDepth 20000 in
theorem ev_all (ho:o ((cells.drop off).take (len * 19)) len = true) (hd:ObsOk (vcO u ++ vcO v)) (hBM:B.M = [⟨e,cells,.num⟩]):RunsB Tryz.prog B eC (eEn e cells v u off len cap none) .ret
  (fun t => resultS Tryz.prog Tryz.f77 t = some (.tup [.agg (ltC (fun k => ltF N v u cs k (len - 1))),.i .i64 0]) ∧ ∃ rest,t.M = ⟨e,cells,.num⟩ :: rest) := by
 have hlo := K.lo
 have hhi := K.hi
 have hE:ObsOk (evEO o cells v u off len) := by
  have hu:ObsOk (vcO u) := fun p hp => hd p (List.mem_append_left _ hp)
  have hv:ObsOk (vcO v) := fun p hp => hd p (List.mem_append_right _ hp)
  exact ob_a hu (ob_a hv (ob_c ho ob_n))
 refine RunsB.re (d := some (List.replicate 18 true)) (o := []) ((evL4 N o e cells v u off len cap).ok goodG hO (by rw [evO4]; exact hE) ?_)
 rw [eC_cut]
 refine RunsB.seq (Φ := fun t => ∃ y,t = evS e cells (lights (ltF N v u cs) len) v u off len cap len (len:Int) y none) ?_ fun t ⟨y,ht⟩ => ?_
 ·refine LandsB.seq goodG hO (evL5 N o e cells v u off len cap) (by rw [evO5]; exact hE) ?_
  refine RunsB.keep (ids := [0,1,2,3]) rfl (evM5 N o e cells v u off len cap) (fun n hn => by
   rw [hB1] at hn
   have:n = 0 := by omega
   subst this; rfl) fun vv => ?_
  have hs:SameSt (evS0 e cells v u off len cap ((0:Nat):Int) (ev5X N o e cells v u off len cap vv) none) ((ev5 N o e cells v u off len cap).sel [0,1,2,3] (evP e cells v u) vv) := by
   refine same_T (fun m => ?_) rfl
   rw [evT5]
   simp only [evS0,evT,dens,den,Int.natCast_zero]
  exact RunsB.retell hs (ev_loop hO hB1 K hca hB)
 ·subst ht
  have hw:IntKind.i64.wrap ((len:Int) - 1) = ((len - 1:Nat):Int) := by rw [IntKind.wrap_i64]; omega
  have hat := lights_at (ltF N v u cs) (show len - 1 < len by omega)
  refine RunsP.bs (Lands.all goodG hO (evEL N o e cells _ v u off len cap len (len:Int) y) ?_ ⟨?_,evEM N o e cells _ v u off len cap len (len:Int) y⟩)
  ·rw [evEO_,hw,Int.toNat_natCast]
   exact ob_c (lt_ck hat) (ob_c (ix_of (by omega) (by omega)) ob_n)
  ·rw [evER,hw,Int.toNat_natCast,lt_s hat]
end
def ltV (c:Nat → Ch):Value := .agg #[.float .f64 (c 0).p.lo.b,.float .f64 (c 0).p.hi.b,.float .f64 (c 1).p.lo.b,.float .f64 (c 1).p.hi.b,.float .f64 (c 2).p.lo.b,.float .f64 (c 2).p.hi.b,.float .f64 (c 0).m.lo.b,.float .f64 (c 0).m.hi.b,.float .f64 (c 1).m.lo.b,.float .f64 (c 1).m.hi.b,.float .f64 (c 2).m.lo.b,.float .f64 (c 2).m.hi.b]
theorem lt_plain (c:Nat → Ch):plain (.tup [.agg (ltC c),.i .i64 0]) = some (.tuple #[ltV c,.int .i64 0]) := rfl
theorem vnK:PlainOk Tryz.prog 231 (kVn (vlG GmR KkR) vlO) := by
 intro args ds x ds' ob h ho
 unfold kVn at h
 split at h
 ·rename_i y ch p0 p1 p2 p3 p4 p5 r0 r1 r2 r3 r4 r5
  split at h
  ·rename_i n c hn hc
   simp only [Option.some.injEq,Prod.mk.injEq] at h
   obtain ⟨rfl,_,rfl⟩ := h
   have ha:n.a = 0 := of_decide_eq_true (ho _ (List.mem_cons_self ..))
   have hb:n.b = 0 := of_decide_eq_true (ho _ (List.mem_cons_of_mem _ (List.mem_cons_self ..)))
   have h4:ObsOk (vlO ⟨n.k,etaF n.f,c,⟨⟨p0,p1⟩,⟨p2,p3⟩,⟨p4,p5⟩⟩,⟨⟨r0,r1⟩,⟨r2,r3⟩,⟨r4,r5⟩⟩⟩) := fun p hp => ho p (List.mem_cons_of_mem _ (List.mem_cons_of_mem _ hp))
   have hy := ndOf_plain hn
   have hch := intS_plain hc
   have hnd:ndV n = nodeV n.k (etaF n.f) := by
    unfold ndV; rw [ha,hb]; rfl
   rw [hnd] at hy
   obtain ⟨vs,v,h5,h6,h7⟩ := valK (vArgs n.k (etaF n.f) c ⟨⟨p0,p1⟩,⟨p2,p3⟩,⟨p4,p5⟩⟩ ⟨⟨r0,r1⟩,⟨r2,r3⟩,⟨r4,r5⟩⟩) ds _ ds _ rfl h4
   refine ⟨vs,v,?_,h6,h7⟩
   rw [← h5]
   have e1:plain (nodeS n.k (etaF n.f)) = some (nodeV n.k (etaF n.f)) := (nd_pl _ _).1
   have e2:plain (.si .i64 c) = some (.int .i64 c) := rfl
   show plains (y :: ch :: _) = plains (nodeS n.k (etaF n.f) :: .si .i64 c :: _)
   unfold plains plains
   rw [hy,e1,hch,e2]
   rfl
  ·cases h
 ·cases h
structure Nee where
 o:List SV → Nat → Bool
 g:V3 → V3 → List SV → Nat → Nat → Ch
 b:V3 → V3 → List SV → Nat → Bool
noncomputable def NeR:Nde := ⟨KkR,fun c n => lnR (fdK KkR c n) 0,fdO,vlG GmR KkR,vlO⟩
theorem oracleOE:OracleOk Tryz.prog (OE okPg NeR) :=
 .cons addC <| .cons subC <| .cons mulC <| .cons divC <| .cons cmax_I <| .cons sqrC <| .cons csqrt_I <|
 .cons negC <|
 .cons numC <| .cons irtK.of <| .cons rightG.of <| .cons absG.of <| .cons vwG.of <| .cons piG.of <| .cons rgtG.of <| .cons fdG.of <| .cons vnK.of <| .nil _
section
variable (E:Nee) (un:F → F → F → V3) (ub:F → F → F → Bool) (e:TypeId) (cells:List SV) (off len cap:Nat) (x y z r s t:F)
end
end Go.Proofs.YtejcekikbnlllaaGreat
namespace Rx
open Go Go.RowKit
section
variable {P:Program} {B:Bs}
theorem RunsB.seq_ret {c d:Code} {s:St} {Φ:St → Prop} (h:RunsB P B c s .ret Φ):RunsB P B (.seq c d) s .ret Φ := by
 intro m a w Q hs hg hq
 exact wp_seq (h m a w _ hs hg fun s1 m' a' w' h1 hs' hg' => hq s1 m' a' w' h1 hs' hg')
theorem RunsB.block_ret {id:Nat} {c:Code} {s:St} {Φ:St → Prop} (h:RunsB P B c s .ret Φ):RunsB P B (.block id c) s .ret Φ := by
 intro m a w Q hs hg hq
 refine wp_block (h m a w _ hs hg fun s1 m' a' w' h1 hs' hg' => ?_)
 exact hq s1 m' a' w' h1 hs' hg'
theorem RoundsB.ret {n:Nat} {c:Code} {s:St} {Φ:St → Prop} (h:RunsB P B c s .ret Φ):RoundsB P B c (n + 1) s .ret Φ := by
 intro m a w Q hs hg hq
 rw [rounds_succ]
 exact h m a w _ hs hg fun s1 m' a' w' h1 hs' hg' => hq s1 m' a' w' h1 hs' hg'
theorem loop_outB {body:Code} {id:Nat} {Φ:St → Prop} {α:Type} (S:α → St) (μ:α → Nat) (I:α → Prop)
  (h:∀ x,I x → RunsB P B body (S x) (.exit id) Φ ∨ RunsB P B body (S x) .normal (fun t => ∃ x',I x' ∧ μ x' < μ x ∧ t = S x')) (x:α) (h0:I x):RunsB P B (.block id (.loop body)) (S x) .normal Φ := by
 refine RunsB.block (RunsB.loop (n := μ x + 1) ?_)
 have key:∀ n x,μ x ≤ n → I x → RoundsB P B body (n + 1) (S x) (.exit id) Φ := by
  intro n
  induction n with
  | zero =>
    intro x h1 hi
    rcases h x hi with g | g
    ·exact RoundsB.out g
    ·exact RoundsB.next g fun t ⟨x',_,h2,_⟩ => absurd h2 (by omega)
  | succ n ih =>
    intro x h1 hi
    rcases h x hi with g | g
    ·exact RoundsB.out g
    ·exact RoundsB.next g fun t ⟨x',hx,h2,ht⟩ => by subst ht; exact ih x' (by omega) hx
 exact key (μ x) x (Nat.le_refl _) h0
theorem loop_retB {body:Code} {id:Nat} {Φ:St → Prop} {α:Type} (S:α → St) (μ:α → Nat) (I:α → Prop)
  (h:∀ x,I x → RunsB P B body (S x) .ret Φ ∨ RunsB P B body (S x) .normal (fun t => ∃ x',I x' ∧ μ x' < μ x ∧ t = S x')) (x:α) (h0:I x):RunsB P B (.block id (.loop body)) (S x) .ret Φ := by
 refine RunsB.block_ret (RunsB.loop (n := μ x + 1) ?_)
 have key:∀ n x,μ x ≤ n → I x → RoundsB P B body (n + 1) (S x) .ret Φ := by
  intro n
  induction n with
  | zero =>
    intro x h1 hi
    rcases h x hi with g | g
    ·exact RoundsB.ret g
    ·exact RoundsB.next g fun t ⟨x',_,h2,_⟩ => absurd h2 (by omega)
  | succ n ih =>
    intro x h1 hi
    rcases h x hi with g | g
    ·exact RoundsB.ret g
    ·exact RoundsB.next g fun t ⟨x',hx,h2,ht⟩ => by subst ht; exact ih x' (by omega) hx
 exact key (μ x) x (Nat.le_refl _) h0
end
end Rx
namespace Go.Proofs.YtejcekikbnlllaaGreat
open Go.RowKit Bu Rx
def zLt:SV := .agg [.fl (toF 0),.fl (toF 0),.fl (toF 0),.fl (toF 0),.fl (toF 0),.fl (toF 0),.fl (toF 0),.fl (toF 0),.fl (toF 0),.fl (toF 0),.fl (toF 0),.fl (toF 0)]
def ndE0 (e0:Int) (o0 t:Obs):Obs := (e0 != 0,true) :: (e0 == 0,false) :: ((o0 ++ []) ++ t)
def ndE1 (e0 e1:Int) (o0 o1 t:Obs):Obs := (e1 != 0,true) :: (e1 == 0,false) :: ((o1 ++ []) ++ ((e0 == 0,true) :: ((o0 ++ []) ++ t)))
def ndE2 (e0 e1 e2:Int) (o0 o1 o2 t:Obs):Obs := (e2 != 0,true) :: ((o2 ++ []) ++ ((e1 == 0,true) :: ((o1 ++ []) ++ ((e0 == 0,true) :: ((o0 ++ []) ++ t)))))
section
variable (N:Nde) (o:List SV → Nat → Bool) (e:TypeId) (cells lc:List SV) (v u:V3) (off len cap n:Nat) (i:Int) (x:Nat → SV)
noncomputable abbrev ezR (d:List Bool):St := aft Tryz.prog EG (OE o N) 60 eBd (evS0 e cells v u off len cap i x (some d))
def lfE0 (N:Nde) (v u:V3) (cells:List SV) (off:Nat) (i:Int) (k:Nat):Int := (N.g (lfE v u k (nd0 cells off i))).2
def mxE0 (N:Nde) (cells lc:List SV) (off:Nat) (i:Int) (k:Nat):Int := (mixC N.K ((nd0 cells off i).f 15) (lcAt lc k (nd0 cells off i).a.toNat) (lcAt lc k (nd0 cells off i).b.toNat)).2
def coI (cells:List SV) (off:Nat) (i:Int):I := ⟨(nd0 cells off i).f 14,(nd0 cells off i).f 14⟩
def coV (N:Nde) (cells:List SV) (v:V3) (off:Nat) (i:Int) (t:Obs):Obs := ((N.D v.z (coI cells off i)).2 != 0,true) :: ((N.D v.z (coI cells off i)).2 == 0,false) :: (((((N.D v.z (coI cells off i)).2 != 0,true) :: (N.dO v.z (coI cells off i) ++ [])) ++ [((nd0 cells off i).k == 6,true),((nd0 cells off i).k == 5,false)]) ++ t)
def coU (N:Nde) (cells:List SV) (v u:V3) (off:Nat) (i:Int) (t:Obs):Obs := ((N.D u.z (coI cells off i)).2 != 0,true) :: ((N.D u.z (coI cells off i)).2 == 0,false) :: (((N.dO u.z (coI cells off i) ++ (((N.D v.z (coI cells off i)).2 != 0,false) :: (N.dO v.z (coI cells off i) ++ []))) ++ [((nd0 cells off i).k == 6,true),((nd0 cells off i).k == 5,false)]) ++ t)
theorem erL_z0:Lands Tryz.prog EG (OE o N) 60 eBd (evS0 e cells v u off len cap i x (some ([true,false,false] ++ [false,true]))) .ret := by unfold Lands; kernel_rfl
theorem erO_z0:(ezR N o e cells v u off len cap i x ([true,false,false] ++ [false,true])).ob = ndE0 (lfE0 N v u cells off i 0) (lfOb N v u (nd0 cells off i) 0) ([((nd0 cells off i).k == 6,false),((nd0 cells off i).k == 5,false)] ++ (evHd cells off len i)) := by kernel_rfl
theorem erR_z0:resultS Tryz.prog Tryz.f77 (ezR N o e cells v u off len cap i x ([true,false,false] ++ [false,true])) = some (.tup [zLt,.si .i64 (lfE0 N v u cells off i 0)]) := by kernel_rfl
theorem erM_z0:(ezR N o e cells v u off len cap i x ([true,false,false] ++ [false,true])).M = ⟨e,cells,.num⟩ :: (ezR N o e cells v u off len cap i x ([true,false,false] ++ [false,true])).M.tail := by kernel_rfl
theorem erL_z1:Lands Tryz.prog EG (OE o N) 60 eBd (evS0 e cells v u off len cap i x (some ([true,false,false] ++ [true,false,true]))) .ret := by unfold Lands; kernel_rfl
theorem erO_z1:(ezR N o e cells v u off len cap i x ([true,false,false] ++ [true,false,true])).ob = ndE1 (lfE0 N v u cells off i 0) (lfE0 N v u cells off i 1) (lfOb N v u (nd0 cells off i) 0) (lfOb N v u (nd0 cells off i) 1) ([((nd0 cells off i).k == 6,false),((nd0 cells off i).k == 5,false)] ++ (evHd cells off len i)) := by kernel_rfl
theorem erR_z1:resultS Tryz.prog Tryz.f77 (ezR N o e cells v u off len cap i x ([true,false,false] ++ [true,false,true])) = some (.tup [zLt,.si .i64 (lfE0 N v u cells off i 1)]) := by kernel_rfl
theorem erM_z1:(ezR N o e cells v u off len cap i x ([true,false,false] ++ [true,false,true])).M = ⟨e,cells,.num⟩ :: (ezR N o e cells v u off len cap i x ([true,false,false] ++ [true,false,true])).M.tail := by kernel_rfl
theorem erL_z2:Lands Tryz.prog EG (OE o N) 60 eBd (evS0 e cells v u off len cap i x (some ([true,false,false] ++ [true,true,true]))) .ret := by unfold Lands; kernel_rfl
theorem erO_z2:(ezR N o e cells v u off len cap i x ([true,false,false] ++ [true,true,true])).ob = ndE2 (lfE0 N v u cells off i 0) (lfE0 N v u cells off i 1) (lfE0 N v u cells off i 2) (lfOb N v u (nd0 cells off i) 0) (lfOb N v u (nd0 cells off i) 1) (lfOb N v u (nd0 cells off i) 2) ([((nd0 cells off i).k == 6,false),((nd0 cells off i).k == 5,false)] ++ (evHd cells off len i)) := by kernel_rfl
theorem erR_z2:resultS Tryz.prog Tryz.f77 (ezR N o e cells v u off len cap i x ([true,false,false] ++ [true,true,true])) = some (.tup [zLt,.si .i64 (lfE0 N v u cells off i 2)]) := by kernel_rfl
theorem erM_z2:(ezR N o e cells v u off len cap i x ([true,false,false] ++ [true,true,true])).M = ⟨e,cells,.num⟩ :: (ezR N o e cells v u off len cap i x ([true,false,false] ++ [true,true,true])).M.tail := by kernel_rfl
theorem erL_l0:Lands Tryz.prog EG (OE o N) 60 eBd (evS e cells lc v u off len cap n i x (some ([true,false,false] ++ [false,true]))) .ret := by unfold Lands; kernel_rfl
theorem erO_l0:(evA N o e cells lc v u off len cap n i x ([true,false,false] ++ [false,true])).ob = ndE0 (lfE0 N v u cells off i 0) (lfOb N v u (nd0 cells off i) 0) ([((nd0 cells off i).k == 6,false),((nd0 cells off i).k == 5,false)] ++ (evHd cells off len i)) := by kernel_rfl
theorem erR_l0:resultS Tryz.prog Tryz.f77 (evA N o e cells lc v u off len cap n i x ([true,false,false] ++ [false,true])) = some (.tup [zLt,.si .i64 (lfE0 N v u cells off i 0)]) := by kernel_rfl
theorem erM_l0:(evA N o e cells lc v u off len cap n i x ([true,false,false] ++ [false,true])).M = ⟨e,cells,.num⟩ :: (evA N o e cells lc v u off len cap n i x ([true,false,false] ++ [false,true])).M.tail := by kernel_rfl
theorem erL_l1:Lands Tryz.prog EG (OE o N) 60 eBd (evS e cells lc v u off len cap n i x (some ([true,false,false] ++ [true,false,true]))) .ret := by unfold Lands; kernel_rfl
theorem erO_l1:(evA N o e cells lc v u off len cap n i x ([true,false,false] ++ [true,false,true])).ob = ndE1 (lfE0 N v u cells off i 0) (lfE0 N v u cells off i 1) (lfOb N v u (nd0 cells off i) 0) (lfOb N v u (nd0 cells off i) 1) ([((nd0 cells off i).k == 6,false),((nd0 cells off i).k == 5,false)] ++ (evHd cells off len i)) := by kernel_rfl
theorem erR_l1:resultS Tryz.prog Tryz.f77 (evA N o e cells lc v u off len cap n i x ([true,false,false] ++ [true,false,true])) = some (.tup [zLt,.si .i64 (lfE0 N v u cells off i 1)]) := by kernel_rfl
theorem erM_l1:(evA N o e cells lc v u off len cap n i x ([true,false,false] ++ [true,false,true])).M = ⟨e,cells,.num⟩ :: (evA N o e cells lc v u off len cap n i x ([true,false,false] ++ [true,false,true])).M.tail := by kernel_rfl
theorem erL_l2:Lands Tryz.prog EG (OE o N) 60 eBd (evS e cells lc v u off len cap n i x (some ([true,false,false] ++ [true,true,true]))) .ret := by unfold Lands; kernel_rfl
theorem erO_l2:(evA N o e cells lc v u off len cap n i x ([true,false,false] ++ [true,true,true])).ob = ndE2 (lfE0 N v u cells off i 0) (lfE0 N v u cells off i 1) (lfE0 N v u cells off i 2) (lfOb N v u (nd0 cells off i) 0) (lfOb N v u (nd0 cells off i) 1) (lfOb N v u (nd0 cells off i) 2) ([((nd0 cells off i).k == 6,false),((nd0 cells off i).k == 5,false)] ++ (evHd cells off len i)) := by kernel_rfl
theorem erR_l2:resultS Tryz.prog Tryz.f77 (evA N o e cells lc v u off len cap n i x ([true,false,false] ++ [true,true,true])) = some (.tup [zLt,.si .i64 (lfE0 N v u cells off i 2)]) := by kernel_rfl
theorem erM_l2:(evA N o e cells lc v u off len cap n i x ([true,false,false] ++ [true,true,true])).M = ⟨e,cells,.num⟩ :: (evA N o e cells lc v u off len cap n i x ([true,false,false] ++ [true,true,true])).M.tail := by kernel_rfl
theorem erL_m0:Lands Tryz.prog EG (OE o N) 60 eBd (evS e cells lc v u off len cap n i x (some ([true,true] ++ [false,true]))) .ret := by unfold Lands; kernel_rfl
theorem erO_m0:(evA N o e cells lc v u off len cap n i x ([true,true] ++ [false,true])).ob = ndE0 (mxE0 N cells lc off i 0) (rdOb lc n (nd0 cells off i).b 0 ++ rdOb lc n (nd0 cells off i).a 0) ([((nd0 cells off i).k == 5,true)] ++ (evHd cells off len i)) := by kernel_rfl
theorem erR_m0:resultS Tryz.prog Tryz.f77 (evA N o e cells lc v u off len cap n i x ([true,true] ++ [false,true])) = some (.tup [zLt,.si .i64 (mxE0 N cells lc off i 0)]) := by kernel_rfl
theorem erM_m0:(evA N o e cells lc v u off len cap n i x ([true,true] ++ [false,true])).M = ⟨e,cells,.num⟩ :: (evA N o e cells lc v u off len cap n i x ([true,true] ++ [false,true])).M.tail := by kernel_rfl
theorem erL_m1:Lands Tryz.prog EG (OE o N) 60 eBd (evS e cells lc v u off len cap n i x (some ([true,true] ++ [true,false,true]))) .ret := by unfold Lands; kernel_rfl
theorem erO_m1:(evA N o e cells lc v u off len cap n i x ([true,true] ++ [true,false,true])).ob = ndE1 (mxE0 N cells lc off i 0) (mxE0 N cells lc off i 1) (rdOb lc n (nd0 cells off i).b 0 ++ rdOb lc n (nd0 cells off i).a 0) (rdOb lc n (nd0 cells off i).b 1 ++ rdOb lc n (nd0 cells off i).a 1) ([((nd0 cells off i).k == 5,true)] ++ (evHd cells off len i)) := by kernel_rfl
theorem erR_m1:resultS Tryz.prog Tryz.f77 (evA N o e cells lc v u off len cap n i x ([true,true] ++ [true,false,true])) = some (.tup [zLt,.si .i64 (mxE0 N cells lc off i 1)]) := by kernel_rfl
theorem erM_m1:(evA N o e cells lc v u off len cap n i x ([true,true] ++ [true,false,true])).M = ⟨e,cells,.num⟩ :: (evA N o e cells lc v u off len cap n i x ([true,true] ++ [true,false,true])).M.tail := by kernel_rfl
theorem erL_m2:Lands Tryz.prog EG (OE o N) 60 eBd (evS e cells lc v u off len cap n i x (some ([true,true] ++ [true,true,true]))) .ret := by unfold Lands; kernel_rfl
theorem erO_m2:(evA N o e cells lc v u off len cap n i x ([true,true] ++ [true,true,true])).ob = ndE2 (mxE0 N cells lc off i 0) (mxE0 N cells lc off i 1) (mxE0 N cells lc off i 2) (rdOb lc n (nd0 cells off i).b 0 ++ rdOb lc n (nd0 cells off i).a 0) (rdOb lc n (nd0 cells off i).b 1 ++ rdOb lc n (nd0 cells off i).a 1) (rdOb lc n (nd0 cells off i).b 2 ++ rdOb lc n (nd0 cells off i).a 2) ([((nd0 cells off i).k == 5,true)] ++ (evHd cells off len i)) := by kernel_rfl
theorem erR_m2:resultS Tryz.prog Tryz.f77 (evA N o e cells lc v u off len cap n i x ([true,true] ++ [true,true,true])) = some (.tup [zLt,.si .i64 (mxE0 N cells lc off i 2)]) := by kernel_rfl
theorem erM_m2:(evA N o e cells lc v u off len cap n i x ([true,true] ++ [true,true,true])).M = ⟨e,cells,.num⟩ :: (evA N o e cells lc v u off len cap n i x ([true,true] ++ [true,true,true])).M.tail := by kernel_rfl
theorem erL_cv:Lands Tryz.prog EG (OE o N) 60 eBd (evS e cells lc v u off len cap n i x (some ([true,false,true] ++ [true,false,true]))) .ret := by unfold Lands; kernel_rfl
theorem erO_cv:(evA N o e cells lc v u off len cap n i x ([true,false,true] ++ [true,false,true])).ob = coV N cells v off i (evHd cells off len i) := by kernel_rfl
theorem erR_cv:resultS Tryz.prog Tryz.f77 (evA N o e cells lc v u off len cap n i x ([true,false,true] ++ [true,false,true])) = some (.tup [zLt,.si .i64 (N.D v.z (coI cells off i)).2]) := by kernel_rfl
theorem erM_cv:(evA N o e cells lc v u off len cap n i x ([true,false,true] ++ [true,false,true])).M = ⟨e,cells,.num⟩ :: (evA N o e cells lc v u off len cap n i x ([true,false,true] ++ [true,false,true])).M.tail := by kernel_rfl
theorem erL_cu:Lands Tryz.prog EG (OE o N) 60 eBd (evS e cells lc v u off len cap n i x (some ([true,false,true] ++ [false,false,true]))) .ret := by unfold Lands; kernel_rfl
theorem erO_cu:(evA N o e cells lc v u off len cap n i x ([true,false,true] ++ [false,false,true])).ob = coU N cells v u off i (evHd cells off len i) := by kernel_rfl
theorem erR_cu:resultS Tryz.prog Tryz.f77 (evA N o e cells lc v u off len cap n i x ([true,false,true] ++ [false,false,true])) = some (.tup [zLt,.si .i64 (N.D u.z (coI cells off i)).2]) := by kernel_rfl
theorem erM_cu:(evA N o e cells lc v u off len cap n i x ([true,false,true] ++ [false,false,true])).M = ⟨e,cells,.num⟩ :: (evA N o e cells lc v u off len cap n i x ([true,false,true] ++ [false,false,true])).M.tail := by kernel_rfl
theorem erL_c0:Lands Tryz.prog EG (OE o N) 60 eBd (evS e cells lc v u off len cap n i x (some ([true,false,true,false,true] ++ [false,true]))) .ret := by unfold Lands; kernel_rfl
theorem erO_c0:(evA N o e cells lc v u off len cap n i x ([true,false,true,false,true] ++ [false,true])).ob = ndE0 ((ovE N cells lc v u off i 0).2) (rdOb lc n (nd0 cells off i).a 0) (coO N cells v u off i (evHd cells off len i)) := by kernel_rfl
theorem erR_c0:resultS Tryz.prog Tryz.f77 (evA N o e cells lc v u off len cap n i x ([true,false,true,false,true] ++ [false,true])) = some (.tup [zLt,.si .i64 ((ovE N cells lc v u off i 0).2)]) := by kernel_rfl
theorem erM_c0:(evA N o e cells lc v u off len cap n i x ([true,false,true,false,true] ++ [false,true])).M = ⟨e,cells,.num⟩ :: (evA N o e cells lc v u off len cap n i x ([true,false,true,false,true] ++ [false,true])).M.tail := by kernel_rfl
theorem erL_c1:Lands Tryz.prog EG (OE o N) 60 eBd (evS e cells lc v u off len cap n i x (some ([true,false,true,false,true] ++ [true,false,true]))) .ret := by unfold Lands; kernel_rfl
theorem erO_c1:(evA N o e cells lc v u off len cap n i x ([true,false,true,false,true] ++ [true,false,true])).ob = ndE1 ((ovE N cells lc v u off i 0).2) ((ovE N cells lc v u off i 1).2) (rdOb lc n (nd0 cells off i).a 0) (rdOb lc n (nd0 cells off i).a 1) (coO N cells v u off i (evHd cells off len i)) := by kernel_rfl
theorem erR_c1:resultS Tryz.prog Tryz.f77 (evA N o e cells lc v u off len cap n i x ([true,false,true,false,true] ++ [true,false,true])) = some (.tup [zLt,.si .i64 ((ovE N cells lc v u off i 1).2)]) := by kernel_rfl
theorem erM_c1:(evA N o e cells lc v u off len cap n i x ([true,false,true,false,true] ++ [true,false,true])).M = ⟨e,cells,.num⟩ :: (evA N o e cells lc v u off len cap n i x ([true,false,true,false,true] ++ [true,false,true])).M.tail := by kernel_rfl
theorem erL_c2:Lands Tryz.prog EG (OE o N) 60 eBd (evS e cells lc v u off len cap n i x (some ([true,false,true,false,true] ++ [true,true,true]))) .ret := by unfold Lands; kernel_rfl
theorem erO_c2:(evA N o e cells lc v u off len cap n i x ([true,false,true,false,true] ++ [true,true,true])).ob = ndE2 ((ovE N cells lc v u off i 0).2) ((ovE N cells lc v u off i 1).2) ((ovE N cells lc v u off i 2).2) (rdOb lc n (nd0 cells off i).a 0) (rdOb lc n (nd0 cells off i).a 1) (rdOb lc n (nd0 cells off i).a 2) (coO N cells v u off i (evHd cells off len i)) := by kernel_rfl
theorem erR_c2:resultS Tryz.prog Tryz.f77 (evA N o e cells lc v u off len cap n i x ([true,false,true,false,true] ++ [true,true,true])) = some (.tup [zLt,.si .i64 ((ovE N cells lc v u off i 2).2)]) := by kernel_rfl
theorem erM_c2:(evA N o e cells lc v u off len cap n i x ([true,false,true,false,true] ++ [true,true,true])).M = ⟨e,cells,.num⟩ :: (evA N o e cells lc v u off len cap n i x ([true,false,true,false,true] ++ [true,true,true])).M.tail := by kernel_rfl
end
end Go.Proofs.YtejcekikbnlllaaGreat
