/- check.Node: nodes of a program. check.Right: programs. dens.all: chances of programs. The .. -/
import Derived.Test.YtejcekikbnlllaaGreatT11
import Derived.Test.YtejcekikbnlllaaGreatT09
import Derived.Test.YtejcekikbnlllaaGreatT10
set_option linter.all false
namespace Bu
open Rx Go
structure Nd where
 k:Int
 f:Nat → F
 a:Int
 b:Int
def ndM (a0 a1 a2 a3 a4 a5 a6 a7 a8 a9 a10 a11 a12 a13 a14 a15:F) (i:Nat):F := [a0,a1,a2,a3,a4,a5,a6,a7,a8,a9,a10,a11,a12,a13,a14,a15].getD i F.zero
def ndI (k:Int) (f:Nat → F) (a b:Int):SV := .agg [.i .u8 k,.fl (f 0),.fl (f 1),.fl (f 2),.fl (f 3),.fl (f 4),.fl (f 5),.fl (f 6),.fl (f 7),.fl (f 8),.fl (f 9),.fl (f 10),.fl (f 11),.fl (f 12),.fl (f 13),.fl (f 14),.fl (f 15),.si .i64 a,.si .i64 b]
def ndOf:SV → Option Nd
 | .agg [k, .fl a0, .fl a1, .fl a2, .fl a3, .fl a4, .fl a5, .fl a6, .fl a7, .fl a8, .fl a9, .fl a10, .fl a11, .fl a12, .fl a13, .fl a14, .fl a15, a, b] => match intS k, intS a, intS b with
   | some (.u8,k),some (.i64,a),some (.i64,b) => some ⟨k,ndM a0 a1 a2 a3 a4 a5 a6 a7 a8 a9 a10 a11 a12 a13 a14 a15,a,b⟩
   | _,_,_ => none
 | _ => none
def ndV (n:Nd):Value := .agg #[.int .u8 n.k,.float .f64 (n.f 0).b,.float .f64 (n.f 1).b,.float .f64 (n.f 2).b,.float .f64 (n.f 3).b,.float .f64 (n.f 4).b,.float .f64 (n.f 5).b,.float .f64 (n.f 6).b,.float .f64 (n.f 7).b,.float .f64 (n.f 8).b,.float .f64 (n.f 9).b,.float .f64 (n.f 10).b,.float .f64 (n.f 11).b,.float .f64 (n.f 12).b,.float .f64 (n.f 13).b,.float .f64 (n.f 14).b,.float .f64 (n.f 15).b,.int .i64 n.a,.int .i64 n.b]
theorem ndOf_plain {x:SV} {n:Nd} (h:ndOf x = some n):plain x = some (ndV n) := by
 unfold ndOf at h
 split at h
 ·rename_i k _ _ _ _ _ _ _ _ _ _ _ _ _ _ _ _ a b
  split at h
  ·rename_i k' a' b' e1 e2 e3
   simp only [Option.some.injEq] at h; subst h
   refine plain_agg ?_
   refine plains_cons (intS_plain e1) ?_
   iterate 16 refine plains_cons rfl ?_
   exact plains_cons (intS_plain e2) (plains_cons (intS_plain e3) plains_nil)
  ·cases h
 ·cases h
def rnB (l h x:F):Bool := decide (l.k ≤ x.k) && decide (x.k ≤ h.k)
def zsB (f:Nat → F) (js:List Nat):Bool := js.all fun j => decide ((f j).k = F.zero.k)
def rsB (l h:F) (f:Nat → F) (js:List Nat):Bool := js.all fun j => rnB l h (f j)
def minA_:F := toF 4584664420663164928
def minIo_:F := toF 4607463893776728064
def four_:F := toF 4616189618054758400
def minMt_:F := toF 4589168020290535424
def maxMt_:F := toF 4625196817309499392
def one_:F := toF 4607182418800017408
def okNd (n:Nd) (p:Int):Bool :=
 bif decide (n.k = 1) then rsB (toF 0) one_ n.f [0,1,2] && (zsB n.f [3,4,5,6,7,8,9,10,11,12,13,14,15] && (decide (n.a = 0) && decide (n.b = 0)))
 else bif decide (n.k = 2) then rsB (toF 0) one_ n.f [12,0,1,2] && (zsB n.f [3,4,5,6,7,8,9,10,11,13,14,15] && (decide (n.a = 0) && decide (n.b = 0)))
 else bif decide (n.k = 3) then rnB minA_ one_ (n.f 13) && (rnB minIo_ four_ (n.f 14) && (zsB n.f [0,1,2,3,4,5,6,7,8,9,10,11,12,15] && (decide (n.a = 0) && decide (n.b = 0))))
 else bif decide (n.k = 4) then rnB minA_ one_ (n.f 13) && (rsB minMt_ maxMt_ n.f [6,7,8,9,10,11] && (zsB n.f [0,1,2,3,4,5,12,14,15] && (decide (n.a = 0) && decide (n.b = 0))))
 else bif decide (n.k = 5) then rnB (toF 0) one_ (n.f 15) && (zsB n.f [0,1,2,3,4,5,6,7,8,9,10,11,12,13,14] && (decide (0 ≤ n.a) && (decide (n.a < p) && (decide (0 ≤ n.b) && decide (n.b < p)))))
 else decide (n.k = 6) && (rnB minIo_ four_ (n.f 14) && (rsB (toF 0) one_ n.f [3,4,5] && (zsB n.f [0,1,2,6,7,8,9,10,11,12,13,15] && (decide (0 ≤ n.a) && (decide (n.a < p) && decide (n.b = 0))))))
def kNd (v:Nd → Int → Bool):List SV → Dec → Option (SV × Dec × Obs)
 | [x, y], ds => match ndOf x, intS y with
   | some n,some (.i64,p) => some (.b true,ds,[(v n p,true)])
   | _,_ => none
 | _,_ => none
def orW (x y:Int):Int := IntKind.u64.wrap ((BitVec.ofInt IntKind.u64.bits x ||| BitVec.ofInt IntKind.u64.bits y).toNat:Int)
def bitsR (g:Nat → F) (i:Nat):Int := orW (orW (orW ((g i).b:Int) ((g (3 + i)).b:Int)) ((g (6 + i)).b:Int)) ((g (9 + i)).b:Int)
def bitsE (g:Nat → F):Int := orW (orW (orW (orW (orW (orW ((g 12).b:Int) ((g 13).b:Int)) ((g 14).b:Int)) ((g 15).b:Int)) (bitsR g 0)) (bitsR g 1)) (bitsR g 2)
def bitO (g:Nat → F):Obs := [(decide (bitsE g = 0),true)]
theorem orW_0:orW 0 0 = 0 := by decide +kernel
theorem bitsE_0 {g:Nat → F} (h:∀ j,j < 16 → (g j).b = 0):bitsE g = 0 := by
 unfold bitsE bitsR
 simp only [h 0 (by omega),h 1 (by omega),h 2 (by omega),h 3 (by omega),h 4 (by omega),h 5 (by omega),h 6 (by omega),h 7 (by omega),h 8 (by omega),h 9 (by omega),h 10 (by omega),h 11 (by omega),h 12 (by omega),h 13 (by omega),h 14 (by omega),h 15 (by omega),Nat.reduceAdd,Int.natCast_zero,orW_0]
def rgO (l h x:F):Obs := [(decide (x.k ≤ h.k),true),(decide (l.k ≤ x.k),true)]
def rgsO (l h:F) (f:Nat → F):List Nat → Obs
 | [] => []
 | j :: r => rgO l h (f j) ++ rgsO l h f r
def z0O (a b:Int):Obs := [(!(b == 0),false),(!(a == 0),false)]
def zf (f:Nat → F) (js:List Nat) (i:Nat):F := bif js.contains i then toF 0 else f i
end Bu
namespace Go.Proofs.YtejcekikbnlllaaGreat
open Go.RowKit Bu Rx
def t2:Nat → List Bool
 | 0 => []
 | n + 1 => true :: true :: t2 n
theorem nd1Run (f:Nat → F) (a b p:Int):valR ((run Tryz.prog EG OIR 120).1 120 [ndI 1 f a b,.si .i64 p] [] (some (t2 3 ++ [false,false,true]))) = some (.b true,some [],bitO (zf f [0,1,2]) ++ (z0O a b ++ rgsO (toF 0) one_ f [2,1,0])) := by kernel_rfl
theorem nd2Run (f:Nat → F) (a b p:Int):valR ((run Tryz.prog EG OIR 120).1 120 [ndI 2 f a b,.si .i64 p] [] (some (t2 4 ++ [false,false,true]))) = some (.b true,some [],bitO (zf f [0,1,2,12]) ++ (z0O a b ++ rgsO (toF 0) one_ f [2,1,0,12])) := by kernel_rfl
theorem nd3Run (f:Nat → F) (a b p:Int):valR ((run Tryz.prog EG OIR 120).1 120 [ndI 3 f a b,.si .i64 p] [] (some (t2 2 ++ [false,false,true]))) = some (.b true,some [],bitO (zf f [13,14]) ++ (z0O a b ++ (rgO minIo_ four_ (f 14) ++ rgO minA_ one_ (f 13)))) := by kernel_rfl
theorem nd4Run (f:Nat → F) (a b p:Int):valR ((run Tryz.prog EG OIR 120).1 120 [ndI 4 f a b,.si .i64 p] [] (some (t2 7 ++ [false,false,true]))) = some (.b true,some [],bitO (zf f [6,7,8,9,10,11,13]) ++ (z0O a b ++ (rgsO minMt_ maxMt_ f [11,10,9,8,7,6] ++ rgO minA_ one_ (f 13)))) := by kernel_rfl
theorem nd5Run (f:Nat → F) (a b p:Int):valR ((run Tryz.prog EG OIR 120).1 120 [ndI 5 f a b,.si .i64 p] [] (some (t2 1 ++ [false,false,false,false,true]))) = some (.b true,some [],bitO (zf f [15]) ++ ([(decide (b ≥ p),false),(decide (b < 0),false),(decide (a ≥ p),false),(decide (a < 0),false)] ++ rgO (toF 0) one_ (f 15))) := by kernel_rfl
theorem nd6Run (f:Nat → F) (a b p:Int):valR ((run Tryz.prog EG OIR 120).1 120 [ndI 6 f a b,.si .i64 p] [] (some (t2 4 ++ [false,false,false,true]))) = some (.b true,some [],bitO (zf f [3,4,5,14]) ++ ([(!(b == 0),false),(decide (a ≥ p),false),(decide (a < 0),false)] ++ (rgsO (toF 0) one_ f [5,4,3] ++ rgO minIo_ four_ (f 14)))) := by kernel_rfl
theorem rgO_ok {l h x:F} (k:rnB l h x = true):ObsOk (rgO l h x) := by
 unfold rnB at k
 rw [Bool.and_eq_true] at k
 intro p hp
 simp only [rgO,List.mem_cons,List.not_mem_nil,or_false] at hp
 rcases hp with rfl | rfl
 ·exact k.2
 ·exact k.1
theorem obs_app {a b:Obs} (ha:ObsOk a) (hb:ObsOk b):ObsOk (a ++ b) := by
 intro p hp
 rcases List.mem_append.1 hp with h | h
 ·exact ha p h
 ·exact hb p h
theorem obs_cons {c d:Bool} {b:Obs} (ha:c = d) (hb:ObsOk b):ObsOk ((c,d) :: b) := by
 intro p hp
 rcases List.mem_cons.1 hp with rfl | h
 ·exact ha
 ·exact hb p h
theorem obs_nil:ObsOk [] := fun p hp => by cases hp
theorem rgsO_ok {l h:F} {f:Nat → F}:∀ {js:List Nat},(∀ j ∈ js,rnB l h (f j) = true) → ObsOk (rgsO l h f js)
 | [],_ => obs_nil
 | j :: r,k => obs_app (rgO_ok (k j (List.mem_cons_self ..))) (rgsO_ok fun i hi => k i (List.mem_cons_of_mem _ hi))
theorem rsB_get {l h:F} {f:Nat → F} {js:List Nat} (k:rsB l h f js = true):∀ j ∈ js,rnB l h (f j) = true := List.all_eq_true.1 k
theorem bitO_ok {f:Nat → F} {js os:List Nat} (hc:∀ j,j < 16 → js.contains j = true ∨ os.contains j = true) (hz:zsB f os = true):ObsOk (bitO (zf f js)) := by
 have z0:(toF 0).b = 0 := by decide +kernel
 have z1:F.zero.b = 0 := by decide +kernel
 refine obs_cons (decide_eq_true (bitsE_0 fun j hj => ?_)) obs_nil
 unfold zf
 cases h:js.contains j
 ·have h2 := (hc j hj).resolve_left (by rw [h]; simp)
  have h3 := List.all_eq_true.1 hz j (List.contains_iff_mem.1 h2)
  have h4 := of_decide_eq_true h3
  rw [cond_false,F.ext' h4,z1]
 ·rw [cond_true,z0]
theorem z0O_ok {a b:Int} (ha:a = 0) (hb:b = 0):ObsOk (z0O a b) := by subst ha; subst hb; exact obs_cons rfl (obs_cons rfl obs_nil)
set_option maxRecDepth 10000 in
theorem ndG:PlainOk Tryz.prog 120 (kNd okNd) := by
 intro args ds x ds' ob h ho
 unfold kNd at h
 split at h
 ·rename_i y z
  split at h
  ·rename_i n p e1 e2
   simp only [Option.some.injEq,Prod.mk.injEq] at h; obtain ⟨rfl,_,rfl⟩ := h
   have hn:okNd n p = true := ho _ (List.mem_singleton.2 rfl)
   refine ⟨[ndV n,.int .i64 p],.bool true,plains_cons (ndOf_plain e1) (plains_cons (intS_plain e2) plains_nil),rfl,fun w => ?_⟩
   obtain ⟨k,f,a,b⟩ := n
   unfold okNd at hn
   simp only at hn
   by_cases h1:k = 1
   ·subst h1
    simp only [decide_true,cond_true,Bool.and_eq_true,decide_eq_true_eq] at hn
    obtain ⟨r1,r2,r3,r4⟩ := hn
    exact calls_of_val goodG oracleIR 120 (nd1Run f a b p) (obs_app (bitO_ok (by decide) r2) (obs_app (z0O_ok r3 r4) (rgsO_ok fun j hj => rsB_get r1 j (by revert hj; revert j; decide)))) rfl rfl w
   ·by_cases h2:k = 2
    ·subst h2
     simp only [decide_true,decide_false,h1,cond_true,cond_false,Bool.and_eq_true,decide_eq_true_eq] at hn
     obtain ⟨r1,r2,r3,r4⟩ := hn
     exact calls_of_val goodG oracleIR 120 (nd2Run f a b p) (obs_app (bitO_ok (by decide) r2) (obs_app (z0O_ok r3 r4) (rgsO_ok fun j hj => rsB_get r1 j (by revert hj; revert j; decide)))) rfl rfl w
    ·by_cases h3:k = 3
     ·subst h3
      simp only [decide_true,decide_false,h1,h2,cond_true,cond_false,Bool.and_eq_true,decide_eq_true_eq] at hn
      obtain ⟨r0,r1,r2,r3,r4⟩ := hn
      exact calls_of_val goodG oracleIR 120 (nd3Run f a b p) (obs_app (bitO_ok (by decide) r2) (obs_app (z0O_ok r3 r4) (obs_app (rgO_ok r1) (rgO_ok r0)))) rfl rfl w
     ·by_cases h4:k = 4
      ·subst h4
       simp only [decide_true,decide_false,h1,h2,h3,cond_true,cond_false,Bool.and_eq_true,decide_eq_true_eq] at hn
       obtain ⟨r0,r1,r2,r3,r4⟩ := hn
       exact calls_of_val goodG oracleIR 120 (nd4Run f a b p) (obs_app (bitO_ok (by decide) r2) (obs_app (z0O_ok r3 r4) (obs_app (rgsO_ok fun j hj => rsB_get r1 j (by revert hj; revert j; decide)) (rgO_ok r0)))) rfl rfl w
      ·by_cases h5:k = 5
       ·subst h5
        simp only [decide_true,decide_false,h1,h2,h3,h4,cond_true,cond_false,Bool.and_eq_true,decide_eq_true_eq] at hn
        obtain ⟨r0,r2,a1,a2,b1,b2⟩ := hn
        exact calls_of_val goodG oracleIR 120 (nd5Run f a b p) (obs_app (bitO_ok (by decide) r2) (obs_app (obs_cons (decide_eq_false (by omega)) (obs_cons (decide_eq_false (by omega)) (obs_cons (decide_eq_false (by omega)) (obs_cons (decide_eq_false (by omega)) obs_nil)))) (rgO_ok r0))) rfl rfl w
       ·simp only [decide_false,h1,h2,h3,h4,h5,cond_false,Bool.and_eq_true,decide_eq_true_eq] at hn
        obtain ⟨h6,r0,r1,r2,a1,a2,b1⟩ := hn
        subst h6; subst b1
        exact calls_of_val goodG oracleIR 120 (nd6Run f a 0 p) (obs_app (bitO_ok (by decide) r2) (obs_app (obs_cons rfl (obs_cons (decide_eq_false (by omega)) (obs_cons (decide_eq_false (by omega)) obs_nil))) (obs_app (rgsO_ok fun j hj => rsB_get r1 j (by revert hj; revert j; decide)) (rgO_ok r0)))) rfl rfl w
  ·cases h
 ·cases h
end Go.Proofs.YtejcekikbnlllaaGreat
namespace Bu
open Rx Go
def ndCK:List CK := [.i .u8,.f,.f,.f,.f,.f,.f,.f,.f,.f,.f,.f,.f,.f,.f,.f,.f,.i .i64,.i .i64]
theorem at_fl {cells cs:List SV} {off j:Nat} (h:CellsAt cells off cs) (hk:ckOk cs j .f = true):flAt cells (off + j) = flAt cs j ∧ ckOk cells (off + j) .f = true := by
 have hk':(match cs[j]? with | some (.fl _) => true | _ => false) = true := hk
 split at hk'
 ·rename_i x hx
  have := h j _ hx
  unfold flAt ckOk
  rw [this,hx]; exact ⟨rfl,rfl⟩
 ·cases hk'
theorem at_in {cells cs:List SV} {off j:Nat} {k:IntKind} (h:CellsAt cells off cs) (hk:ckOk cs j (.i k) = true):inAt cells (off + j) = inAt cs j ∧ ckOk cells (off + j) (.i k) = true := by
 have hk':(match cs[j]? with | some (.i k' _) => decide (k' = k) | some (.si k' _) => decide (k' = k) | _ => false) = true := hk
 split at hk'
 ·rename_i k' n hx
  have := h j _ hx
  unfold inAt ckOk
  rw [this,hx]; exact ⟨rfl,hk'⟩
 ·rename_i k' n hx
  have := h j _ hx
  unfold inAt ckOk
  rw [this,hx]; exact ⟨rfl,hk'⟩
 ·cases hk'
theorem at_sv {cells cs:List SV} {off j:Nat} {k:CK} (h:CellsAt cells off cs) (hk:ckOk cs j k = true):ckSV cells (off + j) k = ckSV cs j k ∧ ckOk cells (off + j) k = true := by
 cases k with
 | f => obtain ⟨a,b⟩ := at_fl h hk; exact ⟨by unfold ckSV; rw [a],b⟩
 | i k => obtain ⟨a,b⟩ := at_in h hk; exact ⟨by unfold ckSV; rw [a],b⟩
theorem at_row {cells cs:List SV} {off:Nat} (h:CellsAt cells off cs):∀ {ks:List CK} {j:Nat},ckAll cs j ks = true → ckRow cells (off + j) ks = ckRow cs j ks ∧ ckAll cells (off + j) ks = true
 | [],j,_ => ⟨rfl,rfl⟩
 | k :: l, j, e => by
   unfold ckAll at e
   rw [Bool.and_eq_true] at e
   obtain ⟨a,b⟩ := at_sv h e.1
   obtain ⟨c,d⟩ := at_row h e.2
   unfold ckRow ckAll
   rw [show off + j + 1 = off + (j + 1) by omega,a,b,c,d]
   exact ⟨rfl,rfl⟩
theorem nd_row (cs:List SV) (o:Nat):ndOf (.agg (ckRow cs o ndCK)) = some ⟨inAt cs o,ndM (flAt cs (o + 1)) (flAt cs (o + 2)) (flAt cs (o + 3)) (flAt cs (o + 4)) (flAt cs (o + 5)) (flAt cs (o + 6)) (flAt cs (o + 7)) (flAt cs (o + 8)) (flAt cs (o + 9)) (flAt cs (o + 10)) (flAt cs (o + 11)) (flAt cs (o + 12)) (flAt cs (o + 13)) (flAt cs (o + 14)) (flAt cs (o + 15)) (flAt cs (o + 16)),inAt cs (o + 17),inAt cs (o + 18)⟩ := rfl
def ndR (cs:List SV) (o:Nat):Nd := ⟨inAt cs o,ndM (flAt cs (o + 1)) (flAt cs (o + 2)) (flAt cs (o + 3)) (flAt cs (o + 4)) (flAt cs (o + 5)) (flAt cs (o + 6)) (flAt cs (o + 7)) (flAt cs (o + 8)) (flAt cs (o + 9)) (flAt cs (o + 10)) (flAt cs (o + 11)) (flAt cs (o + 12)) (flAt cs (o + 13)) (flAt cs (o + 14)) (flAt cs (o + 15)) (flAt cs (o + 16)),inAt cs (o + 17),inAt cs (o + 18)⟩
def okAt (cs:List SV) (i:Nat):Bool := ckAll cs (i * 19) ndCK && okNd (ndR cs (i * 19)) i
def okPg (cs:List SV) (len:Nat):Bool := (plains cs).isSome && (decide (1 ≤ len) && (decide (len ≤ 4096) && (List.range len).all (okAt cs)))
def kRgt (o:List SV → Nat → Bool):RdF := fun cs len l ds => match l with
 | [] => some (.b true,ds,[(o cs len,true)])
 | _ => none
structure OkPg (cs:List SV) (len:Nat):Prop where
 pl:∃ vc,plains cs = some vc
 lo:1 ≤ len
 hi:len ≤ 4096
 row:∀ i,i < len → ckAll cs (i * 19) ndCK = true
 nd:∀ i,i < len → okNd (ndR cs (i * 19)) i = true
theorem okPg_ok {cs:List SV} {len:Nat} (h:okPg cs len = true):OkPg cs len := by
 unfold okPg at h
 simp only [Bool.and_eq_true,decide_eq_true_eq] at h
 obtain ⟨a,b,c,d⟩ := h
 have e:∀ i,i < len → okAt cs i = true := fun i hi => List.all_eq_true.1 d i (List.mem_range.2 hi)
 refine ⟨Option.isSome_iff_exists.1 a,b,c,fun i hi => ?_,fun i hi => ?_⟩
 ·have := e i hi; unfold okAt at this; rw [Bool.and_eq_true] at this; exact this.1
 ·have := e i hi; unfold okAt at this; rw [Bool.and_eq_true] at this; exact this.2
theorem OkPg.at {cs cells:List SV} {off len:Nat} (h:OkPg cs len) (hc:CellsAt cells off cs) {i:Nat} (hi:i < len):ckAll cells (off + i * 19) ndCK = true ∧ ndR cells (off + i * 19) = ndR cs (i * 19) := by
 obtain ⟨a,b⟩ := at_row hc (h.row i hi)
 refine ⟨b,?_⟩
 have e := nd_row cells (off + i * 19)
 rw [a,nd_row cs (i * 19)] at e
 exact (Option.some.inj e).symm
end Bu
namespace Go.Proofs.YtejcekikbnlllaaGreat
open Go.RowKit Bu Rx
def OCk (v:Nd → Int → Bool):OracleF := lookO [(120,plainO (kNd v))]
theorem oracleCk:OracleOk Tryz.prog (OCk okNd) := .cons ndG.of (.nil _)
noncomputable def rC:Code := bodyOf Tryz.prog 50
noncomputable def rC0:Code := seqL rC
noncomputable def rC1:Code := seqL (seqL (seqR rC))
noncomputable def rBd:Code := inner (inner (seqR (seqL (seqR rC))))
noncomputable def rTl:Code := seqR (seqR rC)
theorem rBody:Tryz.f50.body = some rC := by kernel_rfl
theorem rNt:Tryz.f50.ntmps = 25 := by kernel_rfl
theorem rC_cut:rC = .seq rC0 (.seq (.seq rC1 (.block 0 (.loop rBd))) rTl) := by kernel_rfl
def rT (off len cap:Nat) (c:SV) (x:Nat → SV):List SV := [.ssl 0 off len cap,x 1,x 2,x 3,x 4,.ssl 0 off len cap,.si .i64 len,c,x 8,x 9,x 10,x 11,x 12,x 13,x 14,x 15,x 16,x 17,x 18,x 19,x 20,x 21,x 22,x 23,x 24]
def rS (e:TypeId) (cells:List SV) (off len cap:Nat) (c:SV) (x:Nat → SV) (d:Dec):St := ⟨rT off len cap c x,[⟨e,cells,.num⟩],d,[]⟩
section
variable (v:Nd → Int → Bool) (e:TypeId) (cells:List SV) (off len cap:Nat) (i:Int) (x:Nat → SV)
def rs0:St := ⟨(.ssl 0 off len cap :: []) ++ List.replicate 24 (.tup []),[⟨e,cells,.num⟩],none,[]⟩
theorem rE0:Lands Tryz.prog EG (OCk v) 60 rC0 (rs0 e cells off len cap) .normal := by unfold Lands; kernel_rfl
theorem rO0:(aft Tryz.prog EG (OCk v) 60 rC0 (rs0 e cells off len cap)).ob = [] := by kernel_rfl
theorem rE1:Lands Tryz.prog EG (OCk v) 60 rC1 (aft Tryz.prog EG (OCk v) 60 rC0 (rs0 e cells off len cap)) .normal := by unfold Lands; kernel_rfl
theorem rT1:(aft Tryz.prog EG (OCk v) 60 rC1 (aft Tryz.prog EG (OCk v) 60 rC0 (rs0 e cells off len cap))) = ⟨rT off len cap (.i .i64 0) (fun j => bif Nat.beq j 2 then .b false else .tup []),[⟨e,cells,.num⟩],none,[]⟩ := by kernel_rfl
theorem rEb:Lands Tryz.prog EG (OCk v) 60 rBd (rS e cells off len cap (.si .i64 i) x (some [true])) .normal := by unfold Lands; kernel_rfl
theorem rOb:(aft Tryz.prog EG (OCk v) 60 rBd (rS e cells off len cap (.si .i64 i) x (some [true]))).ob = [(v (ndR cells (off + i.toNat * 19)) i,true),(ckAll cells (off + i.toNat * 19) ndCK,true),(ixB i len,true),(decide (i < len),true)] := by kernel_rfl
noncomputable def rXn (vv:Nat → Value):Nat → SV := fun j => ((aft Tryz.prog EG (OCk v) 60 rBd (rS e cells off len cap (.si .i64 i) x (some [true]))).cut 1 vv).T.getD j .np
theorem rCb (vv:Nat → Value):(aft Tryz.prog EG (OCk v) 60 rBd (rS e cells off len cap (.si .i64 i) x (some [true]))).cut 1 vv = ⟨rT off len cap (.si .i64 (IntKind.i64.wrap (i + 1))) (rXn v e cells off len cap i x vv),[⟨e,cells,.num⟩],some [],(aft Tryz.prog EG (OCk v) 60 rBd (rS e cells off len cap (.si .i64 i) x (some [true]))).ob⟩ := by kernel_rfl
theorem rMb:(aft Tryz.prog EG (OCk v) 60 rBd (rS e cells off len cap (.si .i64 i) x (some [true]))).M.take 1 = [⟨e,cells,.num⟩] := by kernel_rfl
theorem rEx:Lands Tryz.prog EG (OCk v) 60 rBd (rS e cells off len cap (.si .i64 i) x (some [false])) (.exit 0) := by unfold Lands; kernel_rfl
theorem rXo:aft Tryz.prog EG (OCk v) 60 rBd (rS e cells off len cap (.si .i64 i) x (some [false])) = ⟨rT off len cap (.si .i64 i) (fun j => bif Nat.beq j 8 then .b false else x j),[⟨e,cells,.num⟩],some [],[(decide (i < len),false)]⟩ := by kernel_rfl
theorem rEt:Lands Tryz.prog EG (OCk v) 60 rTl (rS e cells off len cap (.si .i64 i) x (some [true,true])) .ret := by unfold Lands; kernel_rfl
theorem rTo:(aft Tryz.prog EG (OCk v) 60 rTl (rS e cells off len cap (.si .i64 i) x (some [true,true]))).ob = [(decide ((len:Int) ≤ 4096),true),(decide ((len:Int) > 0),true)] := by kernel_rfl
theorem rTr:resultS Tryz.prog Tryz.f50 (aft Tryz.prog EG (OCk v) 60 rTl (rS e cells off len cap (.si .i64 i) x (some [true,true]))) = some (.b true) := by kernel_rfl
theorem rTM:(aft Tryz.prog EG (OCk v) 60 rTl (rS e cells off len cap (.si .i64 i) x (some [true,true]))).M = [⟨e,cells,.num⟩] := by kernel_rfl
end
theorem rgtG:RdOk Tryz.prog 50 (kRgt okPg) := by
 intro cs len l ds x ds' ob h ho
 unfold kRgt at h
 split at h
 ·simp only [Option.some.injEq,Prod.mk.injEq] at h; obtain ⟨rfl,_,rfl⟩ := h
  have K := okPg_ok (ho (okPg cs len,true) (List.mem_singleton.2 rfl))
  obtain ⟨vc,hc⟩ := K.pl
  refine ⟨vc,[],.bool true,hc,rfl,rfl,fun w r off cap hw => ?_⟩
  refine rd_of_runs (d := none) Tryz.func50 rBody hc (l := []) rfl (x := .b true) rfl (fun e cells off cap hca hid => ?_) w r off cap hw
  have hB:∀ {s:St},s.M.take 1 = [⟨e,cells,.num⟩] → ∀ b ∈ s.M.take 1,idsLts 1 b.cells = true := fun hs b hb => by
   rw [hs,List.mem_singleton] at hb
   subst hb
   exact idsLts_mono (Nat.zero_le 1) hid
  rw [rC_cut,rNt]
  show RunsP Tryz.prog _ (rs0 e cells off len cap) .ret _
  have ob0:ObsOk (aft Tryz.prog EG (OCk okNd) 60 rC0 (rs0 e cells off len cap)).ob := by rw [rO0]; exact obs_nil
  refine Lands.seq goodG oracleCk (rE0 okNd e cells off len cap) ob0 ?_
  refine RunsP.seq (Φ := fun t => ∃ y,t = ⟨rT off len cap (.si .i64 len) y,[⟨e,cells,.num⟩],none,[]⟩) ?_ fun t ⟨y,ht⟩ => ?_
  ·have ob1:ObsOk (aft Tryz.prog EG (OCk okNd) 60 rC1 (aft Tryz.prog EG (OCk okNd) 60 rC0 (rs0 e cells off len cap))).ob := by rw [rT1]; exact obs_nil
   refine Lands.seq goodG oracleCk (rE1 okNd e cells off len cap) ob1 ?_
   rw [rT1]
   refine RunsP.retell (s := rS e cells off len cap (.si .i64 0) (fun j => bif Nat.beq j 2 then .b false else .tup []) none) (same_T (fun m => by simp only [rS,rT,dens,den]) rfl) ?_
   refine loop_rows (fun (i:Nat) y => rS e cells off len cap (.si .i64 (i:Int)) y none) len ?_ ?_ _
   ·intro i y hi
    obtain ⟨a1,a2⟩ := K.at hca hi
    have hob:ObsOk (aft Tryz.prog EG (OCk okNd) 60 rBd (rS e cells off len cap (.si .i64 i) y (some [true]))).ob := by
     rw [rOb]
     simp only [Int.toNat_natCast]
     exact obs_cons (by rw [a2]; exact K.nd i hi) (obs_cons a1 (obs_cons (by unfold ixB; simp; omega) (obs_cons (decide_eq_true (by omega)) obs_nil)))
    refine RunsP.re (d := some [true]) (o := []) (RunsP.round (k := 1) (Lands.runs goodG oracleCk (rEb okNd e cells off len cap i y) hob) (Nat.le_refl _) (hB (rMb okNd e cells off len cap i y)) fun v => ?_)
    have hw:IntKind.i64.wrap ((i:Int) + 1) = ((i + 1:Nat):Int) := wrap_s (by have := K.hi; omega)
    have hc' := rCb okNd e cells off len cap i y v
    rw [hw] at hc'
    exact ⟨rS e cells off len cap (.si .i64 ((i + 1:Nat):Int)) (rXn okNd e cells off len cap i y v) none,⟨_,rfl⟩,same_eq (congrArg St.T hc').symm (congrArg St.M hc').symm⟩
   ·intro y
    have hob:ObsOk (aft Tryz.prog EG (OCk okNd) 60 rBd (rS e cells off len cap (.si .i64 len) y (some [false]))).ob := by
     rw [rXo]; exact obs_cons (decide_eq_false (by omega)) obs_nil
    refine RunsP.re (d := some [false]) (o := []) (Lands.fin goodG oracleCk (rEx okNd e cells off len cap len y) hob ?_)
    exact ⟨⟨rT off len cap (.si .i64 len) (fun j => bif Nat.beq j 8 then .b false else y j),[⟨e,cells,.num⟩],none,[]⟩,⟨_,rfl⟩,same_eq (congrArg St.T (rXo okNd e cells off len cap len y)).symm (congrArg St.M (rXo okNd e cells off len cap len y)).symm⟩
  ·subst ht
   have hob:ObsOk (aft Tryz.prog EG (OCk okNd) 60 rTl (rS e cells off len cap (.si .i64 len) y (some [true,true]))).ob := by
    rw [rTo]; exact obs_cons (decide_eq_true (by have := K.hi; omega)) (obs_cons (decide_eq_true (by have := K.lo; omega)) obs_nil)
   refine RunsP.re (d := some [true,true]) (o := []) (Lands.all goodG oracleCk (rEt okNd e cells off len cap len y) hob ?_)
   exact ⟨rTr okNd e cells off len cap len y,[],rTM okNd e cells off len cap len y⟩
 ·cases h
end Go.Proofs.YtejcekikbnlllaaGreat
namespace Bu
open Rx Go
structure Ch where
 p:I
 m:I
def Ch.cells (c:Ch):List SV := [.fl c.p.lo,.fl c.p.hi,.fl c.m.lo,.fl c.m.hi]
def Ch.sv (c:Ch):SV := .agg c.cells
def Ch.zero:Ch := ⟨⟨F.zero,F.zero⟩,⟨F.zero,F.zero⟩⟩
def chAt (cs:List SV) (o:Nat):Ch := ⟨⟨flAt cs o,flAt cs (o + 1)⟩,⟨flAt cs (o + 2),flAt cs (o + 3)⟩⟩
structure Nde where
 K:Kk
 D:I → I → I × Int
 dO:I → I → Obs
 g:Lf → I × Int
 go:Lf → Obs
def mixK (K:Kk) (e:Int) (w:F) (a b:I):I × Int :=
 let q1 := K.num e one_
 let q2 := K.num q1.2 w
 let s := K.sub q2.2 q1.1 q2.1
 let m1 := K.mul s.2 s.1 a
 let q3 := K.num m1.2 w
 let m2 := K.mul q3.2 q3.1 b
 K.add m2.2 m1.1 m2.1
end Bu
namespace Go.Proofs.YtejcekikbnlllaaGreat
open Go.RowKit Bu Rx
def kDn (g:Lf → I × Int) (o:Lf → Obs):List SV → Dec → Option (SV × Dec × Obs)
 | [x, .agg [.fl p0, .fl p1, .fl p2, .fl p3, .fl p4, .fl p5], .agg [.fl r0, .fl r1, .fl r2, .fl r3, .fl r4, .fl r5]], ds => match ndOf x with
   | some n => some (.tup [.agg [.fl (g ⟨n.k,etaF n.f,0,⟨⟨p0,p1⟩,⟨p2,p3⟩,⟨p4,p5⟩⟩,⟨⟨r0,r1⟩,⟨r2,r3⟩,⟨r4,r5⟩⟩⟩).1.lo,.fl (g ⟨n.k,etaF n.f,0,⟨⟨p0,p1⟩,⟨p2,p3⟩,⟨p4,p5⟩⟩,⟨⟨r0,r1⟩,⟨r2,r3⟩,⟨r4,r5⟩⟩⟩).1.hi],.si .i64 (g ⟨n.k,etaF n.f,0,⟨⟨p0,p1⟩,⟨p2,p3⟩,⟨p4,p5⟩⟩,⟨⟨r0,r1⟩,⟨r2,r3⟩,⟨r4,r5⟩⟩⟩).2],ds,(decide (n.a = 0),true) :: (decide (n.b = 0),true) :: o ⟨n.k,etaF n.f,0,⟨⟨p0,p1⟩,⟨p2,p3⟩,⟨p4,p5⟩⟩,⟨⟨r0,r1⟩,⟨r2,r3⟩,⟨r4,r5⟩⟩⟩)
   | none => none
 | _,_ => none
def OD (N:Nde):OracleF := lookO (OCL N.K ++ [(66,plainO (kI2 N.D N.dO)),(153,plainO (kDn N.g N.go))])
noncomputable def aC:Code := bodyOf Tryz.prog 68
noncomputable def aC0:Code := seqL aC
noncomputable def aC1:Code := seqL (seqR aC)
noncomputable def aC2:Code := seqL (seqL (seqR (seqR aC)))
noncomputable def aBd:Code := inner (inner (seqR (seqL (seqR (seqR aC)))))
noncomputable def aTl:Code := seqR (seqR (seqR aC))
theorem aBody:Tryz.f68.body = some aC := by kernel_rfl
theorem aNt:Tryz.f68.ntmps = 48 := by kernel_rfl
theorem aC_cut:aC = .seq aC0 (.seq aC1 (.seq (.seq aC2 (.block 0 (.loop aBd))) aTl)) := by kernel_rfl
def aT (k off len cap:Nat) (cos:I) (lf:SV) (c:SV) (x:Nat → SV):List SV :=
 [.ssl 0 off len cap,.agg [.fl cos.lo,.fl cos.hi],lf,x 3,.p k 0,x 5,.p (k + 1) 0,x 7,.ssl (k + 2) 0 len len,x 9,x 10,x 11,x 12,x 13,x 14,.ssl 0 off len cap,.si .i64 len,c,
  x 18,x 19,x 20,x 21,x 22,x 23,x 24,x 25,x 26,x 27,x 28,x 29,x 30,x 31,x 32,x 33,x 34,x 35,x 36,x 37,x 38,x 39,x 40,x 41,x 42,x 43,x 44,x 45,x 46,x 47]
def vcB (v:V3):Blk := ⟨35,[.fl v.x.lo,.fl v.x.hi,.fl v.y.lo,.fl v.y.hi,.fl v.z.lo,.fl v.z.hi],.ex⟩
def aTail (cos:I) (lc:List SV):List Blk := [⟨33,[.fl cos.lo,.fl cos.hi],.ex⟩,⟨61,Ch.zero.cells,.ex⟩,⟨61,lc,.num⟩]
end Go.Proofs.YtejcekikbnlllaaGreat
namespace Rx
open Go Go.RowKit
section
variable {P:Program}
theorem RunsP.seq_ret {c d:Code} {s:St} {Φ:St → Prop} (h:RunsP P c s .ret Φ):RunsP P (.seq c d) s .ret Φ := by
 intro m a w Q hs hq
 exact wp_seq (h m a w _ hs fun s1 m' a' w' h1 hs' hg => hq s1 m' a' w' h1 hs' hg)
theorem RoundsP.ret {n:Nat} {c:Code} {s:St} {Φ:St → Prop} (h:RunsP P c s .ret Φ):RoundsP P c (n + 1) s .ret Φ := by
 intro m a w Q hs hq
 rw [rounds_succ]
 exact h m a w _ hs fun s1 m' a' w' h1 hs' hg => hq s1 m' a' w' h1 hs' hg
theorem loop_inv {body:Code} {id:Nat} {Φ:St → Prop} {α:Type} (S:Nat → α → St) (I:Nat → α → Prop) (n:Nat)
  (hr:∀ i x,i < n → I i x → RunsP P body (S i x) .normal (fun t => ∃ x',I (i + 1) x' ∧ t = S (i + 1) x')) (he:∀ x,I n x → RunsP P body (S n x) (.exit id) Φ) (x:α) (h0:I 0 x):RunsP P (.block id (.loop body)) (S 0 x) .normal Φ := by
 refine RunsP.block (RunsP.loop (n := n + 1) ?_)
 have key:∀ j i x,i + j = n → I i x → RoundsP P body (j + 1) (S i x) (.exit id) Φ := by
  intro j
  induction j with
  | zero =>
    intro i x h hi
    rw [Nat.add_zero] at h
    subst h
    exact RoundsP.out (he x hi)
  | succ j ih =>
    intro i x h hi
    refine RoundsP.next (hr i x (by omega) hi) fun t ⟨x',hx,ht⟩ => ?_
    subst ht
    exact ih (i + 1) x' (by omega) hx
 exact key n 0 x (by omega) h0
theorem loop_ret {body:Code} {id:Nat} {Φ:St → Prop} {α:Type} (S:Nat → α → St) (I:Nat → α → Prop) (n:Nat)
  (hr:∀ i x,i < n → I i x → RunsP P body (S i x) .normal (fun t => ∃ x',I (i + 1) x' ∧ t = S (i + 1) x')) (he:∀ x,I n x → RunsP P body (S n x) .ret Φ) (x:α) (h0:I 0 x):RunsP P (.block id (.loop body)) (S 0 x) .ret Φ := by
 refine RunsP.block_ret (RunsP.loop (n := n + 1) ?_)
 have key:∀ j i x,i + j = n → I i x → RoundsP P body (j + 1) (S i x) .ret Φ := by
  intro j
  induction j with
  | zero =>
    intro i x h hi
    rw [Nat.add_zero] at h
    subst h
    exact RoundsP.ret (he x hi)
  | succ j ih =>
    intro i x h hi
    refine RoundsP.next (hr i x (by omega) hi) fun t ⟨x',hx,ht⟩ => ?_
    subst ht
    exact ih (i + 1) x' (by omega) hx
 exact key n 0 x (by omega) h0
end
def Blk.exact (b:Blk):Bool := match b.k with
 | .ex => true
 | .num => true
 | .ro _ => true
 | _ => false
theorem BlkAt.cells {m:Nms} {w:World} {r:Nat} {b:Blk} (hx:b.exact = true) (h:BlkAt m w r b):∃ cv,dens m b.cells = some cv ∧ w.heap[r]? = some (.cells cv.toArray b.elem b.k.z) := by
 obtain ⟨e,cs,k⟩ := b
 cases k <;> first | exact h.ex | exact h.num | (cases hx; done) | skip
 obtain ⟨cv,sp,d,hh,k⟩ := h rfl
 have k':sp = [] := k.1
 subst k'
 exact ⟨cv,d,by simpa using hh⟩
theorem Goes.reads {m m':Nms} {M rest:List Blk} {w w':World} (hx:∀ b ∈ M,b.exact = true) (hM:MemAt m w M) (hg:Goes m M w m' (M ++ rest) w') (hM':MemAt m' w' (M ++ rest)):Below w.heap.size w w' := by
 refine ⟨hg.fr.os,hg.fr.tape,hg.fr.output,hg.fr.size,fun k hk => ?_⟩
 by_cases hn:∃ n,m n = some k ∧ liveM M n
 ·obtain ⟨n,hn,b,hb,_⟩ := hn
  have hb':(M ++ rest)[n]? = some b := by
   rw [List.getElem?_append_left (List.getElem?_eq_some_iff.1 hb).1]; exact hb
  obtain ⟨r,hr,hat⟩ := hM.blk n b hb
  obtain ⟨r',hr',hat'⟩ := hM'.blk n b hb'
  rw [hn] at hr; cases hr
  rw [hg.ext.n n k hn] at hr'; cases hr'
  have hq := hx b (List.mem_of_getElem? hb)
  obtain ⟨cv,d,h1⟩ := hat.cells hq
  obtain ⟨cv',d',h2⟩ := hat'.cells hq
  rw [dens_ext hg.ext d] at d'; cases d'
  rw [h1,h2]
 ·exact hg.fr.block k hk hn
theorem row_cells {cv vc:List Value} {off:Nat} {cs:List SV} (hc:plains cs = some vc) (ht:(cv.drop off).take vc.length = vc):∃ cells,plains cells = some cv ∧ CellsAt cells off cs := by
 have hl := plains_len hc
 have hcv:cv = cv.take off ++ (vc ++ (cv.drop off).drop vc.length) := by
  conv => lhs; rw [← List.take_append_drop off cv,← List.take_append_drop vc.length (cv.drop off),ht]
 have hp:plains ((cv.take off).map SV.o ++ (cs ++ ((cv.drop off).drop vc.length).map SV.o)) = some cv := by
  have := plains_app (plains_o (cv.take off)) (plains_app hc (plains_o ((cv.drop off).drop vc.length)))
  rw [← hcv] at this; exact this
 refine ⟨_,hp,fun j x hj => ?_⟩
 have hjl:j < cs.length := by
  rcases Nat.lt_or_ge j cs.length with h' | h'
  ·exact h'
  ·rw [List.getElem?_eq_none h'] at hj; cases hj
 have hoff:off ≤ cv.length := by
  rcases Nat.le_total off cv.length with h' | h'
  ·exact h'
  ·have:vc = [] := by rw [← ht,List.drop_eq_nil_of_le h']; simp
   rw [this] at hl; simp at hl; omega
 have h1:((cv.take off).map SV.o).length = off := by simp; omega
 rw [List.getElem?_append_right (by omega),h1,show off + j - off = j by omega,List.getElem?_append_left hjl]
 exact hj
theorem MemAt.row {m:Nms} {w:World} {b:Blk} {rest:List Blk} {off n:Nat} {vc:List Value} (hM:MemAt m w (b :: rest)) (hw:b.rw = true) (hc:plains ((b.cells.drop off).take n) = some vc) :
  ∃ cells,MemAt m w (⟨b.elem,cells,.num⟩ :: rest) ∧ CellsAt cells off ((b.cells.drop off).take n) ∧ idsLts 0 cells = true := by
 obtain ⟨r,hr,hat⟩ := hM.blk 0 b rfl
 have hl := (rw_ok hw).1
 obtain ⟨cv,sp,d1,hh,_⟩ := hat hl
 rw [(rw_ok hw).2] at hh
 have h10 := dens_plains (m := m) hc
 rw [dens_take (dens_drop d1 _) _] at h10
 have h11 := Option.some.inj h10
 have hrow:((cv ++ sp).drop off).take vc.length = vc := by
  have hlen:vc.length = min n (cv.length - off) := by rw [← h11]; simp
  rw [List.drop_append,List.take_append,hlen,List.length_drop]
  rw [show min n (cv.length - off) - (cv.length - off) = 0 by omega,List.take_zero,List.append_nil]
  rw [← h11,List.take_eq_take_iff,List.length_drop]
  omega
 obtain ⟨cells,hp,hca⟩ := row_cells hc hrow
 refine ⟨cells,⟨hM.ok,fun n n' q l1 l2 => hM.inj n n' q ?_ ?_,fun j c hj => ?_,fun j q hq => ?_⟩,hca,plains_ids hp⟩
 ·obtain ⟨c,hc1,hc2⟩ := l1
  cases n with
  | zero => exact ⟨b,rfl,hl⟩
  | succ n => exact ⟨c,hc1,hc2⟩
 ·obtain ⟨c,hc1,hc2⟩ := l2
  cases n' with
  | zero => exact ⟨b,rfl,hl⟩
  | succ n => exact ⟨c,hc1,hc2⟩
 ·cases j with
  | zero =>
    simp only [List.getElem?_cons_zero,Option.some.injEq] at hj
    subst hj
    exact ⟨r,hr,BlkAt.mk_num (plains_ids hp) (dens_plains hp) hh⟩
  | succ j => exact hM.blk (j + 1) c hj
 ·exact hM.dom j q hq
abbrev RdsF := List SV → Nat → List SV → List Blk → Dec → Option (SV × Dec × Obs)
def RdsOk (P:Program) (g:FuncId) (F:RdsF):Prop :=
 ∀ cs len l rest ds x ds' ob,F cs len l rest ds = some (x,ds',ob) → ObsOk ob → (∃ vc,plains cs = some vc) ∧ ∃ v,plain x = some v ∧
  ∀ (m:Nms) (w:World) (e:TypeId) (cells:List SV) (off cap:Nat) (vs:List Value),MemAt m w (⟨e,cells,.num⟩ :: rest) → CellsAt cells off cs → idsLts 0 cells = true → dens m (.ssl 0 off len cap :: l) = some vs →
   Calls P g vs.toArray w fun e w' => e = .returned v ∧ Below w.heap.size w w'
def kRds (size:Nat) (F:RdsF):OF := fun args M ds =>
 match args,M with
 | s :: l, b :: rest => match slA s with
   | some (0, off, len) => match b.rw with
     | true => (F ((b.cells.drop off).take (len * size)) len l rest ds).map fun q => (q.1,b :: rest,q.2.1,q.2.2)
     | false => none
   | _ => none
 | _,_ => none
theorem RdsOk.of {P:Program} {g:FuncId} {F:RdsF} {size:Nat} (h:RdsOk P g F):OfOk P g (kRds size F) := by
 intro args M ds x M' ds' ob hk ho m w vs hvs hM
 unfold kRds at hk
 split at hk
 ·rename_i s l b rest
  split at hk
  ·rename_i off len hs
   split at hk
   ·rename_i hl
    simp only [Option.map_eq_some_iff,Prod.mk.injEq] at hk
    obtain ⟨⟨y,d,o⟩,hF,rfl,rfl,rfl,rfl⟩ := hk
    obtain ⟨⟨vc,hc⟩,v,hv,hcall⟩ := h _ _ _ _ _ _ _ _ hF ho
    obtain ⟨v0,us,h5,h6,rfl⟩ := dens_cons_some.1 hvs
    obtain ⟨r,cap,hr,rfl⟩ := slA_ok hs h5
    obtain ⟨cells,hM',hca,hid⟩ := hM.row hl hc
    exact Calls.mono (hcall m w b.elem cells off cap _ hM' hca hid (dens_cons (by simp only [den,hr,Option.map_some]) h6)) fun e w' ⟨he,hb⟩ => ⟨m,v,he,CallPost.same hM (den_plain hv) hb⟩
   ·cases hk
  ·cases hk
 ·cases hk
theorem rds_of_runs {P:Program} {g:FuncId} {fn:Func} {c:Code} (hg:P.funcs[g]? = some fn) (hb:fn.body = some c) {l:List SV} {rest:List Blk} {len:Nat} {x:SV} {v:Value} (hx:plain x = some v) (hr:∀ b ∈ rest,b.exact = true) {d:Dec} {m:Nms} {w:World} {e:TypeId} {cells:List SV} {off cap:Nat} {vs:List Value}
  (h:RunsP P c ⟨(.ssl 0 off len cap :: l) ++ List.replicate (fn.ntmps - (l.length + 1)) (.tup []),⟨e,cells,.num⟩ :: rest,d,[]⟩ .ret (fun t => resultS P fn t = some x ∧ ∃ more,t.M = (⟨e,cells,.num⟩ :: rest) ++ more))
  (hM:MemAt m w (⟨e,cells,.num⟩ :: rest)) (hd:dens m (.ssl 0 off len cap :: l) = some vs):Calls P g vs.toArray w fun e w' => e = .returned v ∧ Below w.heap.size w w' := by
 refine Calls.mono (RunsP.call hg hb (args := .ssl 0 off len cap :: l) (x := fun _ => x) h (fun t ht => ht.1) hd hM) fun ex w' ⟨t,m',u,⟨_,more,hmo⟩,he,hv,hM',hgo⟩ => ?_
 rw [den_plain hx] at hv
 have := Option.some.inj hv
 subst this
 rw [hmo] at hM' hgo
 refine ⟨he,Goes.reads (fun b hb => ?_) hM hgo hM'⟩
 rcases List.mem_cons.1 hb with h1 | h1
 ·subst h1; rfl
 ·exact hr b h1
end Rx
namespace Bu
open Rx Go
def chL (f:(Nat → Ch) → Nat → Ch × Int):Nat → List Ch
 | 0 => []
 | n + 1 => chL f n ++ [(f (fun j => (chL f n).getD j Ch.zero) n).1]
def chF (f:(Nat → Ch) → Nat → Ch × Int) (i:Nat):Ch := (f (fun j => (chL f i).getD j Ch.zero) i).1
theorem chL_len (f:(Nat → Ch) → Nat → Ch × Int):∀ n,(chL f n).length = n
 | 0 => rfl
 | n + 1 => by unfold chL; rw [List.length_append,chL_len f n]; rfl
theorem chL_get (f:(Nat → Ch) → Nat → Ch × Int):∀ {n j:Nat},j < n → (chL f n).getD j Ch.zero = chF f j
 | n + 1, j, h => by
   unfold chL
   rcases Nat.lt_or_ge j n with h' | h'
   ·rw [List.getD_eq_getElem?_getD,List.getElem?_append_left (by rw [chL_len]; exact h'),← List.getD_eq_getElem?_getD,chL_get f h']
   ·have:j = n := by omega
    subst this
    rw [List.getD_eq_getElem?_getD,List.getElem?_append_right (by rw [chL_len]; exact Nat.le_refl _),chL_len,Nat.sub_self]
    rfl
def mixC (K:Kk) (w:F) (a b:Ch):Ch × Int :=
 (⟨(mixK K 0 w a.p b.p).1,(mixK K (mixK K 0 w a.p b.p).2 w a.m b.m).1⟩,(mixK K (mixK K 0 w a.p b.p).2 w a.m b.m).2)
def lessK (K:Kk) (o:I):I × Int := K.sub (K.num 0 one_).2 (K.num 0 one_).1 o
def coatC (K:Kk) (o:I) (a:Ch):Ch × Int :=
 let s := lessK K o
 let x := K.mul s.2 s.1 a.p
 let y := K.mul x.2 s.1 a.m
 let z := K.add y.2 o y.1
 (⟨x.1,z.1⟩,z.2)
def nodC (N:Nde) (cos:I) (lf:Nd → I × Int) (l:Nat → Ch) (n:Nd):Ch × Int :=
 bif decide (n.k = 5) then mixC N.K (n.f 15) (l n.a.toNat) (l n.b.toNat)
 else bif decide (n.k = 6) then coatC N.K (N.D cos ⟨n.f 14,n.f 14⟩).1 (l n.a.toNat)
 else (⟨(lf n).1,Ch.zero.m⟩,(lf n).2)
def obsB (o:Obs):Bool := o.all fun p => p.1 == p.2
theorem obsB_ok {o:Obs} (h:obsB o = true):ObsOk o := fun p hp => by
 have := List.all_eq_true.1 h p hp
 simpa using this
def nodB (N:Nde) (cos:I) (lf:Nd → I × Int) (lo:Nd → Obs) (l:Nat → Ch) (n:Nd):Bool :=
 (bif decide (n.k = 5) then true
 else bif decide (n.k = 6) then obsB (N.dO cos ⟨n.f 14,n.f 14⟩) && decide ((N.D cos ⟨n.f 14,n.f 14⟩).2 = 0)
 else obsB (lo n)) && decide ((nodC N cos lf l n).2 = 0)
def allF (N:Nde) (cos:I) (lf:Nd → I × Int) (cs:List SV):(Nat → Ch) → Nat → Ch × Int := fun l i => nodC N cos lf l (ndR cs (i * 19))
def allB (N:Nde) (cos:I) (lf:Nd → I × Int) (lo:Nd → Obs) (cs:List SV) (len:Nat):Bool :=
 (List.range len).all fun i => nodB N cos lf lo (fun j => (chL (allF N cos lf cs) i).getD j Ch.zero) (ndR cs (i * 19))
theorem allB_at {N:Nde} {cos:I} {lf:Nd → I × Int} {lo:Nd → Obs} {cs:List SV} {len:Nat} (h:allB N cos lf lo cs len = true) {i:Nat} (hi:i < len) :
  nodB N cos lf lo (fun j => (chL (allF N cos lf cs) i).getD j Ch.zero) (ndR cs (i * 19)) = true := List.all_eq_true.1 h i (List.mem_range.2 hi)
theorem set_get {l:List SV} {off k:Nat} {x:SV} (h:off < l.length):(l.set off x)[k]? = if k = off then some x else l[k]? := by
 rw [List.getElem?_set]
 by_cases e:off = k
 ·subst e; simp [h]
 ·rw [if_neg e,if_neg (fun h => e h.symm)]
theorem putRow_get:∀ {l cells:List SV} {off k:Nat},off + l.length ≤ cells.length → (putRow cells off l)[k]? = if off ≤ k ∧ k < off + l.length then l[k - off]? else cells[k]?
 | [], cells, off, k, _ => by
   unfold putRow
   rw [if_neg (by simp)]
 | x :: l, cells, off, k, h => by
   simp only [List.length_cons] at h
   unfold putRow
   rw [putRow_get (by rw [List.length_set]; omega),set_get (by omega)]
   simp only [List.length_cons]
   by_cases h1:k = off
   ·subst h1
    rw [if_neg (by omega),if_pos rfl,if_pos (by omega)]; simp
   ·by_cases h2:off + 1 ≤ k ∧ k < off + 1 + l.length
    ·rw [if_pos h2,if_pos (by omega),show k - off = (k - (off + 1)) + 1 by omega]; simp
    ·rw [if_neg h2,if_neg h1,if_neg (by omega)]
structure ChRow (c:Nat → Ch) (len i:Nat) (lc:List SV):Prop where
 l:lc.length = len * 4
 d:idsLts 0 lc = true
 c:∀ j,j < i → CellsAt lc (j * 4) (c j).cells
theorem CellsAt.of {cells cs:List SV} {off:Nat} (h:∀ j,j < cs.length → cells[off + j]? = cs[j]?):CellsAt cells off cs := fun j x hx => by
 rw [h j (List.getElem?_eq_some_iff.1 hx).1]; exact hx
theorem ChRow.next {c:Nat → Ch} {len i:Nat} {lc:List SV} (h:ChRow c len i lc) (hi:i < len):ChRow c len (i + 1) (putRow lc (i * 4) (c i).cells) := by
 have hl:(c i).cells.length = 4 := rfl
 have hb:i * 4 + (c i).cells.length ≤ lc.length := by rw [h.l,hl]; omega
 refine ⟨by rw [putRow_length]; exact h.l,idsLts_put h.d rfl,fun j hj => CellsAt.of fun k hk => ?_⟩
 have hlj:(c j).cells.length = 4 := rfl
 rw [putRow_get hb]
 rcases Nat.lt_or_ge j i with h1 | h1
 ·rw [if_neg (by rw [hl]; omega)]
  have h2:(c j).cells[k]? = some (c j).cells[k] := List.getElem?_eq_getElem hk
  rw [h2]; exact h.c j h1 k _ h2
 ·have:j = i := by omega
  subst this
  rw [if_pos (by omega),show j * 4 + k - j * 4 = k by omega]
def chCK:List CK := [.f,.f,.f,.f]
theorem ch_at {lc:List SV} {o:Nat} {c:Ch} (h:CellsAt lc o c.cells):chAt lc o = c ∧ ckAll lc o chCK = true := by
 have h0 := h 0 _ rfl
 have h1 := h 1 _ rfl
 have h2 := h 2 _ rfl
 have h3 := h 3 _ rfl
 rw [Nat.add_zero] at h0
 refine ⟨?_,?_⟩
 ·unfold chAt flAt; rw [h0,h1,h2,h3]
 ·unfold chCK ckAll ckAll ckAll ckAll ckAll ckOk
  rw [show o + 1 + 1 = o + 2 from rfl,show o + 2 + 1 = o + 3 from rfl,h0,h1,h2,h3]; rfl
end Bu
namespace Go.Proofs.YtejcekikbnlllaaGreat
open Go.RowKit Bu Rx
def lfA:SV := .fn (.func 152) [] [.p 1 0,.p 2 0]
def lfM:SV := .fn (.func 69) [] []
def preA (e:TypeId) (cells:List SV) (v u:V3):List Blk := [⟨e,cells,.num⟩,vcB v,vcB u]
def preM (e:TypeId) (cells:List SV):List Blk := [⟨e,cells,.num⟩]
def aS (pre:List Blk) (k off len cap:Nat) (cos:I) (lf:SV) (c:SV) (x:Nat → SV) (lc:List SV) (d:Dec):St := ⟨aT k off len cap cos lf c x,pre ++ aTail cos lc,d,[]⟩
def lfR (g:Lf → I × Int) (v u:V3) (n:Nd):I × Int := g ⟨n.k,etaF n.f,0,v,u⟩
def lfRo (o:Lf → Obs) (v u:V3) (n:Nd):Obs := (decide (n.a = 0),true) :: (decide (n.b = 0),true) :: o ⟨n.k,etaF n.f,0,v,u⟩
def chsAt (lc:List SV) (j:Nat):Ch := chAt lc (0 + j * 4)
section
variable (N:Nde) (e:TypeId) (cells lc:List SV) (v u:V3) (off len cap:Nat) (cos:I) (i:Int) (x:Nat → SV)
def aHdO (i:Int):Obs := [(slB 0 i len,true),(ckAll cells (off + i.toNat * 19) ndCK,true),(ixB i len,true),(decide (i < len),true)]
noncomputable abbrev aA (d:List Bool):St := aft Tryz.prog EG (OD N) 60 aBd (aS (preA e cells v u) 3 off len cap cos lfA (.si .i64 i) x lc (some d))
noncomputable abbrev aM (d:List Bool):St := aft Tryz.prog EG (OD N) 60 aBd (aS (preM e cells) 1 off len cap cos lfM (.si .i64 i) x lc (some d))
theorem aLm:Lands Tryz.prog EG (OD N) 60 aBd (aS (preA e cells v u) 3 off len cap cos lfA (.si .i64 i) x lc (some [true,true,false])) .normal := by unfold Lands; kernel_rfl
theorem aLc:Lands Tryz.prog EG (OD N) 60 aBd (aS (preA e cells v u) 3 off len cap cos lfA (.si .i64 i) x lc (some [true,false,true,false,false])) .normal := by unfold Lands; kernel_rfl
theorem aLl:Lands Tryz.prog EG (OD N) 60 aBd (aS (preA e cells v u) 3 off len cap cos lfA (.si .i64 i) x lc (some [true,false,false,false])) .normal := by unfold Lands; kernel_rfl
theorem aOm:(aA N e cells lc v u off len cap cos i x [true,true,false]).ob =
  [(decide (0 + i.toNat * 4 + 4 ≤ lc.length),true),(ixB i len,true),((mixC N.K ((ndR cells (off + i.toNat * 19)).f 15) (chsAt lc (ndR cells (off + i.toNat * 19)).a.toNat) (chsAt lc (ndR cells (off + i.toNat * 19)).b.toNat)).2 != 0,false),(ckAll lc (0 + (ndR cells (off + i.toNat * 19)).b.toNat * 4) chCK,true),(ixB (ndR cells (off + i.toNat * 19)).b (i.toNat - 0),true),(ckAll lc (0 + (ndR cells (off + i.toNat * 19)).a.toNat * 4) chCK,true),(ixB (ndR cells (off + i.toNat * 19)).a (i.toNat - 0),true),(decide ((ndR cells (off + i.toNat * 19)).k = 5),true)] ++ aHdO cells off len i := by kernel_rfl
theorem aOc:(aA N e cells lc v u off len cap cos i x [true,false,true,false,false]).ob =
  [(decide (0 + i.toNat * 4 + 4 ≤ lc.length),true),(ixB i len,true),((coatC N.K (N.D cos ⟨(ndR cells (off + i.toNat * 19)).f 14,(ndR cells (off + i.toNat * 19)).f 14⟩).1 (chsAt lc (ndR cells (off + i.toNat * 19)).a.toNat)).2 != 0,false),(ckAll lc (0 + (ndR cells (off + i.toNat * 19)).a.toNat * 4 + 2) [.f,.f],true),(ixB (ndR cells (off + i.toNat * 19)).a (i.toNat - 0),true),(ckAll lc (0 + (ndR cells (off + i.toNat * 19)).a.toNat * 4) [.f,.f],true),(ixB (ndR cells (off + i.toNat * 19)).a (i.toNat - 0),true),((N.D cos ⟨(ndR cells (off + i.toNat * 19)).f 14,(ndR cells (off + i.toNat * 19)).f 14⟩).2 != 0,false)] ++
   ((N.dO cos ⟨(ndR cells (off + i.toNat * 19)).f 14,(ndR cells (off + i.toNat * 19)).f 14⟩ ++ [(decide ((ndR cells (off + i.toNat * 19)).k = 6),true),(decide ((ndR cells (off + i.toNat * 19)).k = 5),false)]) ++ aHdO cells off len i) := by kernel_rfl
theorem aOl:(aA N e cells lc v u off len cap cos i x [true,false,false,false]).ob =
  [(decide (0 + i.toNat * 4 + 4 ≤ lc.length),true),(ixB i len,true),((lfR N.g v u (ndR cells (off + i.toNat * 19))).2 != 0,false)] ++ (((lfRo N.go v u (ndR cells (off + i.toNat * 19)) ++ []) ++ [(decide ((ndR cells (off + i.toNat * 19)).k = 6),false),(decide ((ndR cells (off + i.toNat * 19)).k = 5),false)]) ++ aHdO cells off len i) := by kernel_rfl
theorem bLm:Lands Tryz.prog EG (OD N) 60 aBd (aS (preM e cells) 1 off len cap cos lfM (.si .i64 i) x lc (some [true,true,false])) .normal := by unfold Lands; kernel_rfl
theorem bLc:Lands Tryz.prog EG (OD N) 60 aBd (aS (preM e cells) 1 off len cap cos lfM (.si .i64 i) x lc (some [true,false,true,false,false])) .normal := by unfold Lands; kernel_rfl
theorem bLl:Lands Tryz.prog EG (OD N) 60 aBd (aS (preM e cells) 1 off len cap cos lfM (.si .i64 i) x lc (some [true,false,false])) .normal := by unfold Lands; kernel_rfl
theorem aOmM:(aM N e cells lc off len cap cos i x [true,true,false]).ob =
  [(decide (0 + i.toNat * 4 + 4 ≤ lc.length),true),(ixB i len,true),((mixC N.K ((ndR cells (off + i.toNat * 19)).f 15) (chsAt lc (ndR cells (off + i.toNat * 19)).a.toNat) (chsAt lc (ndR cells (off + i.toNat * 19)).b.toNat)).2 != 0,false),(ckAll lc (0 + (ndR cells (off + i.toNat * 19)).b.toNat * 4) chCK,true),(ixB (ndR cells (off + i.toNat * 19)).b (i.toNat - 0),true),(ckAll lc (0 + (ndR cells (off + i.toNat * 19)).a.toNat * 4) chCK,true),(ixB (ndR cells (off + i.toNat * 19)).a (i.toNat - 0),true),(decide ((ndR cells (off + i.toNat * 19)).k = 5),true)] ++ aHdO cells off len i := by kernel_rfl
theorem aOcM:(aM N e cells lc off len cap cos i x [true,false,true,false,false]).ob =
  [(decide (0 + i.toNat * 4 + 4 ≤ lc.length),true),(ixB i len,true),((coatC N.K (N.D cos ⟨(ndR cells (off + i.toNat * 19)).f 14,(ndR cells (off + i.toNat * 19)).f 14⟩).1 (chsAt lc (ndR cells (off + i.toNat * 19)).a.toNat)).2 != 0,false),(ckAll lc (0 + (ndR cells (off + i.toNat * 19)).a.toNat * 4 + 2) [.f,.f],true),(ixB (ndR cells (off + i.toNat * 19)).a (i.toNat - 0),true),(ckAll lc (0 + (ndR cells (off + i.toNat * 19)).a.toNat * 4) [.f,.f],true),(ixB (ndR cells (off + i.toNat * 19)).a (i.toNat - 0),true),((N.D cos ⟨(ndR cells (off + i.toNat * 19)).f 14,(ndR cells (off + i.toNat * 19)).f 14⟩).2 != 0,false)] ++
   ((N.dO cos ⟨(ndR cells (off + i.toNat * 19)).f 14,(ndR cells (off + i.toNat * 19)).f 14⟩ ++ [(decide ((ndR cells (off + i.toNat * 19)).k = 6),true),(decide ((ndR cells (off + i.toNat * 19)).k = 5),false)]) ++ aHdO cells off len i) := by kernel_rfl
theorem aOlM:(aM N e cells lc off len cap cos i x [true,false,false]).ob =
  [(decide (0 + i.toNat * 4 + 4 ≤ lc.length),true),(ixB i len,true)] ++ ([(decide ((ndR cells (off + i.toNat * 19)).k = 6),false),(decide ((ndR cells (off + i.toNat * 19)).k = 5),false)] ++ aHdO cells off len i) := by kernel_rfl
noncomputable def aXm (vv:Nat → Value):Nat → SV := fun j => ((aA N e cells lc v u off len cap cos i x [true,true,false]).cut 6 vv).T.getD j .np
theorem aCm (vv:Nat → Value):(aA N e cells lc v u off len cap cos i x [true,true,false]).cut 6 vv = ⟨(aS (preA e cells v u) 3 off len cap cos lfA (.si .i64 (IntKind.i64.wrap (i + 1))) (aXm N e cells lc v u off len cap cos i x vv) (putRow lc (0 + i.toNat * 4) (mixC N.K ((ndR cells (off + i.toNat * 19)).f 15) (chsAt lc (ndR cells (off + i.toNat * 19)).a.toNat) (chsAt lc (ndR cells (off + i.toNat * 19)).b.toNat)).1.cells) none).T,preA e cells v u ++ aTail cos (putRow lc (0 + i.toNat * 4) (mixC N.K ((ndR cells (off + i.toNat * 19)).f 15) (chsAt lc (ndR cells (off + i.toNat * 19)).a.toNat) (chsAt lc (ndR cells (off + i.toNat * 19)).b.toNat)).1.cells),some [],(aA N e cells lc v u off len cap cos i x [true,true,false]).ob⟩ := by kernel_rfl
noncomputable def aXc (vv:Nat → Value):Nat → SV := fun j => ((aA N e cells lc v u off len cap cos i x [true,false,true,false,false]).cut 6 vv).T.getD j .np
theorem aCc (vv:Nat → Value):(aA N e cells lc v u off len cap cos i x [true,false,true,false,false]).cut 6 vv = ⟨(aS (preA e cells v u) 3 off len cap cos lfA (.si .i64 (IntKind.i64.wrap (i + 1))) (aXc N e cells lc v u off len cap cos i x vv) (putRow lc (0 + i.toNat * 4) (coatC N.K (N.D cos ⟨(ndR cells (off + i.toNat * 19)).f 14,(ndR cells (off + i.toNat * 19)).f 14⟩).1 (chsAt lc (ndR cells (off + i.toNat * 19)).a.toNat)).1.cells) none).T,preA e cells v u ++ aTail cos (putRow lc (0 + i.toNat * 4) (coatC N.K (N.D cos ⟨(ndR cells (off + i.toNat * 19)).f 14,(ndR cells (off + i.toNat * 19)).f 14⟩).1 (chsAt lc (ndR cells (off + i.toNat * 19)).a.toNat)).1.cells),some [],(aA N e cells lc v u off len cap cos i x [true,false,true,false,false]).ob⟩ := by kernel_rfl
noncomputable def aXl (vv:Nat → Value):Nat → SV := fun j => ((aA N e cells lc v u off len cap cos i x [true,false,false,false]).cut 6 vv).T.getD j .np
theorem aCl (vv:Nat → Value):(aA N e cells lc v u off len cap cos i x [true,false,false,false]).cut 6 vv = ⟨(aS (preA e cells v u) 3 off len cap cos lfA (.si .i64 (IntKind.i64.wrap (i + 1))) (aXl N e cells lc v u off len cap cos i x vv) (putRow lc (0 + i.toNat * 4) (Ch.mk (lfR N.g v u (ndR cells (off + i.toNat * 19))).1 Ch.zero.m).cells) none).T,preA e cells v u ++ aTail cos (putRow lc (0 + i.toNat * 4) (Ch.mk (lfR N.g v u (ndR cells (off + i.toNat * 19))).1 Ch.zero.m).cells),some [],(aA N e cells lc v u off len cap cos i x [true,false,false,false]).ob⟩ := by kernel_rfl
noncomputable def aXmM (vv:Nat → Value):Nat → SV := fun j => ((aM N e cells lc off len cap cos i x [true,true,false]).cut 4 vv).T.getD j .np
theorem aCmM (vv:Nat → Value):(aM N e cells lc off len cap cos i x [true,true,false]).cut 4 vv = ⟨(aS (preM e cells) 1 off len cap cos lfM (.si .i64 (IntKind.i64.wrap (i + 1))) (aXmM N e cells lc off len cap cos i x vv) (putRow lc (0 + i.toNat * 4) (mixC N.K ((ndR cells (off + i.toNat * 19)).f 15) (chsAt lc (ndR cells (off + i.toNat * 19)).a.toNat) (chsAt lc (ndR cells (off + i.toNat * 19)).b.toNat)).1.cells) none).T,preM e cells ++ aTail cos (putRow lc (0 + i.toNat * 4) (mixC N.K ((ndR cells (off + i.toNat * 19)).f 15) (chsAt lc (ndR cells (off + i.toNat * 19)).a.toNat) (chsAt lc (ndR cells (off + i.toNat * 19)).b.toNat)).1.cells),some [],(aM N e cells lc off len cap cos i x [true,true,false]).ob⟩ := by kernel_rfl
noncomputable def aXcM (vv:Nat → Value):Nat → SV := fun j => ((aM N e cells lc off len cap cos i x [true,false,true,false,false]).cut 4 vv).T.getD j .np
theorem aCcM (vv:Nat → Value):(aM N e cells lc off len cap cos i x [true,false,true,false,false]).cut 4 vv = ⟨(aS (preM e cells) 1 off len cap cos lfM (.si .i64 (IntKind.i64.wrap (i + 1))) (aXcM N e cells lc off len cap cos i x vv) (putRow lc (0 + i.toNat * 4) (coatC N.K (N.D cos ⟨(ndR cells (off + i.toNat * 19)).f 14,(ndR cells (off + i.toNat * 19)).f 14⟩).1 (chsAt lc (ndR cells (off + i.toNat * 19)).a.toNat)).1.cells) none).T,preM e cells ++ aTail cos (putRow lc (0 + i.toNat * 4) (coatC N.K (N.D cos ⟨(ndR cells (off + i.toNat * 19)).f 14,(ndR cells (off + i.toNat * 19)).f 14⟩).1 (chsAt lc (ndR cells (off + i.toNat * 19)).a.toNat)).1.cells),some [],(aM N e cells lc off len cap cos i x [true,false,true,false,false]).ob⟩ := by kernel_rfl
noncomputable def aXlM (vv:Nat → Value):Nat → SV := fun j => ((aM N e cells lc off len cap cos i x [true,false,false]).cut 4 vv).T.getD j .np
theorem aClM (vv:Nat → Value):(aM N e cells lc off len cap cos i x [true,false,false]).cut 4 vv = ⟨(aS (preM e cells) 1 off len cap cos lfM (.si .i64 (IntKind.i64.wrap (i + 1))) (aXlM N e cells lc off len cap cos i x vv) (putRow lc (0 + i.toNat * 4) Ch.zero.cells) none).T,preM e cells ++ aTail cos (putRow lc (0 + i.toNat * 4) Ch.zero.cells),some [],(aM N e cells lc off len cap cos i x [true,false,false]).ob⟩ := by kernel_rfl
theorem eAE:Lands Tryz.prog EG (OD N) 60 aBd (aS (preA e cells v u) 3 off len cap cos lfA (.si .i64 i) x lc (some [false])) (.exit 0) := by unfold Lands; kernel_rfl
theorem eAEo:aft Tryz.prog EG (OD N) 60 aBd (aS (preA e cells v u) 3 off len cap cos lfA (.si .i64 i) x lc (some [false])) = ⟨aT 3 off len cap cos lfA (.si .i64 i) (fun j => bif Nat.beq j 18 then .b false else x j),(preA e cells v u) ++ aTail cos lc,some [],[(decide (i < len),false)]⟩ := by kernel_rfl
theorem eAT:Lands Tryz.prog EG (OD N) 60 aTl (aS (preA e cells v u) 3 off len cap cos lfA (.si .i64 i) x lc none) .ret := by unfold Lands; kernel_rfl
theorem eATo:(aft Tryz.prog EG (OD N) 60 aTl (aS (preA e cells v u) 3 off len cap cos lfA (.si .i64 i) x lc none)).ob = [(ckAll lc (0 + (IntKind.i64.wrap ((len:Int) - 1)).toNat * 4) chCK,true),(ixB (IntKind.i64.wrap ((len:Int) - 1)) len,true)] := by kernel_rfl
theorem eATr:resultS Tryz.prog Tryz.f68 (aft Tryz.prog EG (OD N) 60 aTl (aS (preA e cells v u) 3 off len cap cos lfA (.si .i64 i) x lc none)) = some (.tup [(chsAt lc (IntKind.i64.wrap ((len:Int) - 1)).toNat).sv,.i .i64 0]) := by kernel_rfl
theorem eATM:∃ more,(aft Tryz.prog EG (OD N) 60 aTl (aS (preA e cells v u) 3 off len cap cos lfA (.si .i64 i) x lc none)).M = (preA e cells v u) ++ more := ⟨[⟨33,[.fl cos.lo,.fl cos.hi],.ex⟩,⟨61,(chsAt lc (IntKind.i64.wrap ((len:Int) - 1)).toNat).cells,.ex⟩,⟨61,lc,.num⟩],by kernel_rfl⟩
theorem eBE:Lands Tryz.prog EG (OD N) 60 aBd (aS (preM e cells) 1 off len cap cos lfM (.si .i64 i) x lc (some [false])) (.exit 0) := by unfold Lands; kernel_rfl
theorem eBEo:aft Tryz.prog EG (OD N) 60 aBd (aS (preM e cells) 1 off len cap cos lfM (.si .i64 i) x lc (some [false])) = ⟨aT 1 off len cap cos lfM (.si .i64 i) (fun j => bif Nat.beq j 18 then .b false else x j),(preM e cells) ++ aTail cos lc,some [],[(decide (i < len),false)]⟩ := by kernel_rfl
theorem eBT:Lands Tryz.prog EG (OD N) 60 aTl (aS (preM e cells) 1 off len cap cos lfM (.si .i64 i) x lc none) .ret := by unfold Lands; kernel_rfl
theorem eBTo:(aft Tryz.prog EG (OD N) 60 aTl (aS (preM e cells) 1 off len cap cos lfM (.si .i64 i) x lc none)).ob = [(ckAll lc (0 + (IntKind.i64.wrap ((len:Int) - 1)).toNat * 4) chCK,true),(ixB (IntKind.i64.wrap ((len:Int) - 1)) len,true)] := by kernel_rfl
theorem eBTr:resultS Tryz.prog Tryz.f68 (aft Tryz.prog EG (OD N) 60 aTl (aS (preM e cells) 1 off len cap cos lfM (.si .i64 i) x lc none)) = some (.tup [(chsAt lc (IntKind.i64.wrap ((len:Int) - 1)).toNat).sv,.i .i64 0]) := by kernel_rfl
theorem eBTM:∃ more,(aft Tryz.prog EG (OD N) 60 aTl (aS (preM e cells) 1 off len cap cos lfM (.si .i64 i) x lc none)).M = (preM e cells) ++ more := ⟨[⟨33,[.fl cos.lo,.fl cos.hi],.ex⟩,⟨61,(chsAt lc (IntKind.i64.wrap ((len:Int) - 1)).toNat).cells,.ex⟩,⟨61,lc,.num⟩],by kernel_rfl⟩
end
end Go.Proofs.YtejcekikbnlllaaGreat
namespace Rx
open Go Go.RowKit
def Nms.sel (m:Nms) (ids:List Nat):Nms := ⟨fun j => (ids[j]?).bind fun n => m n,m.c⟩
theorem sel_some {m:Nms} {ids:List Nat} {j n r:Nat} (h:ids[j]? = some n) (hr:m n = some r):m.sel ids j = some r := by
 show (ids[j]?).bind _ = _
 rw [h]; exact hr
theorem sel_inv {m:Nms} {ids:List Nat} {j r:Nat} (h:m.sel ids j = some r):∃ n,ids[j]? = some n ∧ m n = some r := Option.bind_eq_some_iff.1 h
def hos (ρ:Nat → Option Nat) (v:Nat → Value):Nat → List SV → List SV
 | _,[] => []
 | j, x :: l => (match ren ρ x with
   | some y => y
   | none => .o (v j)) :: hos ρ v (j + 1) l
theorem hos_ok {m m':Nms} {ρ:Nat → Option Nat} {v:Nat → Value} (hρ:∀ n k,ρ n = some k → ∀ r,m n = some r → m' k = some r ∧ m'.c r = m.c r):∀ {T:List SV} {vs:List Value} {j:Nat},dens m T = some vs → (∀ i u,vs[i]? = some u → v (j + i) = u) → dens m' (hos ρ v j T) = some vs
 | [],vs,j,h,_ => by simp [dens] at h; subst h; simp [hos,dens]
 | x :: l, vs, j, h, hv => by
   obtain ⟨u,us,a,b,rfl⟩ := dens_cons_some.1 h
   have ih := hos_ok hρ (v := v) (j := j + 1) b (fun i u hu => by rw [show j + 1 + i = j + (i + 1) by omega]; exact hv (i + 1) u (by simpa using hu))
   unfold hos
   refine dens_cons ?_ ih
   split
   ·rename_i y hy; exact ren_ok hρ hy a
   ·have := hv 0 u (by simp)
    rw [Nat.add_zero] at this
    simp only [den,this]
def selM (M:List Blk) (ids:List Nat):Option (List Blk) := ids.mapM fun n => (M[n]?).bind fun (b:Blk) => (b.ren (posOf ids)).map fun cs => (⟨b.elem,cs,b.k⟩:Blk)
def St.sel (s:St) (ids:List Nat) (M':List Blk) (v:Nat → Value):St := ⟨hos (posOf ids) v 0 s.T,M',s.ds,s.ob⟩
theorem selM_get {M M':List Blk} {ids:List Nat} (h:selM M ids = some M'):M'.length = ids.length ∧ ∀ (j:Nat) (b':Blk),M'[j]? = some b' → ∃ (n:Nat) (b:Blk) (cs:List SV),ids[j]? = some n ∧ M[n]? = some b ∧ b.ren (posOf ids) = some cs ∧ b' = ⟨b.elem,cs,b.k⟩ := by
 obtain ⟨h1,h2⟩ := mapM_get h
 refine ⟨h1,fun j b' hb => ?_⟩
 have hj:j < ids.length := by have := (List.getElem?_eq_some_iff.1 hb).1; omega
 obtain ⟨b2,h3,h4⟩ := h2 j ids[j] (List.getElem?_eq_getElem hj)
 rw [hb] at h4
 simp only [Option.some.injEq] at h4
 subst h4
 simp only [Option.bind_eq_some_iff,Option.map_eq_some_iff] at h3
 obtain ⟨b,h5,cs,h6,h7⟩ := h3
 exact ⟨_,b,cs,List.getElem?_eq_getElem hj,h5,h6,h7.symm⟩
theorem live_sel {M M':List Blk} {ids:List Nat} {j:Nat} (h:selM M ids = some M') (hl:liveM M' j):∃ n,ids[j]? = some n ∧ liveM M n := by
 obtain ⟨b',h1,h2⟩ := hl
 obtain ⟨n,b,cs,h3,h4,h5,rfl⟩ := (selM_get h).2 j b' h1
 exact ⟨n,h3,b,h4,h2⟩
theorem StAt.sel {m:Nms} {s:St} {a:Act} {w:World} {ids:List Nat} {M':List Blk} (h:StAt m s a w) (hn:nodupB ids = true) (hM:selM s.M ids = some M'):StAt (m.sel ids) (s.sel ids M' (fun j => a.tmps.getD j undef)) a w := by
 have hpos:∀ n k,posOf ids n = some k → ∀ r,m n = some r → m.sel ids k = some r ∧ (m.sel ids).c r = m.c r := fun n k hk r hr => ⟨sel_some (posOf_ok hk) hr,rfl⟩
 refine ⟨hos_ok hpos h.tm (fun i u hu => ?_),h.df,⟨⟨fun j r hr => ?_⟩,fun j j' r l1 l2 h1 h2 => ?_,fun j b' hb => ?_,fun j r hr => ?_⟩⟩
 ·rw [Nat.zero_add]
  have hu':a.tmps[i]? = some u := by simpa using hu
  simp [Array.getD_eq_getD_getElem?,hu']
 ·obtain ⟨n,_,hr'⟩ := sel_inv hr
  exact h.mem.ok.lt n r hr'
 ·obtain ⟨n,a1,a2⟩ := sel_inv h1
  obtain ⟨n',b1,b2⟩ := sel_inv h2
  obtain ⟨n2,c1,c2⟩ := live_sel hM l1
  obtain ⟨n3,d1,d2⟩ := live_sel hM l2
  rw [a1] at c1; rw [b1] at d1
  cases c1; cases d1
  have e := h.mem.inj _ _ r c2 d2 a2 b2
  subst e
  exact nodupB_ok hn a1 b1
 ·obtain ⟨n,b,cs,h1,h2,h3,rfl⟩ := (selM_get hM).2 j b' hb
  obtain ⟨r,hr,hat⟩ := h.mem.blk n b h2
  refine ⟨r,sel_some h1 hr,fun hl => ?_⟩
  obtain ⟨cv,sp,d,hh,k⟩ := hat hl
  obtain ⟨d',k'⟩ := Blk.ren_ok hpos h3 d k rfl
  exact ⟨cv,sp,d',hh,k'⟩
 ·obtain ⟨n,h1,_⟩ := sel_inv hr
  show j < M'.length
  rw [(selM_get hM).1]
  exact (List.getElem?_eq_some_iff.1 h1).1
structure Bs where
 m:Nms
 M:List Blk
 w:World
 mem:MemAt m w M
theorem Goes.sel {B:Bs} {m:Nms} {M M':List Blk} {w:World} {ids:List Nat} (hg:Goes B.m B.M B.w m M w) (hn:nodupB ids = true) (hM:selM M ids = some M') (hk:∀ n,n < B.M.length → ids[n]? = some n):Goes B.m B.M B.w (m.sel ids) M' w := by
 refine ⟨⟨fun n r hr => sel_some (hk n (B.mem.dom n r hr)) (hg.ext.n n r hr),hg.ext.c⟩,hg.fr,fun j r hr => ?_,fun n r hr hl => ?_⟩
 ·obtain ⟨n,h1,h2⟩ := sel_inv hr
  rcases hg.new n r h2 with h3 | h3
  ·have := nodupB_ok hn h1 (hk n (B.mem.dom n r h3))
   subst this
   exact .inl h3
  ·exact .inr h3
 ·obtain ⟨n',h1,h2⟩ := live_sel hM hl
  rw [hk n (B.mem.dom n r hr)] at h1
  cases h1
  exact hg.dd n r hr h2
def RunsB (P:Program) (B:Bs) (c:Code) (s:St) (ex:Ex) (Φ:St → Prop):Prop :=
 ∀ m a w (Q:Exit → Act → World → Prop),StAt m s a w → Goes B.m B.M B.w m s.M w → (∀ s' m' a' w',Φ s' → StAt m' s' a' w' → Goes B.m B.M B.w m' s'.M w' → Q (exOf ex) a' w') → c.wp P Q a w
def RoundsB (P:Program) (B:Bs) (body:Code) (n:Nat) (s:St) (ex:Ex) (Φ:St → Prop):Prop :=
 ∀ m a w (Q:Exit → Act → World → Prop),StAt m s a w → Goes B.m B.M B.w m s.M w → (∀ s' m' a' w',Φ s' → StAt m' s' a' w' → Goes B.m B.M B.w m' s'.M w' → Q (exOf ex) a' w') → Code.rounds P body Q n a w
section
variable {P:Program} {B:Bs}
theorem RunsP.bs {c:Code} {s:St} {ex:Ex} {Φ:St → Prop} (h:RunsP P c s ex Φ):RunsB P B c s ex Φ :=
 fun m a w Q hs hg hq => h m a w Q hs fun s' m' a' w' h1 h2 hg' => hq s' m' a' w' h1 h2 (hg.trans hg')
theorem RunsB.mono {c:Code} {s:St} {ex:Ex} {Φ Ψ:St → Prop} (h:RunsB P B c s ex Φ) (k:∀ t,Φ t → Ψ t):RunsB P B c s ex Ψ :=
 fun m a w Q hs hg hq => h m a w Q hs hg fun s' m' a' w' h1 => hq s' m' a' w' (k s' h1)
theorem RunsB.seq {c d:Code} {s:St} {ex:Ex} {Φ Ψ:St → Prop} (h:RunsB P B c s .normal Φ) (k:∀ t,Φ t → RunsB P B d t ex Ψ):RunsB P B (.seq c d) s ex Ψ := by
 intro m a w Q hs hg hq
 refine wp_seq (h m a w _ hs hg fun s1 m' a' w' h1 hs' hg' => ?_)
 exact k s1 h1 m' a' w' Q hs' hg' hq
theorem RunsB.block {id:Nat} {c:Code} {s:St} {Φ:St → Prop} (h:RunsB P B c s (.exit id) Φ):RunsB P B (.block id c) s .normal Φ := by
 intro m a w Q hs hg hq
 refine wp_block (h m a w _ hs hg fun s1 m' a' w' h1 hs' hg' => ?_)
 have := hq s1 m' a' w' h1 hs' hg'
 simpa [exOf,Exit.inBlock] using this
theorem RunsB.loop {n:Nat} {c:Code} {s:St} {ex:Ex} {Φ:St → Prop} (h:RoundsB P B c n s ex Φ):RunsB P B (.loop c) s ex Φ :=
 fun m a w Q hs hg hq => wp_loop_rounds n (h m a w Q hs hg hq)
theorem RoundsB.next {n:Nat} {c:Code} {s:St} {ex:Ex} {Φ Ψ:St → Prop} (h:RunsB P B c s .normal Φ) (k:∀ t,Φ t → RoundsB P B c n t ex Ψ):RoundsB P B c (n + 1) s ex Ψ := by
 intro m a w Q hs hg hq
 rw [rounds_succ]
 exact h m a w _ hs hg fun s1 m' a' w' h1 hs' hg' => k s1 h1 m' a' w' Q hs' hg' hq
theorem RoundsB.out {n id:Nat} {c:Code} {s:St} {Φ:St → Prop} (h:RunsB P B c s (.exit id) Φ):RoundsB P B c (n + 1) s (.exit id) Φ := by
 intro m a w Q hs hg hq
 rw [rounds_succ]
 exact h m a w _ hs hg fun s1 m' a' w' h1 hs' hg' => hq s1 m' a' w' h1 hs' hg'
theorem RunsB.retell {c:Code} {s t:St} {ex:Ex} {Φ:St → Prop} (h:SameSt s t) (k:RunsB P B c s ex Φ):RunsB P B c t ex Φ :=
 fun m a w Q hs hg hq => k m a w Q (h.at hs) (by unfold Goes at hg ⊢; rw [h.live]; exact hg) hq
theorem RunsB.fin {c:Code} {s:St} {ex:Ex} {Φ Ψ:St → Prop} (k:RunsB P B c s ex Φ) (h:∀ t,Φ t → ∃ u,Ψ u ∧ SameSt u t):RunsB P B c s ex Ψ :=
 fun m a w Q hs hg hq => k m a w Q hs hg fun t m' a' w' h1 h2 hg' => by
  obtain ⟨u,hu,hs⟩ := h t h1
  exact hq u m' a' w' hu (hs.at h2) (by unfold Goes at hg' ⊢; rw [hs.live]; exact hg')
theorem RunsB.re {c:Code} {T:List SV} {M:List Blk} {d e:Dec} {o p:Obs} {ex:Ex} {Φ:St → Prop} (k:RunsB P B c ⟨T,M,d,o⟩ ex Φ):RunsB P B c ⟨T,M,e,p⟩ ex Φ := k.retell (SameSt.same T M d e o p)
theorem RunsB.sel {c:Code} {s t:St} {ex:Ex} {Φ:St → Prop} {ids:List Nat} {M':List Blk} (h:RunsB P B c s ex (fun u => u = t)) (hn:nodupB ids = true) (hM:selM t.M ids = some M') (hk:∀ n,n < B.M.length → ids[n]? = some n)
  (hΦ:∀ v,∃ u,Φ u ∧ SameSt u (t.sel ids M' v)):RunsB P B c s ex Φ := by
 refine RunsB.fin (Φ := fun u => ∃ v,u = t.sel ids M' v) (fun m a w Q hs hg hq => h m a w Q hs hg fun t' m' a' w' h1 hst hg' => ?_) fun u ⟨v,hu⟩ => ?_
 ·subst h1
  exact hq _ (m'.sel ids) a' w' ⟨_,rfl⟩ (hst.sel hn hM) (hg'.sel hn hM hk)
 ·subst hu; exact hΦ v
theorem loop_invB {body:Code} {id:Nat} {Φ:St → Prop} {α:Type} (S:Nat → α → St) (I:Nat → α → Prop) (n:Nat)
  (hr:∀ i x,i < n → I i x → RunsB P B body (S i x) .normal (fun t => ∃ x',I (i + 1) x' ∧ t = S (i + 1) x')) (he:∀ x,I n x → RunsB P B body (S n x) (.exit id) Φ) (x:α) (h0:I 0 x):RunsB P B (.block id (.loop body)) (S 0 x) .normal Φ := by
 refine RunsB.block (RunsB.loop (n := n + 1) ?_)
 have key:∀ j i x,i + j = n → I i x → RoundsB P B body (j + 1) (S i x) (.exit id) Φ := by
  intro j
  induction j with
  | zero =>
    intro i x h hi
    rw [Nat.add_zero] at h
    subst h
    exact RoundsB.out (he x hi)
  | succ j ih =>
    intro i x h hi
    refine RoundsB.next (hr i x (by omega) hi) fun t ⟨x',hx,ht⟩ => ?_
    subst ht
    exact ih (i + 1) x' (by omega) hx
 exact key n 0 x (by omega) h0
theorem RunsB.call {g:FuncId} {fn:Func} {c:Code} {args:List SV} {M:List Blk} {d:Dec} {Φ:St → Prop} {x:St → SV} (hg:P.funcs[g]? = some fn) (hb:fn.body = some c) {m:Nms} {w:World} {vs:List Value} (hvs:dens m args = some vs) (hM:MemAt m w M)
  (h:RunsB P ⟨m,M,w,hM⟩ c ⟨args ++ List.replicate (fn.ntmps - args.length) (.tup []),M,d,[]⟩ .ret Φ) (hx:∀ t,Φ t → resultS P fn t = some (x t)) :
  Calls P g vs.toArray w fun e w' => ∃ t m' v,Φ t ∧ e = .returned v ∧ den m' (x t) = some v ∧ MemAt m' w' t.M ∧ Goes m M w m' t.M w' := by
 have hl := dens_length hvs
 refine calls_of_wp hg hb ?_
 have htm:dens m (args ++ List.replicate (fn.ntmps - args.length) (.tup [])) = some (vs.toArray ++ Array.replicate (fn.ntmps - vs.toArray.size) undef).toList := by
  have := dens_append hvs (dens_replicate (undef_den m) (fn.ntmps - args.length))
  rw [this]; simp [hl]
 refine h _ _ w _ ⟨htm,rfl,hM⟩ (Goes.refl m M w) fun t m' a' w' h1 hst hgo => ?_
 obtain ⟨v,hv,hr⟩ := resultS_ok hst (hx t h1)
 exact ⟨hst.df,v,hr,t,m',v,h1,rfl,hv,hst.mem,hgo⟩
end
end Rx
namespace Go.Proofs.YtejcekikbnlllaaGreat
open Go.RowKit Bu Rx
noncomputable def en0 (pre:List Blk) (off len cap:Nat) (cos:I) (lf:SV):St := ⟨([.ssl 0 off len cap,.agg [.fl cos.lo,.fl cos.hi],lf]:List SV) ++ List.replicate 45 (.tup []),pre,none,[]⟩
def lc0 (len:Nat):List SV := ofA (madeCells #[.float .f64 0,.float .f64 0,.float .f64 0,.float .f64 0] ((len:Int).toNat * 4))
def x0 (k len:Nat):Nat → SV := fun j => bif Nat.beq j 7 then .i .i64 0 else bif Nat.beq j 12 then .ssl 0 0 0 0 else .tup []
section
variable (N:Nde) (e:TypeId) (cells:List SV) (v u:V3) (off len cap:Nat) (cos:I)
theorem enA0:Lands Tryz.prog EG (OD N) 60 aC0 (en0 (preA e cells v u) off len cap cos lfA) .normal := by unfold Lands; kernel_rfl
theorem enA0o:(aft Tryz.prog EG (OD N) 60 aC0 (en0 (preA e cells v u) off len cap cos lfA)).ob = [] := by kernel_rfl
noncomputable abbrev sA0:St := aft Tryz.prog EG (OD N) 60 aC0 (en0 (preA e cells v u) off len cap cos lfA)
theorem enA1:Lands Tryz.prog EG (OD N) 60 aC1 (sA0 N e cells v u off len cap cos) .normal := by unfold Lands; kernel_rfl
noncomputable abbrev sA1:St := aft Tryz.prog EG (OD N) 60 aC1 (sA0 N e cells v u off len cap cos)
theorem enA1o:(sA1 N e cells v u off len cap cos).ob = [(mkC 32 len len && decide ((len:Int) ≤ 9223372036854775807),true)] := by kernel_rfl
theorem enA2:Lands Tryz.prog EG (OD N) 60 aC2 (sA1 N e cells v u off len cap cos) .normal := by unfold Lands; kernel_rfl
noncomputable abbrev sA2:St := aft Tryz.prog EG (OD N) 60 aC2 (sA1 N e cells v u off len cap cos)
theorem enA2o:(sA2 N e cells v u off len cap cos).ob = [(mkC 32 len len && decide ((len:Int) ≤ 9223372036854775807),true)] := by kernel_rfl
noncomputable def xA:Nat → SV := fun j => (sA2 N e cells v u off len cap cos).T.getD j .np
theorem enA2T:(sA2 N e cells v u off len cap cos).T = aT 3 off len cap cos lfA (.i .i64 0) (xA N e cells v u off len cap cos) := by kernel_rfl
theorem enA2M:(sA2 N e cells v u off len cap cos).M = preA e cells v u ++ aTail cos (lc0 len) := by kernel_rfl
theorem enB0:Lands Tryz.prog EG (OD N) 60 aC0 (en0 (preM e cells) off len cap cos lfM) .normal := by unfold Lands; kernel_rfl
theorem enB0o:(aft Tryz.prog EG (OD N) 60 aC0 (en0 (preM e cells) off len cap cos lfM)).ob = [] := by kernel_rfl
noncomputable abbrev sB0:St := aft Tryz.prog EG (OD N) 60 aC0 (en0 (preM e cells) off len cap cos lfM)
theorem enB1:Lands Tryz.prog EG (OD N) 60 aC1 (sB0 N e cells off len cap cos) .normal := by unfold Lands; kernel_rfl
noncomputable abbrev sB1:St := aft Tryz.prog EG (OD N) 60 aC1 (sB0 N e cells off len cap cos)
theorem enB1o:(sB1 N e cells off len cap cos).ob = [(mkC 32 len len && decide ((len:Int) ≤ 9223372036854775807),true)] := by kernel_rfl
theorem enB2:Lands Tryz.prog EG (OD N) 60 aC2 (sB1 N e cells off len cap cos) .normal := by unfold Lands; kernel_rfl
noncomputable abbrev sB2:St := aft Tryz.prog EG (OD N) 60 aC2 (sB1 N e cells off len cap cos)
theorem enB2o:(sB2 N e cells off len cap cos).ob = [(mkC 32 len len && decide ((len:Int) ≤ 9223372036854775807),true)] := by kernel_rfl
noncomputable def xB:Nat → SV := fun j => (sB2 N e cells off len cap cos).T.getD j .np
theorem enB2T:(sB2 N e cells off len cap cos).T = aT 1 off len cap cos lfM (.i .i64 0) (xB N e cells off len cap cos) := by kernel_rfl
theorem enB2M:(sB2 N e cells off len cap cos).M = preM e cells ++ aTail cos (lc0 len) := by kernel_rfl
end
theorem lc0_row (c:Nat → Ch) (len:Nat):ChRow c len 0 (lc0 len) := by
 refine ⟨?_,ofA_ids _,fun j hj => absurd hj (Nat.not_lt_zero j)⟩
 have h := dens_length (dens_ofA (m := Nms.no) (madeCells #[.float .f64 0,.float .f64 0,.float .f64 0,.float .f64 0] ((len:Int).toNat * 4)))
 rw [Array.length_toList,size_madeCells] at h
 exact h.symm.trans (by simp)
end Go.Proofs.YtejcekikbnlllaaGreat
namespace Bu
open Rx Go
theorem okNd_mix {n:Nd} {p:Int} (h:okNd n p = true) (h5:n.k = 5):(0 ≤ n.a ∧ n.a < p) ∧ 0 ≤ n.b ∧ n.b < p := by
 unfold okNd at h
 rw [h5] at h
 simp only [Bool.and_eq_true,decide_eq_true_eq,Int.reduceEq,decide_false,decide_true,cond_false,cond_true] at h
 exact ⟨⟨h.2.2.1,h.2.2.2.1⟩,h.2.2.2.2.1,h.2.2.2.2.2⟩
theorem okNd_coat {n:Nd} {p:Int} (h:okNd n p = true) (h6:n.k = 6):0 ≤ n.a ∧ n.a < p := by
 unfold okNd at h
 rw [h6] at h
 simp only [Bool.and_eq_true,decide_eq_true_eq,Int.reduceEq,decide_false,decide_true,cond_false,Bool.true_and] at h
 exact ⟨h.2.2.2.1,h.2.2.2.2.1⟩
theorem okNd_leaf {n:Nd} {p:Int} (h:okNd n p = true) (h5:n.k ≠ 5) (h6:n.k ≠ 6):n.a = 0 ∧ n.b = 0 := by
 unfold okNd at h
 rw [decide_eq_false h5,decide_eq_false h6] at h
 by_cases h1:n.k = 1
 ·rw [decide_eq_true h1] at h
  simp only [cond_true,Bool.and_eq_true,decide_eq_true_eq] at h
  exact ⟨h.2.2.1,h.2.2.2⟩
 rw [decide_eq_false h1] at h
 by_cases h2:n.k = 2
 ·rw [decide_eq_true h2] at h
  simp only [cond_true,cond_false,Bool.and_eq_true,decide_eq_true_eq] at h
  exact ⟨h.2.2.1,h.2.2.2⟩
 rw [decide_eq_false h2] at h
 by_cases h3:n.k = 3
 ·rw [decide_eq_true h3] at h
  simp only [cond_true,cond_false,Bool.and_eq_true,decide_eq_true_eq] at h
  exact ⟨h.2.2.2.1,h.2.2.2.2⟩
 rw [decide_eq_false h3] at h
 by_cases h4:n.k = 4
 ·rw [decide_eq_true h4] at h
  simp only [cond_true,cond_false,Bool.and_eq_true,decide_eq_true_eq] at h
  exact ⟨h.2.2.2.1,h.2.2.2.2⟩
 rw [decide_eq_false h4] at h
 simp only [cond_false,Bool.false_and] at h
 cases h
theorem ChRow.at {c:Nat → Ch} {len i:Nat} {lc:List SV} (h:ChRow c len i lc) {a:Int} (h0:0 ≤ a) (ha:a < i) :
  chAt lc (0 + a.toNat * 4) = c a.toNat ∧ ckAll lc (0 + a.toNat * 4) chCK = true ∧ ckAll lc (0 + a.toNat * 4) [.f,.f] = true ∧ ckAll lc (0 + a.toNat * 4 + 2) [.f,.f] = true := by
 have hc := h.c a.toNat (by omega)
 rw [Nat.zero_add]
 obtain ⟨e1,e2⟩ := ch_at hc
 have e3 := e2
 unfold chCK ckAll ckAll ckAll ckAll ckAll at e3
 simp only [Bool.and_eq_true] at e3
 obtain ⟨q0,q1,q2,q3,_⟩ := e3
 refine ⟨e1,e2,?_,?_⟩
 ·unfold ckAll ckAll ckAll; simp only [q0,q1,Bool.and_self]
 ·unfold ckAll ckAll ckAll; simp only [Bool.and_true,Bool.and_eq_true]; exact ⟨q2,q3⟩
theorem ob_app {a b:Obs} (h:ObsOk a) (k:ObsOk b):ObsOk (a ++ b) := fun p hp => by
 rcases List.mem_append.1 hp with h1 | h1
 ·exact h p h1
 ·exact k p h1
theorem ix_of {a:Int} {n:Nat} (h0:0 ≤ a) (h:a < n):ixB a n = true := by unfold ixB; simp; omega
theorem ne_0 {n:Int} (h:n = 0):(n != 0) = false := by rw [h]; rfl
end Bu
namespace Go.Proofs.YtejcekikbnlllaaGreat
open Go.RowKit Bu Rx
theorem hd_ok {cells cs:List SV} {off len i:Nat} (K:OkPg cs len) (hca:CellsAt cells off cs) (hi:i < len):ObsOk (aHdO cells off len (i:Int)) := by
 obtain ⟨a1,_⟩ := K.at hca hi
 unfold aHdO
 rw [Int.toNat_natCast]
 exact obs_cons (by unfold slB; simp; omega) (obs_cons a1 (obs_cons (ix_of (by omega) (by omega)) (obs_cons (decide_eq_true (by omega)) obs_nil)))
theorem cut_M {s:St} {T:List SV} {M:List Blk} {d:Dec} {o:Obs} {k:Nat} {v:Nat → Value} (h:s.cut k v = ⟨T,M,d,o⟩):s.M.take k = M := (congrArg St.M h:_)
theorem cut_T {s:St} {T:List SV} {M:List Blk} {d:Dec} {o:Obs} {k:Nat} {v:Nat → Value} (h:s.cut k v = ⟨T,M,d,o⟩):(s.cut k v).T = T := congrArg St.T h
theorem round_fin {c:Code} {s s':St} {k k' off len cap:Nat} {cos:I} {lf:SV} {j:Int} {pre:List Blk} {lc':List SV} (h:RunsP Tryz.prog c s .normal (fun t => t = s')) (hk:s.M.length ≤ k) (X:(Nat → Value) → Nat → SV)
  (hT:∀ vv,(s'.cut k vv).T = aT k' off len cap cos lf (.si .i64 j) (X vv)) (hM:s'.M.take k = pre ++ aTail cos lc') (hpre:∀ b ∈ pre,idsLts 0 b.cells = true) (hl:idsLts 0 lc' = true) :
  RunsP Tryz.prog c s .normal (fun t => ∃ y,t = aS pre k' off len cap cos lf (.si .i64 j) y lc' none) := by
 refine RunsP.round h hk (fun b hb => ?_) fun vv => ⟨aS pre k' off len cap cos lf (.si .i64 j) (X vv) lc' none,⟨_,rfl⟩,same_eq (hT vv).symm hM.symm⟩
 rw [hM] at hb
 refine idsLts_mono (Nat.zero_le k) ?_
 rcases List.mem_append.1 hb with h1 | h1
 ·exact hpre b h1
 ·simp only [aTail,List.mem_cons,List.not_mem_nil,or_false] at h1
  rcases h1 with rfl | rfl | rfl
  ·rfl
  ·rfl
  ·exact hl
theorem roundA {N:Nde} (hO:OracleOk Tryz.prog (OD N)) {e:TypeId} {cs cells lc:List SV} {v u:V3} {off len cap i:Nat} {cos:I} {x:Nat → SV} (K:OkPg cs len) (hca:CellsAt cells off cs) (hid:idsLts 0 cells = true)
  (hB:allB N cos (lfR N.g v u) (lfRo N.go v u) cs len = true) (hi:i < len) (hl:ChRow (chF (allF N cos (lfR N.g v u) cs)) len i lc) :
  RunsP Tryz.prog aBd (aS (preA e cells v u) 3 off len cap cos lfA (.si .i64 (i:Int)) x lc none) .normal (fun t => ∃ y lc',ChRow (chF (allF N cos (lfR N.g v u) cs)) len (i + 1) lc' ∧ t = aS (preA e cells v u) 3 off len cap cos lfA (.si .i64 ((i + 1:Nat):Int)) y lc' none) := by
 have hb := allB_at hB hi
 have hnx := hl.next hi
 obtain ⟨_,hR⟩ := K.at hca hi
 have hnd := K.nd i hi
 have hH := hd_ok K hca hi
 have hw:IntKind.i64.wrap ((i:Int) + 1) = ((i + 1:Nat):Int) := wrap_s (by have := K.hi; omega)
 have hst:decide (0 + i * 4 + 4 ≤ lc.length) = true := decide_eq_true (by rw [hl.l]; omega)
 have hix:ixB (i:Int) len = true := ix_of (by omega) (by omega)
 have hg:∀ {a:Int},0 ≤ a → a < i → (chL (allF N cos (lfR N.g v u) cs) i).getD a.toNat Ch.zero = chAt lc (0 + a.toNat * 4) := fun h0 h1 => by
  rw [(hl.at h0 h1).1]; exact chL_get _ (by omega)
 have hpre:∀ b ∈ preA e cells v u,idsLts 0 b.cells = true := fun b hb => by
  simp only [preA,List.mem_cons,List.not_mem_nil,or_false] at hb
  rcases hb with rfl | rfl | rfl <;> first | exact hid | rfl
 unfold nodB at hb
 rw [Bool.and_eq_true,decide_eq_true_eq] at hb
 obtain ⟨hb1,hb2⟩ := hb
 generalize hcv:chF (allF N cos (lfR N.g v u) cs) i = cv at hnx
 have hcv':(nodC N cos (lfR N.g v u) (fun j => (chL (allF N cos (lfR N.g v u) cs) i).getD j Ch.zero) (ndR cs (i * 19))).1 = cv := hcv
 by_cases h5:(ndR cs (i * 19)).k = 5
 ·obtain ⟨⟨a0,a1⟩,b0,b1⟩ := okNd_mix hnd h5
  have hC:nodC N cos (lfR N.g v u) (fun j => (chL (allF N cos (lfR N.g v u) cs) i).getD j Ch.zero) (ndR cs (i * 19)) = mixC N.K ((ndR cs (i * 19)).f 15) (chsAt lc (ndR cs (i * 19)).a.toNat) (chsAt lc (ndR cs (i * 19)).b.toNat) := by
   unfold nodC chsAt
   rw [decide_eq_true h5,cond_true]
   simp only [hg a0 a1,hg b0 b1]
  rw [hC] at hb2 hcv'
  have hob:ObsOk (aA N e cells lc v u off len cap cos i x [true,true,false]).ob := by
   rw [aOm,Int.toNat_natCast,hR]
   obtain ⟨_,p1,_⟩ := hl.at a0 a1
   obtain ⟨_,q1,_⟩ := hl.at b0 b1
   exact ob_app (obs_cons hst (obs_cons hix (obs_cons (ne_0 hb2) (obs_cons q1 (obs_cons (ix_of b0 (by omega)) (obs_cons p1 (obs_cons (ix_of a0 (by omega)) (obs_cons (decide_eq_true h5) obs_nil)))))))) hH
  have hM := cut_M (aCm N e cells lc v u off len cap cos i x (fun _ => undef))
  rw [Int.toNat_natCast,hR,Nat.zero_add] at hM
  exact RunsP.re (d := some [true,true,false]) (o := []) ((round_fin (pre := preA e cells v u) (lf := lfA) (k' := 3) (off := off) (len := len) (cap := cap) (cos := cos) (j := ((i + 1:Nat):Int)) (lc' := putRow lc (i * 4) cv.cells) (Lands.runs goodG hO (aLm N e cells lc v u off len cap cos i x) hob) (by show (preA e cells v u ++ aTail cos lc).length ≤ 6; simp [preA,aTail]) (aXm N e cells lc v u off len cap cos i x) (fun vv => by
   have hT := cut_T (aCm N e cells lc v u off len cap cos i x vv)
   rw [hw] at hT
   exact hT) (by rw [← hcv']; exact hM) hpre hnx.d).mono fun t ⟨y,ht⟩ => ⟨y,_,hnx,ht⟩)
 rw [decide_eq_false h5,cond_false] at hb1
 by_cases h6:(ndR cs (i * 19)).k = 6
 ·obtain ⟨a0,a1⟩ := okNd_coat hnd h6
  have hC:nodC N cos (lfR N.g v u) (fun j => (chL (allF N cos (lfR N.g v u) cs) i).getD j Ch.zero) (ndR cs (i * 19)) = coatC N.K (N.D cos ⟨(ndR cs (i * 19)).f 14,(ndR cs (i * 19)).f 14⟩).1 (chsAt lc (ndR cs (i * 19)).a.toNat) := by
   unfold nodC chsAt
   rw [decide_eq_false h5,decide_eq_true h6,cond_false,cond_true]
   simp only [hg a0 a1]
  rw [hC] at hb2 hcv'
  rw [decide_eq_true h6,cond_true,Bool.and_eq_true,decide_eq_true_eq] at hb1
  have hob:ObsOk (aA N e cells lc v u off len cap cos i x [true,false,true,false,false]).ob := by
   rw [aOc,Int.toNat_natCast,hR]
   obtain ⟨_,_,p2,p3⟩ := hl.at a0 a1
   exact ob_app (obs_cons hst (obs_cons hix (obs_cons (ne_0 hb2) (obs_cons p3 (obs_cons (ix_of a0 (by omega)) (obs_cons p2 (obs_cons (ix_of a0 (by omega)) (obs_cons (ne_0 hb1.2) obs_nil)))))))) (ob_app (ob_app (obsB_ok hb1.1) (obs_cons (decide_eq_true h6) (obs_cons (decide_eq_false h5) obs_nil))) hH)
  have hM := cut_M (aCc N e cells lc v u off len cap cos i x (fun _ => undef))
  rw [Int.toNat_natCast,hR,Nat.zero_add] at hM
  exact RunsP.re (d := some [true,false,true,false,false]) (o := []) ((round_fin (pre := preA e cells v u) (lf := lfA) (k' := 3) (off := off) (len := len) (cap := cap) (cos := cos) (j := ((i + 1:Nat):Int)) (lc' := putRow lc (i * 4) cv.cells) (Lands.runs goodG hO (aLc N e cells lc v u off len cap cos i x) hob) (by show (preA e cells v u ++ aTail cos lc).length ≤ 6; simp [preA,aTail]) (aXc N e cells lc v u off len cap cos i x) (fun vv => by
   have hT := cut_T (aCc N e cells lc v u off len cap cos i x vv)
   rw [hw] at hT
   exact hT) (by rw [← hcv']; exact hM) hpre hnx.d).mono fun t ⟨y,ht⟩ => ⟨y,_,hnx,ht⟩)
 ·rw [decide_eq_false h6,cond_false] at hb1
  have hC:nodC N cos (lfR N.g v u) (fun j => (chL (allF N cos (lfR N.g v u) cs) i).getD j Ch.zero) (ndR cs (i * 19)) = (⟨((lfR N.g v u) (ndR cs (i * 19))).1,Ch.zero.m⟩,((lfR N.g v u) (ndR cs (i * 19))).2) := by
   unfold nodC
   rw [decide_eq_false h5,decide_eq_false h6,cond_false,cond_false]
  rw [hC] at hb2 hcv'
  have hob:ObsOk (aA N e cells lc v u off len cap cos i x [true,false,false,false]).ob := by
   rw [aOl,Int.toNat_natCast,hR]
   exact ob_app (obs_cons hst (obs_cons hix (obs_cons (ne_0 hb2) obs_nil))) (ob_app (ob_app (ob_app (obsB_ok hb1) obs_nil) (obs_cons (decide_eq_false h6) (obs_cons (decide_eq_false h5) obs_nil))) hH)
  have hM := cut_M (aCl N e cells lc v u off len cap cos i x (fun _ => undef))
  rw [Int.toNat_natCast,hR,Nat.zero_add] at hM
  exact RunsP.re (d := some [true,false,false,false]) (o := []) ((round_fin (pre := preA e cells v u) (lf := lfA) (k' := 3) (off := off) (len := len) (cap := cap) (cos := cos) (j := ((i + 1:Nat):Int)) (lc' := putRow lc (i * 4) cv.cells) (Lands.runs goodG hO (aLl N e cells lc v u off len cap cos i x) hob) (by show (preA e cells v u ++ aTail cos lc).length ≤ 6; simp [preA,aTail]) (aXl N e cells lc v u off len cap cos i x) (fun vv => by
   have hT := cut_T (aCl N e cells lc v u off len cap cos i x vv)
   rw [hw] at hT
   exact hT) (by rw [← hcv']; exact hM) hpre hnx.d).mono fun t ⟨y,ht⟩ => ⟨y,_,hnx,ht⟩)
theorem roundB {N:Nde} (hO:OracleOk Tryz.prog (OD N)) {e:TypeId} {cs cells lc:List SV} {off len cap i:Nat} {cos:I} {x:Nat → SV} (K:OkPg cs len) (hca:CellsAt cells off cs) (hid:idsLts 0 cells = true)
  (hB:allB N cos (fun _ => (Ch.zero.p,0)) (fun _ => []) cs len = true) (hi:i < len) (hl:ChRow (chF (allF N cos (fun _ => (Ch.zero.p,0)) cs)) len i lc) :
  RunsP Tryz.prog aBd (aS (preM e cells) 1 off len cap cos lfM (.si .i64 (i:Int)) x lc none) .normal (fun t => ∃ y lc',ChRow (chF (allF N cos (fun _ => (Ch.zero.p,0)) cs)) len (i + 1) lc' ∧ t = aS (preM e cells) 1 off len cap cos lfM (.si .i64 ((i + 1:Nat):Int)) y lc' none) := by
 have hb := allB_at hB hi
 have hnx := hl.next hi
 obtain ⟨_,hR⟩ := K.at hca hi
 have hnd := K.nd i hi
 have hH := hd_ok K hca hi
 have hw:IntKind.i64.wrap ((i:Int) + 1) = ((i + 1:Nat):Int) := wrap_s (by have := K.hi; omega)
 have hst:decide (0 + i * 4 + 4 ≤ lc.length) = true := decide_eq_true (by rw [hl.l]; omega)
 have hix:ixB (i:Int) len = true := ix_of (by omega) (by omega)
 have hg:∀ {a:Int},0 ≤ a → a < i → (chL (allF N cos (fun _ => (Ch.zero.p,0)) cs) i).getD a.toNat Ch.zero = chAt lc (0 + a.toNat * 4) := fun h0 h1 => by
  rw [(hl.at h0 h1).1]; exact chL_get _ (by omega)
 have hpre:∀ b ∈ preM e cells,idsLts 0 b.cells = true := fun b hb => by
  simp only [preM,List.mem_cons,List.not_mem_nil,or_false] at hb
  rcases hb with rfl <;> first | exact hid | rfl
 unfold nodB at hb
 rw [Bool.and_eq_true,decide_eq_true_eq] at hb
 obtain ⟨hb1,hb2⟩ := hb
 generalize hcv:chF (allF N cos (fun _ => (Ch.zero.p,0)) cs) i = cv at hnx
 have hcv':(nodC N cos (fun _ => (Ch.zero.p,0)) (fun j => (chL (allF N cos (fun _ => (Ch.zero.p,0)) cs) i).getD j Ch.zero) (ndR cs (i * 19))).1 = cv := hcv
 by_cases h5:(ndR cs (i * 19)).k = 5
 ·obtain ⟨⟨a0,a1⟩,b0,b1⟩ := okNd_mix hnd h5
  have hC:nodC N cos (fun _ => (Ch.zero.p,0)) (fun j => (chL (allF N cos (fun _ => (Ch.zero.p,0)) cs) i).getD j Ch.zero) (ndR cs (i * 19)) = mixC N.K ((ndR cs (i * 19)).f 15) (chsAt lc (ndR cs (i * 19)).a.toNat) (chsAt lc (ndR cs (i * 19)).b.toNat) := by
   unfold nodC chsAt
   rw [decide_eq_true h5,cond_true]
   simp only [hg a0 a1,hg b0 b1]
  rw [hC] at hb2 hcv'
  have hob:ObsOk (aM N e cells lc off len cap cos i x [true,true,false]).ob := by
   rw [aOmM,Int.toNat_natCast,hR]
   obtain ⟨_,p1,_⟩ := hl.at a0 a1
   obtain ⟨_,q1,_⟩ := hl.at b0 b1
   exact ob_app (obs_cons hst (obs_cons hix (obs_cons (ne_0 hb2) (obs_cons q1 (obs_cons (ix_of b0 (by omega)) (obs_cons p1 (obs_cons (ix_of a0 (by omega)) (obs_cons (decide_eq_true h5) obs_nil)))))))) hH
  have hM := cut_M (aCmM N e cells lc off len cap cos i x (fun _ => undef))
  rw [Int.toNat_natCast,hR,Nat.zero_add] at hM
  exact RunsP.re (d := some [true,true,false]) (o := []) ((round_fin (pre := preM e cells) (lf := lfM) (k' := 1) (off := off) (len := len) (cap := cap) (cos := cos) (j := ((i + 1:Nat):Int)) (lc' := putRow lc (i * 4) cv.cells) (Lands.runs goodG hO (bLm N e cells lc off len cap cos i x) hob) (by show (preM e cells ++ aTail cos lc).length ≤ 4; simp [preM,aTail]) (aXmM N e cells lc off len cap cos i x) (fun vv => by
   have hT := cut_T (aCmM N e cells lc off len cap cos i x vv)
   rw [hw] at hT
   exact hT) (by rw [← hcv']; exact hM) hpre hnx.d).mono fun t ⟨y,ht⟩ => ⟨y,_,hnx,ht⟩)
 rw [decide_eq_false h5,cond_false] at hb1
 by_cases h6:(ndR cs (i * 19)).k = 6
 ·obtain ⟨a0,a1⟩ := okNd_coat hnd h6
  have hC:nodC N cos (fun _ => (Ch.zero.p,0)) (fun j => (chL (allF N cos (fun _ => (Ch.zero.p,0)) cs) i).getD j Ch.zero) (ndR cs (i * 19)) = coatC N.K (N.D cos ⟨(ndR cs (i * 19)).f 14,(ndR cs (i * 19)).f 14⟩).1 (chsAt lc (ndR cs (i * 19)).a.toNat) := by
   unfold nodC chsAt
   rw [decide_eq_false h5,decide_eq_true h6,cond_false,cond_true]
   simp only [hg a0 a1]
  rw [hC] at hb2 hcv'
  rw [decide_eq_true h6,cond_true,Bool.and_eq_true,decide_eq_true_eq] at hb1
  have hob:ObsOk (aM N e cells lc off len cap cos i x [true,false,true,false,false]).ob := by
   rw [aOcM,Int.toNat_natCast,hR]
   obtain ⟨_,_,p2,p3⟩ := hl.at a0 a1
   exact ob_app (obs_cons hst (obs_cons hix (obs_cons (ne_0 hb2) (obs_cons p3 (obs_cons (ix_of a0 (by omega)) (obs_cons p2 (obs_cons (ix_of a0 (by omega)) (obs_cons (ne_0 hb1.2) obs_nil)))))))) (ob_app (ob_app (obsB_ok hb1.1) (obs_cons (decide_eq_true h6) (obs_cons (decide_eq_false h5) obs_nil))) hH)
  have hM := cut_M (aCcM N e cells lc off len cap cos i x (fun _ => undef))
  rw [Int.toNat_natCast,hR,Nat.zero_add] at hM
  exact RunsP.re (d := some [true,false,true,false,false]) (o := []) ((round_fin (pre := preM e cells) (lf := lfM) (k' := 1) (off := off) (len := len) (cap := cap) (cos := cos) (j := ((i + 1:Nat):Int)) (lc' := putRow lc (i * 4) cv.cells) (Lands.runs goodG hO (bLc N e cells lc off len cap cos i x) hob) (by show (preM e cells ++ aTail cos lc).length ≤ 4; simp [preM,aTail]) (aXcM N e cells lc off len cap cos i x) (fun vv => by
   have hT := cut_T (aCcM N e cells lc off len cap cos i x vv)
   rw [hw] at hT
   exact hT) (by rw [← hcv']; exact hM) hpre hnx.d).mono fun t ⟨y,ht⟩ => ⟨y,_,hnx,ht⟩)
 ·rw [decide_eq_false h6,cond_false] at hb1
  have hC:nodC N cos (fun _ => (Ch.zero.p,0)) (fun j => (chL (allF N cos (fun _ => (Ch.zero.p,0)) cs) i).getD j Ch.zero) (ndR cs (i * 19)) = (⟨((fun _ => (Ch.zero.p,0)) (ndR cs (i * 19))).1,Ch.zero.m⟩,((fun _ => (Ch.zero.p,0)) (ndR cs (i * 19))).2) := by
   unfold nodC
   rw [decide_eq_false h5,decide_eq_false h6,cond_false,cond_false]
  rw [hC] at hb2 hcv'
  have hob:ObsOk (aM N e cells lc off len cap cos i x [true,false,false]).ob := by
   rw [aOlM,Int.toNat_natCast,hR]
   exact ob_app (obs_cons hst (obs_cons hix obs_nil)) (ob_app ((obs_cons (decide_eq_false h6) (obs_cons (decide_eq_false h5) obs_nil))) hH)
  have hM := cut_M (aClM N e cells lc off len cap cos i x (fun _ => undef))
  rw [Int.toNat_natCast,Nat.zero_add] at hM
  exact RunsP.re (d := some [true,false,false]) (o := []) ((round_fin (pre := preM e cells) (lf := lfM) (k' := 1) (off := off) (len := len) (cap := cap) (cos := cos) (j := ((i + 1:Nat):Int)) (lc' := putRow lc (i * 4) cv.cells) (Lands.runs goodG hO (bLl N e cells lc off len cap cos i x) hob) (by show (preM e cells ++ aTail cos lc).length ≤ 4; simp [preM,aTail]) (aXlM N e cells lc off len cap cos i x) (fun vv => by
   have hT := cut_T (aClM N e cells lc off len cap cos i x vv)
   rw [hw] at hT
   exact hT) (by rw [← hcv']; exact hM) hpre hnx.d).mono fun t ⟨y,ht⟩ => ⟨y,_,hnx,ht⟩)
theorem loop2 {P:Program} {body:Code} {id:Nat} {Φ:St → Prop} (S:Nat → (Nat → SV) → List SV → St) (I:Nat → List SV → Prop) (n:Nat) (hr:∀ i x y,i < n → I i y → RunsP P body (S i x y) .normal (fun t => ∃ x' y',I (i + 1) y' ∧ t = S (i + 1) x' y'))
  (he:∀ x y,I n y → RunsP P body (S n x y) (.exit id) Φ) (x:Nat → SV) (y:List SV) (h0:I 0 y):RunsP P (.block id (.loop body)) (S 0 x y) .normal Φ :=
 loop_inv (fun i (p:(Nat → SV) × List SV) => S i p.1 p.2) (fun i p => I i p.2) n (fun i p hi h => (hr i p.1 p.2 hi h).mono fun t ⟨x',y',h1,h2⟩ => ⟨(x',y'),h1,h2⟩) (fun p h => he p.1 p.2 h) (x,y) h0
theorem allA {N:Nde} (hO:OracleOk Tryz.prog (OD N)) {e:TypeId} {cs cells:List SV} {v u:V3} {off len cap:Nat} {cos:I} (K:OkPg cs len) (hca:CellsAt cells off cs) (hid:idsLts 0 cells = true)
  (hB:allB N cos (lfR N.g v u) (lfRo N.go v u) cs len = true) :
  RunsP Tryz.prog aC (en0 (preA e cells v u) off len cap cos lfA) .ret (fun t => resultS Tryz.prog Tryz.f68 t = some (.tup [(chF (allF N cos (lfR N.g v u) cs) (len - 1)).sv,.i .i64 0]) ∧ ∃ more,t.M = (preA e cells v u) ++ more) := by
 have hmk:(mkC 32 len len && decide ((len:Int) ≤ 9223372036854775807)) = true := by
  have := K.hi
  unfold mkC; simp; omega
 rw [aC_cut]
 refine Lands.seq goodG hO (enA0 N e cells v u off len cap cos) (by rw [enA0o]; exact obs_nil) ?_
 refine Lands.seq goodG hO (enA1 N e cells v u off len cap cos) (by rw [enA1o]; exact obs_cons hmk obs_nil) ?_
 refine RunsP.seq (Φ := fun t => ∃ y lc,ChRow (chF (allF N cos (lfR N.g v u) cs)) len len lc ∧ t = aS (preA e cells v u) 3 off len cap cos lfA (.si .i64 (len:Int)) y lc none) ?_ fun t ⟨y,lc,hl,ht⟩ => ?_
 ·refine Lands.seq goodG hO (enA2 N e cells v u off len cap cos) (by rw [enA2o]; exact obs_cons hmk obs_nil) ?_
  have hs:SameSt (aS (preA e cells v u) 3 off len cap cos lfA (.si .i64 ((0:Nat):Int)) (xA N e cells v u off len cap cos) (lc0 len) none) (sA2 N e cells v u off len cap cos) := by
   refine same_T (fun m => ?_) ?_
   ·rw [enA2T]; simp only [aS,aT,dens,den,Int.natCast_zero]
   ·rw [enA2M]; rfl
  refine RunsP.retell hs ?_
  refine loop2 (fun (i:Nat) (x:Nat → SV) (y:List SV) => aS (preA e cells v u) 3 off len cap cos lfA (.si .i64 (i:Int)) x y none) (fun i y => ChRow (chF (allF N cos (lfR N.g v u) cs)) len i y) len ?_ ?_ _ _ (lc0_row _ len)
  ·intro i x lc hi hl
   exact (roundA hO K hca hid hB hi hl)
  ·intro x lc hl
   have hob:ObsOk (aft Tryz.prog EG (OD N) 60 aBd (aS (preA e cells v u) 3 off len cap cos lfA (.si .i64 (len:Int)) x lc (some [false]))).ob := by rw [eAEo]; exact obs_cons (decide_eq_false (by omega)) obs_nil
   refine RunsP.re (d := some [false]) (o := []) (Lands.fin goodG hO (eAE N e cells lc v u off len cap cos len x) hob ?_)
   exact ⟨aS (preA e cells v u) 3 off len cap cos lfA (.si .i64 (len:Int)) (fun j => bif Nat.beq j 18 then .b false else x j) lc none,⟨_,_,hl,rfl⟩,same_eq (congrArg St.T (eAEo N e cells lc v u off len cap cos len x)).symm (congrArg St.M (eAEo N e cells lc v u off len cap cos len x)).symm⟩
 ·subst ht
  have hw:IntKind.i64.wrap ((len:Int) - 1) = ((len - 1:Nat):Int) := by
   have := K.lo; have := K.hi
   rw [IntKind.wrap_i64]; omega
  have hlo := K.lo
  obtain ⟨h1,h2,_⟩ := hl.at (a := ((len - 1:Nat):Int)) (by omega) (by omega)
  rw [Int.toNat_natCast] at h1 h2
  refine Lands.all goodG hO (eAT N e cells lc v u off len cap cos len y) ?_ ⟨?_,eATM N e cells lc v u off len cap cos len y⟩
  ·rw [eATo,hw,Int.toNat_natCast]
   exact obs_cons h2 (obs_cons (ix_of (by omega) (by omega)) obs_nil)
  ·rw [eATr,hw,Int.toNat_natCast]
   unfold chsAt
   rw [h1]
theorem allB' {N:Nde} (hO:OracleOk Tryz.prog (OD N)) {e:TypeId} {cs cells:List SV} {off len cap:Nat} {cos:I} (K:OkPg cs len) (hca:CellsAt cells off cs) (hid:idsLts 0 cells = true)
  (hB:allB N cos (fun _ => (Ch.zero.p,0)) (fun _ => []) cs len = true) :
  RunsP Tryz.prog aC (en0 (preM e cells) off len cap cos lfM) .ret (fun t => resultS Tryz.prog Tryz.f68 t = some (.tup [(chF (allF N cos (fun _ => (Ch.zero.p,0)) cs) (len - 1)).sv,.i .i64 0]) ∧ ∃ more,t.M = (preM e cells) ++ more) := by
 have hmk:(mkC 32 len len && decide ((len:Int) ≤ 9223372036854775807)) = true := by
  have := K.hi
  unfold mkC; simp; omega
 rw [aC_cut]
 refine Lands.seq goodG hO (enB0 N e cells off len cap cos) (by rw [enB0o]; exact obs_nil) ?_
 refine Lands.seq goodG hO (enB1 N e cells off len cap cos) (by rw [enB1o]; exact obs_cons hmk obs_nil) ?_
 refine RunsP.seq (Φ := fun t => ∃ y lc,ChRow (chF (allF N cos (fun _ => (Ch.zero.p,0)) cs)) len len lc ∧ t = aS (preM e cells) 1 off len cap cos lfM (.si .i64 (len:Int)) y lc none) ?_ fun t ⟨y,lc,hl,ht⟩ => ?_
 ·refine Lands.seq goodG hO (enB2 N e cells off len cap cos) (by rw [enB2o]; exact obs_cons hmk obs_nil) ?_
  have hs:SameSt (aS (preM e cells) 1 off len cap cos lfM (.si .i64 ((0:Nat):Int)) (xB N e cells off len cap cos) (lc0 len) none) (sB2 N e cells off len cap cos) := by
   refine same_T (fun m => ?_) ?_
   ·rw [enB2T]; simp only [aS,aT,dens,den,Int.natCast_zero]
   ·rw [enB2M]; rfl
  refine RunsP.retell hs ?_
  refine loop2 (fun (i:Nat) (x:Nat → SV) (y:List SV) => aS (preM e cells) 1 off len cap cos lfM (.si .i64 (i:Int)) x y none) (fun i y => ChRow (chF (allF N cos (fun _ => (Ch.zero.p,0)) cs)) len i y) len ?_ ?_ _ _ (lc0_row _ len)
  ·intro i x lc hi hl
   exact (roundB hO K hca hid hB hi hl)
  ·intro x lc hl
   have hob:ObsOk (aft Tryz.prog EG (OD N) 60 aBd (aS (preM e cells) 1 off len cap cos lfM (.si .i64 (len:Int)) x lc (some [false]))).ob := by rw [eBEo]; exact obs_cons (decide_eq_false (by omega)) obs_nil
   refine RunsP.re (d := some [false]) (o := []) (Lands.fin goodG hO (eBE N e cells lc off len cap cos len x) hob ?_)
   exact ⟨aS (preM e cells) 1 off len cap cos lfM (.si .i64 (len:Int)) (fun j => bif Nat.beq j 18 then .b false else x j) lc none,⟨_,_,hl,rfl⟩,same_eq (congrArg St.T (eBEo N e cells lc off len cap cos len x)).symm (congrArg St.M (eBEo N e cells lc off len cap cos len x)).symm⟩
 ·subst ht
  have hw:IntKind.i64.wrap ((len:Int) - 1) = ((len - 1:Nat):Int) := by
   have := K.lo; have := K.hi
   rw [IntKind.wrap_i64]; omega
  have hlo := K.lo
  obtain ⟨h1,h2,_⟩ := hl.at (a := ((len - 1:Nat):Int)) (by omega) (by omega)
  rw [Int.toNat_natCast] at h1 h2
  refine Lands.all goodG hO (eBT N e cells lc off len cap cos len y) ?_ ⟨?_,eBTM N e cells lc off len cap cos len y⟩
  ·rw [eBTo,hw,Int.toNat_natCast]
   exact obs_cons h2 (obs_cons (ix_of (by omega) (by omega)) obs_nil)
  ·rw [eBTr,hw,Int.toNat_natCast]
   unfold chsAt
   rw [h1]
def chP (N:Nde) (cos:I) (lf:Nd → I × Int) (cs:List SV) (len:Nat):Ch := chF (allF N cos lf cs) (len - 1)
def kAl (N:Nde):RdsF := fun cs len l rest ds => match l,rest with
 | [.agg [.fl a, .fl b], .fn (.func 152) [] [.p 1 0, .p 2 0]], [⟨35, [.fl x0, .fl x1, .fl x2, .fl x3, .fl x4, .fl x5], .ex⟩, ⟨35, [.fl y0, .fl y1, .fl y2, .fl y3, .fl y4, .fl y5], .ex⟩] =>
   some (.tup [(chP N ⟨a,b⟩ (lfR N.g ⟨⟨x0,x1⟩,⟨x2,x3⟩,⟨x4,x5⟩⟩ ⟨⟨y0,y1⟩,⟨y2,y3⟩,⟨y4,y5⟩⟩) cs len).sv,.i .i64 0],ds,
    [(okPg cs len,true),(allB N ⟨a,b⟩ (lfR N.g ⟨⟨x0,x1⟩,⟨x2,x3⟩,⟨x4,x5⟩⟩ ⟨⟨y0,y1⟩,⟨y2,y3⟩,⟨y4,y5⟩⟩) (lfRo N.go ⟨⟨x0,x1⟩,⟨x2,x3⟩,⟨x4,x5⟩⟩ ⟨⟨y0,y1⟩,⟨y2,y3⟩,⟨y4,y5⟩⟩) cs len,true)])
 | [.agg [.fl a, .fl b], .fn (.func 69) [] []], [] =>
   some (.tup [(chP N ⟨a,b⟩ (fun _ => (Ch.zero.p,0)) cs len).sv,.i .i64 0],ds,[(okPg cs len,true),(allB N ⟨a,b⟩ (fun _ => (Ch.zero.p,0)) (fun _ => []) cs len,true)])
 | _,_ => none
def chV (c:Ch):Value := .agg #[.float .f64 c.p.lo.b,.float .f64 c.p.hi.b,.float .f64 c.m.lo.b,.float .f64 c.m.hi.b]
theorem ch_plain (c:Ch):plain (.tup [c.sv,.i .i64 0]) = some (.tuple #[chV c,.int .i64 0]) := rfl
theorem allK {N:Nde} (hO:OracleOk Tryz.prog (OD N)):RdsOk Tryz.prog 68 (kAl N) := by
 intro cs len l rest ds x ds' ob h ho
 unfold kAl at h
 split at h
 ·rename_i a b x0 x1 x2 x3 x4 x5 y0 y1 y2 y3 y4 y5
  simp only [Option.some.injEq,Prod.mk.injEq] at h
  obtain ⟨rfl,_,rfl⟩ := h
  have K := okPg_ok (ho _ (List.mem_cons_self ..))
  have hB := ho _ (List.mem_cons_of_mem _ (List.mem_cons_self ..))
  refine ⟨K.pl,_,ch_plain _,fun m w e cells off cap vs hM hca hid hd => ?_⟩
  refine rds_of_runs (d := none) Tryz.func68 aBody (ch_plain _) (fun b hb => ?_) ?_ hM hd
  ·simp only [List.mem_cons,List.not_mem_nil,or_false] at hb
   rcases hb with rfl | rfl <;> rfl
  ·rw [aNt]
   exact allA (v := ⟨⟨x0,x1⟩,⟨x2,x3⟩,⟨x4,x5⟩⟩) (u := ⟨⟨y0,y1⟩,⟨y2,y3⟩,⟨y4,y5⟩⟩) (cos := ⟨a,b⟩) hO K hca hid hB
 ·rename_i a b
  simp only [Option.some.injEq,Prod.mk.injEq] at h
  obtain ⟨rfl,_,rfl⟩ := h
  have K := okPg_ok (ho _ (List.mem_cons_self ..))
  have hB := ho _ (List.mem_cons_of_mem _ (List.mem_cons_self ..))
  refine ⟨K.pl,_,ch_plain _,fun m w e cells off cap vs hM hca hid hd => ?_⟩
  refine rds_of_runs (d := none) Tryz.func68 aBody (ch_plain _) (fun b hb => by cases hb) ?_ hM hd
  rw [aNt]
  exact allB' (cos := ⟨a,b⟩) hO K hca hid hB
 ·cases h
end Go.Proofs.YtejcekikbnlllaaGreat
namespace Bu
open Rx Go
structure Ndn where
 o:List SV → Nat → Bool
 g:I → V3 → V3 → List SV → Nat → Ch
 b:I → V3 → V3 → List SV → Nat → Bool
 gm:I → List SV → Nat → Ch
 bm:I → List SV → Nat → Bool
theorem at_take {cells cs:List SV} {off:Nat} (h:CellsAt cells off cs):(cells.drop off).take cs.length = cs := by
 refine List.ext_getElem? fun j => ?_
 rw [List.getElem?_take]
 by_cases hj:j < cs.length
 ·rw [if_pos hj,List.getElem?_drop,h j _ (List.getElem?_eq_getElem hj),List.getElem?_eq_getElem hj]
 ·rw [if_neg hj,List.getElem?_eq_none (by omega)]
end Bu
namespace Go.Proofs.YtejcekikbnlllaaGreat
open Go.RowKit Bu Rx
def kAl2 (D:Ndn):RdsF := fun cs len l rest ds => match l,rest with
 | [.agg [.fl a, .fl b], .fn (.func 152) [] [.p 1 0, .p 2 0]], [⟨35, [.fl x0, .fl x1, .fl x2, .fl x3, .fl x4, .fl x5], .ex⟩, ⟨35, [.fl y0, .fl y1, .fl y2, .fl y3, .fl y4, .fl y5], .ex⟩] =>
   some (.tup [(D.g ⟨a,b⟩ ⟨⟨x0,x1⟩,⟨x2,x3⟩,⟨x4,x5⟩⟩ ⟨⟨y0,y1⟩,⟨y2,y3⟩,⟨y4,y5⟩⟩ cs len).sv,.i .i64 0],ds,[(D.o cs len,true),(D.b ⟨a,b⟩ ⟨⟨x0,x1⟩,⟨x2,x3⟩,⟨x4,x5⟩⟩ ⟨⟨y0,y1⟩,⟨y2,y3⟩,⟨y4,y5⟩⟩ cs len,true)])
 | [.agg [.fl a, .fl b], .fn (.func 69) [] []], [] =>
   some (.tup [(D.gm ⟨a,b⟩ cs len).sv,.i .i64 0],ds,[(D.o cs len,true),(D.bm ⟨a,b⟩ cs len,true)])
 | _,_ => none
def ndD (N:Nde):Ndn := ⟨okPg,fun cos v u cs len => chP N cos (lfR N.g v u) cs len,fun cos v u cs len => allB N cos (lfR N.g v u) (lfRo N.go v u) cs len,fun cos cs len => chP N cos (fun _ => (Ch.zero.p,0)) cs len,fun cos cs len => allB N cos (fun _ => (Ch.zero.p,0)) (fun _ => []) cs len⟩
theorem kAl_2 (N:Nde):kAl N = kAl2 (ndD N) := by
 funext cs len l rest ds
 unfold kAl kAl2
 rfl
def OCh (D:Ndn):OracleF := lookO [(50,kRd 19 (kRgt D.o)),(67,plainO oRt),(68,kRds 19 (kAl2 D))]
def cutC (cells:List SV) (off len:Nat):List SV := (cells.drop off).take (len * 19)
theorem rd_of_runT {P:Program} {E:ExtF} {O:OracleF} (hP:Rx.Good P E) (hO:OracleOk P O) (n:Nat) {g:FuncId} {cs l:List SV} {len:Nat} {vc vs:List Value} {x:SV} {v:Value} (hc:plains cs = some vc) (hl:plains l = some vs) (hx:plain x = some v)
  (h:∀ (e:TypeId) (cells:List SV) (off cap:Nat),CellsAt cells off cs → ∃ ds ds' ob,((run P E O n).1 g (.ssl 0 off len cap :: l) [⟨e,cells,.num⟩] ds).map (fun q => (q.1,q.2.1.take 1,q.2.2)) = some (x,[⟨e,cells,.num⟩],ds',ob) ∧ ObsOk ob)
  (w:World) (r off cap:Nat) (hw:RowAt w r off vc):Calls P g (Value.slice (some ⟨r,off,none⟩) len cap :: vs).toArray w fun e w' => e = .returned v ∧ Below w.heap.size w w' := by
 refine rd_of_run hP hO n hc hl hx (fun e cells off cap hca => ?_) w r off cap hw
 obtain ⟨ds,ds',ob,h1,h2⟩ := h e cells off cap hca
 simp only [Option.map_eq_some_iff,Prod.mk.injEq] at h1
 obtain ⟨⟨y,M,d,o⟩,h3,h4,h5,h6⟩ := h1
 simp only at h4 h5 h6
 obtain ⟨rfl,rfl⟩ := Prod.mk.inj h6
 subst h4
 cases M with
 | nil => simp at h5
 | cons b M =>
   simp only [List.take_succ_cons,List.take_zero,List.cons.injEq,and_true] at h5
   subst h5
   exact ⟨M,ds,d,o,h3,h2⟩
def vcO (v:V3):Obs := [(decide (v.z.hi.k ≤ (toF 4607182418800017408).k),true),(decide ((toF 0).k ≤ v.z.lo.k),true),(decide (v.y.hi.k ≤ (toF 4607182418800017408).k),true),(decide ((toF 13830554455654793216).k ≤ v.y.lo.k),true),(decide (v.x.hi.k ≤ (toF 4607182418800017408).k),true),(decide ((toF 13830554455654793216).k ≤ v.x.lo.k),true),
 (decide (v.z.lo.k ≤ v.z.hi.k),true),(decide (v.y.lo.k ≤ v.y.hi.k),true),(decide (v.x.lo.k ≤ v.x.hi.k),true)]
def miO (c:I):Obs := [(decide ((toF 4607182418800017408).k < c.hi.k),false),(decide (c.lo.k < (toF 0).k),false),(decide (c.lo.k ≤ c.hi.k),true)]
section
variable (D:Ndn) (e:TypeId) (cells:List SV) (off len cap:Nat) (v u:V3) (cos:I)
theorem miRun:((run Tryz.prog EG (OCh D) 60).1 19 [.ssl 0 off len cap,ivS cos] [⟨e,cells,.num⟩] (some [true,false,false])).map (fun q => (q.1,q.2.1.take 1,q.2.2)) =
  some (.tup [ivS (D.gm cos (cutC cells off len) len).m,.i .i64 0],[⟨e,cells,.num⟩],some [],[(D.o (cutC cells off len) len,true),(D.bm cos (cutC cells off len) len,true)] ++ (miO cos ++ [(D.o (cutC cells off len) len,true)])) := by kernel_rfl
end
def kMi (D:Ndn):RdF := fun cs len l ds => match l with
 | [.agg [.fl a,.fl b]] => some (.tup [ivS (D.gm ⟨a,b⟩ cs len).m,.i .i64 0],ds,(decide (cs.length = len * 19),true) :: (D.o cs len,true) :: (D.bm ⟨a,b⟩ cs len,true) :: miO ⟨a,b⟩)
 | _ => none
theorem cut_at {cells cs:List SV} {off len:Nat} (h:CellsAt cells off cs) (hl:cs.length = len * 19):cutC cells off len = cs := by
 unfold cutC; rw [← hl]; exact at_take h
theorem miG {D:Ndn} (hO:OracleOk Tryz.prog (OCh D)) (hD:D.o = okPg):RdOk Tryz.prog 19 (kMi D) := by
 intro cs len l ds x ds' ob h ho
 unfold kMi at h
 split at h
 ·rename_i a b
  simp only [Option.some.injEq,Prod.mk.injEq] at h
  obtain ⟨rfl,_,rfl⟩ := h
  have h1:cs.length = len * 19 := of_decide_eq_true (ho _ (List.mem_cons_self ..))
  have h2:D.o cs len = true := ho _ (List.mem_cons_of_mem _ (List.mem_cons_self ..))
  have h3 := ho _ (List.mem_cons_of_mem _ (List.mem_cons_of_mem _ (List.mem_cons_self ..)))
  have h4:ObsOk (miO ⟨a,b⟩) := fun p hp => ho p (List.mem_cons_of_mem _ (List.mem_cons_of_mem _ (List.mem_cons_of_mem _ hp)))
  obtain ⟨vc,hc⟩ := (okPg_ok (hD ▸ h2)).pl
  have hp:∀ i:I,plain (.tup [ivS i,.i .i64 0]) = some (.tuple #[.agg #[.float .f64 i.lo.b,.float .f64 i.hi.b],.int .i64 0]) := fun _ => rfl
  refine ⟨vc,_,_,hc,rfl,hp _,fun w r off cap hw => ?_⟩
  refine rd_of_runT goodG hO 60 (l := [ivS ⟨a,b⟩]) hc rfl (hp _) (fun e cells off cap hca => ?_) w r off cap hw
  have hr := miRun D e cells off len cap ⟨a,b⟩
  rw [cut_at hca h1] at hr
  exact ⟨_,_,_,hr,ob_app (obs_cons h2 (obs_cons h3 obs_nil)) (ob_app h4 (obs_cons h2 obs_nil))⟩
 ·cases h
theorem rgtG2 {D:Ndn} (hD:D.o = okPg):RdOk Tryz.prog 50 (kRgt D.o) := by rw [hD]; exact rgtG
theorem oracleCh {N:Nde} (hO:OracleOk Tryz.prog (OD N)):OracleOk Tryz.prog (OCh (ndD N)) :=
 .cons (rgtG2 rfl).of <| .cons irightG.of <| .cons (RdsOk.of (by rw [← kAl_2]; exact allK hO)) <| .nil _
theorem dnK:PlainOk Tryz.prog 153 (kDn (dnG4 GmR) dnO4) := by
 intro args ds x ds' ob h ho
 unfold kDn at h
 split at h
 ·rename_i y p0 p1 p2 p3 p4 p5 r0 r1 r2 r3 r4 r5
  split at h
  ·rename_i n hn
   simp only [Option.some.injEq,Prod.mk.injEq] at h
   obtain ⟨rfl,_,rfl⟩ := h
   have ha:n.a = 0 := of_decide_eq_true (ho _ (List.mem_cons_self ..))
   have hb:n.b = 0 := of_decide_eq_true (ho _ (List.mem_cons_of_mem _ (List.mem_cons_self ..)))
   have h4:ObsOk (dnO4 ⟨n.k,etaF n.f,0,⟨⟨p0,p1⟩,⟨p2,p3⟩,⟨p4,p5⟩⟩,⟨⟨r0,r1⟩,⟨r2,r3⟩,⟨r4,r5⟩⟩⟩) := fun p hp => ho p (List.mem_cons_of_mem _ (List.mem_cons_of_mem _ hp))
   have hy := ndOf_plain hn
   have hnd:ndV n = nodeV n.k (etaF n.f) := by
    unfold ndV; rw [ha,hb]; rfl
   rw [hnd] at hy
   obtain ⟨vs,v,h5,h6,h7⟩ := denK (dArgs n.k (etaF n.f) ⟨⟨p0,p1⟩,⟨p2,p3⟩,⟨p4,p5⟩⟩ ⟨⟨r0,r1⟩,⟨r2,r3⟩,⟨r4,r5⟩⟩) ds _ ds _ rfl h4
   refine ⟨vs,v,?_,h6,h7⟩
   rw [← h5]
   have e1:plain (nodeS n.k (etaF n.f)) = some (nodeV n.k (etaF n.f)) := (nd_pl _ _).1
   show plains (y :: _) = plains (nodeS n.k (etaF n.f) :: _)
   unfold plains
   rw [hy,e1]
   rfl
  ·cases h
 ·cases h
noncomputable def NdR:Nde := ⟨KkR,fun c n => lnR (fdK KkR c n) 0,fdO,dnG4 GmR,dnO4⟩
theorem oracleOD:OracleOk Tryz.prog (OD NdR) :=
 .cons addC <| .cons subC <| .cons mulC <| .cons divC <| .cons cmax_I <| .cons sqrC <| .cons csqrt_I <|
 .cons negC <|
 .cons numC <| .cons irtK.of <| .cons rightG.of <| .cons absG.of <| .cons vwG.of <| .cons piG.of <| .cons fdG.of <| .cons dnK.of <| .nil _
noncomputable def DR:Ndn := ndD NdR
theorem oracleChR:OracleOk Tryz.prog (OCh DR) := oracleCh oracleOD
theorem miK:RdOk Tryz.prog 19 (kMi DR) := miG oracleChR rfl
section
variable (D:Ndn) (un:F → F → F → V3) (ub:F → F → F → Bool) (e:TypeId) (cells:List SV) (off len cap:Nat) (x y z r s t:F)
end
theorem roundA1 {N:Nde} (hO:OracleOk Tryz.prog (OD N)) {e:TypeId} {cs cells lc:List SV} {v u:V3} {off len cap i:Nat} {cos:I} {x:Nat → SV} (K:OkPg cs len) (hca:CellsAt cells off cs) (hid:idsLts 0 cells = true)
  (hb:nodB N cos (lfR N.g v u) (lfRo N.go v u) (fun j => (chL (allF N cos (lfR N.g v u) cs) i).getD j Ch.zero) (ndR cs (i * 19)) = true) (hi:i < len) (hl:ChRow (chF (allF N cos (lfR N.g v u) cs)) len i lc) :
  RunsP Tryz.prog aBd (aS (preA e cells v u) 3 off len cap cos lfA (.si .i64 (i:Int)) x lc none) .normal (fun t => ∃ y lc',ChRow (chF (allF N cos (lfR N.g v u) cs)) len (i + 1) lc' ∧ t = aS (preA e cells v u) 3 off len cap cos lfA (.si .i64 ((i + 1:Nat):Int)) y lc' none) := by
 have hnx := hl.next hi
 obtain ⟨_,hR⟩ := K.at hca hi
 have hnd := K.nd i hi
 have hH := hd_ok K hca hi
 have hw:IntKind.i64.wrap ((i:Int) + 1) = ((i + 1:Nat):Int) := wrap_s (by have := K.hi; omega)
 have hst:decide (0 + i * 4 + 4 ≤ lc.length) = true := decide_eq_true (by rw [hl.l]; omega)
 have hix:ixB (i:Int) len = true := ix_of (by omega) (by omega)
 have hg:∀ {a:Int},0 ≤ a → a < i → (chL (allF N cos (lfR N.g v u) cs) i).getD a.toNat Ch.zero = chAt lc (0 + a.toNat * 4) := fun h0 h1 => by
  rw [(hl.at h0 h1).1]; exact chL_get _ (by omega)
 have hpre:∀ b ∈ preA e cells v u,idsLts 0 b.cells = true := fun b hb => by
  simp only [preA,List.mem_cons,List.not_mem_nil,or_false] at hb
  rcases hb with rfl | rfl | rfl <;> first | exact hid | rfl
 unfold nodB at hb
 rw [Bool.and_eq_true,decide_eq_true_eq] at hb
 obtain ⟨hb1,hb2⟩ := hb
 generalize hcv:chF (allF N cos (lfR N.g v u) cs) i = cv at hnx
 have hcv':(nodC N cos (lfR N.g v u) (fun j => (chL (allF N cos (lfR N.g v u) cs) i).getD j Ch.zero) (ndR cs (i * 19))).1 = cv := hcv
 by_cases h5:(ndR cs (i * 19)).k = 5
 ·obtain ⟨⟨a0,a1⟩,b0,b1⟩ := okNd_mix hnd h5
  have hC:nodC N cos (lfR N.g v u) (fun j => (chL (allF N cos (lfR N.g v u) cs) i).getD j Ch.zero) (ndR cs (i * 19)) = mixC N.K ((ndR cs (i * 19)).f 15) (chsAt lc (ndR cs (i * 19)).a.toNat) (chsAt lc (ndR cs (i * 19)).b.toNat) := by
   unfold nodC chsAt
   rw [decide_eq_true h5,cond_true]
   simp only [hg a0 a1,hg b0 b1]
  rw [hC] at hb2 hcv'
  have hob:ObsOk (aA N e cells lc v u off len cap cos i x [true,true,false]).ob := by
   rw [aOm,Int.toNat_natCast,hR]
   obtain ⟨_,p1,_⟩ := hl.at a0 a1
   obtain ⟨_,q1,_⟩ := hl.at b0 b1
   exact ob_app (obs_cons hst (obs_cons hix (obs_cons (ne_0 hb2) (obs_cons q1 (obs_cons (ix_of b0 (by omega)) (obs_cons p1 (obs_cons (ix_of a0 (by omega)) (obs_cons (decide_eq_true h5) obs_nil)))))))) hH
  have hM := cut_M (aCm N e cells lc v u off len cap cos i x (fun _ => undef))
  rw [Int.toNat_natCast,hR,Nat.zero_add] at hM
  exact RunsP.re (d := some [true,true,false]) (o := []) ((round_fin (pre := preA e cells v u) (lf := lfA) (k' := 3) (off := off) (len := len) (cap := cap) (cos := cos) (j := ((i + 1:Nat):Int)) (lc' := putRow lc (i * 4) cv.cells) (Lands.runs goodG hO (aLm N e cells lc v u off len cap cos i x) hob) (by show (preA e cells v u ++ aTail cos lc).length ≤ 6; simp [preA,aTail]) (aXm N e cells lc v u off len cap cos i x) (fun vv => by
   have hT := cut_T (aCm N e cells lc v u off len cap cos i x vv)
   rw [hw] at hT
   exact hT) (by rw [← hcv']; exact hM) hpre hnx.d).mono fun t ⟨y,ht⟩ => ⟨y,_,hnx,ht⟩)
 rw [decide_eq_false h5,cond_false] at hb1
 by_cases h6:(ndR cs (i * 19)).k = 6
 ·obtain ⟨a0,a1⟩ := okNd_coat hnd h6
  have hC:nodC N cos (lfR N.g v u) (fun j => (chL (allF N cos (lfR N.g v u) cs) i).getD j Ch.zero) (ndR cs (i * 19)) = coatC N.K (N.D cos ⟨(ndR cs (i * 19)).f 14,(ndR cs (i * 19)).f 14⟩).1 (chsAt lc (ndR cs (i * 19)).a.toNat) := by
   unfold nodC chsAt
   rw [decide_eq_false h5,decide_eq_true h6,cond_false,cond_true]
   simp only [hg a0 a1]
  rw [hC] at hb2 hcv'
  rw [decide_eq_true h6,cond_true,Bool.and_eq_true,decide_eq_true_eq] at hb1
  have hob:ObsOk (aA N e cells lc v u off len cap cos i x [true,false,true,false,false]).ob := by
   rw [aOc,Int.toNat_natCast,hR]
   obtain ⟨_,_,p2,p3⟩ := hl.at a0 a1
   exact ob_app (obs_cons hst (obs_cons hix (obs_cons (ne_0 hb2) (obs_cons p3 (obs_cons (ix_of a0 (by omega)) (obs_cons p2 (obs_cons (ix_of a0 (by omega)) (obs_cons (ne_0 hb1.2) obs_nil)))))))) (ob_app (ob_app (obsB_ok hb1.1) (obs_cons (decide_eq_true h6) (obs_cons (decide_eq_false h5) obs_nil))) hH)
  have hM := cut_M (aCc N e cells lc v u off len cap cos i x (fun _ => undef))
  rw [Int.toNat_natCast,hR,Nat.zero_add] at hM
  exact RunsP.re (d := some [true,false,true,false,false]) (o := []) ((round_fin (pre := preA e cells v u) (lf := lfA) (k' := 3) (off := off) (len := len) (cap := cap) (cos := cos) (j := ((i + 1:Nat):Int)) (lc' := putRow lc (i * 4) cv.cells) (Lands.runs goodG hO (aLc N e cells lc v u off len cap cos i x) hob) (by show (preA e cells v u ++ aTail cos lc).length ≤ 6; simp [preA,aTail]) (aXc N e cells lc v u off len cap cos i x) (fun vv => by
   have hT := cut_T (aCc N e cells lc v u off len cap cos i x vv)
   rw [hw] at hT
   exact hT) (by rw [← hcv']; exact hM) hpre hnx.d).mono fun t ⟨y,ht⟩ => ⟨y,_,hnx,ht⟩)
 ·rw [decide_eq_false h6,cond_false] at hb1
  have hC:nodC N cos (lfR N.g v u) (fun j => (chL (allF N cos (lfR N.g v u) cs) i).getD j Ch.zero) (ndR cs (i * 19)) = (⟨((lfR N.g v u) (ndR cs (i * 19))).1,Ch.zero.m⟩,((lfR N.g v u) (ndR cs (i * 19))).2) := by
   unfold nodC
   rw [decide_eq_false h5,decide_eq_false h6,cond_false,cond_false]
  rw [hC] at hb2 hcv'
  have hob:ObsOk (aA N e cells lc v u off len cap cos i x [true,false,false,false]).ob := by
   rw [aOl,Int.toNat_natCast,hR]
   exact ob_app (obs_cons hst (obs_cons hix (obs_cons (ne_0 hb2) obs_nil))) (ob_app (ob_app (ob_app (obsB_ok hb1) obs_nil) (obs_cons (decide_eq_false h6) (obs_cons (decide_eq_false h5) obs_nil))) hH)
  have hM := cut_M (aCl N e cells lc v u off len cap cos i x (fun _ => undef))
  rw [Int.toNat_natCast,hR,Nat.zero_add] at hM
  exact RunsP.re (d := some [true,false,false,false]) (o := []) ((round_fin (pre := preA e cells v u) (lf := lfA) (k' := 3) (off := off) (len := len) (cap := cap) (cos := cos) (j := ((i + 1:Nat):Int)) (lc' := putRow lc (i * 4) cv.cells) (Lands.runs goodG hO (aLl N e cells lc v u off len cap cos i x) hob) (by show (preA e cells v u ++ aTail cos lc).length ≤ 6; simp [preA,aTail]) (aXl N e cells lc v u off len cap cos i x) (fun vv => by
   have hT := cut_T (aCl N e cells lc v u off len cap cos i x vv)
   rw [hw] at hT
   exact hT) (by rw [← hcv']; exact hM) hpre hnx.d).mono fun t ⟨y,ht⟩ => ⟨y,_,hnx,ht⟩)
section
variable (N:Nde) (e:TypeId) (cells lc:List SV) (v u:V3) (off len cap:Nat) (cos:I) (i:Int) (x:Nat → SV)
def zCs:SV := .agg [.fl (toF 0),.fl (toF 0),.fl (toF 0),.fl (toF 0)]
theorem daL_m:Lands Tryz.prog EG (OD N) 60 aBd (aS (preA e cells v u) 3 off len cap cos lfA (.si .i64 i) x lc (some [true,true,true])) .ret := by unfold Lands; kernel_rfl
theorem daO_m:(aA N e cells lc v u off len cap cos i x [true,true,true]).ob = [((mixC N.K ((ndR cells (off + i.toNat * 19)).f 15) (chsAt lc (ndR cells (off + i.toNat * 19)).a.toNat) (chsAt lc (ndR cells (off + i.toNat * 19)).b.toNat)).2 != 0,true),(ckAll lc (0 + (ndR cells (off + i.toNat * 19)).b.toNat * 4) chCK,true),(ixB (ndR cells (off + i.toNat * 19)).b (i.toNat - 0),true),(ckAll lc (0 + (ndR cells (off + i.toNat * 19)).a.toNat * 4) chCK,true),(ixB (ndR cells (off + i.toNat * 19)).a (i.toNat - 0),true),(decide ((ndR cells (off + i.toNat * 19)).k = 5),true)] ++ aHdO cells off len i := by kernel_rfl
theorem daR_m:resultS Tryz.prog Tryz.f68 (aA N e cells lc v u off len cap cos i x [true,true,true]) = some (.tup [zCs,.si .i64 (mixC N.K ((ndR cells (off + i.toNat * 19)).f 15) (chsAt lc (ndR cells (off + i.toNat * 19)).a.toNat) (chsAt lc (ndR cells (off + i.toNat * 19)).b.toNat)).2]) := by kernel_rfl
theorem daM_m:(aA N e cells lc v u off len cap cos i x [true,true,true]).M = preA e cells v u ++ (aA N e cells lc v u off len cap cos i x [true,true,true]).M.drop 3 := by kernel_rfl
theorem daL_d:Lands Tryz.prog EG (OD N) 60 aBd (aS (preA e cells v u) 3 off len cap cos lfA (.si .i64 i) x lc (some [true,false,true,true,true])) .ret := by unfold Lands; kernel_rfl
theorem daO_d:(aA N e cells lc v u off len cap cos i x [true,false,true,true,true]).ob = ((N.D cos ⟨(ndR cells (off + i.toNat * 19)).f 14,(ndR cells (off + i.toNat * 19)).f 14⟩).2 != 0,true) :: ((N.D cos ⟨(ndR cells (off + i.toNat * 19)).f 14,(ndR cells (off + i.toNat * 19)).f 14⟩).2 != 0,true) :: ((N.dO cos ⟨(ndR cells (off + i.toNat * 19)).f 14,(ndR cells (off + i.toNat * 19)).f 14⟩ ++ [(decide ((ndR cells (off + i.toNat * 19)).k = 6),true),(decide ((ndR cells (off + i.toNat * 19)).k = 5),false)]) ++ aHdO cells off len i) := by kernel_rfl
theorem daR_d:resultS Tryz.prog Tryz.f68 (aA N e cells lc v u off len cap cos i x [true,false,true,true,true]) = some (.tup [zCs,.si .i64 (N.D cos ⟨(ndR cells (off + i.toNat * 19)).f 14,(ndR cells (off + i.toNat * 19)).f 14⟩).2]) := by kernel_rfl
theorem daM_d:(aA N e cells lc v u off len cap cos i x [true,false,true,true,true]).M = preA e cells v u ++ (aA N e cells lc v u off len cap cos i x [true,false,true,true,true]).M.drop 3 := by kernel_rfl
theorem daL_c:Lands Tryz.prog EG (OD N) 60 aBd (aS (preA e cells v u) 3 off len cap cos lfA (.si .i64 i) x lc (some [true,false,true,false,true])) .ret := by unfold Lands; kernel_rfl
theorem daO_c:(aA N e cells lc v u off len cap cos i x [true,false,true,false,true]).ob = [((coatC N.K (N.D cos ⟨(ndR cells (off + i.toNat * 19)).f 14,(ndR cells (off + i.toNat * 19)).f 14⟩).1 (chsAt lc (ndR cells (off + i.toNat * 19)).a.toNat)).2 != 0,true),(ckAll lc (0 + (ndR cells (off + i.toNat * 19)).a.toNat * 4 + 2) [.f,.f],true),(ixB (ndR cells (off + i.toNat * 19)).a (i.toNat - 0),true),(ckAll lc (0 + (ndR cells (off + i.toNat * 19)).a.toNat * 4) [.f,.f],true),(ixB (ndR cells (off + i.toNat * 19)).a (i.toNat - 0),true),((N.D cos ⟨(ndR cells (off + i.toNat * 19)).f 14,(ndR cells (off + i.toNat * 19)).f 14⟩).2 != 0,false)] ++ ((N.dO cos ⟨(ndR cells (off + i.toNat * 19)).f 14,(ndR cells (off + i.toNat * 19)).f 14⟩ ++ [(decide ((ndR cells (off + i.toNat * 19)).k = 6),true),(decide ((ndR cells (off + i.toNat * 19)).k = 5),false)]) ++ aHdO cells off len i) := by kernel_rfl
theorem daR_c:resultS Tryz.prog Tryz.f68 (aA N e cells lc v u off len cap cos i x [true,false,true,false,true]) = some (.tup [zCs,.si .i64 (coatC N.K (N.D cos ⟨(ndR cells (off + i.toNat * 19)).f 14,(ndR cells (off + i.toNat * 19)).f 14⟩).1 (chsAt lc (ndR cells (off + i.toNat * 19)).a.toNat)).2]) := by kernel_rfl
theorem daM_c:(aA N e cells lc v u off len cap cos i x [true,false,true,false,true]).M = preA e cells v u ++ (aA N e cells lc v u off len cap cos i x [true,false,true,false,true]).M.drop 3 := by kernel_rfl
theorem daL_l:Lands Tryz.prog EG (OD N) 60 aBd (aS (preA e cells v u) 3 off len cap cos lfA (.si .i64 i) x lc (some [true,false,false,true])) .ret := by unfold Lands; kernel_rfl
theorem daO_l:(aA N e cells lc v u off len cap cos i x [true,false,false,true]).ob = [((lfR N.g v u (ndR cells (off + i.toNat * 19))).2 != 0,true)] ++ (((lfRo N.go v u (ndR cells (off + i.toNat * 19)) ++ []) ++ [(decide ((ndR cells (off + i.toNat * 19)).k = 6),false),(decide ((ndR cells (off + i.toNat * 19)).k = 5),false)]) ++ aHdO cells off len i) := by kernel_rfl
theorem daR_l:resultS Tryz.prog Tryz.f68 (aA N e cells lc v u off len cap cos i x [true,false,false,true]) = some (.tup [zCs,.si .i64 (lfR N.g v u (ndR cells (off + i.toNat * 19))).2]) := by kernel_rfl
theorem daM_l:(aA N e cells lc v u off len cap cos i x [true,false,false,true]).M = preA e cells v u ++ (aA N e cells lc v u off len cap cos i x [true,false,false,true]).M.drop 3 := by kernel_rfl
end
end Go.Proofs.YtejcekikbnlllaaGreat
