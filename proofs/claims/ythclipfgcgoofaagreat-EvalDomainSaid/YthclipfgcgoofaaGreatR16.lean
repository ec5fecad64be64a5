/- A drawn region whose first operations alone the reckoner can run: the rest goes on by .. -/
import Derived.Test.YthclipfgcgoofaaGreatR04
import Derived.Test.YthclipfgcgoofaaGreatR10
import Derived.Test.YthclipfgcgoofaaGreatR13
import Derived.Test.YthclipfgcgoofaaGreatR14
import Derived.Test.YthclipfgcgoofaaGreatR06
import Derived.Test.YthclipfgcgoofaaGreatR11
set_option linter.all false
namespace Rx
open Go
theorem runDrawK_ok {P:Program} {E:ExtF} {call:CallF} {Q:Exit → Act → World → Prop} (hP:Good P E) (hcall:CallOk P call) {ops:Array Oper} {k:Nat} {A:List Nat} {s s2:St} {crs:List CR} (hk:k ≤ ops.size) (hrec:runRec P E call ops (ops.toList.take k) s = some (s2,crs)) (hA:okAnc A ops.toList 0 = true) (hpairs:okPairs A ops s.T.length crs 0 [] = true)
  (hall:∀ j,k ≤ j → j < ops.size → ∀ i,i < k → (A.getD j 0).testBit i = true) (ho:ObsOk s2.ob) {m:Nms} {a:Act} {w:World} (hs:StAt m s a w) {id:Nat}
  (hq:∀ m' a' w' fuel listed,listed.size = ops.size → (∀ j,j < ops.size → listed.getD j false = decide (j < k)) → ops.size ≤ fuel + k → StAt m' s2 a' w' → Goes m s.M w m' s2.M w' → wpAny P .any ops Q fuel listed a' w'):(Code.region id ops true).wp P Q a w := by
   obtain ⟨p1,_,p3⟩ := okPairs_ok hpairs
   have hos := runRec_os hrec
   have hdst:∀ o ∈ ops.toList.take k,∀ d,o.dst = some d → d < s.T.length := by
    intro o ho d hd
    rw [← hos] at ho
    obtain ⟨c,hc,rfl⟩ := List.mem_map.1 ho
    obtain ⟨i,hi⟩ := List.getElem?_of_mem hc
    exact p1 i c hi d hd
   obtain ⟨hlen,hTl,_,hfin,hcr⟩ := runRec_ok hrec hdst
   have hlen':crs.length = k := by rw [hlen,List.length_take]; simp; omega
   have hex:∀ i,i < k → ∃ c,crs[i]? = some c := fun i hi => ⟨crs[i]'(by omega),by simp [hlen',hi]⟩
   refine wp_region_any hP.mixed ?_
   have getIn:∀ (listed:Array Bool) (j:Nat),listed.getD j false = true → j < listed.size := by
    intro listed j hj
    rcases Nat.lt_or_ge j listed.size with h' | h'
    ·exact h'
    ·simp [Array.getElem?_eq_none h'] at hj
   have done:∀ (fuel:Nat) (listed:Array Bool) (m1:Nms) (a1:Act) (w1:World),listed.size = ops.size → (∀ j,j < k → listed.getD j false = true) → (∀ j,k ≤ j → listed.getD j false = false) → ops.size ≤ fuel + k →
     StoreAt m1 (FD crs (fun i => listed.getD i false) (storeOf s)) s.T.length a1 w1 → GoesL m (liveM s.M) w m1 (liveF (FD crs (fun i => listed.getD i false) (storeOf s))) w1 → wpAny P .any ops Q fuel listed a1 w1 := by
    intro fuel listed m1 a1 w1 hsz hp hlast hf hS hg
    have hF:FD crs (fun i => listed.getD i false) (storeOf s) = storeOf s2 := by
     rw [hfin]
     funext kk
     refine FD_congr (fun i c hc _ => ?_) rfl
     refine hp i ?_
     rcases Nat.lt_or_ge i crs.length with h' | h'
     ·omega
     ·rw [List.getElem?_eq_none h'] at hc; cases hc
    rw [hF,← hTl] at hS
    rw [hF,liveF_eq] at hg
    refine hq m1 a1 w1 fuel listed hsz (fun j _ => ?_) hf hS.to hg
    by_cases hj:j < k
    ·rw [hp j hj,decide_eq_true hj]
    ·rw [hlast j (by omega),decide_eq_false hj]
   have allIn:∀ (listed:Array Bool),listed.size = ops.size → Region.ready .any ops listed = [] → ∀ j,j < ops.size → listed.getD j false = true := by
    intro listed hsz hr j
    induction j using Nat.strongRecOn with
    | _ j ihj =>
      intro hj
      cases hD:listed.getD j false with
      | true => rfl
      | false =>
        exfalso
        have hmem:j ∈ Region.ready .any ops listed := by
         refine mem_ready.2 ⟨?_,ops[j],by simp [hj],fun e he hb => ?_⟩
         ·have:j < listed.size := by omega
          simp [this] at hD ⊢
          exact hD
         ·have h1 := okAnc_ok hA j ops[j] (by simp [hj])
          rw [Nat.zero_add] at h1
          have hlt := h1.2 e he hb
          exact ihj e.on hlt (by omega)
        rw [hr] at hmem; cases hmem
   have main:∀ (fuel:Nat) (listed:Array Bool) (R:List Nat) (m1:Nms) (a1:Act) (w1:World),listed.size = ops.size →
     (∀ (j:Nat) (o:Oper),ops[j]? = some o → listed.getD j false = true → ∀ e ∈ o.after,Region.binds .any e = true → listed.getD e.on false = true) →
     (∀ j,j < k → listed.getD j false = true ∨ j ∈ R) → (∀ j,k ≤ j → listed.getD j false = false) → R.length + (ops.size - k) ≤ fuel →
     StoreAt m1 (FD crs (fun i => listed.getD i false) (storeOf s)) s.T.length a1 w1 → GoesL m (liveM s.M) w m1 (liveF (FD crs (fun i => listed.getD i false) (storeOf s))) w1 → wpAny P .any ops Q fuel listed a1 w1 := by
    intro fuel
    induction fuel with
    | zero =>
      intro listed R m1 a1 w1 hsz hcl hrem hlast hR hS hg
      have hR0:R = [] := by cases R with | nil => rfl | cons x l => simp at hR
      exact done 0 listed m1 a1 w1 hsz (fun j hj => (hrem j hj).resolve_right (by rw [hR0]; simp)) hlast (by omega) hS hg
    | succ fuel ih =>
      intro listed R m1 a1 w1 hsz hcl hrem hlast hR hS hg
      by_cases hp:∀ j,j < k → listed.getD j false = true
      ·exact done (fuel + 1) listed m1 a1 w1 hsz hp hlast (by omega) hS hg
      refine ⟨fun hr => absurd (fun j hj => allIn listed hsz hr j (by omega)) hp,fun i hi => ?_⟩
      obtain ⟨hun,o,hio,hpre⟩ := mem_ready.1 hi
      have hlt:i < ops.size := (Array.getElem?_eq_some_iff.1 hio).1
      have hltl:i < listed.size := by omega
      have hDi:listed.getD i false = false := by simp [hltl] at hun ⊢; exact hun
      have hanc := ancs_in (D := fun i => listed.getD i false) (listed := listed) hA (fun _ => rfl) hsz hcl
      have hik:i < k := by
       rcases Nat.lt_or_ge i k with h' | h'
       ·exact h'
       ·exact absurd (fun j hj => hanc i o hio hpre j (hall i h' hlt j hj)) hp
      obtain ⟨c,hc⟩ := hex i hik
      obtain ⟨g1,g2,g3,s1,g4,g5,g6⟩ := hcr i c hc
      have hco:ops[i]? = some c.o := by
       rw [List.getElem?_take,if_pos hik] at g1
       simpa using g1
      have hoc:o = c.o := by rw [hio] at hco; exact Option.some.inj hco
      subst hoc
      have order:∀ k,(k ∈ usesOf ops c ∨ k ∈ wKeys c) → ∀ (i':Nat) (c':CR),crs[i']? = some c' → k ∈ wKeys c' → i' ≠ i → listed.getD i' false = decide (i' < i) := by
       intro k hk i' c' hc' hk' hne
       have hlt':i' < ops.size := by
        rcases Nat.lt_or_ge i' crs.length with h' | h'
        ·omega
        ·rw [List.getElem?_eq_none h'] at hc'; cases hc'
       rcases Nat.lt_or_gt_of_ne hne with hl | hl
       ·rw [decide_eq_true hl]
        rcases p3 i' i c' c hl hc' hc with h1 | h1
        ·rw [Nat.zero_add,Nat.zero_add] at h1
         exact hanc i _ hio hpre i' h1
        ·exact ((h1 k).1 hk' hk).elim
       ·rw [decide_eq_false (by omega)]
        cases hD':listed.getD i' false with
        | false => rfl
        | true =>
          exfalso
          have hio':ops[i']? = some ops[i'] := by simp [hlt']
          rcases p3 i i' c c' hl hc hc' with h1 | h1
          ·rw [Nat.zero_add,Nat.zero_add] at h1
           have := hanc i' _ hio' (hcl i' _ hio' hD') i h1
           exact absurd (hDi.symm.trans this) (by decide)
          ·rcases hk with hk | hk
           ·exact (h1 k).2 hk hk'
           ·exact (h1 k).1 hk (.inr hk')
      have hag:∀ k,k ∈ usesOf ops c ∨ k ∈ wKeys c → FD crs (fun i => listed.getD i false) (storeOf s) k = storeOf c.s k := by
       intro k hk
       rw [g3]
       refine FD_congr (fun i' c' hc' hk' => ?_) rfl
       by_cases hne:i' = i
       ·subst hne; rw [hDi]; simp
       ·exact order k hk i' c' hc' hk' hne
      have hds:∀ d,c.o.dst = some d → d < s.T.length := fun d hd => p1 i c hc d hd
      obtain ⟨hs1,_⟩ := stepOp_store g4 (by rw [g2]; exact hds)
      have hset:∀ j,(listed.setIfInBounds i true).getD j false = if j = i then true else listed.getD j false := by
       intro j
       by_cases e:j = i
       ·subst e; simp [hltl]
       ·rw [if_neg e,getD_set_ne false (fun h => e h.symm)]
      have hFD:FD crs (fun j => (listed.setIfInBounds i true).getD j false) (storeOf s) = upd (writes c) (FD crs (fun i => listed.getD i false) (storeOf s)) := by
       funext k
       by_cases hk:k ∈ wKeys c
       ·have h1:k ∈ (writes c).map (·.1) := by rw [wKeys_eq]; exact hk
        have h2:upd (writes c) (FD crs (fun i => listed.getD i false) (storeOf s)) k = storeOf s1 k := by
         rw [hs1]; exact upd_same h1
        rw [h2,g5]
        refine FD_congr (fun i' c' hc' hk' => ?_) rfl
        rw [hset]
        by_cases hne:i' = i
        ·subst hne; simp
        ·rw [if_neg hne,order k (.inr hk) i' c' hc' hk' hne]
         by_cases hl:i' < i
         ·simp [hl,Nat.le_of_lt hl]
         ·have:¬ i' ≤ i := by omega
          simp [hl,this]
       ·have h1:k ∉ (writes c).map (·.1) := by rw [wKeys_eq]; exact hk
        rw [upd_other h1]
        refine FD_congr (fun i' c' hc' hk' => ?_) rfl
        rw [hset]
        by_cases hne:i' = i
        ·subst hne
         rw [hc] at hc'
         simp only [Option.some.injEq] at hc'; subst hc'
         exact absurd hk' hk
        ·rw [if_neg hne]
      have ho1:ObsOk s1.ob := g6.ok ho
      refine draw_step hP hcall hco g4 ho1 g2 hds hS hag fun m' a' w' hS' hg' => ?_
      rw [← hFD] at hS' hg'
      refine ih (listed.setIfInBounds i true) (R.erase i) m' a' w' (by simpa using hsz) ?_ ?_ ?_ ?_ hS' (hg.trans hg')
      ·intro j oj hj hDj e he hb
       rw [hset]
       by_cases e1:e.on = i
       ·rw [if_pos e1]
       ·rw [if_neg e1]
        rw [hset] at hDj
        by_cases e2:j = i
        ·subst e2
         rw [hio] at hj
         simp only [Option.some.injEq] at hj; subst hj
         exact hpre e he hb
        ·rw [if_neg e2] at hDj
         exact hcl j oj hj hDj e he hb
      ·intro j hj
       rw [hset]
       by_cases e2:j = i
       ·left; rw [if_pos e2]
       ·rw [if_neg e2]
        rcases hrem j hj with h1 | h1
        ·exact .inl h1
        ·exact .inr ((List.mem_erase_of_ne e2).2 h1)
      ·intro j hj
       rw [hset,if_neg (by omega)]
       exact hlast j hj
      ·have hin:i ∈ R := (hrem i hik).resolve_left (by rw [hDi]; simp)
       have hR' := List.length_pos_of_mem hin
       rw [List.length_erase_of_mem hin]; omega
   have hnone:∀ (crs:List CR) (D:Nat → Bool) (F:Nat → Option Val),(∀ i,D i = false) → FD crs D F = F := by
    intro crs
    induction crs with
    | nil => intro D F _; rfl
    | cons c r ih => intro D F hD; unfold FD; rw [hD 0]; exact ih _ _ fun i => hD (i + 1)
   have hfalse:∀ j,(Array.replicate ops.size false).getD j false = false := by
    intro j
    rcases Nat.lt_or_ge j ops.size with h' | h' <;> simp [h']
   have hs':StAt m s a { w with drawn := w.drawn + 1 } := ⟨hs.tm,hs.df,⟨⟨hs.mem.ok.lt⟩,hs.mem.inj,fun n b hb => let ⟨r,hr,hat⟩ := hs.mem.blk n b hb; ⟨r,hr,hat.ext (Ext.refl m) hr rfl⟩,hs.mem.dom⟩⟩
   refine main ops.size _ (List.range k) m a _ (by simp) ?_ ?_ (fun j _ => hfalse j) (by simp; omega) ?_ ?_
   ·intro j o _ hD
    rw [hfalse] at hD; cases hD
   ·intro j hj; right; simpa using hj
   ·rw [hnone _ _ _ hfalse]
    exact StoreAt.of hs'
   ·rw [hnone _ _ _ hfalse,liveF_eq]
    exact ⟨Ext.refl m,Fr.drew _ w,fun n r h => .inl h,fun _ _ _ h => h⟩
theorem run_bind_ok {α β:Type} {P:Program} {x:Sem α} {f:α → Sem β} {w w':World} {v:α} (h:x.run P w = .ok v w'):(x >>= f).run P w = (f v).run P w' := by
 rw [Sem.run_bind,h]; rfl
theorem max2_any (P:Program) (x y:Nat) (w:World):∃ b n,(Builtin.max2 (.float .f64 x) (.float .f64 y)).run P w = .ok (.float .f64 b) { w with drawn := w.drawn + n } := by
 unfold Builtin.max2
 simp only []
 cases FloatKind.f64.format.order x y with
 | none =>
   by_cases q:(Question.nanMinMax FloatKind.f64 true x y).forced = true
   ·exact ⟨0,0,by simp only [choose,bind,pure,Sem.bind,Sem.run,q,if_true,Nat.add_zero]⟩
   ·exact ⟨_,1,by simp only [choose,bind,pure,Sem.bind,Sem.run,q]; rfl⟩
 | some o => cases o <;> exact ⟨_,0,rfl⟩
theorem max3_any (P:Program) (ts:Array TypeId) (t:TypeId) (x y z:Nat) (w:World):∃ b n,(Builtin.max_ ts t #[.float .f64 x,.float .f64 y,.float .f64 z]).run P w = .ok (.float .f64 b) { w with drawn := w.drawn + n } := by
 obtain ⟨b,n,h⟩ := max2_any P x y w
 obtain ⟨c,k,h'⟩ := max2_any P b z { w with drawn := w.drawn + n }
 refine ⟨c,n + k,?_⟩
 show (([.float .f64 y,.float .f64 z]:List Value).foldlM Builtin.max2 (.float .f64 x)).run P w = _
 simp only [List.foldlM]
 rw [run_bind_ok h,run_bind_ok h']
 simp only [pure,Sem.run,Nat.add_assoc]
end Rx
namespace Go.Proofs.YthclipfgcgoofaaGreat
open Go.RowKit Bu Rx
def kAbsW:List SV → Dec → Option (SV × Dec × Obs)
 | [.f x],ds => some (.f (x % 9223372036854775808),ds,[(Nat.blt x 18446744073709551616,true)])
 | _,_ => none
theorem absWG:PlainOk Tryz.prog 50 kAbsW := by
 intro args ds x ds' ob h ho
 unfold kAbsW at h
 split at h
 ·rename_i x
  simp only [Option.some.injEq,Prod.mk.injEq] at h
  obtain ⟨rfl,_,rfl⟩ := h
  have hx:x < 18446744073709551616 := by have h := ho _ (List.mem_singleton.2 rfl); rw [Nat.blt_eq] at h; exact h
  exact ⟨[.float .f64 x],_,rfl,rfl,fun w => (abs_w x w hx).mono fun e w' ⟨h1,h2⟩ => ⟨h1,h2 ▸ Below.refl _ _⟩⟩
 ·cases h
def OUw:OracleF := lookO [(50,plainO kAbsW),(51,plainO oRight)]
theorem oracleUw:OracleOk Tryz.prog OUw := .cons absWG.of (.cons rightG.of (.nil _))
noncomputable def uwC:Code := bodyOf Tryz.prog 16
theorem uwBody:Tryz.f16.body = some uwC := by kernel_rfl
def opsOf:Code → Array Oper | .region _ o _ => o | _ => #[]
def idOf:Code → Nat | .region i _ _ => i | _ => 0
noncomputable def uwR0:Code := seqL uwC
noncomputable def uwR1:Code := seqL (seqR uwC)
noncomputable def uwTl:Code := seqR (seqR uwC)
noncomputable def uwOps:Array Oper := opsOf uwR1
theorem uwCut:uwC = .seq uwR0 (.seq (.region (idOf uwR1) uwOps true) uwTl) := by kernel_rfl
noncomputable def uwS (x y z:Nat) (d:Dec):St := ⟨[.agg [.f x,.f y,.f z]] ++ List.replicate (Tryz.f16.ntmps - 1) (.tup []),[],d,[]⟩
noncomputable abbrev uw0 (x y z:Nat):St := aft Tryz.prog EG OUw 60 uwR0 (uwS x y z none)
theorem uwL0 (x y z:Nat):Lands Tryz.prog EG OUw 60 uwR0 (uwS x y z none) .normal := by unfold Lands; kernel_rfl
theorem uwO0 (x y z:Nat):(uw0 x y z).ob = [] := by kernel_rfl
noncomputable def uwRec (x y z:Nat):Option (St × List CR) := runRec Tryz.prog EG (run Tryz.prog EG OUw 60).1 uwOps (uwOps.toList.take 9) (uw0 x y z)
noncomputable def uw1 (x y z:Nat):St := match uwRec x y z with | some (s,_) => s | none => uw0 x y z
noncomputable def uwCr (x y z:Nat):List CR := match uwRec x y z with | some (_,c) => c | none => []
theorem uwRec_eq (x y z:Nat):uwRec x y z = some (uw1 x y z,uwCr x y z) := by kernel_rfl
noncomputable def uwA:List Nat := ancs uwOps.toList []
theorem uwA_ok:okAnc uwA uwOps.toList 0 = true := by kernel_rfl
theorem uwPairs (x y z:Nat):okPairs uwA uwOps (uw0 x y z).T.length (uwCr x y z) 0 [] = true := by kernel_rfl
theorem uw1_ob (x y z:Nat):(uw1 x y z).ob = [(Nat.blt z 18446744073709551616,true),(Nat.blt y 18446744073709551616,true),(Nat.blt x 18446744073709551616,true)] := by kernel_rfl
theorem uwSz:uwOps.size = 11 := by kernel_rfl
theorem uwAll:((List.range 11).all fun j => Nat.blt j 9 || (List.range 9).all fun i => (uwA.getD j 0).testBit i) = true := by kernel_rfl
end Go.Proofs.YthclipfgcgoofaaGreat
namespace Rx
open Go
theorem exec_max3 {P:Program} {ρ:Operand → Value} {c:Call} {o:Oper} {x y z:Nat} {w:World} (hop:o.op = .call c) (hc:c.callee = .builtin .max) (p q r:Operand) (ha:c.args = #[p,q,r]) (h1:ρ p = .float .f64 x) (h2:ρ q = .float .f64 y) (h3:ρ r = .float .f64 z) :
  ∃ b n,(execOp ρ o).run P w = .ok (.value (.float .f64 b)) { w with drawn := w.drawn + n } := by
 obtain ⟨b,n,h⟩ := max3_any P c.argTypes o.type x y z w
 refine ⟨b,n,?_⟩
 simp only [execOp,hop,resolve,hc,ha,invoke,builtin,Sem.run_bind,Sem.run_pure,Result.andThen_ok,List.map_toArray,List.map_cons,List.map_nil,h1,h2,h3,h]
theorem mem_drew {m:Nms} {w:World} {M:List Blk} (h:MemAt m w M) (n:Nat):MemAt m { w with drawn := n } M :=
 ⟨⟨h.ok.lt⟩,h.inj,fun k b hb => let ⟨r,hr,hat⟩ := h.blk k b hb; ⟨r,hr,hat.ext (Ext.refl m) hr rfl⟩,h.dom⟩
theorem goes_drew (m:Nms) (M:List Blk) (w:World) (n:Nat):Goes m M w m M { w with drawn := n } :=
 ⟨Ext.refl m,⟨rfl,rfl,rfl,Nat.le_refl _,fun _ _ _ => rfl⟩,fun _ _ h => .inl h,fun _ _ _ h => h⟩
theorem st_put {m:Nms} {s:St} {a:Act} {w:World} (h:StAt m s a w) {x:SV} {v:Value} (hx:den m x = some v) (dst:Option Tmp) (n:Nat):StAt m ⟨putT dst x s.T,s.M,s.ds,s.ob⟩ (a.put dst v) { w with drawn := n } :=
 ⟨putT_ok h.tm hx dst,by cases dst <;> exact h.df,mem_drew h.mem n⟩
theorem den_f (m:Nms) (n:Nat):den m (.f n) = some (.float .f64 n) := rfl
theorem st_ev {m:Nms} {s:St} {a:Act} {w:World} (h:StAt m s a w) {t:Nat} {v:SV} {u:Value} (h1:s.T[t]? = some v) (h2:den m v = some u):a.eval (.tmp t) = u := by
 obtain ⟨u',h3,h4⟩ := dens_get h.tm h1
 rw [h2] at h4
 obtain rfl := Option.some.inj h4
 have h5:a.tmps[t]? = some u := by simpa using h3
 simp [Act.eval,h5]
theorem tail_max {P:Program} {Q:Exit → Act → World → Prop} {ops:Array Oper} {ls:Array Bool} {i j f p q r d e:Nat} {oi oj:Oper} {c:Call} (h1:ops[i]? = some oi) (h2:ops[j]? = some oj) (r1:Region.ready .any ops ls = [i]) (r2:Region.ready .any ops (ls.setIfInBounds i true) = [j]) (r3:Region.ready .any ops ((ls.setIfInBounds i true).setIfInBounds j true) = [])
  (op1:oi.op = .call c) (cal:c.callee = .builtin .max) (ar:c.args = #[.tmp p,.tmp q,.tmp r]) (d1:oi.dst = some d) (g1:oi.guard = none) (op2:oj.op = .assign (.tmp d)) (d2:oj.dst = some e) (g2:oj.guard = none)
  {m:Nms} {s:St} {a:Act} {w:World} {x y z:Nat} (hs:StAt m s a w) (t1:s.T[p]? = some (.f x)) (t2:s.T[q]? = some (.f y)) (t3:s.T[r]? = some (.f z)) (t4:∀ b,(putT (some d) (.f b) s.T)[d]? = some (.f b))
  (fin:∀ b n a',StAt m ⟨putT (some e) (.f b) (putT (some d) (.f b) s.T),s.M,s.ds,s.ob⟩ a' { w with drawn := n } → Q .normal a' { w with drawn := n }):wpAny P .any ops Q (f + 2) ls a w := by
 refine ⟨fun hr => absurd (hr.symm.trans r1) (by simp),fun k hk => ?_⟩
 rw [r1,List.mem_singleton] at hk
 subst hk
 unfold wpOp
 simp only [h1]
 rw [if_pos (by unfold Region.wanted; rw [g1])]
 left
 obtain ⟨b,n,he⟩ := exec_max3 (P := P) (ρ := a.eval) (w := w) op1 cal (.tmp p) (.tmp q) (.tmp r) ar (st_ev hs t1 (den_f _ _)) (st_ev hs t2 (den_f _ _)) (st_ev hs t3 (den_f _ _))
 unfold Oper.wp
 rw [he,Oper.upon_value,d1]
 have s2:StAt m ⟨putT (some d) (.f b) s.T,s.M,s.ds,s.ob⟩ (a.put (some d) (.float .f64 b)) { w with drawn := w.drawn + n } := st_put (x := .f b) (v := .float .f64 b) hs (den_f _ _) (some d) (w.drawn + n)
 refine ⟨fun hr => absurd (hr.symm.trans r2) (by simp),fun k hk => ?_⟩
 rw [r2,List.mem_singleton] at hk
 subst hk
 unfold wpOp
 simp only [h2]
 rw [if_pos (by unfold Region.wanted; rw [g2])]
 left
 have e17:(a.put (some d) (.float .f64 b)).eval (.tmp d) = .float .f64 b := st_ev s2 (t4 b) (den_f _ _)
 unfold Oper.wp
 have he2:(execOp (a.put (some d) (.float .f64 b)).eval oj).run P { w with drawn := w.drawn + n } = .ok (.value (.float .f64 b)) { w with drawn := w.drawn + n } := by
  simp only [execOp,op2,e17,Sem.run_pure]
 rw [he2,Oper.upon_value,d2]
 have s3 := st_put (x := .f b) (v := .float .f64 b) s2 (den_f _ _) (some e) (w.drawn + n)
 have fn := fin b (w.drawn + n) _ s3
 cases f with
 | zero => exact ⟨r3,fn⟩
 | succ f =>
   refine ⟨fun _ => fn,fun k hk => ?_⟩
   rw [r3] at hk; cases hk
end Rx
namespace Go.Proofs.YthclipfgcgoofaaGreat
open Go.RowKit Bu Rx
theorem uw9s:(uwOps[9]?).isSome = true := by kernel_rfl
theorem uw10s:(uwOps[10]?).isSome = true := by kernel_rfl
noncomputable def uw9:Oper := (uwOps[9]?).get uw9s
noncomputable def uw10:Oper := (uwOps[10]?).get uw10s
def callOf:Op → Option Call | .call c => some c | _ => none
theorem uw9c:(callOf uw9.op).isSome = true := by kernel_rfl
noncomputable def uw9k:Call := (callOf uw9.op).get uw9c
theorem uw9op:uw9.op = .call uw9k := by kernel_rfl
theorem uw9ca:uw9k.callee = .builtin .max := by kernel_rfl
theorem uw9ar:uw9k.args = #[.tmp 10,.tmp 13,.tmp 16] := by kernel_rfl
theorem uw9d:uw9.dst = some 17 := by kernel_rfl
theorem uw9g:uw9.guard = none := by kernel_rfl
theorem uw10op:uw10.op = .assign (.tmp 17) := by kernel_rfl
theorem uw10d:uw10.dst = some 4 := by kernel_rfl
theorem uw10g:uw10.guard = none := by kernel_rfl
def uwLs:Array Bool := #[true,true,true,true,true,true,true,true,true,false,false]
theorem uwRdy:Region.ready .any uwOps uwLs = [9] := by kernel_rfl
theorem uwRdy2:Region.ready .any uwOps (uwLs.setIfInBounds 9 true) = [10] := by kernel_rfl
theorem uwRdy3:Region.ready .any uwOps ((uwLs.setIfInBounds 9 true).setIfInBounds 10 true) = [] := by kernel_rfl
theorem uwT10 (x y z:Nat):(uw1 x y z).T[10]? = some (.f (x % 9223372036854775808)) := by kernel_rfl
theorem uwT13 (x y z:Nat):(uw1 x y z).T[13]? = some (.f (y % 9223372036854775808)) := by kernel_rfl
theorem uwT16 (x y z:Nat):(uw1 x y z).T[16]? = some (.f (z % 9223372036854775808)) := by kernel_rfl
theorem uwT17 (x y z b:Nat):(putT (some 17) (.f b) (uw1 x y z).T)[17]? = some (.f b) := by kernel_rfl
def uwBs (s:St) (b:Nat):St := ⟨putT (some 4) (.f b) (putT (some 17) (.f b) s.T),s.M,s.ds,s.ob⟩
noncomputable def uwB (x y z b:Nat):St := uwBs (uw1 x y z) b
theorem uwAll_at {j i:Nat} (hj:9 ≤ j) (hj2:j < uwOps.size) (hi:i < 9):(uwA.getD j 0).testBit i = true := by
 rw [uwSz] at hj2
 have h := List.all_eq_true.1 uwAll j (List.mem_range.2 hj2)
 rw [Bool.or_eq_true] at h
 rcases h with h | h
 ·rw [Nat.blt_eq] at h; omega
 ·exact List.all_eq_true.1 h i (List.mem_range.2 hi)
theorem uwLs_of {l:Array Bool} (hs:l.size = uwOps.size) (h:∀ j,j < uwOps.size → l.getD j false = decide (j < 9)):l = uwLs := by
 rw [uwSz] at hs h
 refine Array.ext hs fun i h1 h2 => ?_
 have e := h i (by omega)
 rw [Array.getD_eq_getD_getElem?,Array.getElem?_eq_getElem h1,Option.getD_some] at e
 rw [e]
 have h3:i < 11 := by omega
 clear e h1
 match i,h3 with
 | 0,_ | 1,_ | 2,_ | 3,_ | 4,_ | 5,_ | 6,_ | 7,_ | 8,_ | 9,_ | 10,_ => rfl
set_option maxRecDepth 100000 in
set_option maxHeartbeats 4000000 in
theorem uwMax {x y z:Nat} (hx:x < 18446744073709551616) (hy:y < 18446744073709551616) (hz:z < 18446744073709551616):RunsP Tryz.prog (.region (idOf uwR1) uwOps true) (uw0 x y z) .normal (fun t => ∃ b,t = uwB x y z b) := by
 intro m a w Q hs hq
 have hob:ObsOk (uw1 x y z).ob := by
  rw [uw1_ob]
  intro p hp
  simp only [List.mem_cons,List.not_mem_nil,or_false] at hp
  rcases hp with rfl | rfl | rfl <;> (rw [Nat.blt_eq]; assumption)
 refine runDrawK_ok goodG (run_ok goodG oracleUw 60).1 (k := 9) (by rw [uwSz]; decide) (uwRec_eq x y z) uwA_ok (uwPairs x y z) (fun j h1 h2 i h3 => uwAll_at h1 h2 h3) hob hs (fun m' a' w' fuel listed hsz hl hf hs' hg' => ?_)
 obtain rfl := uwLs_of hsz hl
 rw [uwSz] at hf
 obtain ⟨f,rfl⟩:∃ f,fuel = f + 2 := ⟨fuel - 2,by omega⟩
 have h9:uwOps[9]? = some uw9 := (Option.some_get uw9s).symm
 have h10:uwOps[10]? = some uw10 := (Option.some_get uw10s).symm
 have t10 := uwT10 x y z; have t13 := uwT13 x y z; have t16 := uwT16 x y z; have t17 := uwT17 x y z
 have hq':∀ b a'' n,StAt m' (uwBs (uw1 x y z) b) a'' { w' with drawn := n } → Goes m (uw0 x y z).M w m' (uwBs (uw1 x y z) b).M { w' with drawn := n } → Q (exOf .normal) a'' { w' with drawn := n } := fun b a'' n h1 h2 => hq _ m' a'' _ ⟨b,rfl⟩ h1 h2
 generalize uw1 x y z = s at hs' hg' t10 t13 t16 t17 hq'
 clear hob hq hs
 generalize (uw0 x y z).M = M0 at *
 exact tail_max h9 h10 uwRdy uwRdy2 uwRdy3 uw9op uw9ca uw9ar uw9d uw9g uw10op uw10d uw10g hs' t10 t13 t16 t17 fun b n a'' s3 => hq' b a'' n s3 (hg'.trans (goes_drew m' _ w' n))
end Go.Proofs.YthclipfgcgoofaaGreat
namespace Rx
open Go Go.RowKit
theorem calls_of_runsP {P:Program} {g:FuncId} {fn:Func} {c:Code} {args:List SV} {Φ:St → Prop} {x:SV} {vs:List Value} {v:Value} (hg:P.funcs[g]? = some fn) (hb:fn.body = some c)
  (h:RunsP P c ⟨args ++ List.replicate (fn.ntmps - args.length) (.tup []),[],none,[]⟩ .ret Φ) (hx:∀ t,Φ t → resultS P fn t = some x) (hvs:plains args = some vs) (hv:plain x = some v) (w:World) :
  Calls P g vs.toArray w fun e w' => e = .returned v ∧ Below w.heap.size w w' :=
 (RunsP.call (x := fun _ => x) hg hb h hx (dens_plains (m := Nms.no) hvs) (MemAt.no w)).mono fun e w' ⟨t,m',u,_,h2,h3,_,h5⟩ => by
  have h6 := den_plain (m := m') hv
  rw [h3] at h6
  obtain rfl := Option.some.inj h6
  exact ⟨h2,h5.none⟩
theorem RunsP.any {P:Program} {c:Code} {s:St} {d:Dec} {ex:Ex} {Φ:St → Prop} (k:RunsP P c ⟨s.T,s.M,d,[]⟩ ex Φ):RunsP P c s ex Φ := k.retell (SameSt.same s.T s.M d s.ds [] s.ob)
end Rx
namespace Go.Proofs.YthclipfgcgoofaaGreat
open Go.RowKit Bu Rx
noncomputable def uwQ (x y z b:Nat) (d:Dec):St := ⟨(uwB x y z b).T,(uwB x y z b).M,d,[]⟩
def uw50:SV := .tup [V3.zero.sv,.i .i64 50]
def uwD0:Dec := some [false]
def uwD1:Dec := some [true,false]
def uwD2:Dec := some [true,true,false]
theorem uwF0 (x y z b:Nat):Lands Tryz.prog EG OUw 60 uwTl (uwQ x y z b uwD0) .ret := by unfold Lands; kernel_rfl
theorem uwF1 (x y z b:Nat):Lands Tryz.prog EG OUw 60 uwTl (uwQ x y z b uwD1) .ret := by unfold Lands; kernel_rfl
theorem uwF2 (x y z b:Nat):Lands Tryz.prog EG OUw 60 uwTl (uwQ x y z b uwD2) .ret := by unfold Lands; kernel_rfl
theorem uwE0 (x y z b:Nat):(aft Tryz.prog EG OUw 60 uwTl (uwQ x y z b uwD0)).ob = [(Nat.blt x 18446744073709551616,true),(rightB x,false)] := by kernel_rfl
theorem uwE1 (x y z b:Nat):(aft Tryz.prog EG OUw 60 uwTl (uwQ x y z b uwD1)).ob = [(Nat.blt y 18446744073709551616,true),(rightB y,false),(rightB x,true)] := by kernel_rfl
theorem uwE2 (x y z b:Nat):(aft Tryz.prog EG OUw 60 uwTl (uwQ x y z b uwD2)).ob = [(Nat.blt z 18446744073709551616,true),(rightB z,false),(rightB y,true),(rightB x,true)] := by kernel_rfl
theorem uwV0 (x y z b:Nat):resultS Tryz.prog Tryz.f16 (aft Tryz.prog EG OUw 60 uwTl (uwQ x y z b uwD0)) = some uw50 := by kernel_rfl
theorem uwV1 (x y z b:Nat):resultS Tryz.prog Tryz.f16 (aft Tryz.prog EG OUw 60 uwTl (uwQ x y z b uwD1)) = some uw50 := by kernel_rfl
theorem uwV2 (x y z b:Nat):resultS Tryz.prog Tryz.f16 (aft Tryz.prog EG OUw 60 uwTl (uwQ x y z b uwD2)) = some uw50 := by kernel_rfl
def rt3W (x y z:Nat):Bool := rightB x && rightB y && rightB z
set_option maxRecDepth 100000 in
theorem uwTail {x y z:Nat} (hx:x < 18446744073709551616) (hy:y < 18446744073709551616) (hz:z < 18446744073709551616) (h:rt3W x y z = false) (b:Nat):RunsP Tryz.prog uwTl (uwB x y z b) .ret (fun t => resultS Tryz.prog Tryz.f16 t = some uw50) := by
 have bl:∀ {n:Nat},n < 18446744073709551616 → Nat.blt n 18446744073709551616 = true := fun h => by rw [Nat.blt_eq]; exact h
 have q:∀ d,RunsP Tryz.prog uwTl (uwQ x y z b d) .ret (fun t => resultS Tryz.prog Tryz.f16 t = some uw50) → RunsP Tryz.prog uwTl (uwB x y z b) .ret (fun t => resultS Tryz.prog Tryz.f16 t = some uw50) := fun d k => RunsP.any (d := d) k
 unfold rt3W at h
 cases h1:rightB x
 ·exact q uwD0 ((Lands.runs goodG oracleUw (uwF0 x y z b) (by rw [uwE0]; exact ObsOk.of_B (obsB_yes (bl hx) (obsB_yes h1 obsB_nil)))).mono fun t ht => by rw [ht]; exact uwV0 x y z b)
 cases h2:rightB y
 ·exact q uwD1 ((Lands.runs goodG oracleUw (uwF1 x y z b) (by rw [uwE1]; exact ObsOk.of_B (obsB_yes (bl hy) (obsB_yes h2 (obsB_yes h1 obsB_nil))))).mono fun t ht => by rw [ht]; exact uwV1 x y z b)
 cases h3:rightB z
 ·exact q uwD2 ((Lands.runs goodG oracleUw (uwF2 x y z b) (by rw [uwE2]; exact ObsOk.of_B (obsB_yes (bl hz) (obsB_yes h3 (obsB_yes h2 (obsB_yes h1 obsB_nil)))))).mono fun t ht => by rw [ht]; exact uwV2 x y z b)
 rw [h1,h2,h3] at h
 cases h
def kUw:List SV → Dec → Option (SV × Dec × Obs)
 | [.agg [.f x,.f y,.f z]],ds => some (uw50,ds,[(Nat.blt x 18446744073709551616,true),(Nat.blt y 18446744073709551616,true),(Nat.blt z 18446744073709551616,true),(rt3W x y z,false)])
 | _,_ => none
set_option maxRecDepth 100000 in
theorem unWG:PlainOk Tryz.prog 16 kUw := by
 intro args ds r ds' ob h ho
 unfold kUw at h
 split at h
 ·rename_i x y z
  simp only [Option.some.injEq,Prod.mk.injEq] at h
  obtain ⟨rfl,_,rfl⟩ := h
  have bl:∀ {n:Nat},Nat.blt n 18446744073709551616 = true → n < 18446744073709551616 := fun h => by rw [Nat.blt_eq] at h; exact h
  have hx := bl (ho _ (List.mem_cons_self ..))
  have hy := bl (ho _ (List.mem_cons_of_mem _ (List.mem_cons_self ..)))
  have hz := bl (ho _ (List.mem_cons_of_mem _ (List.mem_cons_of_mem _ (List.mem_cons_self ..))))
  have hr:rt3W x y z = false := ho _ (List.mem_cons_of_mem _ (List.mem_cons_of_mem _ (List.mem_cons_of_mem _ (List.mem_cons_self ..))))
  refine ⟨[.agg #[.float .f64 x,.float .f64 y,.float .f64 z]],.tuple #[.agg #[.float .f64 F.zero.b,.float .f64 F.zero.b,.float .f64 F.zero.b,.float .f64 F.zero.b,.float .f64 F.zero.b,.float .f64 F.zero.b],.int .i64 50],rfl,rfl,fun w => ?_⟩
  refine calls_of_runsP (x := uw50) (args := [.agg [.f x,.f y,.f z]]) Tryz.func16 uwBody (Φ := fun t => resultS Tryz.prog Tryz.f16 t = some uw50) ?_ (fun t h => h) rfl rfl w
  rw [uwCut]
  show RunsP Tryz.prog _ (uwS x y z none) .ret _
  refine Lands.seq goodG oracleUw (uwL0 x y z) (show ObsOk (uw0 x y z).ob by rw [uwO0]; exact ObsOk.of_B obsB_nil) ?_
  exact RunsP.seq (uwMax hx hy hz) fun t ⟨b,ht⟩ => by rw [ht]; exact uwTail hx hy hz hr b
 ·cases h
theorem ob_hdd {c b:Bool} {o:Obs} (h:ObsOk ((c,b) :: o)):c = b ∧ ObsOk o := ⟨h _ (List.mem_cons_self ..),fun p hp => h p (List.mem_cons_of_mem _ hp)⟩
def blw (a:Nat):Bool × Bool := (Nat.blt a 18446744073709551616,true)
theorem blw_ok {a:Nat} (h:a < 18446744073709551616):(blw a).1 = (blw a).2 := by
 show Nat.blt a 18446744073709551616 = true
 rw [Nat.blt_eq]; exact h
def leW (a:Nat) (x:F):Bool := Ieee.double.order a x.b == some .lt || Ieee.double.order a x.b == some .eq
theorem leW_F (p c:F):leW p.b c = decide (p.k ≤ c.k) := by
 have e2 := Bu.order_lt p c
 have e3 := Bu.order_eq p c
 unfold leW
 rw [e2,e3,Bool.eq_iff_iff]; simp; omega
def kUnT (f:Nat → Nat → Nat → V3) (e:Nat → Nat → Nat → Int):List SV → Dec → Option (SV × Dec × Obs)
 | [.agg [.f x,.f y,.f z]],ds => some (.tup [(f x y z).sv,.si .i64 (e x y z)],ds,[blw x,blw y,blw z])
 | _,_ => none
def un3W (x y z:Nat):Bool := rt3W x y z && unB (toF x) (toF y) (toF z)
noncomputable def uwV (x y z:Nat):V3 := bif un3W x y z then unV KkR (toF x) (toF y) (toF z) else V3.zero
def uwE (x y z:Nat):Int := bif un3W x y z then 0 else 50
theorem rt3_of {x y z:Nat} (h:rt3W x y z = true):∃ a b c:F,x = a.b ∧ y = b.b ∧ z = c.b := by
 unfold rt3W at h
 rw [Bool.and_eq_true,Bool.and_eq_true] at h
 obtain ⟨a,ha⟩ := F_of_right h.1.1
 obtain ⟨b,hb⟩ := F_of_right h.1.2
 obtain ⟨c,hc⟩ := F_of_right h.2
 exact ⟨a,b,c,ha.symm,hb.symm,hc.symm⟩
def v3V (v:V3):Value := .agg #[.float .f64 v.x.lo.b,.float .f64 v.x.hi.b,.float .f64 v.y.lo.b,.float .f64 v.y.hi.b,.float .f64 v.z.lo.b,.float .f64 v.z.hi.b]
theorem unTG:PlainOk Tryz.prog 16 (kUnT uwV uwE) := by
 intro args ds r ds' ob h ho
 unfold kUnT at h
 split at h
 ·rename_i x y z
  simp only [Option.some.injEq,Prod.mk.injEq] at h
  obtain ⟨rfl,_,rfl⟩ := h
  have hx:blw x ∈ [blw x,blw y,blw z] := List.mem_cons_self ..
  have hy:blw y ∈ [blw x,blw y,blw z] := List.mem_cons_of_mem _ (List.mem_cons_self ..)
  have hz:blw z ∈ [blw x,blw y,blw z] := List.mem_cons_of_mem _ (List.mem_cons_of_mem _ (List.mem_cons_self ..))
  refine ⟨[.agg #[.float .f64 x,.float .f64 y,.float .f64 z]],.tuple #[v3V (uwV x y z),.int .i64 (uwE x y z)],rfl,rfl,?_⟩
  cases g:rt3W x y z
  ·have e:un3W x y z = false := by unfold un3W; rw [g]; rfl
   have e1:uwV x y z = V3.zero := by unfold uwV; rw [e,cond_false]
   have e2:uwE x y z = 50 := by unfold uwE; rw [e,cond_false]
   rw [e1,e2]
   obtain ⟨vs,v,h1,h2,h3⟩ := unWG [.agg [.f x,.f y,.f z]] none _ _ _ rfl (ob_c (ho _ hx) (ob_c (ho _ hy) (ob_c (ho _ hz) (ob_c g ob_n))))
   obtain rfl:vs = [.agg #[.float .f64 x,.float .f64 y,.float .f64 z]] := (Option.some.inj h1).symm
   obtain rfl:v = .tuple #[v3V V3.zero,.int .i64 50] := (Option.some.inj h2).symm
   exact h3
  ·obtain ⟨a,b,c,rfl,rfl,rfl⟩ := rt3_of g
   obtain ⟨vs,v,h1,h2,h3⟩ := unG [.agg [.fl a,.fl b,.fl c]] none _ _ _ rfl ob_n
   obtain rfl:vs = [.agg #[.float .f64 a.b,.float .f64 b.b,.float .f64 c.b]] := (Option.some.inj h1).symm
   have e1:uwV a.b b.b c.b = bif unB a b c then unV KkR a b c else V3.zero := by unfold uwV un3W; rw [g,Bool.true_and,toF_F,toF_F,toF_F]
   have e2:uwE a.b b.b c.b = bif unB a b c then 0 else 50 := by unfold uwE un3W; rw [g,Bool.true_and,toF_F,toF_F,toF_F]
   rw [e1,e2]
   cases q:unB a b c
   ·rw [q] at h2
    obtain rfl:v = .tuple #[v3V V3.zero,.int .i64 50] := (Option.some.inj h2).symm
    exact h3
   ·rw [q] at h2
    obtain rfl:v = .tuple #[v3V (unV KkR a b c),.int .i64 0] := (Option.some.inj h2).symm
    exact h3
 ·cases h
def kUnF (f:F → F → F → V3) (p:F → F → F → Bool):List SV → Dec → Option (SV × Dec × Obs)
 | [.agg [.fl x,.fl y,.fl z]],ds => some (.tup [V3.sv (bif p x y z then f x y z else V3.zero),.si .i64 (bif p x y z then 0 else 50)],ds,[])
 | _,_ => none
theorem unFG:PlainOk Tryz.prog 16 (kUnF (unV KkR) unB) := by
 intro args ds r ds' ob h ho
 unfold kUnF at h
 split at h
 ·rename_i a b c
  simp only [Option.some.injEq,Prod.mk.injEq] at h
  obtain ⟨rfl,_,rfl⟩ := h
  obtain ⟨vs,v,h1,h2,h3⟩ := unG [.agg [.fl a,.fl b,.fl c]] none _ _ _ rfl ob_n
  refine ⟨vs,v,h1,?_,h3⟩
  rw [← h2]
  cases unB a b c <;> rfl
 ·cases h
def etR (E:Nev) (v1:V3) (e1:Int) (z1:Bool) (v2:V3) (e2:Int) (z2:Bool) (cs:List SV) (len:Nat):(Nat → Ch) × Int :=
 bif (e1 != 0) || (e2 != 0) then (fun _ => zCh,50) else bif z1 || z2 then (fun _ => zCh,0) else (E.g v1 v2 cs len,E.e v1 v2 cs len)
def etP (E:Nev) (v1:V3) (e1:Int) (z1:Bool) (v2:V3) (e2:Int) (z2:Bool) (cs:List SV) (len:Nat):Obs :=
 bif (e1 != 0) || ((e2 != 0) || (z1 || z2)) then [] else (E.b v1 v2 cs len,true) :: (vcO v2 ++ vcO v1)
def etOb (E:Nev) (pre:Obs) (v1:V3) (e1:Int) (z1:Bool) (v2:V3) (e2:Int) (z2:Bool) (cs:List SV) (len:Nat):Obs :=
 (decide (cs.length = len * 19),true) :: (E.o cs len,true) :: (pre ++ etP E v1 e1 z1 v2 e2 z2 cs len)
section
variable {E:Nev} {O:OracleF} (hO:OracleOk Tryz.prog O) (hD:E.o = okPg) {l:List SV} {vs:List Value} (hl:plains l = some vs) {pre:Obs} {v1 v2:V3} {e1 e2:Int} {z1 z2:Bool}
 (r1:∀ (el:TypeId) (cells:List SV) (off len cap:Nat),((run Tryz.prog EG O 60).1 20 (.ssl 0 off len cap :: l) [⟨el,cells,.num⟩] (some [true])).map (fun q => (q.1,q.2.1.take 1,q.2.2)) = some (.tup [zLt,.i .i64 50],[⟨el,cells,.num⟩],some [],(e1 != 0,true) :: (pre ++ [(E.o (cutC cells off len) len,true)])))
 (r2:∀ (el:TypeId) (cells:List SV) (off len cap:Nat),((run Tryz.prog EG O 60).1 20 (.ssl 0 off len cap :: l) [⟨el,cells,.num⟩] (some [false,true])).map (fun q => (q.1,q.2.1.take 1,q.2.2)) = some (.tup [zLt,.i .i64 50],[⟨el,cells,.num⟩],some [],(e2 != 0,true) :: (e1 != 0,false) :: (pre ++ [(E.o (cutC cells off len) len,true)])))
 (r3:∀ (el:TypeId) (cells:List SV) (off len cap:Nat),((run Tryz.prog EG O 60).1 20 (.ssl 0 off len cap :: l) [⟨el,cells,.num⟩] (some [false,false,true])).map (fun q => (q.1,q.2.1.take 1,q.2.2)) = some (.tup [zLt,.i .i64 0],[⟨el,cells,.num⟩],some [],(z1,true) :: (e2 != 0,false) :: (e1 != 0,false) :: (pre ++ [(E.o (cutC cells off len) len,true)])))
 (r4:∀ (el:TypeId) (cells:List SV) (off len cap:Nat),((run Tryz.prog EG O 60).1 20 (.ssl 0 off len cap :: l) [⟨el,cells,.num⟩] (some [false,false,false,true])).map (fun q => (q.1,q.2.1.take 1,q.2.2)) = some (.tup [zLt,.i .i64 0],[⟨el,cells,.num⟩],some [],(z2,true) :: (z1,false) :: (e2 != 0,false) :: (e1 != 0,false) :: (pre ++ [(E.o (cutC cells off len) len,true)])))
 (r5:∀ (el:TypeId) (cells:List SV) (off len cap:Nat),((run Tryz.prog EG O 60).1 20 (.ssl 0 off len cap :: l) [⟨el,cells,.num⟩] (some [false,false,false,false])).map (fun q => (q.1,q.2.1.take 1,q.2.2)) = some (.tup [.agg (ltC (E.g v1 v2 (cutC cells off len) len)),.si .i64 (E.e v1 v2 (cutC cells off len) len)],[⟨el,cells,.num⟩],some [],((decide ((cutC cells off len).length = len * 19),true) :: (E.o (cutC cells off len) len,true) :: (E.b v1 v2 (cutC cells off len) len,true) :: (vcO v2 ++ vcO v1)) ++ ((z2,false) :: (z1,false) :: (e2 != 0,false) :: (e1 != 0,false) :: (pre ++ [(E.o (cutC cells off len) len,true)]))))
include hO hD hl r1 r2 r3 r4 r5
theorem et_gen {cs:List SV} {len:Nat} (ho:ObsOk (etOb E pre v1 e1 z1 v2 e2 z2 cs len)):∃ vc vs v,plains cs = some vc ∧ plains l = some vs ∧ plain (.tup [.agg (ltC (etR E v1 e1 z1 v2 e2 z2 cs len).1),.si .i64 (etR E v1 e1 z1 v2 e2 z2 cs len).2]) = some v ∧
  ∀ (w:World) (r off cap:Nat),RowAt w r off vc → Calls Tryz.prog 20 (Value.slice (some ⟨r,off,none⟩) len cap :: vs).toArray w fun e w' => e = .returned v ∧ Below w.heap.size w w' := by
 unfold etOb at ho
 obtain ⟨h1,ho⟩ := ob_hdd ho
 obtain ⟨h2,ho⟩ := ob_hdd ho
 have hp := ho.left
 have hq := ho.right
 have hcl:cs.length = len * 19 := of_decide_eq_true h1
 obtain ⟨vc,hc⟩ := (okPg_ok (hD ▸ h2)).pl
 refine ⟨vc,vs,_,hc,hl,ltE_plain _ _,?_⟩
 have o0:ObsOk (pre ++ [(E.o cs len,true)]) := ob_a hp (ob_c h2 ob_n)
 have fin:∀ {d:List Bool} {res:SV} (hx:plain res = some (.tuple #[ltV (etR E v1 e1 z1 v2 e2 z2 cs len).1,.int .i64 (etR E v1 e1 z1 v2 e2 z2 cs len).2])) (hr:∀ (el:TypeId) (cells:List SV) (off cap:Nat),CellsAt cells off cs → ∃ ob,((run Tryz.prog EG O 60).1 20 (.ssl 0 off len cap :: l) [⟨el,cells,.num⟩] (some d)).map (fun q => (q.1,q.2.1.take 1,q.2.2)) = some (res,[⟨el,cells,.num⟩],some [],ob) ∧ ObsOk ob),
   ∀ (w:World) (r off cap:Nat),RowAt w r off vc → Calls Tryz.prog 20 (Value.slice (some ⟨r,off,none⟩) len cap :: vs).toArray w fun e w' => e = .returned (.tuple #[ltV (etR E v1 e1 z1 v2 e2 z2 cs len).1,.int .i64 (etR E v1 e1 z1 v2 e2 z2 cs len).2]) ∧ Below w.heap.size w w' := by
  intro d res hx hr w r off cap hw
  refine rd_of_runT goodG hO 60 hc hl hx (fun e cells off cap hca => ?_) w r off cap hw
  obtain ⟨ob,h3,h4⟩ := hr e cells off cap hca
  exact ⟨_,_,ob,h3,h4⟩
 unfold etP at hq
 generalize hR:etR E v1 e1 z1 v2 e2 z2 cs len = R at fin ⊢
 unfold etR at hR
 cases g1:(e1 != 0)
 ·cases g2:(e2 != 0)
  ·rw [g1,g2] at hR hq
   rw [Bool.or_false,cond_false] at hR
   rw [Bool.false_or,Bool.false_or] at hq
   cases g3:z1
   ·cases g4:z2
    ·subst g3 g4
     rw [Bool.or_false,cond_false] at hR hq
     subst hR
     refine fin (ltE_plain _ _) fun el cells off cap hca => ⟨_,by have hr := r5 el cells off len cap; rw [cut_at hca hcl] at hr; exact hr,?_⟩
     exact ob_a (ob_c h1 (ob_c h2 hq)) (ob_c rfl (ob_c rfl (ob_c g2 (ob_c g1 o0))))
    ·rw [g3,g4,Bool.or_true,cond_true] at hR
     subst hR
     exact fin (res := .tup [zLt,.i .i64 0]) rfl fun el cells off cap hca => ⟨_,by have hr := r4 el cells off len cap; rw [cut_at hca hcl] at hr; exact hr,ob_c g4 (ob_c g3 (ob_c g2 (ob_c g1 o0)))⟩
   ·rw [g3,Bool.true_or,cond_true] at hR
    subst hR
    exact fin (res := .tup [zLt,.i .i64 0]) rfl fun el cells off cap hca => ⟨_,by have hr := r3 el cells off len cap; rw [cut_at hca hcl] at hr; exact hr,ob_c g3 (ob_c g2 (ob_c g1 o0))⟩
  ·rw [g1,g2,Bool.or_true,cond_true] at hR
   subst hR
   exact fin (res := .tup [zLt,.i .i64 50]) rfl fun el cells off cap hca => ⟨_,by have hr := r2 el cells off len cap; rw [cut_at hca hcl] at hr; exact hr,ob_c g2 (ob_c g1 o0)⟩
 ·rw [g1,Bool.true_or,cond_true] at hR
  subst hR
  exact fin (res := .tup [zLt,.i .i64 50]) rfl fun el cells off cap hca => ⟨_,by have hr := r1 el cells off len cap; rw [cut_at hca hcl] at hr; exact hr,ob_c g1 o0⟩
end
structure Nwu where
 v:Nat → Nat → Nat → V3
 e:Nat → Nat → Nat → Int
def OEw (E:Nev) (U:Nwu) (un:F → F → F → V3) (ub:F → F → F → Bool):OracleF := lookO [(39,kRd 19 (kRgt E.o)),(16,eiO (plainO (kUnT U.v U.e)) (plainO (kUnF un ub))),(27,kRd 19 (kEv_ E))]
def ewR (E:Nev) (U:Nwu) (x y z r s t:Nat) (cs:List SV) (len:Nat):(Nat → Ch) × Int := etR E (U.v x y z) (U.e x y z) (leW z (toF 0)) (U.v r s t) (U.e r s t) (leW t (toF 0)) cs len
def ewO (E:Nev) (U:Nwu) (x y z r s t:Nat) (cs:List SV) (len:Nat):Obs := etOb E [blw r,blw s,blw t,blw x,blw y,blw z] (U.v x y z) (U.e x y z) (leW z (toF 0)) (U.v r s t) (U.e r s t) (leW t (toF 0)) cs len
def kEtW (E:Nev) (U:Nwu):RdF := fun cs len l ds => match l with
 | [.agg [.f x,.f y,.f z],.agg [.f r,.f s,.f t]] => some (.tup [.agg (ltC (ewR E U x y z r s t cs len).1),.si .i64 (ewR E U x y z r s t cs len).2],ds,ewO E U x y z r s t cs len)
 | _ => none
theorem etWG {E:Nev} {U:Nwu} {un:F → F → F → V3} {ub:F → F → F → Bool} (hO:OracleOk Tryz.prog (OEw E U un ub)) (hD:E.o = okPg):RdOk Tryz.prog 20 (kEtW E U) := by
 intro cs len l ds x ds' ob h ho
 unfold kEtW at h
 split at h
 ·rename_i x y z r s t
  simp only [Option.some.injEq,Prod.mk.injEq] at h
  obtain ⟨rfl,_,rfl⟩ := h
  exact et_gen (pre := [blw r,blw s,blw t,blw x,blw y,blw z]) (v1 := U.v x y z) (e1 := U.e x y z) (z1 := leW z (toF 0)) (v2 := U.v r s t) (e2 := U.e r s t) (z2 := leW t (toF 0)) hO hD (vs := [.agg #[.float .f64 x,.float .f64 y,.float .f64 z],.agg #[.float .f64 r,.float .f64 s,.float .f64 t]]) rfl
   (fun el cells off len cap => by kernel_rfl) (fun el cells off len cap => by kernel_rfl) (fun el cells off len cap => by kernel_rfl) (fun el cells off len cap => by kernel_rfl) (fun el cells off len cap => by kernel_rfl) ho
 ·cases h
def efV (un:F → F → F → V3) (ub:F → F → F → Bool) (x y z:F):V3 := bif ub x y z then un x y z else V3.zero
def efE (ub:F → F → F → Bool) (x y z:F):Int := bif ub x y z then 0 else 50
def efR (E:Nev) (un:F → F → F → V3) (ub:F → F → F → Bool) (x y z r s t:F) (cs:List SV) (len:Nat):(Nat → Ch) × Int := etR E (efV un ub x y z) (efE ub x y z) (decide (z.k ≤ (toF 0).k)) (efV un ub r s t) (efE ub r s t) (decide (t.k ≤ (toF 0).k)) cs len
def efO (E:Nev) (un:F → F → F → V3) (ub:F → F → F → Bool) (x y z r s t:F) (cs:List SV) (len:Nat):Obs := etOb E [] (efV un ub x y z) (efE ub x y z) (decide (z.k ≤ (toF 0).k)) (efV un ub r s t) (efE ub r s t) (decide (t.k ≤ (toF 0).k)) cs len
def kEtF (E:Nev) (un:F → F → F → V3) (ub:F → F → F → Bool):RdF := fun cs len l ds => match l with
 | [.agg [.fl x,.fl y,.fl z],.agg [.fl r,.fl s,.fl t]] => some (.tup [.agg (ltC (efR E un ub x y z r s t cs len).1),.si .i64 (efR E un ub x y z r s t cs len).2],ds,efO E un ub x y z r s t cs len)
 | _ => none
theorem etFG {E:Nev} {U:Nwu} {un:F → F → F → V3} {ub:F → F → F → Bool} (hO:OracleOk Tryz.prog (OEw E U un ub)) (hD:E.o = okPg):RdOk Tryz.prog 20 (kEtF E un ub) := by
 intro cs len l ds x ds' ob h ho
 unfold kEtF at h
 split at h
 ·rename_i x y z r s t
  simp only [Option.some.injEq,Prod.mk.injEq] at h
  obtain ⟨rfl,_,rfl⟩ := h
  exact et_gen (pre := []) (v1 := efV un ub x y z) (e1 := efE ub x y z) (z1 := decide (z.k ≤ (toF 0).k)) (v2 := efV un ub r s t) (e2 := efE ub r s t) (z2 := decide (t.k ≤ (toF 0).k)) hO hD (vs := [.agg #[.float .f64 x.b,.float .f64 y.b,.float .f64 z.b],.agg #[.float .f64 r.b,.float .f64 s.b,.float .f64 t.b]]) rfl
   (fun el cells off len cap => by kernel_rfl) (fun el cells off len cap => by kernel_rfl) (fun el cells off len cap => by kernel_rfl) (fun el cells off len cap => by kernel_rfl) (fun el cells off len cap => by kernel_rfl) ho
 ·cases h
theorem rgtGE {E:Nev} (hD:E.o = okPg):RdOk Tryz.prog 39 (kRgt E.o) := by rw [hD]; exact rgtG
theorem oracleEw:OracleOk Tryz.prog (OEw EvR ⟨uwV,uwE⟩ (unV KkR) unB) := .cons (rgtGE rfl).of (.cons (eiO_ok unTG.of unFG.of) (.cons evK_.of (.nil _)))
def etO_ (E:Nev) (U:Nwu) (un:F → F → F → V3) (ub:F → F → F → Bool):OF := eiO (kRd 19 (kEtW E U)) (kRd 19 (kEtF E un ub))
theorem etOG_:OfOk Tryz.prog 20 (etO_ EvR ⟨uwV,uwE⟩ (unV KkR) unB) := eiO_ok (etWG oracleEw rfl).of (etFG oracleEw rfl).of
end Go.Proofs.YthclipfgcgoofaaGreat
namespace Bu
open Rx Go
theorem CellsAt.left {a b cs:List SV} {off:Nat} (h:CellsAt a off cs):CellsAt (a ++ b) off cs := fun j x hx => by
 have := h j x hx
 rw [List.getElem?_append_left (List.getElem?_eq_some_iff.1 this).1]; exact this
theorem CellsAt.right (a b:List SV):CellsAt (a ++ b) a.length b := fun j x hx => by
 rw [List.getElem?_append_right (by omega),show a.length + j - a.length = j by omega]; exact hx
theorem nd_of {cells cs:List SV} {off:Nat} (h:CellsAt cells off cs) (hk:ckAll cs 0 ndCK = true):ckAll cells off ndCK = true ∧ ndR cells off = ndR cs 0 := by
 obtain ⟨a,b⟩ := at_row h hk
 rw [Nat.add_zero] at a b
 refine ⟨b,?_⟩
 have e := nd_row cells off
 rw [a,nd_row cs 0] at e
 exact (Option.some.inj e).symm
end Bu
namespace Go.Proofs.YthclipfgcgoofaaGreat
open Go.RowKit Bu Rx
def rowP (N:Npr) (U:Nat → U8):Nat → List SV
 | 0 => nzC (N.k (U 0)) (N.f (U 0))
 | j + 1 => rowN N (U (j + 1)) (j + 1)
theorem prgC_row (N:Npr) (U:Nat → U8):∀ {k j:Nat},j ≤ k → CellsAt (prgC N U k) (j * 19) (rowP N U j)
 | 0,j,h => by
   obtain rfl:j = 0 := by omega
   intro i x hx
   rw [Nat.zero_mul,Nat.zero_add]; exact hx
 | k + 1,j,h => by
   rcases Nat.lt_or_ge j (k + 1) with h1 | h1
   ·exact CellsAt.left (prgC_row N U (k := k) (j := j) (by omega))
   ·obtain rfl:j = k + 1 := by omega
    have := CellsAt.right (prgC N U k) (rowN N (U (k + 1)) (k + 1))
    rw [prgC_len] at this
    exact this
theorem rowP_ck (N:Npr) (U:Nat → U8):∀ j,ckAll (rowP N U j) 0 ndCK = true
 | 0 => rfl
 | j + 1 => by
   show ckAll (rowN N (U (j + 1)) (j + 1)) 0 ndCK = true
   unfold rowN
   cases decide (prT (U (j + 1)) = 0)
   ·cases decide (prT (U (j + 1)) = 1) || decide (prT (U (j + 1)) = 2) <;> rfl
   ·rfl
theorem rowP_pl (N:Npr) (U:Nat → U8):∀ j,∃ vs,plains (rowP N U j) = some vs
 | 0 => ⟨_,rfl⟩
 | j + 1 => by
   show ∃ vs,plains (rowN N (U (j + 1)) (j + 1)) = some vs
   unfold rowN
   cases decide (prT (U (j + 1)) = 0)
   ·cases decide (prT (U (j + 1)) = 1) || decide (prT (U (j + 1)) = 2) <;> exact ⟨_,rfl⟩
   ·exact ⟨_,rfl⟩
theorem prgC_pl (N:Npr) (U:Nat → U8):∀ k,∃ vs,plains (prgC N U k) = some vs
 | 0 => rowP_pl N U 0
 | k + 1 => by
   obtain ⟨a,ha⟩ := prgC_pl N U k
   obtain ⟨b,hb⟩ := rowP_pl N U (k + 1)
   exact ⟨a ++ b,plains_app ha hb⟩
theorem tmod_in {a:Int} {n:Nat} (ha:0 ≤ a) (h1:1 ≤ n) (h8:n ≤ 8):0 ≤ IntKind.i64.wrap (a.tmod (IntKind.u32.wrap (n:Int))) ∧ IntKind.i64.wrap (a.tmod (IntKind.u32.wrap (n:Int))) < n := by
 rw [u32_small h8,Int.tmod_eq_emod_of_nonneg ha,IntKind.wrap_i64]
 have h2 := Int.emod_nonneg a (show (n:Int) ≠ 0 by omega)
 have h3 := Int.emod_lt_of_pos a (show 0 < (n:Int) by omega)
 omega
theorem w32_nn {n:Int} (h:wN32 n = true):0 ≤ n := (of_decide_eq_true h).1
theorem nd_co (n t0 t1 t2:F) (a:Int):ndR (coC n t0 t1 t2 a) 0 = ⟨6,ndM z64 z64 z64 t0 t1 t2 z64 z64 z64 z64 z64 z64 z64 z64 n z64,a,0⟩ := by kernel_rfl
theorem nd_mx (w:F) (a b:Int):ndR (mxC w a b) 0 = ⟨5,ndM z64 z64 z64 z64 z64 z64 z64 z64 z64 z64 z64 z64 z64 z64 z64 w,a,b⟩ := by kernel_rfl
theorem nd_lf (u:U8):ndR (nzC (leK u) (leF bwF u)) 0 = leNd u := by kernel_rfl
theorem okNd_row {u:U8} {n:Nat} (hu:prgB NprR u = true) (h1:1 ≤ n) (h8:n ≤ 8):okNd (ndR (rowN NprR u n) 0) n = true := by
 unfold prgB at hu
 simp only [Bool.and_eq_true] at hu
 obtain ⟨o,w3,w4,w5,w6⟩ := hu
 have ok:u.ok = true := o
 unfold U8.ok at ok
 simp only [Bool.and_eq_true] at ok
 obtain ⟨_,a1,a2,_⟩ := ok
 have m1 := tmod_in (w32_nn a1) h1 h8
 have m2 := tmod_in (w32_nn a2) h1 h8
 unfold rowN
 cases decide (prT u = 0)
 ·cases decide (prT u = 1) || decide (prT u = 2)
  ·show okNd (ndR (coC (bwF minIo four64 u.a3) (frT u.a4) (frT u.a5) (frT u.a6) (prA u n)) 0) n = true
   rw [nd_co]
   exact okNd_6 (bw_rn rk_le.2.2.1) (fr_rn w4) (fr_rn w5) (fr_rn w6) m1.1 m1.2
  ·show okNd (ndR (mxC (frT u.a3) (prA u n) (prB u n)) 0) n = true
   rw [nd_mx]
   exact okNd_5 (fr_rn w3) m1.1 m1.2 m2.1 m2.2
 ·show okNd (ndR (nzC (leK u) (leF bwF u)) 0) n = true
  rw [nd_lf]
  exact okNd_le u n
theorem okPg_prg {U:Nat → U8} {k:Nat} (hk:k ≤ 8) (hU:∀ j,j ≤ k → prgB NprR (U j) = true):okPg (prgC NprR U k) (k + 1) = true := by
 obtain ⟨vs,hv⟩ := prgC_pl NprR U k
 refine okPg_mk (by rw [hv]; rfl) (by omega) (by omega) fun i hi => ?_
 obtain ⟨c1,c2⟩ := nd_of (prgC_row NprR U (k := k) (j := i) (by omega)) (rowP_ck NprR U i)
 refine okAt_n c1 c2 ?_
 cases i with
 | zero =>
   show okNd (ndR (nzC (leK (U 0)) (leF bwF (U 0))) 0) _ = true
   rw [nd_lf]
   exact okNd_le _ _
 | succ i => exact okNd_row (hU (i + 1) (by omega)) (by omega) (by omega)
theorem u8Z_B:prgB NprR u8Z = true := by decide +kernel
theorem prog_ok {cs:List SV} {len:Nat} (h:prInB NprR cs len = true):okPg (prgC NprR (prU cs len) (prK len)) (prK len + 1) = true ∧ prK len ≤ 7 := by
 have K := prInB_ok h
 have h7:prK len ≤ 7 := by
  rcases Nat.eq_zero_or_pos len with h0 | h0
  ·subst h0; rw [prK_0]; omega
  ·have := (prK_s h0).1; omega
 refine ⟨okPg_prg (by omega) fun j hj => ?_,h7⟩
 unfold prU
 cases len with
 | zero => exact u8Z_B
 | succ n =>
   have := (prK_s (len := n + 1) (by omega)).1
   exact K.ok j (by omega) (by omega)
def rgtE (E:Nee):OF := rgtO E.o
def OA21 (E:Nee) (un:F → F → F → V3) (ub:F → F → F → Bool):OracleF := lookO [(39,rgtE E),(16,plainO (kUn un ub)),(27,kRd 19 (kEw E))]
def hf21:F := toF 4602678819172646912
def gr21A:List SV := [.i .u8 1,.fl hf21,.fl hf21,.fl hf21,fz,fz,fz,fz,fz,fz,fz,fz,fz,fz,fz,fz,fz,.i .i64 0,.i .i64 0]
def gr21B:List SV := gr21A ++ coJ (toF 4609434218613702656) one64 one64 one64 0
def nr21 (a:I) (l h:Nat):Obs := [(decide (a.lo.k ≤ a.hi.k),true),(decide (a.hi.k ≤ (toF h).k),true),(decide ((toF l).k ≤ a.lo.k),true)]
def upE (E:Nee) (un:F → F → F → V3) (cs:List SV) (len k:Nat):Ch := E.g (un z64 z64 one64) (un z64 z64 one64) cs len k
def upEO (E:Nee) (un:F → F → F → V3) (ub:F → F → F → Bool) (cs:List SV) (len:Nat):Obs := etO E un ub cs len z64 z64 one64 z64 z64 one64
def aw21 (E:Nee) (un:F → F → F → V3) (ub:F → F → F → Bool):Obs :=
 (true,true) :: (nr21 (upE E un gr21B 2 0).p 4594452623176501421 4594452623248559015 ++ (nr21 (upE E un gr21B 2 2).m 4585925428414713479 4585925428702943855 ++ ((eqIv (upE E un gr21A 1 1).m I.zero,true) :: (nr21 (upE E un gr21A 1 1).p 4594902181426447204 4594902181462476001 ++
 ([(ub z64 z64 one64,true),(ub z64 z64 z64,false),(E.o gr21B 2,true),(decide ((toF 13830554455654793216).k ≤ z64.k),true),(ub z64 z64 one64,true),(ub z64 z64 (toF 13830554455654793216),true),(E.o gr21B 2,true)] ++ (upEO E un ub gr21B 2 ++ upEO E un ub gr21A 1))))))
def aw21D:List Bool := [true,true,false,false,true,true,false,false,true,true,true,false,true] ++ List.replicate 11 true
theorem aw21Run (E:Nee) (un:F → F → F → V3) (ub:F → F → F → Bool):valR ((run Tryz.prog EG (OA21 E un ub) 120).1 22 [] [] (some aw21D)) = some (.b true,some [],aw21 E un ub) := by kernel_rfl
set_option maxRecDepth 100000 in
theorem aw21_B:Bu.obsB (aw21 ER (unV KkR) unB) = true := by decide +kernel
theorem oracleA21:OracleOk Tryz.prog (OA21 ER (unV KkR) unB) := .cons rgtOG (.cons unG.of (.cons evwK.of (.nil _)))
theorem awake21G:PlainOk Tryz.prog 22 (oConst (.b true)) := constG rfl fun w => calls_of_val goodG oracleA21 120 (aw21Run ER (unV KkR) unB) (Bu.obsB_ok aw21_B) rfl rfl w
def prgB_O (g:List SV → Nat → List SV) (b:List SV → Nat → Bool):OF := eiO (kPr g b) (kPz g)
def u6B (u:U6):List SV := [.si .u32 u.a0,.si .u32 u.a1,.si .u32 u.a2,.si .u32 u.a3,.si .u32 u.a4,.si .u32 u.a5]
structure Ned where
 N:Npr
 g:List SV → Nat → List SV
 b:List SV → Nat → Bool
 U:Nwu
 E:Nev
 un:F → F → F → V3
 ub:F → F → F → Bool
def OEd (W:Ned):OracleF := lookO [(15,prgB_O W.g W.b),(49,plainO (kBw W.N.b W.N.p W.N.w)),(16,plainO (kUnT W.U.v W.U.e)),(20,etO_ W.E W.U W.un W.ub),(22,plainO (oConst (.b true)))]
noncomputable def edC:Code := bodyOf Tryz.prog 4
theorem edBody:Tryz.f4.body = some edC := by kernel_rfl
structure E8 where
 x:Nat
 y:Nat
 z:Nat
 r:Nat
 s:Nat
 t:Nat
 u:U6
 p:Int
def E8.args (q:E8):List SV := [.agg [.f q.x,.f q.y,.f q.z],.agg [.f q.r,.f q.s,.f q.t],q.u.sv,.si .u8 q.p]
noncomputable def edA (el:TypeId) (z:Nat × Nat) (cells:List SV) (off len cap:Nat) (q:E8):St := ⟨(.ssl 0 off len cap :: q.args) ++ List.replicate (Tryz.f4.ntmps - 5) (.tup []),[⟨el,cells,.ro z⟩],none,[]⟩
noncomputable def edZ (q:E8):St := ⟨(.o (.slice none 0 0) :: q.args) ++ List.replicate (Tryz.f4.ntmps - 5) (.tup []),[],none,[]⟩
def edT (n:Nat) (q:E8) (x:Nat → SV):List SV :=
 [x 0,x 1,x 2,x 3,.si .u8 q.p,x 5,.p 0 0,.p 1 0,.p 2 0,x 9,.b false,.osl true 3 n,x 12,x 13,x 14,x 15,x 16,x 17,x 18,x 19,x 20,x 21,x 22,x 23,x 24,x 25,x 26,x 27,x 28,x 29,x 30,x 31,x 32,x 33,x 34,x 35,x 36,x 37,x 38,x 39,x 40,x 41,x 42,x 43,x 44,x 45,x 46,x 47,x 48,x 49,x 50,x 51,x 52,x 53,x 54,x 55,x 56,x 57,x 58,x 59,x 60,x 61,x 62,x 63,x 64,x 65,x 66,x 67,x 68,x 69,x 70,x 71,x 72,x 73,x 74,x 75,x 76,x 77,x 78,x 79,x 80,x 81,x 82,x 83,x 84,x 85,x 86,x 87,x 88,x 89,x 90,x 91,x 92,x 93,x 94,x 95,x 96,x 97,x 98,x 99,x 100,x 101,x 102,x 103,x 104,x 105,x 106,x 107,x 108,x 109,x 110,x 111,x 112,x 113,x 114,x 115,x 116,x 117,x 118,x 119,x 120,x 121,x 122,x 123,x 124,x 125,x 126,x 127,x 128,x 129,x 130,x 131,x 132,x 133,x 134,x 135,x 136,x 137,x 138,x 139,x 140,x 141,x 142,x 143,x 144,x 145,x 146,x 147,x 148,x 149,x 150,x 151,x 152,x 153,x 154,x 155,x 156,x 157,x 158,x 159,x 160,x 161,x 162,x 163,x 164,x 165,x 166,x 167]
def edM (pc:List SV) (q:E8):List Blk := [⟨25,[.f q.x,.f q.y,.f q.z],.ex⟩,⟨25,[.f q.r,.f q.s,.f q.t],.ex⟩,⟨46,u6B q.u,.ex⟩,⟨69,pc,.rown 19⟩]
def edS (pc:List SV) (n:Nat) (q:E8) (x:Nat → SV) (d:Dec):St := ⟨edT n q x,edM pc q,d,[]⟩
noncomputable abbrev edA2 (W:Ned) (el:TypeId) (z:Nat × Nat) (cells:List SV) (off len cap:Nat) (q:E8):St := aftN Tryz.prog EG (OEd W) 60 2 edC (edA el z cells off len cap q)
noncomputable abbrev edZ2 (W:Ned) (q:E8):St := aftN Tryz.prog EG (OEd W) 60 2 edC (edZ q)
theorem edLa (W:Ned) (el:TypeId) (z:Nat × Nat) (cells:List SV) (off len cap:Nat) (q:E8):LandsN Tryz.prog EG (OEd W) 60 2 edC (edA el z cells off len cap q) := by unfold LandsN; kernel_rfl
theorem edLz (W:Ned) (q:E8):LandsN Tryz.prog EG (OEd W) 60 2 edC (edZ q) := by unfold LandsN; kernel_rfl
section
variable (W:Ned) (el:TypeId) (z:Nat × Nat) (cells:List SV) (off len cap:Nat) (q:E8)
theorem edOa:(edA2 W el z cells off len cap q).ob = [(decide (len ≤ cap),true),(W.b ((cells.drop off).take (len * 8)) len,true)] := by kernel_rfl
theorem edOz:(edZ2 W q).ob = [] := by kernel_rfl
theorem edRa:∃ rest,(edA2 W el z cells off len cap q).M = [⟨el,cells,.ro z⟩] ++ rest := ⟨edM (W.g ((cells.drop off).take (len * 8)) len) q,by kernel_rfl⟩
theorem edMa:selM (edA2 W el z cells off len cap q).M [1,2,3,4] = some (edM (W.g ((cells.drop off).take (len * 8)) len) q) := by kernel_rfl
theorem edMz:selM (edZ2 W q).M [0,1,2,3] = some (edM (W.g [] 0) q) := by kernel_rfl
noncomputable def edXa (v:Nat → Value):Nat → SV := fun j => ((edA2 W el z cells off len cap q).sel [1,2,3,4] [] v).T.getD j .np
noncomputable def edXz (v:Nat → Value):Nat → SV := fun j => ((edZ2 W q).sel [0,1,2,3] [] v).T.getD j .np
theorem edTa (v:Nat → Value) (M':List Blk):((edA2 W el z cells off len cap q).sel [1,2,3,4] M' v).T = edT (prK len + 1) q (edXa W el z cells off len cap q v) := by kernel_rfl
theorem edTz (v:Nat → Value) (M':List Blk):((edZ2 W q).sel [0,1,2,3] M' v).T = edT 1 q (edXz W q v) := by kernel_rfl
end
def edT7 (n:Nat) (q:E8) (t:F) (x:Nat → SV):List SV :=
 [x 0,x 1,x 2,x 3,.si .u8 q.p,x 5,x 6,x 7,x 8,x 9,.b false,.osl true 3 n,x 12,x 13,x 14,x 15,x 16,x 17,.p 4 0,.p 5 0,.fl t,x 21,x 22,x 23,x 24,x 25,x 26,x 27,x 28,x 29,x 30,x 31,x 32,x 33,x 34,x 35,x 36,x 37,x 38,x 39,x 40,x 41,x 42,x 43,x 44,x 45,x 46,x 47,x 48,x 49,x 50,x 51,x 52,x 53,x 54,x 55,x 56,x 57,x 58,x 59,x 60,x 61,x 62,x 63,x 64,x 65,x 66,x 67,x 68,x 69,x 70,x 71,x 72,x 73,x 74,x 75,x 76,x 77,x 78,x 79,x 80,x 81,x 82,x 83,x 84,x 85,x 86,x 87,x 88,x 89,x 90,x 91,x 92,x 93,x 94,x 95,x 96,x 97,x 98,x 99,x 100,x 101,x 102,x 103,x 104,x 105,x 106,x 107,x 108,x 109,x 110,x 111,x 112,x 113,x 114,x 115,x 116,x 117,x 118,x 119,x 120,x 121,x 122,x 123,x 124,x 125,x 126,x 127,x 128,x 129,x 130,x 131,x 132,x 133,x 134,x 135,x 136,x 137,x 138,x 139,x 140,x 141,x 142,x 143,x 144,x 145,x 146,x 147,x 148,x 149,x 150,x 151,x 152,x 153,x 154,x 155,x 156,x 157,x 158,x 159,x 160,x 161,x 162,x 163,x 164,x 165,x 166,x 167]
def edTL (n:Nat) (m:Int) (c:SV) (t:F) (x:Nat → SV):List SV :=
 [x 0,x 1,x 2,x 3,x 4,x 5,x 6,x 7,x 8,x 9,.b false,.osl true 3 n,x 12,x 13,x 14,x 15,x 16,x 17,.p 4 0,.p 5 0,.fl t,x 21,x 22,x 23,x 24,x 25,x 26,x 27,x 28,x 29,x 30,x 31,x 32,x 33,x 34,x 35,x 36,x 37,x 38,x 39,x 40,x 41,x 42,x 43,x 44,x 45,x 46,x 47,x 48,x 49,x 50,x 51,x 52,x 53,x 54,x 55,x 56,x 57,x 58,x 59,x 60,x 61,x 62,x 63,x 64,x 65,x 66,x 67,x 68,x 69,x 70,x 71,x 72,x 73,x 74,x 75,x 76,x 77,x 78,x 79,x 80,x 81,x 82,x 83,x 84,x 85,x 86,x 87,x 88,x 89,x 90,x 91,x 92,x 93,x 94,x 95,x 96,x 97,x 98,.si .u8 m,c,x 101,x 102,x 103,x 104,x 105,x 106,x 107,x 108,x 109,x 110,x 111,x 112,x 113,x 114,x 115,x 116,x 117,x 118,x 119,x 120,x 121,x 122,x 123,x 124,x 125,x 126,x 127,x 128,x 129,x 130,x 131,x 132,x 133,x 134,x 135,x 136,x 137,x 138,x 139,x 140,x 141,x 142,x 143,x 144,x 145,x 146,x 147,x 148,x 149,x 150,x 151,x 152,x 153,x 154,x 155,x 156,x 157,x 158,x 159,x 160,x 161,x 162,x 163,x 164,x 165,x 166,x 167]
structure D6 where
 x:F
 y:F
 z:F
 r:F
 s:F
 t:F
def edM7 (pc:List SV) (q:E8) (d:D6):List Blk := edM pc q ++ [⟨25,[.fl d.x,.fl d.y,.fl d.z],.ex⟩,⟨25,[.fl d.r,.fl d.s,.fl d.t],.ex⟩]
def edS7 (pc:List SV) (n:Nat) (q:E8) (v:D6) (t:F) (x:Nat → SV) (d:Dec):St := ⟨edT7 n q t x,edM7 pc q v,d,[]⟩
def edSL (pc:List SV) (n:Nat) (q:E8) (v:D6) (m:Int) (c:SV) (t:F) (x:Nat → SV) (d:Dec):St := ⟨edTL n m c t x,edM7 pc q v,d,[]⟩
noncomputable def edC9:Code := post 7 (post 2 edC)
noncomputable def edR:Code := seqL (seqL edC9)
noncomputable def edBd:Code := inner (inner (seqR (seqL edC9)))
noncomputable def edTl:Code := seqR edC9
theorem edC9_cut:edC9 = .seq (.seq edR (.block 0 (.loop edBd))) edTl := by kernel_rfl
inductive W6 where
 | u
 | w
 | y
 | z
 | e
 | f
def W6.d1:W6 → List Bool
 | .u => [true,true]
 | .w => [true,false,true]
 | _ => [false,false,false]
def W6.d2:W6 → List Bool
 | .y => [true,true,false]
 | .z => [true,false,true,false]
 | .e => [true,false,false]
 | _ => [false]
def W6.ds (w:W6):List Bool := w.d1 ++ ([false,false,false] ++ w.d2)
def eqI3 (a b:Nat → I):Bool := eqIv (a 0) (b 0) && (eqIv (a 1) (b 1) && (eqIv (a 2) (b 2) && true))
def eqLtB (a b:Nat → Ch):Bool := eqI3 (fun k => (a k).p) (fun k => (b k).p) && (eqI3 (fun k => (a k).m) (fun k => (b k).m) && true)
def edP (pc:List SV) (n:Nat):List SV := (pc.drop 0).take (n * 19)
def edR1 (W:Ned) (pc:List SV) (n:Nat) (q:E8):(Nat → Ch) × Int := ewR W.E W.U q.x q.y q.z q.r q.s q.t (edP pc n) n
def edO1 (g e1 e2:Int):W6 → Obs
 | .u => [(e1 != 0,true),(g == 50,true)]
 | .w => [(e2 != 0,true),(e1 != 0,false),(g == 50,true)]
 | _ => [(e2 != 0,false),(e1 != 0,false),(g == 50,false)]
def edO2 (g:Int) (a:Nat → Ch) (z t:Nat):W6 → Obs
 | .y => [(!eqLtB a (fun _ => zCh),false),(leW z (toF 0),true),(g == 0,true)]
 | .z => [(!eqLtB a (fun _ => zCh),false),(leW t (toF 0),true),(leW z (toF 0),false),(g == 0,true)]
 | .e => [(leW t (toF 0),false),(leW z (toF 0),false),(g == 0,true)]
 | _ => [(g == 0,false)]
def edOb (W:Ned) (pc:List SV) (n:Nat) (q:E8) (w:W6):Obs :=
 dirU W.N q.u.a3 q.u.a4 q.u.a5 ++ (dirU W.N q.u.a0 q.u.a1 q.u.a2 ++ (edO2 (edR1 W pc n q).2 (edR1 W pc n q).1 q.z q.t w ++ (((edR1 W pc n q).2 == 2,false) :: ((edR1 W pc n q).2 == 20,false) :: ((edR1 W pc n q).2 == 210,false) ::
  (edO1 (edR1 W pc n q).2 (W.U.e q.x q.y q.z) (W.U.e q.r q.s q.t) w ++ (ewO W.E W.U q.x q.y q.z q.r q.s q.t (edP pc n) n ++ ([blw q.r,blw q.s,blw q.t] ++ ([blw q.x,blw q.y,blw q.z] ++ [])))))))
def edV (W:Ned) (q:E8):D6 := ⟨W.N.b mone64 one64 q.u.a0,W.N.b mone64 one64 q.u.a1,W.N.b d64 one64 q.u.a2,W.N.b mone64 one64 q.u.a3,W.N.b mone64 one64 q.u.a4,W.N.b d64 one64 q.u.a5⟩
def by0:F := toF 4517110426252607488
def two_:F := toF 4611686018427387904
def muF (a b:F):F := toF ((Ieee.double.mul a.b b.b).getD 0)
def muO (a b:F):Obs := [((Ieee.double.mul a.b b.b).isSome,true),(rightB ((Ieee.double.mul a.b b.b).getD 0),true)]
section
variable (W:Ned) (pc:List SV) (n:Nat) (q:E8) (x:Nat → SV)
noncomputable abbrev edR7 (w:W6):St := aftN Tryz.prog EG (OEd W) 60 7 (post 2 edC) (edS pc n q x (some w.ds))
theorem edL_u:LandsN Tryz.prog EG (OEd W) 60 7 (post 2 edC) (edS pc n q x (some (W6.ds .u))) := by unfold LandsN; kernel_rfl
theorem edO_u:(edR7 W pc n q x .u).ob = edOb W pc n q .u := by kernel_rfl
theorem edM_u:selM (edR7 W pc n q x .u).M [0,1,2,3,7,8] = some (edM7 pc q (edV W q)) := by kernel_rfl
theorem edT_u (v:Nat → Value) (M':List Blk):∃ y,((edR7 W pc n q x .u).sel [0,1,2,3,7,8] M' v).T = edT7 n q by0 y := ⟨fun j => ((edR7 W pc n q x .u).sel [0,1,2,3,7,8] [] v).T.getD j .np,by kernel_rfl⟩
theorem edL_w:LandsN Tryz.prog EG (OEd W) 60 7 (post 2 edC) (edS pc n q x (some (W6.ds .w))) := by unfold LandsN; kernel_rfl
theorem edO_w:(edR7 W pc n q x .w).ob = edOb W pc n q .w := by kernel_rfl
theorem edM_w:selM (edR7 W pc n q x .w).M [0,1,2,3,7,8] = some (edM7 pc q (edV W q)) := by kernel_rfl
theorem edT_w (v:Nat → Value) (M':List Blk):∃ y,((edR7 W pc n q x .w).sel [0,1,2,3,7,8] M' v).T = edT7 n q by0 y := ⟨fun j => ((edR7 W pc n q x .w).sel [0,1,2,3,7,8] [] v).T.getD j .np,by kernel_rfl⟩
theorem edL_y:LandsN Tryz.prog EG (OEd W) 60 7 (post 2 edC) (edS pc n q x (some (W6.ds .y))) := by unfold LandsN; kernel_rfl
theorem edO_y:(edR7 W pc n q x .y).ob = edOb W pc n q .y := by kernel_rfl
theorem edM_y:selM (edR7 W pc n q x .y).M [0,1,2,3,7,8] = some (edM7 pc q (edV W q)) := by kernel_rfl
theorem edT_y (v:Nat → Value) (M':List Blk):∃ y,((edR7 W pc n q x .y).sel [0,1,2,3,7,8] M' v).T = edT7 n q by0 y := ⟨fun j => ((edR7 W pc n q x .y).sel [0,1,2,3,7,8] [] v).T.getD j .np,by kernel_rfl⟩
theorem edL_z:LandsN Tryz.prog EG (OEd W) 60 7 (post 2 edC) (edS pc n q x (some (W6.ds .z))) := by unfold LandsN; kernel_rfl
theorem edO_z:(edR7 W pc n q x .z).ob = edOb W pc n q .z := by kernel_rfl
theorem edM_z:selM (edR7 W pc n q x .z).M [0,1,2,3,7,8] = some (edM7 pc q (edV W q)) := by kernel_rfl
theorem edT_z (v:Nat → Value) (M':List Blk):∃ y,((edR7 W pc n q x .z).sel [0,1,2,3,7,8] M' v).T = edT7 n q by0 y := ⟨fun j => ((edR7 W pc n q x .z).sel [0,1,2,3,7,8] [] v).T.getD j .np,by kernel_rfl⟩
theorem edL_e:LandsN Tryz.prog EG (OEd W) 60 7 (post 2 edC) (edS pc n q x (some (W6.ds .e))) := by unfold LandsN; kernel_rfl
theorem edO_e:(edR7 W pc n q x .e).ob = edOb W pc n q .e := by kernel_rfl
theorem edM_e:selM (edR7 W pc n q x .e).M [0,1,2,3,7,8] = some (edM7 pc q (edV W q)) := by kernel_rfl
theorem edT_e (v:Nat → Value) (M':List Blk):∃ y,((edR7 W pc n q x .e).sel [0,1,2,3,7,8] M' v).T = edT7 n q by0 y := ⟨fun j => ((edR7 W pc n q x .e).sel [0,1,2,3,7,8] [] v).T.getD j .np,by kernel_rfl⟩
theorem edL_f:LandsN Tryz.prog EG (OEd W) 60 7 (post 2 edC) (edS pc n q x (some (W6.ds .f))) := by unfold LandsN; kernel_rfl
theorem edO_f:(edR7 W pc n q x .f).ob = edOb W pc n q .f := by kernel_rfl
theorem edM_f:selM (edR7 W pc n q x .f).M [0,1,2,3,7,8] = some (edM7 pc q (edV W q)) := by kernel_rfl
theorem edT_f (v:Nat → Value) (M':List Blk):∃ y,((edR7 W pc n q x .f).sel [0,1,2,3,7,8] M' v).T = edT7 n q by0 y := ⟨fun j => ((edR7 W pc n q x .f).sel [0,1,2,3,7,8] [] v).T.getD j .np,by kernel_rfl⟩
end
section
variable (W:Ned) (pc:List SV) (n:Nat) (q:E8) (v:D6) (t:F) (m j:Int) (x:Nat → SV)
theorem edLr:Lands Tryz.prog EG (OEd W) 60 edR (edS7 pc n q v t x none) .normal := by unfold Lands; kernel_rfl
theorem edOr:(aft Tryz.prog EG (OEd W) 60 edR (edS7 pc n q v t x none)).ob = [] := by kernel_rfl
theorem edTr:∃ y,(aft Tryz.prog EG (OEd W) 60 edR (edS7 pc n q v t x none)).T = edTL n (q.p.tmod 41) (.i .u8 0) t y := ⟨fun k => (aft Tryz.prog EG (OEd W) 60 edR (edS7 pc n q v t x none)).T.getD k .np,by kernel_rfl⟩
theorem edMr:(aft Tryz.prog EG (OEd W) 60 edR (edS7 pc n q v t x none)).M = edM7 pc q v := by kernel_rfl
noncomputable abbrev edRB (d:List Bool):St := aft Tryz.prog EG (OEd W) 60 edBd (edSL pc n q v m (.si .u8 j) t x (some d))
theorem edLb:Lands Tryz.prog EG (OEd W) 60 edBd (edSL pc n q v m (.si .u8 j) t x (some [true])) .normal := by unfold Lands; kernel_rfl
theorem edOb_:(edRB W pc n q v t m j x [true]).ob = muO t two_ ++ [(decide (j < m),true)] := by kernel_rfl
theorem edTb:∃ y,(edRB W pc n q v t m j x [true]).T = edTL n m (.si .u8 (IntKind.u8.wrap (j + 1))) (muF t two_) y := ⟨fun k => (edRB W pc n q v t m j x [true]).T.getD k .np,by kernel_rfl⟩
theorem edMb:(edRB W pc n q v t m j x [true]).M = edM7 pc q v := by kernel_rfl
theorem edLx:Lands Tryz.prog EG (OEd W) 60 edBd (edSL pc n q v m (.si .u8 j) t x (some [false])) (.exit 0) := by unfold Lands; kernel_rfl
theorem edOx:(edRB W pc n q v t m j x [false]).ob = [(decide (j < m),false)] := by kernel_rfl
theorem edTx:∃ y,(edRB W pc n q v t m j x [false]).T = edTL n m (.si .u8 j) t y := ⟨fun k => (edRB W pc n q v t m j x [false]).T.getD k .np,by kernel_rfl⟩
theorem edMx:(edRB W pc n q v t m j x [false]).M = edM7 pc q v := by kernel_rfl
def edLA (W:Ned) (pc:List SV) (n:Nat) (v:D6) (a b c:F):(Nat → Ch) × Int := efR W.E W.un W.ub a b c v.r v.s v.t (edP pc n) n
def edLO (W:Ned) (pc:List SV) (n:Nat) (v:D6) (a b c:F):Obs := efO W.E W.un W.ub a b c v.r v.s v.t (edP pc n) n
def edOt (W:Ned) (pc:List SV) (n:Nat) (v:D6) (t:F):Obs :=
 (eqLtB (edLA W pc n v v.x v.y v.z.neg).1 (fun _ => zCh),true) :: (eqLtB (edLA W pc n v v.x v.y v.z).1 (edLA W pc n v (muF v.x t) (muF v.y t) (muF v.z t)).1,true) ::
  ((edLA W pc n v v.x v.y v.z.neg).2 == 0,true) :: ((edLA W pc n v (muF v.x t) (muF v.y t) (muF v.z t)).2 == 0,true) :: ((edLA W pc n v v.x v.y v.z).2 == 0,true) ::
  (edLO W pc n v v.x v.y v.z.neg ++ ((!decide (v.z.k = 0),true) :: (edLO W pc n v (muF v.x t) (muF v.y t) (muF v.z t) ++ (muO v.z t ++ (muO v.y t ++ (muO v.x t ++ (edLO W pc n v v.x v.y v.z ++ [])))))))
def edDt:Dec := some [true,true,true,true,true]
theorem edLt:Lands Tryz.prog EG (OEd W) 60 edTl (edSL pc n q v m (.si .u8 j) t x edDt) .ret := by unfold Lands; kernel_rfl
theorem edOt_:(aft Tryz.prog EG (OEd W) 60 edTl (edSL pc n q v m (.si .u8 j) t x edDt)).ob = edOt W pc n v t := by kernel_rfl
theorem edRt:resultS Tryz.prog Tryz.f4 (aft Tryz.prog EG (OEd W) 60 edTl (edSL pc n q v m (.si .u8 j) t x edDt)) = some (.b true) := by kernel_rfl
end
def byF:Nat → F
 | 0 => by0
 | j + 1 => muF (byF j) two_
structure EdOk (W:Ned) (pc:List SV) (n:Nat) (q:E8) (k:Nat):Prop where
 w:∃ w,ObsOk (edOb W pc n q w)
 m:q.p.tmod 41 = (k:Int)
 kk:k < 41
 l:∀ j,j < k → ObsOk (muO (byF j) two_)
 t:ObsOk (edOt W pc n (edV W q) (byF k))
theorem u8_up:∀ j:Nat,j < 41 → IntKind.u8.wrap ((j:Int) + 1) = ((j + 1:Nat):Int) := by decide
theorem edT_i (mm:Nms) (n:Nat) (m:Int) (t:F) (x:Nat → SV):dens mm (edTL n m (.si .u8 ((0:Nat):Int)) t x) = dens mm (edTL n m (.i .u8 0) t x) := by kernel_rfl
theorem ed_loop {W:Ned} (hO:OracleOk Tryz.prog (OEd W)) {pc:List SV} {n:Nat} {q:E8} {v:D6} {k:Nat} {x:Nat → SV} {B:Bs} (hk:k < 41) (hl:∀ j,j < k → ObsOk (muO (byF j) two_)) :
  RunsB Tryz.prog B (.block 0 (.loop edBd)) (edSL pc n q v (k:Int) (.si .u8 ((0:Nat):Int)) (byF 0) x none) .normal (fun t => ∃ y,t = edSL pc n q v (k:Int) (.si .u8 (k:Int)) (byF k) y none) := by
 refine loop_invB (fun (j:Nat) (y:Nat → SV) => edSL pc n q v (k:Int) (.si .u8 (j:Int)) (byF j) y none) (fun _ _ => True) k ?_ ?_ _ trivial
 ·intro j y hj _
  obtain ⟨z,hz⟩ := edTb W pc n q v (byF j) (k:Int) (j:Int) y
  rw [u8_up j (by omega)] at hz
  have ob:ObsOk (edRB W pc n q v (byF j) (k:Int) (j:Int) y [true]).ob := by
   rw [edOb_]
   exact ob_a (hl j hj) (ob_c (decide_eq_true (by omega)) ob_n)
  refine RunsB.re (d := some [true]) (o := []) (RunsP.bs (Lands.fin goodG hO (edLb W pc n q v (byF j) (k:Int) (j:Int) y) ob ?_))
  exact ⟨edSL pc n q v (k:Int) (.si .u8 ((j + 1:Nat):Int)) (byF (j + 1)) z none,⟨z,trivial,rfl⟩,same_eq hz.symm (edMb W pc n q v (byF j) (k:Int) (j:Int) y).symm⟩
 ·intro y _
  obtain ⟨z,hz⟩ := edTx W pc n q v (byF k) (k:Int) (k:Int) y
  have ob:ObsOk (edRB W pc n q v (byF k) (k:Int) (k:Int) y [false]).ob := by
   rw [edOx]
   exact ob_c (decide_eq_false (by omega)) ob_n
  refine RunsB.re (d := some [false]) (o := []) (RunsP.bs (Lands.fin goodG hO (edLx W pc n q v (byF k) (k:Int) (k:Int) y) ob ?_))
  exact ⟨edSL pc n q v (k:Int) (.si .u8 (k:Int)) (byF k) z none,⟨z,rfl⟩,same_eq hz.symm (edMx W pc n q v (byF k) (k:Int) (k:Int) y).symm⟩
set_option maxRecDepth 20000 in
theorem ed_run {W:Ned} (hO:OracleOk Tryz.prog (OEd W)) {pc:List SV} {n:Nat} {q:E8} {k:Nat} {x:Nat → SV} {B:Bs} (hB:B.M.length = 4) (K:EdOk W pc n q k) :
  RunsB Tryz.prog B (post 2 edC) (edS pc n q x none) .ret (fun t => resultS Tryz.prog Tryz.f4 t = some (.b true)) := by
 have go:∀ w:W6,LandsN Tryz.prog EG (OEd W) 60 7 (post 2 edC) (edS pc n q x (some w.ds)) → (edR7 W pc n q x w).ob = edOb W pc n q w → selM (edR7 W pc n q x w).M [0,1,2,3,7,8] = some (edM7 pc q (edV W q)) →
   (∀ (v:Nat → Value) (M':List Blk),∃ y,((edR7 W pc n q x w).sel [0,1,2,3,7,8] M' v).T = edT7 n q by0 y) → ObsOk (edOb W pc n q w) → RunsB Tryz.prog B (post 2 edC) (edS pc n q x none) .ret (fun t => resultS Tryz.prog Tryz.f4 t = some (.b true)) := by
  intro w hL hb hM hT ho
  refine RunsB.re (d := some w.ds) (o := []) (hL.ok goodG hO (show ObsOk (edR7 W pc n q x w).ob from hb ▸ ho) ?_)
  refine RunsB.keep (ids := [0,1,2,3,7,8]) rfl hM (fun j hj => by
   rw [hB] at hj
   rcases (by omega:j = 0 ∨ j = 1 ∨ j = 2 ∨ j = 3) with rfl | rfl | rfl | rfl <;> rfl) fun v => ?_
  obtain ⟨y,hy⟩ := hT v (edM7 pc q (edV W q))
  have hs:SameSt (edS7 pc n q (edV W q) by0 y none) ((edR7 W pc n q x w).sel [0,1,2,3,7,8] (edM7 pc q (edV W q)) v) := same_eq hy.symm rfl
  have hkt := K.t
  generalize edV W q = d at hs hkt
  refine RunsB.retell hs ?_
  show RunsB Tryz.prog B edC9 _ .ret _
  rw [edC9_cut]
  refine RunsB.seq (Φ := fun t => ∃ y,t = edSL pc n q d (k:Int) (.si .u8 (k:Int)) (byF k) y none) ?_ fun t ⟨y',ht⟩ => ?_
  ·refine LandsB.seq goodG hO (edLr W pc n q d by0 y) (by rw [edOr]; exact ob_n) ?_
   obtain ⟨z,hz⟩ := edTr W pc n q d by0 y
   rw [K.m] at hz
   have hs2:SameSt (edSL pc n q d (k:Int) (.si .u8 ((0:Nat):Int)) (byF 0) z none) (aft Tryz.prog EG (OEd W) 60 edR (edS7 pc n q d by0 y none)) :=
    (same_T (fun mm => by
     show dens mm (edTL n (k:Int) (.si .u8 ((0:Nat):Int)) by0 z) = _
     rw [edT_i,hz]) (edMr W pc n q d by0 y).symm)
   exact RunsB.retell hs2 (ed_loop hO K.kk K.l)
  ·subst ht
   refine RunsB.re (d := edDt) (o := []) (RunsP.bs (Lands.all goodG hO (edLt W pc n q d (byF k) (k:Int) (k:Int) y') ?_ (edRt W pc n q d (byF k) (k:Int) (k:Int) y')))
   have h0 := edOt_ W pc n q d (byF k) (k:Int) (k:Int) y'
   exact h0 ▸ hkt
 obtain ⟨w,ho⟩ := K.w
 cases w
 ·exact go _ (edL_u W pc n q x) (edO_u W pc n q x) (edM_u W pc n q x) (edT_u W pc n q x) ho
 ·exact go _ (edL_w W pc n q x) (edO_w W pc n q x) (edM_w W pc n q x) (edT_w W pc n q x) ho
 ·exact go _ (edL_y W pc n q x) (edO_y W pc n q x) (edM_y W pc n q x) (edT_y W pc n q x) ho
 ·exact go _ (edL_z W pc n q x) (edO_z W pc n q x) (edM_z W pc n q x) (edT_z W pc n q x) ho
 ·exact go _ (edL_e W pc n q x) (edO_e W pc n q x) (edM_e W pc n q x) (edT_e W pc n q x) ho
 ·exact go _ (edL_f W pc n q x) (edO_f W pc n q x) (edM_f W pc n q x) (edT_f W pc n q x) ho
set_option maxRecDepth 20000 in
theorem ed_calls {W:Ned} (hO:OracleOk Tryz.prog (OEd W)) {el:TypeId} {z:Nat × Nat} {cells:List SV} {off len cap k:Nat} {q:E8} {m:Nms} {w:World} {vs:List Value} (hM:MemAt m w [⟨el,cells,.ro z⟩]) (hvs:dens m (.ssl 0 off len cap :: q.args) = some vs)
  (hc:len ≤ cap) (hb:W.b ((cells.drop off).take (len * 8)) len = true) (K:EdOk W (W.g ((cells.drop off).take (len * 8)) len) (prK len + 1) q k) :
  Calls Tryz.prog 4 vs.toArray w fun e w' => e = .returned (.bool true) ∧ Below w.heap.size w w' := by
 refine RunsW.call (d := none) Tryz.func4 edBody (x := .b true) rfl hvs hM ?_
 show RunsW Tryz.prog ⟨m,[⟨el,cells,.ro z⟩],w,hM⟩ edC (edA el z cells off len cap q) .ret _
 refine runW_ok goodG hO (edLa W el z cells off len cap q) (by rw [edOa]; exact ob_c (decide_eq_true hc) (ob_c hb ob_n)) ?_
 obtain ⟨rest,hr⟩ := edRa W el z cells off len cap q
 refine RunsW.fresh (ids := [1,2,3,4]) (fun b hb => by rw [List.mem_singleton] at hb; subst hb; rfl) hr rfl (edMa W el z cells off len cap q) (fun j n hj => by
  have hl:j < 4 := (List.getElem?_eq_some_iff.1 hj).1
  rcases (by omega:j = 0 ∨ j = 1 ∨ j = 2 ∨ j = 3) with rfl | rfl | rfl | rfl <;> simp at hj <;> subst hj <;> simp) (fun b hb => by
   simp only [edM,List.mem_cons,List.not_mem_nil,or_false] at hb
   rcases hb with rfl | rfl | rfl | rfl <;> rfl) fun B' v hB' => ?_
 have hs:SameSt (edS (W.g ((cells.drop off).take (len * 8)) len) (prK len + 1) q (edXa W el z cells off len cap q v) none) ((edA2 W el z cells off len cap q).sel [1,2,3,4] (edM (W.g ((cells.drop off).take (len * 8)) len) q) v) := same_eq (edTa W el z cells off len cap q v _).symm rfl
 exact RunsB.retell hs (ed_run hO (x := edXa W el z cells off len cap q v) (by rw [hB']; rfl) K)
set_option maxRecDepth 20000 in
theorem ed_nil {W:Ned} (hO:OracleOk Tryz.prog (OEd W)) {q:E8} {k:Nat} {w:World} {vs:List Value} (hvs:dens Nms.no (.o (.slice none 0 0) :: q.args) = some vs) (K:EdOk W (W.g [] 0) 1 q k) :
  Calls Tryz.prog 4 vs.toArray w fun e w' => e = .returned (.bool true) ∧ Below w.heap.size w w' := by
 refine RunsW.call (d := none) Tryz.func4 edBody (x := .b true) rfl hvs (MemAt.no w) ?_
 show RunsW Tryz.prog ⟨Nms.no,[],w,MemAt.no w⟩ edC (edZ q) .ret _
 refine runW_ok goodG hO (edLz W q) (by rw [edOz]; exact ob_n) ?_
 refine RunsW.fresh (rest := (edZ2 W q).M) (ids := [0,1,2,3]) (fun b hb => by cases hb) (List.nil_append _).symm rfl (edMz W q) (fun j n hj => Nat.zero_le _) (fun b hb => by
   simp only [edM,List.mem_cons,List.not_mem_nil,or_false] at hb
   rcases hb with rfl | rfl | rfl | rfl <;> rfl) fun B' v hB' => ?_
 have hs:SameSt (edS (W.g [] 0) 1 q (edXz W q v) none) ((edZ2 W q).sel [0,1,2,3] (edM (W.g [] 0) q) v) := same_eq (edTz W q v _).symm rfl
 exact RunsB.retell hs (ed_run hO (x := edXz W q v) (by rw [hB']; rfl) K)
end Go.Proofs.YthclipfgcgoofaaGreat
namespace Bu
open Ieee
theorem div_near {x y:F} (hx:0 < x.k) (hy:0 < y.k) (h:x.z ≤ y.z) {r m n A B more:Nat} (hr:nv r = S) (hT:r < T) (hmm:man x.k.natAbs = m) (hnn:man y.k.natAbs = n) (hpa:pl x.k.natAbs = A) (hpb:pl y.k.natAbs = B) (hmo:52 + 2 + n.log2 - m.log2 = more) :
  ∃ t:F,double.div x.b y.b = some t.b ∧ t.k = ((near ((2 * (m * 2 ^ more / n) + (m * 2 ^ more % n != 0).toNat) * 2 ^ (-1074 + (A:Int) - (-1074 + (B:Int)) - (more:Int) - 1 + 1074).toNat) (2 ^ (-(-1074 + (A:Int) - (-1074 + (B:Int)) - (more:Int) - 1 + 1074)).toNat):Nat):Int) := by
 have m1:man x.k.natAbs ≠ 0 := fun h => by have := man_zero _ h; omega
 have m2:man y.k.natAbs ≠ 0 := fun h => by have := man_zero _ h; omega
 have hz:man x.k.natAbs * 2 ^ pl x.k.natAbs ≤ man y.k.natAbs * 2 ^ pl y.k.natAbs := by
  have a := z_natAbs x
  have b := z_natAbs y
  have s1 := (z_sign x); have s2 := (z_sign y)
  omega
 unfold Format.div
 rw [read_F,read_F]
 simp only [Datum.quotient,if_neg m2,Option.map_some,Format.write]
 rw [decide_eq_false (show ¬ x.k < 0 by omega),decide_eq_false (show ¬ y.k < 0 by omega)]
 rw [hmm] at m1 hz ⊢
 rw [hnn] at m2 hz ⊢
 rw [hpa] at hz ⊢
 rw [hpb] at hz ⊢
 have hfb:double.fractionBits = 52 := rfl
 rw [hfb,hmo,Nat.shiftLeft_eq]
 have l1 := Nat.log2_self_le m1
 have l2:n < 2 ^ (n.log2 + 1) := Nat.lt_log2_self
 have hAB:A + m.log2 < n.log2 + 1 + B := by
  have h1:2 ^ (A + m.log2) ≤ m * 2 ^ A := by rw [Nat.pow_add,Nat.mul_comm]; exact Nat.mul_le_mul_right _ l1
  have h2:n * 2 ^ B < 2 ^ (n.log2 + 1 + B) := by rw [Nat.pow_add]; exact Nat.mul_lt_mul_of_pos_right l2 (Nat.two_pow_pos B)
  exact (Nat.pow_lt_pow_iff_right (by omega)).1 (Nat.lt_of_le_of_lt h1 (Nat.lt_of_le_of_lt hz h2))
 have hA:A ≤ B + more := by omega
 have hq := quot_le m2 hz hA
 have hne:2 * (m * 2 ^ more / n) + (m * 2 ^ more % n != 0).toNat ≠ 0 := by
  intro h0
  have hd := Nat.div_add_mod (m * 2 ^ more) n
  have h1:m * 2 ^ more / n = 0 := by omega
  have h2:(m * 2 ^ more % n != 0).toNat = 0 := by omega
  have h3:m * 2 ^ more % n = 0 := by
   by_cases c:m * 2 ^ more % n = 0
   ·exact c
   ·simp [c] at h2
  rw [h1,h3] at hd
  have := Nat.mul_pos (Nat.pos_of_ne_zero m1) (Nat.two_pow_pos more)
  omega
 rw [nearest_eq _ _ _ hne]
 generalize 2 * (m * 2 ^ more / n) + (m * 2 ^ more % n != 0).toNat = mag at *
 have hn:near (mag * 2 ^ (-1074 + (A:Int) - (-1074 + (B:Int)) - (more:Int) - 1 + 1074).toNat) (2 ^ (-(-1074 + (A:Int) - (-1074 + (B:Int)) - (more:Int) - 1 + 1074)).toNat) ≤ r := by
  refine near_le (Nat.two_pow_pos _) ?_
  obtain ⟨sx,hs1,hs2⟩ := S_pow
  rw [hr,hs2,← Nat.pow_add]
  refine Nat.le_trans (Nat.mul_le_mul_right _ hq) ?_
  rw [← Nat.pow_add]
  exact Nat.pow_le_pow_right (by omega) (by omega)
 rw [Nat.min_eq_left (by omega),word_F _ _ (by omega) (by simp)]
 refine ⟨_,rfl,?_⟩
 rw [if_neg (by decide),F.of_k (by omega)]
theorem mag_le {M n R:Nat} (hn:n ≠ 0) (h:M ≤ R * n):2 * (M / n) + (M % n != 0).toNat ≤ 2 * R := by
 have hd := Nat.div_add_mod M n
 have hr := Nat.mod_lt M (Nat.pos_of_ne_zero hn)
 have hQ:M / n ≤ R := by
  have := Nat.div_le_div_right (c := n) h
  rwa [Nat.mul_div_cancel _ (Nat.pos_of_ne_zero hn)] at this
 by_cases hR:M % n = 0
 ·rw [hR]; simp; omega
 ·have hs:(M % n != 0).toNat = 1 := by simp [hR]
  rw [hs]
  have:M / n ≠ R := by
   intro e
   rw [e,Nat.mul_comm] at hd
   omega
  omega
theorem mag_ge {M n R:Nat} (hn:n ≠ 0) (h:R * n ≤ M):2 * R ≤ 2 * (M / n) + (M % n != 0).toNat := by
 have:R ≤ M / n := (Nat.le_div_iff_mul_le (Nat.pos_of_ne_zero hn)).2 h
 omega
end Bu
namespace Bu
open Rx Go Ieee
def kL:F := toF 4602678819171598336
def kH:F := toF 4602678819173171200
def kO:F := toF 4607182418800541696
def kD:F := toF 13677432068324196352
def kE:F := toF 4454060031469420544
theorem kc:decide (nv kL.k.natAbs * 17179869184 = 8589934591 * S) = true ∧ decide (nv kH.k.natAbs * 17179869184 = 8589934593 * S) = true ∧ 0 < kL.k ∧ 0 < kH.k ∧ decide (man cN32.k.natAbs = 4294967295 * 2097152) = true ∧ decide (pl cN32.k.natAbs = 1053) = true ∧ decide (Nat.log2 (4294967295 * 2097152) = 52) = true := by decide +kernel
theorem ac_4 (m0 U V:Nat):m0 * (U * V * 2) * 18014398509481984 = m0 * 36028797018963968 * U * V := by
 have e:36028797018963968 = 2 * 18014398509481984 := rfl
 rw [e]
 generalize 18014398509481984 = c
 simp only [Nat.mul_assoc,Nat.mul_comm,Nat.mul_left_comm]
theorem fin_l {a:Nat} {k:Int} (h:0 < k) (h2:a ≤ k.natAbs):(a:Int) ≤ k := by omega
theorem fin_h {a:Nat} {k:Int} (h:0 < k) (h2:k.natAbs ≤ a):k ≤ (a:Int) := by omega
theorem frT_half {n:Int} (h:wN32 n = true):(frT n).k ≤ kL.k ∨ kH.k ≤ (frT n).k := by
 have hn := of_decide_eq_true h
 obtain ⟨m0,rfl⟩ := Int.eq_ofNat_of_zero_le hn.1
 by_cases hm:m0 = 0
 ·subst hm; left; exact (by decide +kernel:(frT 0).k ≤ kL.k)
 ·have hP:P = 4503599627370496 := rfl
  have hz := nat_z (m := m0) (by omega)
  have hS := S_pos
  have hk:0 < (F.dy m0 0).k := by
   have h2:0 < (F.dy m0 0).z := by rw [hz]; exact Int.mul_pos (by omega) (by omega)
   have a := z_sign (F.dy m0 0)
   have b := z_zero (F.dy m0 0)
   omega
  have hle:(F.dy m0 0).z ≤ cN32.z := by rw [hz,cN32_z.1]; exact Int.mul_le_mul_of_nonneg_right (by omega) (by omega)
  have hzm := z_natAbs (F.dy m0 0)
  have hza:(F.dy m0 0).z.natAbs = m0 * S := by rw [hz,Int.natAbs_mul]; rfl
  rw [hza] at hzm
  obtain ⟨q1,q2⟩ := man_pl (F.dy m0 0).k.natAbs
  obtain ⟨s,hs,eS⟩ := S_pow
  generalize hmm:man (F.dy m0 0).k.natAbs = m at hzm q1 q2
  generalize hpa:pl (F.dy m0 0).k.natAbs = A at hzm q1
  rw [eS] at hzm
  have hPp:4503599627370496 = 2 ^ 52 := rfl
  have mP:P ≤ m := by
   rcases q1 with q | q
   ·rw [q,Nat.pow_zero,Nat.mul_one] at hzm
    have h1:2 ^ 54 ≤ 2 ^ s := Nat.pow_le_pow_right (by omega) (by omega)
    have h2:2 ^ s ≤ m0 * 2 ^ s := Nat.le_mul_of_pos_left _ (by omega)
    omega
   ·exact q
  have hlog:m.log2 = 52 := (Nat.log2_eq_iff (by omega)).2 ⟨by omega,by omega⟩
  have hA1:1022 ≤ A := by
   have h1:2 ^ s ≤ m * 2 ^ A := by rw [← hzm]; exact Nat.le_mul_of_pos_left _ (by omega)
   have h2:m * 2 ^ A < 2 ^ (53 + A) := by rw [Nat.pow_add]; exact Nat.mul_lt_mul_of_pos_right (by omega) (Nat.two_pow_pos A)
   have := (Nat.pow_lt_pow_iff_right (a := 2) (by omega)).1 (Nat.lt_of_le_of_lt h1 h2)
   omega
  have hA2:A ≤ 1053 := by
   have h1:2 ^ (52 + A) ≤ m * 2 ^ A := by rw [Nat.pow_add]; exact Nat.mul_le_mul_right _ (by omega)
   have h2:m0 * 2 ^ s < 2 ^ (32 + s) := by rw [Nat.pow_add]; exact Nat.mul_lt_mul_of_pos_right (by omega) (Nat.two_pow_pos s)
   have := (Nat.pow_lt_pow_iff_right (a := 2) (by omega)).1 (Nat.lt_of_le_of_lt h1 (hzm ▸ h2))
   omega
  obtain ⟨t,e,ht⟩ := div_near hk cN32_z.2 hle one64_nv (by rw [T_num]; omega) hmm (of_decide_eq_true kc.2.2.2.2.1) hpa (of_decide_eq_true kc.2.2.2.2.2.1) (more := 54) (by rw [of_decide_eq_true kc.2.2.2.2.2.2,hlog])
  have eT:frT (m0:Nat) = t := by
   unfold frT fdv
   rw [near_int (by omega),toF_F,e]
   exact (so_ok (s := some t.b) rfl).2
  rw [eT,ht]
  have e1:(-1074 + (A:Int) - (-1074 + ((1053:Nat):Int)) - ((54:Nat):Int) - 1 + 1074).toNat = A - 34 := by omega
  have e2:(-(-1074 + (A:Int) - (-1074 + ((1053:Nat):Int)) - ((54:Nat):Int) - 1 + 1074)).toNat = 0 := by omega
  rw [e1,e2,Nat.pow_zero]
  -- the numbers by the half
  have hv:∀ {c:F} {a:Nat},nv c.k.natAbs * 17179869184 = a * S → nv c.k.natAbs = 2 * (a * 2 ^ (1073 - A)) * 2 ^ (A - 34) := fun {c a} hc => by
   rw [eS] at hc
   have h1:(2:Nat) ^ s = 2 ^ (1 + (1073 - A) + (A - 34)) * 2 ^ 34 := by rw [← Nat.pow_add]; congr 1; omega
   rw [h1,Nat.pow_add,Nat.pow_add] at hc
   have h34:(2:Nat) ^ 34 = 17179869184 := rfl
   rw [h34,← Nat.mul_assoc] at hc
   have := Nat.eq_of_mul_eq_mul_right (by omega) hc
   rw [this]
   generalize 2 ^ (1073 - A) = U
   generalize 2 ^ (A - 34) = V
   rw [Nat.pow_one]
   simp only [Nat.mul_assoc,Nat.mul_left_comm]
  have hn0:4294967295 * 2097152 ≠ 0 := by omega
  have hsp:(2:Nat) ^ s = 2 ^ (1073 - A) * 2 ^ A * 2 := by rw [← Nat.pow_add,← Nat.pow_succ]; congr 1; omega
  have h54:(2:Nat) ^ 54 = 18014398509481984 := rfl
  -- m * 2^54 against R * n,times 2^A
  have hM:m * 2 ^ 54 * 2 ^ A = m0 * 36028797018963968 * 2 ^ (1073 - A) * 2 ^ A := by
   have:m * 2 ^ 54 * 2 ^ A = m * 2 ^ A * 2 ^ 54 := Nat.mul_right_comm _ _ _
   rw [this,← hzm,hsp,h54]
   exact ac_4 m0 _ _
  have hM':m * 2 ^ 54 = m0 * 36028797018963968 * 2 ^ (1073 - A) := Nat.eq_of_mul_eq_mul_right (Nat.two_pow_pos A) hM
  rw [hM']
  have hU := Nat.two_pow_pos (1073 - A)
  rcases Nat.lt_or_ge m0 2147483648 with g | g
  ·left
   have h1:m0 * 36028797018963968 * 2 ^ (1073 - A) ≤ 8589934591 * 2 ^ (1073 - A) * (4294967295 * 2097152) := by
    rw [Nat.mul_right_comm 8589934591]
    exact Nat.mul_le_mul_right _ (by omega)
   have h2 := Nat.mul_le_mul_right (2 ^ (A - 34)) (mag_le hn0 h1)
   have h3 := near_le (r := kL.k.natAbs) (d := 1) (by decide) (n := _) (by rw [Nat.mul_one,hv (of_decide_eq_true kc.1)]; exact h2)
   exact fin_l kc.2.2.1 h3
  ·right
   have h1:8589934593 * 2 ^ (1073 - A) * (4294967295 * 2097152) ≤ m0 * 36028797018963968 * 2 ^ (1073 - A) := by
    rw [Nat.mul_right_comm 8589934593]
    exact Nat.mul_le_mul_right _ (by omega)
   have h2 := Nat.mul_le_mul_right (2 ^ (A - 34)) (mag_ge hn0 h1)
   have h3 := le_near (r := kH.k.natAbs) (d := 1) (by decide) (n := _) (by rw [Nat.mul_one,hv (of_decide_eq_true kc.2.1)]; exact h2)
   exact fin_h kc.2.2.2.1 h3
theorem mul_ge1 {x y c:F} (hx:0 < x.k) (hy:0 < y.k) (h:y.k ≤ one64.k) (hc:0 ≤ c.k) (hv:c.z * (S:Int) ≤ x.z * y.z):∃ t:F,fmu x y = some t.b ∧ c.k ≤ t.k ∧ t.k ≤ x.k := by
 have hz:y.z ≤ (S:Int) := by
  have h1 := q_le.2 h
  rw [one_q] at h1
  have h2 := F.q_mul y
  have h3:(y.z:Rat) ≤ ((S:Int):Rat) := by
   rw [← h2]
   have := Rat.mul_nonneg (show 0 ≤ 1 - y.q by grind) (Rat.le_of_lt S_gt)
   rw [Rat.intCast_natCast]
   generalize (S:Rat) = s at *
   grind
  exact Rat.intCast_le_intCast.1 h3
 have e := mul_F x y (by omega) (by omega)
 rw [decide_eq_false (show ¬ x.k < 0 by omega),decide_eq_false (show ¬ y.k < 0 by omega)] at e
 have hT := x.hk
 have b := z_sign x; have c' := z_sign y
 have hn:near (x.z.natAbs * y.z.natAbs) S ≤ x.k.natAbs := by
  refine near_le S_pos ?_
  have a := nvk (c := x) (by omega)
  have:x.z.natAbs = nv x.k.natAbs := by omega
  rw [this]
  exact Nat.mul_le_mul_left _ (by omega)
 have hm:c.k.natAbs ≤ near (x.z.natAbs * y.z.natAbs) S := by
  refine le_near S_pos ?_
  have a := nvk (c := c) hc
  have h1:((nv c.k.natAbs * S:Nat):Int) ≤ ((x.z.natAbs * y.z.natAbs:Nat):Int) := by
   rw [Int.natCast_mul,Int.natCast_mul,a]
   have e1:(x.z.natAbs:Int) = x.z := by omega
   have e2:(y.z.natAbs:Int) = y.z := by omega
   rw [e1,e2]; exact hv
  exact Int.ofNat_le.1 h1
 rw [Nat.min_eq_left (by omega),show (false ^^ false) = false from rfl,word_F _ _ (by omega) (by simp),if_neg (by decide)] at e
 exact ⟨_,e,by rw [F.of_k (by omega)]; omega,by rw [F.of_k (by omega)]; omega⟩
theorem kc2:decide (kO.z = 2 * kH.z) = true ∧ decide (sf (fsu one64 mone64) = two64) = true ∧ 0 ≤ kO.k ∧ 0 < two64.k ∧ mone64.k ≠ 0 ∧ one64.k ≠ 0 ∧ kD.k < 0 ∧ 0 < kE.k := by decide +kernel
theorem kq:kL.q * 17179869184 = 8589934591 ∧ kO.q * 8589934592 = 8589934593 ∧ kD.q * 17179869184 = -1 ∧ kE.q * 17179869184 = 1 :=
 ⟨q_of' (n := 8589934591) (s := 34) (by decide +kernel) rfl,q_of' (n := 8589934593) (s := 33) (by decide +kernel) rfl,q_of' (n := -1) (s := 34) (by decide +kernel) rfl,q_of' (n := 1) (s := 34) (by decide +kernel) rfl⟩
theorem bwX_far {n:Int} (h:wN32 n = true):(bwX mone64 one64 n).k ≤ kD.k ∨ kE.k ≤ (bwX mone64 one64 n).k := by
 obtain ⟨t,e1,t0,t1,hr⟩ := frT_ok h
 have eT:frT n = t := (so_ok e1).2
 have hh := frT_half h
 rw [eT] at hh
 obtain ⟨_,c2,c3,c4,_,_,c7,c8⟩ := kc2
 have c2 := of_decide_eq_true c2
 obtain ⟨q1,q2,q3,q4⟩ := kq
 obtain ⟨g,hg⟩ := big_ex
 have eX:∀ {p:F},fmu two64 t = some p.b → bwX mone64 one64 n = sf (fad mone64 p) := fun {p} hp => by
  unfold bwX bwP
  rw [eT,c2,(so_ok hp).2]
 have t0q:0 ≤ t.q := by rw [← q_zero]; exact q_le.2 t0
 have t1q := q_le.2 t1
 rw [one_q] at t1q
 have m1:mone64.q = -1 := mone_q
 rcases hh with g1 | g1
 ·have hq := q_le.2 g1
  obtain ⟨p,hp,hpq⟩ := twice_ok (x := t) t0 (by grind)
  obtain ⟨D,e3,hD⟩ := add_nr (x := mone64) (y := p) (g := g) (by grind) (by grind)
  rw [eX hp,(so_ok (show fad mone64 p = some D.b from e3)).2]
  exact .inl (q_le.1 (hD.up kD (by grind)))
 ·have hk:0 < kH.k := kc.2.2.2.1
  have hz:kO.z * (S:Int) ≤ two64.z * t.z := by
   have h1:kH.z ≤ t.z := nvZ_le_iff.2 g1
   have h2 := of_decide_eq_true kc2.1
   have h3 := of_decide_eq_true two_z
   rw [h2,h3]
   have hS:(0:Int) ≤ (S:Int) := Int.natCast_nonneg S
   have h4 := Int.mul_le_mul_of_nonneg_left h1 (Int.mul_nonneg (show (0:Int) ≤ 2 by decide) hS)
   have e1:2 * kH.z * (S:Int) = 2 * (S:Int) * kH.z := by rw [Int.mul_assoc,Int.mul_assoc,Int.mul_comm kH.z]
   rw [e1]; exact h4
  obtain ⟨p,hp,p1,p2⟩ := mul_ge1 c4 (Int.lt_of_lt_of_le hk g1) t1 c3 hz
  have pq := q_le.2 p1
  have pq2 := q_le.2 p2
  have tq:two64.q = 2 := q_int (x := two64) (n := 2) (by decide +kernel)
  rw [tq] at pq2
  obtain ⟨D,e3,hD⟩ := add_nr (x := mone64) (y := p) (g := g) (by grind) (by grind)
  rw [eX hp,(so_ok (show fad mone64 p = some D.b from e3)).2]
  exact .inr (q_le.1 (hD.dn kE (by grind)))
theorem bw_far {n:Int} (h:wN32 n = true):(bwF mone64 one64 n).k ≤ kD.k ∨ kE.k ≤ (bwF mone64 one64 n).k := by
 have hx := bwX_far h
 have e1:mone64.k ≤ kD.k := by decide +kernel
 have e2:kE.k ≤ one64.k := by decide +kernel
 unfold bwF
 cases decide ((bwX mone64 one64 n).k < mone64.k)
 ·cases decide (one64.k < (bwX mone64 one64 n).k)
  ·exact hx
  ·exact .inr e2
 ·exact .inl e1
end Bu
namespace Bu
open Rx Go
theorem nv_shift {r s:Nat} (h:P ≤ r):nv (r + s * P) = nv r * 2 ^ s := by
 have hP:0 < P := P_pos
 have h1:1 ≤ r / P := (Nat.le_div_iff_mul_le hP).2 (by omega)
 rw [nv_norm h,nv_norm (Nat.le_trans h (Nat.le_add_right _ _)),Nat.add_mul_mod_self_right,Nat.add_mul_div_right _ _ hP]
 rw [show r / P + s - 1 = (r / P - 1) + s by omega,Nat.pow_add,Nat.mul_assoc]
def pwr (e:Nat):F := F.of ((e * P:Nat):Int)
theorem pw_k {e:Nat} (h:e ≤ 2046):(pwr e).k = ((e * P:Nat):Int) := by
 refine F.of_k ?_
 have h1 := T_eq
 have h2 := P_pos
 have h3:e * P ≤ 2046 * P := Nat.mul_le_mul_right _ h
 omega
theorem nv_pw {e:Nat} (h0:1 ≤ e):nv (e * P) = 2 ^ (e + 51) := by
 have h2 := P_pos
 have h1:P ≤ e * P := Nat.le_mul_of_pos_left _ h0
 rw [nv_norm h1,Nat.mul_mod_left,Nat.mul_div_cancel _ h2,Nat.add_zero,P_eq,← Nat.pow_add]
 congr 1; omega
theorem pw_z {e:Nat} (h0:1 ≤ e) (h:e ≤ 2046):(pwr e).z = ((2 ^ (e + 51):Nat):Int) := by
 unfold F.z
 rw [pw_k h,nvZ_natCast,nv_pw h0]
theorem pw_mul {a b c:Nat} (ha:1 ≤ a) (ha2:a ≤ 2046) (hb:1 ≤ b) (hb2:b ≤ 2046) (hc:1 ≤ c) (hc2:c ≤ 2046) (h:a + b = c + 1023):(pwr a).q * (pwr b).q = (pwr c).q := by
 have e1 := F.q_mul (pwr a); have e2 := F.q_mul (pwr b); have e3 := F.q_mul (pwr c)
 rw [pw_z ha ha2] at e1
 rw [pw_z hb hb2] at e2
 rw [pw_z hc hc2] at e3
 have hn:2 ^ (a + 51) * 2 ^ (b + 51) = 2 ^ (c + 51) * S := by
  obtain ⟨w,hw,eS⟩ := S_pow
  rw [eS,← Nat.pow_add,← Nat.pow_add]
  congr 1; omega
 have hz:(((2 ^ (a + 51):Nat):Int):Rat) * (((2 ^ (b + 51):Nat):Int):Rat) = (((2 ^ (c + 51):Nat):Int):Rat) * (S:Rat) := by
  rw [Rat.intCast_natCast,Rat.intCast_natCast,Rat.intCast_natCast,← Rat.natCast_mul,← Rat.natCast_mul,hn]
 have s0 := S_gt
 generalize (((2 ^ (a + 51):Nat):Int):Rat) = A at *
 generalize (((2 ^ (b + 51):Nat):Int):Rat) = B at *
 generalize (((2 ^ (c + 51):Nat):Int):Rat) = C at *
 generalize (S:Rat) = s at *
 have h1:((pwr a).q * (pwr b).q - (pwr c).q) * (s * s) = 0 := by grind
 rcases Rat.mul_eq_zero.1 h1 with h2 | h2
 ·grind
 ·rcases Rat.mul_eq_zero.1 h2 with h3 | h3 <;> grind
theorem pw_le {a b:Nat} (h:a ≤ b) (hb:b ≤ 2046):(pwr a).q ≤ (pwr b).q := by
 refine q_le.2 ?_
 rw [pw_k (by omega),pw_k hb]
 exact Int.ofNat_le.2 (Nat.mul_le_mul_right _ h)
theorem pw_pos {a:Nat} (h:1 ≤ a) (ha:a ≤ 2046):0 < (pwr a).q := by
 rw [← q_zero]
 refine q_lt.2 ?_
 rw [pw_k ha]
 have := Nat.mul_pos (show 0 < a from h) P_pos
 show (0:Int) < _
 omega
structure Wn (a b:Nat) (v:Rat):Prop where
 lo:(pwr a).q ≤ v
 hi:v ≤ (pwr b).q
theorem cancel_S {x y:Rat} (h:x * (S:Rat) = y * (S:Rat)):x = y := by
 have s0 := S_gt
 generalize (S:Rat) = r at *
 have h1:(x - y) * r = 0 := by grind
 rcases Rat.mul_eq_zero.1 h1 with h2 | h2 <;> grind
theorem pw_q {s:Nat} (hs:s ≤ 1000):(pwr (1023 + s)).q = ((2 ^ s:Nat):Rat) := by
 have e := F.q_mul (pwr (1023 + s))
 rw [pw_z (by omega) (by omega)] at e
 have hn:2 ^ (1023 + s + 51) = 2 ^ s * S := by
  obtain ⟨w,hw,eS⟩ := S_pow
  rw [eS,← Nat.pow_add]
  congr 1; omega
 rw [hn,Rat.intCast_natCast,Rat.natCast_mul] at e
 exact cancel_S e
theorem scale_k {r s:Nat} {c d:F} (hr:P ≤ r) (hc:c.k = (r:Int)) (hd:d.k = ((r + s * P:Nat):Int)) (hs:s ≤ 1000):d.q = c.q * (pwr (1023 + s)).q := by
 have e1 := F.q_mul c; have e2 := F.q_mul d
 have z1:c.z = (nv r:Int) := by unfold F.z; rw [hc,nvZ_natCast]
 have z2:d.z = ((nv r * 2 ^ s:Nat):Int) := by unfold F.z; rw [hd,nvZ_natCast,nv_shift hr]
 rw [z1] at e1
 rw [z2] at e2
 rw [pw_q hs]
 have hz:(((nv r * 2 ^ s:Nat):Int):Rat) = ((nv r:Int):Rat) * ((2 ^ s:Nat):Rat) := by
  rw [Rat.intCast_natCast,Rat.intCast_natCast,Rat.natCast_mul]
 rw [hz] at e2
 have s0 := S_gt
 generalize ((nv r:Int):Rat) = N at *
 generalize ((2 ^ s:Nat):Rat) = A at *
 generalize (S:Rat) = w at *
 have h1:(d.q - c.q * A) * w = 0 := by grind
 rcases Rat.mul_eq_zero.1 h1 with h2 | h2 <;> grind
theorem scale_up {c:F} {s a b:Nat} (ha:1 ≤ a) (ha2:a ≤ 2046) (hb:b + s ≤ 2046) (hs:s ≤ 1000) (h:Wn a b c.q):∃ d:F,d.q = c.q * (pwr (1023 + s)).q := by
 have l := q_le.1 h.lo
 have u := q_le.1 h.hi
 rw [pw_k ha2] at l
 rw [pw_k (by omega)] at u
 have hP := P_pos
 have h1:P ≤ a * P := Nat.le_mul_of_pos_left _ ha
 have h2:(b + s) * P ≤ 2046 * P := Nat.mul_le_mul_right _ hb
 rw [Nat.add_mul] at h2
 have hT := T_eq
 obtain ⟨r,hr⟩:∃ r:Nat,c.k = (r:Int) := ⟨c.k.toNat,by omega⟩
 exact ⟨F.of ((r + s * P:Nat):Int),scale_k (r := r) (by omega) hr (F.of_k (by omega)) hs⟩
theorem scale_dn {c:F} {s a b:Nat} (ha:s + 1 ≤ a) (ha2:a ≤ 2046) (hb:b ≤ 2046) (hs:s ≤ 1000) (h:Wn a b c.q):∃ d:F,c.q = d.q * (pwr (1023 + s)).q := by
 have l := q_le.1 h.lo
 have u := q_le.1 h.hi
 rw [pw_k ha2] at l
 rw [pw_k hb] at u
 have hP := P_pos
 have h1:(s + 1) * P ≤ a * P := Nat.mul_le_mul_right _ ha
 rw [Nat.add_mul,Nat.one_mul] at h1
 have h2:b * P ≤ 2046 * P := Nat.mul_le_mul_right _ hb
 have hT := T_eq
 obtain ⟨r,hr⟩:∃ r:Nat,c.k = ((r + s * P:Nat):Int) := ⟨c.k.toNat - s * P,by omega⟩
 exact ⟨F.of ((r:Nat):Int),scale_k (r := r) (by omega) (F.of_k (by omega)) hr hs⟩
theorem pw_one:(pwr 1023).q = 1 := by
 have h := pw_q (s := 0) (by omega)
 rw [Nat.add_zero,Nat.pow_zero] at h
 rw [h]; rfl
structure Pws (a b s:Nat):Prop where
 a0:s + 1 ≤ a
 ab:a ≤ b
 b1:b + s ≤ 2046
 s1:s ≤ 1000
theorem Pws.t1 {a b s:Nat} (h:Pws a b s):1 ≤ (pwr (1023 + s)).q := by
 rw [← pw_one]; exact pw_le (by omega) (by have := h.s1; omega)
theorem Pws.bt {a b s:Nat} (h:Pws a b s):(pwr b).q * (pwr (1023 + s)).q = (pwr (b + s)).q := by
 have h1 := h.a0; have h2 := h.ab; have h3 := h.b1; have h4 := h.s1
 exact pw_mul (by omega) (by omega) (by omega) (by omega) (by omega) (by omega) (by omega)
theorem mul_t {x y t:Rat} (h:x ≤ y) (ht:1 ≤ t):x * t ≤ y * t := Rat.mul_le_mul_of_nonneg_right h (by grind)
theorem le_t {x t:Rat} (h:0 ≤ x) (ht:1 ≤ t):x ≤ x * t := by
 have := Rat.mul_nonneg h (show 0 ≤ t - 1 by grind)
 grind
theorem of_mul_t {x y t:Rat} (h:x * t ≤ y * t) (ht:1 ≤ t):x ≤ y := Rat.le_of_mul_le_mul_right h (by grind)
theorem dn_z {r:F} {v:Rat} (h:Dn r v) (e:v = 0):r.q = 0 := by
 have a := h.le
 have b := h.top F.zero (by rw [q_zero,e]; exact Rat.le_refl)
 rw [q_zero] at b
 grind
theorem dn_sc {r r':F} {v:Rat} {a b s:Nat} (K:Pws a b s) (hv:v = 0 ∨ Wn a b v ∨ Wn a b (-v)) (h:Dn r v) (h':Dn r' (v * (pwr (1023 + s)).q)):r'.q = r.q * (pwr (1023 + s)).q := by
 have t1 := K.t1
 have bt := K.bt
 have h1 := K.a0; have h2 := K.ab; have h3 := K.b1; have h4 := K.s1
 have up := @scale_up r s a b (by omega) (by omega) (by omega) h4
 have upn := @scale_up r.neg s a b (by omega) (by omega) (by omega) h4
 have dn := @scale_dn r' s a (b + s) h1 (by omega) (by omega) h4
 have dnn := @scale_dn r'.neg s a (b + s) h1 (by omega) (by omega) h4
 have pa := pw_pos (a := a) (by omega) (by omega)
 have na := q_neg (pwr b); have nb := q_neg (pwr (b + s)); have nr := q_neg r; have nr' := q_neg r'
 clear K h1 h2 h3 h4
 generalize (pwr (1023 + s)).q = t at *
 have le := h.le; have le' := h'.le
 rcases hv with e | e | e
 ·rw [dn_z h e,dn_z h' (by rw [e]; grind)]; grind
 ·have l := e.lo; have u := e.hi
  have r0 := h.top (pwr a) l
  obtain ⟨d,hd⟩ := up ⟨r0,Rat.le_trans le u⟩
  have d1 := h'.top d (by rw [hd]; exact mul_t le t1)
  have r0':0 ≤ r.q := Rat.le_trans (Rat.le_of_lt pa) r0
  have lo:(pwr a).q ≤ r'.q := Rat.le_trans r0 (Rat.le_trans (le_t r0' t1) (hd ▸ d1))
  have hi:r'.q ≤ (pwr (b + s)).q := Rat.le_trans le' (bt ▸ mul_t u t1)
  obtain ⟨c,hc⟩ := dn ⟨lo,hi⟩
  have c1:c.q ≤ v := of_mul_t (hc ▸ le') t1
  have c3 := mul_t (h.top c c1) t1
  rw [← hc,← hd] at c3
  rw [← hd]
  exact Rat.le_antisymm c3 d1
 ·have l := e.lo; have u := e.hi
  have r0 := h.top (pwr b).neg (by rw [na]; grind)
  have r1:r.neg.q ≤ (pwr b).q := by rw [na] at r0; rw [nr]; grind
  have r2:(pwr a).q ≤ r.neg.q := by rw [nr]; grind
  obtain ⟨d,hd⟩ := upn ⟨r2,r1⟩
  have nd := q_neg d
  have hd':d.neg.q = r.q * t := by rw [nd,hd,nr]; grind
  have d1 := h'.top d.neg (by rw [hd']; exact mul_t le t1)
  have vb:-v * t ≤ (pwr (b + s)).q := bt ▸ mul_t u t1
  have r3 := h'.top (pwr (b + s)).neg (by rw [nb]; grind)
  have hi:r'.neg.q ≤ (pwr (b + s)).q := by rw [nb] at r3; rw [nr']; grind
  have va := le_t (show 0 ≤ -v from Rat.le_trans (Rat.le_of_lt pa) l) t1
  have lo:(pwr a).q ≤ r'.neg.q := by rw [nr']; grind
  obtain ⟨c,hc⟩ := dnn ⟨lo,hi⟩
  have nc := q_neg c
  have hc':r'.q = c.neg.q * t := by rw [nc]; rw [nr'] at hc; grind
  have c1:c.neg.q ≤ v := of_mul_t (hc' ▸ le') t1
  have c3 := mul_t (h.top c.neg c1) t1
  rw [← hc',← hd'] at c3
  rw [← hd']
  exact Rat.le_antisymm c3 d1
theorem Up.neg_ {r:F} {v:Rat} (h:Up r v):Dn r.neg (-v) := by
 have h1 := h.ge
 refine ⟨by rw [q_neg]; grind,fun c hc => ?_⟩
 have h2 := h.bot c.neg (by rw [q_neg]; grind)
 rw [q_neg] at h2 ⊢
 grind
theorem up_sc {r r':F} {v:Rat} {a b s:Nat} (K:Pws a b s) (hv:v = 0 ∨ Wn a b v ∨ Wn a b (-v)) (h:Up r v) (h':Up r' (v * (pwr (1023 + s)).q)):r'.q = r.q * (pwr (1023 + s)).q := by
 have k := h'.neg_
 rw [show -(v * (pwr (1023 + s)).q) = -v * (pwr (1023 + s)).q by grind] at k
 have e := dn_sc (v := -v) K (by
  rcases hv with e | e | e
  ·left; grind
  ·right; right; rw [Rat.neg_neg]; exact e
  ·right; left; exact e) h.neg_ k
 rw [q_neg,q_neg] at e
 generalize (pwr (1023 + s)).q = t at *
 grind
theorem sq_t {x t:Rat}:x * t * (x * t) = x * x * t * t := by grind
theorem sqd_sc {r r' x x':F} {a b e f s:Nat} (K:Pws a b s) (ha:2 * a ≤ e + 1023) (hb:f + 1023 ≤ 2 * b) (ha1:512 ≤ a) (hb1:b ≤ 1500) (he:e ≤ 2046) (he1:1 ≤ e) (hf:1 ≤ f) (hx:Wn e f x.q) (hx':x'.q = x.q * (pwr (1023 + s)).q * (pwr (1023 + s)).q) (h:SqD r x) (h':SqD r' x'):r'.q = r.q * (pwr (1023 + s)).q := by
 have t1 := K.t1
 have bt := K.bt
 have h1 := K.a0; have h2 := K.ab; have h3 := K.b1; have h4 := K.s1
 have up := @scale_up r s a b (by omega) (by omega) (by omega) h4
 have dn := @scale_dn r' s a (b + s) h1 (by omega) (by omega) h4
 have pa := pw_pos (a := a) (by omega) (by omega)
 have pb := pw_pos (a := b) (by omega) (by omega)
 have aa:(pwr a).q * (pwr a).q ≤ (pwr e).q := by
  rw [pw_mul (c := 2 * a - 1023) (by omega) (by omega) (by omega) (by omega) (by omega) (by omega) (by omega)]
  exact pw_le (by omega) he
 have bb:(pwr f).q ≤ (pwr b).q * (pwr b).q := by
  rw [pw_mul (a := b) (b := b) (c := 2 * b - 1023) (by omega) (by omega) (by omega) (by omega) (by omega) (by omega) (by omega)]
  exact pw_le (by omega) (by omega)
 clear K h1 h2 h3 h4 ha hb ha1 hb1 he he1 hf
 generalize (pwr (1023 + s)).q = t at *
 have l := hx.lo; have u := hx.hi
 have n := h.nn; have n' := h'.nn; have le := h.le; have le' := h'.le
 have r0 := h.top (pwr a) (Rat.le_of_lt pa) (Rat.le_trans aa l)
 have r1:r.q ≤ (pwr b).q := sq_le' n (Rat.le_of_lt pb) (Rat.le_trans le (Rat.le_trans u bb))
 obtain ⟨d,hd⟩ := up ⟨r0,r1⟩
 have rt0:0 ≤ r.q * t := Rat.mul_nonneg n (by grind)
 have d1 := h'.top d (by rw [hd]; exact rt0) (by rw [hd,hx',sq_t]; exact mul_t (mul_t le t1) t1)
 have bt0:0 ≤ (pwr b).q * t := Rat.mul_nonneg (Rat.le_of_lt pb) (by grind)
 have hi:r'.q ≤ (pwr (b + s)).q := by
  rw [← bt]
  refine sq_le' n' bt0 (Rat.le_trans le' ?_)
  rw [hx',sq_t]
  exact mul_t (mul_t (Rat.le_trans u bb) t1) t1
 have lo:(pwr a).q ≤ r'.q := Rat.le_trans r0 (Rat.le_trans (le_t n t1) (hd ▸ d1))
 obtain ⟨c,hc⟩ := dn ⟨lo,hi⟩
 have c0:0 ≤ c.q := of_mul_t (by rw [← hc]; grind) t1
 have c1:c.q * c.q ≤ x.q := by
  rw [hc,hx',sq_t] at le'
  exact of_mul_t (of_mul_t le' t1) t1
 have c3 := mul_t (h.top c c0 c1) t1
 rw [← hc,← hd] at c3
 rw [← hd]
 exact Rat.le_antisymm c3 d1
theorem squ_sc {r r' x x':F} {a b e f s:Nat} (K:Pws a b s) (ha:2 * a ≤ e + 1023) (hb:f + 1023 ≤ 2 * b) (ha1:512 ≤ a) (hb1:b ≤ 1500) (he:e ≤ 2046) (he1:1 ≤ e) (hf:1 ≤ f) (hx:Wn e f x.q) (hx':x'.q = x.q * (pwr (1023 + s)).q * (pwr (1023 + s)).q) (h:SqU r x) (h':SqU r' x'):r'.q = r.q * (pwr (1023 + s)).q := by
 have t1 := K.t1
 have bt := K.bt
 have h1 := K.a0; have h2 := K.ab; have h3 := K.b1; have h4 := K.s1
 have up := @scale_up r s a b (by omega) (by omega) (by omega) h4
 have dn := @scale_dn r' s a (b + s) h1 (by omega) (by omega) h4
 have pa := pw_pos (a := a) (by omega) (by omega)
 have pb := pw_pos (a := b) (by omega) (by omega)
 have aa:(pwr a).q * (pwr a).q ≤ (pwr e).q := by
  rw [pw_mul (c := 2 * a - 1023) (by omega) (by omega) (by omega) (by omega) (by omega) (by omega) (by omega)]
  exact pw_le (by omega) he
 have bb:(pwr f).q ≤ (pwr b).q * (pwr b).q := by
  rw [pw_mul (a := b) (b := b) (c := 2 * b - 1023) (by omega) (by omega) (by omega) (by omega) (by omega) (by omega) (by omega)]
  exact pw_le (by omega) (by omega)
 clear K h1 h2 h3 h4 ha hb ha1 hb1 he he1 hf
 generalize (pwr (1023 + s)).q = t at *
 have l := hx.lo; have u := hx.hi
 have n := h.nn; have n' := h'.nn; have ge := h.ge; have ge' := h'.ge
 have r1 := h.bot (pwr b) (Rat.le_of_lt pb) (Rat.le_trans u bb)
 have r0:(pwr a).q ≤ r.q := sq_le' (Rat.le_of_lt pa) n (Rat.le_trans aa (Rat.le_trans l ge))
 obtain ⟨d,hd⟩ := up ⟨r0,r1⟩
 have rt0:0 ≤ r.q * t := Rat.mul_nonneg n (by grind)
 have d1 := h'.bot d (by rw [hd]; exact rt0) (by rw [hd,hx',sq_t]; exact mul_t (mul_t ge t1) t1)
 have at0:0 ≤ (pwr a).q * t := Rat.mul_nonneg (Rat.le_of_lt pa) (by grind)
 have lo:(pwr a).q ≤ r'.q := by
  refine Rat.le_trans (le_t (Rat.le_of_lt pa) t1) (sq_le' at0 n' (Rat.le_trans ?_ ge'))
  rw [hx',sq_t]
  exact mul_t (mul_t (Rat.le_trans aa l) t1) t1
 have hi:r'.q ≤ (pwr (b + s)).q := Rat.le_trans d1 (by rw [hd,← bt]; exact mul_t r1 t1)
 obtain ⟨c,hc⟩ := dn ⟨lo,hi⟩
 have c0:0 ≤ c.q := of_mul_t (by rw [← hc]; grind) t1
 have c1:x.q ≤ c.q * c.q := by
  rw [hc,hx',sq_t] at ge'
  exact of_mul_t (of_mul_t ge' t1) t1
 have c3 := mul_t (h.bot c c0 c1) t1
 rw [← hc,← hd] at c3
 rw [← hd]
 exact Rat.le_antisymm d1 c3
def W0 (a b:Nat) (v:Rat):Prop := v = 0 ∨ Wn a b v
def Wz (a b:Nat) (v:Rat):Prop := v = 0 ∨ Wn a b v ∨ Wn a b (-v)
theorem W0.z {a b:Nat} {v:Rat} (h:W0 a b v):Wz a b v := by
 rcases h with h | h
 ·exact .inl h
 ·exact .inr (.inl h)
theorem pw_dbl {b:Nat} (h0:1 ≤ b) (h:b + 1 ≤ 2046):(pwr b).q + (pwr b).q = (pwr (b + 1)).q := by
 have h2 := pw_q (s := 1) (by omega)
 have e := pw_mul (a := b) (b := 1023 + 1) (c := b + 1) h0 (by omega) (by omega) (by omega) (by omega) h (by omega)
 rw [h2] at e
 have e2:((2 ^ 1:Nat):Rat) = 2 := rfl
 rw [e2] at e
 grind
theorem W0.add {a b:Nat} {u v:Rat} (ha:1 ≤ a) (ha2:a ≤ 2046) (hb0:1 ≤ b) (hb:b + 1 ≤ 2046) (h:W0 a b u) (k:W0 a b v):W0 a (b + 1) (u + v) := by
 have e := pw_dbl hb0 hb
 have p := pw_pos ha ha2
 have q := pw_pos hb0 (show b ≤ 2046 by omega)
 rcases h with h | h <;> rcases k with k | k
 ·left; grind
 ·right; have l := k.lo; have u := k.hi; exact ⟨by grind,by grind⟩
 ·right; have l := h.lo; have u := h.hi; exact ⟨by grind,by grind⟩
 ·right; have l := h.lo; have u := h.hi; have l' := k.lo; have u' := k.hi; exact ⟨by grind,by grind⟩
theorem W0.nn {a b:Nat} {v:Rat} (ha:1 ≤ a) (ha2:a ≤ 2046) (h:W0 a b v):0 ≤ v := by
 rcases h with h | h
 ·grind
 ·have := h.lo; have := pw_pos ha ha2; grind
theorem W0.le {a b:Nat} {v:Rat} (hb:1 ≤ b) (hb2:b ≤ 2046) (h:W0 a b v):v ≤ (pwr b).q := by
 rcases h with h | h
 ·have := pw_pos hb hb2; grind
 ·exact h.hi
theorem dn_w {r:F} {v:Rat} {a b:Nat} (hv:W0 a b v) (h:Dn r v):W0 a b r.q := by
 rcases hv with e | e
 ·left; exact (dn_eq h F.zero (by rw [q_zero,e])).trans e
 ·right; have := h.le; have := e.hi; exact ⟨h.top _ e.lo,by grind⟩
theorem up_w {r:F} {v:Rat} {a b:Nat} (hv:W0 a b v) (h:Up r v):W0 a b r.q := by
 rcases hv with e | e
 ·left; exact (up_eq h F.zero (by rw [q_zero,e])).trans e
 ·right; have := h.ge; have := e.lo; exact ⟨by grind,h.bot _ e.hi⟩
theorem sqr_w {x:F} {a b a' b':Nat} (ha:1 ≤ a) (ha2:a ≤ 2046) (hb:1 ≤ b) (hb2:b ≤ 2046) (ha':1 ≤ a') (ha2':a' ≤ 2046) (hb':1 ≤ b') (hb2':b' ≤ 2046) (ea:a + a = a' + 1023) (eb:b + b = b' + 1023) (h:Wz a b x.q):W0 a' b' (x.q * x.q) := by
 have e1 := pw_mul ha ha2 ha ha2 ha' ha2' ea
 have e2 := pw_mul hb hb2 hb hb2 hb' hb2' eb
 have p := pw_pos ha ha2
 rcases h with h | h | h
 ·left; rw [h]; grind
 ·right
  have l := h.lo; have u := h.hi
  have m1 := Rat.mul_nonneg (show 0 ≤ x.q - (pwr a).q by grind) (show 0 ≤ x.q + (pwr a).q by grind)
  have m2 := Rat.mul_nonneg (show 0 ≤ (pwr b).q - x.q by grind) (show 0 ≤ x.q + (pwr b).q by grind)
  exact ⟨by grind,by grind⟩
 ·right
  have l := h.lo; have u := h.hi
  have m1 := Rat.mul_nonneg (show 0 ≤ -x.q - (pwr a).q by grind) (show 0 ≤ -x.q + (pwr a).q by grind)
  have m2 := Rat.mul_nonneg (show 0 ≤ (pwr b).q + x.q by grind) (show 0 ≤ -x.q + (pwr b).q by grind)
  exact ⟨by grind,by grind⟩
theorem sqr_mk {x:F} {b:Nat} (h:x.q * x.q ≤ (pwr b).q):∃ r,cSqr dMul 0 (pt x) = (r,0) ∧ Dn r.lo (x.q * x.q) ∧ Up r.hi (x.q * x.q) := by
 obtain ⟨p1,p2⟩ := bare_pt x
 have d := dMul_RD (bareI (pt x)).lo (bareI (pt x)).lo
 have u := dMul_RU (bareI (pt x)).hi (bareI (pt x)).hi
 rw [p1] at d
 rw [p2] at u
 have e1 := (d.has (c := F.zero) (by rw [q_zero]; exact sq_nn _)).1
 have e2 := (u.has (c := pwr b) h).1
 refine ⟨⟨_,_⟩,?_,d.ok e1,u.ok e2⟩
 unfold cSqr
 rw [ends_mk e1 e2,ask_mk (show rt (pt x) = true from decide_eq_true (Int.le_refl _)) rfl]
theorem add_mk {a b:I} {c d:F} (ra:rt a = true) (rb:rt b = true) (h1:c.q ≤ a.lo.q + b.lo.q) (h2:a.hi.q + b.hi.q ≤ d.q):∃ r,cAdd dAdd 0 a b = (r,0) ∧ Dn r.lo (a.lo.q + b.lo.q) ∧ Up r.hi (a.hi.q + b.hi.q) := by
 have d' := dAdd_RD a.lo b.lo
 have u := dAdd_RU a.hi b.hi
 have e1 := (d'.has h1).1
 have e2 := (u.has h2).1
 refine ⟨⟨_,_⟩,?_,d'.ok e1,u.ok e2⟩
 unfold cAdd
 rw [ends_mk e1 e2,ask_mk (by rw [ra,rb]; rfl) rfl]
theorem quot_w {x n:Rat} {b c d:Nat} (hc:1 ≤ c) (hc2:c ≤ 2046) (hd:1 ≤ d) (hd2:d ≤ 2046) (hb:1 ≤ b) (hb2:b ≤ 2046) (e:c + d = b + 1023) (h1:-(pwr b).q ≤ x) (h2:x ≤ (pwr b).q) (hn:(pwr c).q ≤ n):-(pwr d).q ≤ x / n ∧ x / n ≤ (pwr d).q := by
 have p := pw_pos hc hc2
 have q := pw_pos hd hd2
 have m := pw_mul hc hc2 hd hd2 hb hb2 e
 exact quot_bd p hn (by grind) (by grind) (by grind)
theorem div_w {x:F} {n:I} {b c d:Nat} (hc:1 ≤ c) (hc2:c ≤ 2046) (hd:1 ≤ d) (hd2:d ≤ 2046) (hb:1 ≤ b) (hb2:b ≤ 2046) (e:c + d = b + 1023) (h1:-(pwr b).q ≤ x.q) (h2:x.q ≤ (pwr b).q) (rn:rt n = true) (hn:(pwr c).q ≤ n.lo.q) :
  ∃ r,cDiv pDiv 0 (pt x) n = (r,0) ∧ AllR r (x.q / n.lo.q) (x.q / n.hi.q) (x.q / n.lo.q) (x.q / n.hi.q) := by
 have p := pw_pos hc hc2
 have ln := rt_le rn
 have z:hasB n F.zero = false := by
  unfold hasB
  rw [rn,Bool.true_and,Bool.and_eq_false_iff,decide_eq_false_iff_not,decide_eq_false_iff_not]
  left; intro k; have := q_le.2 k; rw [q_zero] at this; grind
 have q1 := quot_w hc hc2 hd hd2 hb hb2 e h1 h2 hn
 have q2 := quot_w hc hc2 hd hd2 hb hb2 e h1 h2 (show (pwr c).q ≤ n.hi.q by grind)
 have nd := q_neg (pwr d)
 obtain ⟨r,e1,hr,_⟩ := all_has (div_four (a := pt x) rn z) (c := (pwr d).neg) (d := pwr d) (by rw [nd]; exact q1.1) (by rw [nd]; exact q2.1) (by rw [nd]; exact q1.1) (by rw [nd]; exact q2.1) q1.2 q2.2 q1.2 q2.2
 refine ⟨r,?_,hr⟩
 unfold cDiv
 rw [z,cond_false,e1,ask_mk (show (rt (pt x) && rt n) = true by rw [rn,show rt (pt x) = true from decide_eq_true (Int.le_refl _)]; rfl) rfl]
theorem allR_same {r r':I} {p q s t:Rat} (h:AllR r p q s t) (k:AllR r' p q s t):r = r' := by
 have l1:r.lo.q ≤ r'.lo.q := k.top (c := r.lo) h.lo.1 h.lo.2.1 h.lo.2.2.1 h.lo.2.2.2
 have l2:r'.lo.q ≤ r.lo.q := h.top (c := r'.lo) k.lo.1 k.lo.2.1 k.lo.2.2.1 k.lo.2.2.2
 have u1:r.hi.q ≤ r'.hi.q := h.bot (c := r'.hi) k.hi.1 k.hi.2.1 k.hi.2.2.1 k.hi.2.2.2
 have u2:r'.hi.q ≤ r.hi.q := k.bot (c := r.hi) h.hi.1 h.hi.2.1 h.hi.2.2.1 h.hi.2.2.2
 exact I.one (F.ext' (Int.le_antisymm (q_le.1 l1) (q_le.1 l2))) (F.ext' (Int.le_antisymm (q_le.1 u1) (q_le.1 u2)))
structure UnL (x y z:F) (qx qy s1 qz s2 nn dx dy dz:I):Prop where
 e:unE KkR x y z = ([withI dz,dz,withI dy,dy,withI dx,dx,nn,s2,qz,s1,qy,qx,pt z,pt y,pt x],0)
 fx:Dn qx.lo (x.q * x.q) ∧ Up qx.hi (x.q * x.q)
 fy:Dn qy.lo (y.q * y.q) ∧ Up qy.hi (y.q * y.q)
 fz:Dn qz.lo (z.q * z.q) ∧ Up qz.hi (z.q * z.q)
 fs:Dn s1.lo (qx.lo.q + qy.lo.q) ∧ Up s1.hi (qx.hi.q + qy.hi.q)
 ft:Dn s2.lo (s1.lo.q + qz.lo.q) ∧ Up s2.hi (s1.hi.q + qz.hi.q)
 fn:SqD nn.lo s2.lo ∧ SqU nn.hi s2.hi
 dx:AllR dx (x.q / nn.lo.q) (x.q / nn.hi.q) (x.q / nn.lo.q) (x.q / nn.hi.q)
 dy:AllR dy (y.q / nn.lo.q) (y.q / nn.hi.q) (y.q / nn.lo.q) (y.q / nn.hi.q)
 dz:AllR dz (z.q / nn.lo.q) (z.q / nn.hi.q) (z.q / nn.lo.q) (z.q / nn.hi.q)
 wx:W0 915 1063 (x.q * x.q)
 wy:W0 915 1063 (y.q * y.q)
 ws:W0 915 1064 (qx.lo.q + qy.lo.q) ∧ W0 915 1064 (qx.hi.q + qy.hi.q)
 wz:W0 915 1063 (z.q * z.q)
 wt:Wn 915 1065 (s1.lo.q + qz.lo.q) ∧ Wn 915 1065 (s1.hi.q + qz.hi.q)
 w2:Wn 915 1065 s2.lo.q ∧ Wn 915 1065 s2.hi.q
 wn:0 < nn.lo.q ∧ 0 < nn.hi.q
theorem Wz.abs {a b:Nat} {v:Rat} (hb:1 ≤ b) (hb2:b ≤ 2046) (ha:1 ≤ a) (ha2:a ≤ 2046) (h:Wz a b v):-(pwr b).q ≤ v ∧ v ≤ (pwr b).q := by
 have p := pw_pos hb hb2
 have q := pw_pos ha ha2
 rcases h with h | h | h
 ·constructor <;> grind
 ·have := h.lo; have := h.hi; constructor <;> grind
 ·have := h.lo; have := h.hi; constructor <;> grind
theorem un_list {x y z:F} (hx:Wz 969 1043 x.q) (hy:Wz 969 1043 y.q) (hz:Wn 969 1043 z.q):∃ qx qy s1 qz s2 nn dx dy dz,UnL x y z qx qy s1 qz s2 nn dx dy dz := by
 have wx:W0 915 1063 (x.q * x.q) := sqr_w (by omega) (by omega) (by omega) (by omega) (by omega) (by omega) (by omega) (by omega) rfl rfl hx
 have wy:W0 915 1063 (y.q * y.q) := sqr_w (by omega) (by omega) (by omega) (by omega) (by omega) (by omega) (by omega) (by omega) rfl rfl hy
 have wz:W0 915 1063 (z.q * z.q) := sqr_w (by omega) (by omega) (by omega) (by omega) (by omega) (by omega) (by omega) (by omega) rfl rfl (.inr (.inl hz))
 have pp:∀ e:Nat,1 ≤ e → e ≤ 2046 → 0 < (pwr e).q := fun e h k => pw_pos h k
 have p915 := pp 915 (by omega) (by omega)
 have p969 := pp 969 (by omega) (by omega)
 obtain ⟨qx,e1,d1,u1⟩ := sqr_mk (wx.le (by omega) (by omega))
 obtain ⟨qy,e2,d2,u2⟩ := sqr_mk (wy.le (by omega) (by omega))
 obtain ⟨qz,e4,d4,u4⟩ := sqr_mk (wz.le (by omega) (by omega))
 have a1 := dn_w wx d1; have b1 := up_w wx u1
 have a2 := dn_w wy d2; have b2 := up_w wy u2
 have a4 := dn_w wz d4; have b4 := up_w wz u4
 have r1:rt qx = true := rt_q (by have := d1.le; have := u1.ge; grind)
 have r2:rt qy = true := rt_q (by have := d2.le; have := u2.ge; grind)
 have r4:rt qz = true := rt_q (by have := d4.le; have := u4.ge; grind)
 have l1 := rt_le r1; have l2 := rt_le r2; have l4 := rt_le r4
 have ws1 := W0.add (by omega) (by omega) (by omega) (by omega) a1 a2
 have ws2 := W0.add (by omega) (by omega) (by omega) (by omega) b1 b2
 obtain ⟨s1,e3,d3,u3⟩ := add_mk (c := F.zero) (d := pwr 1064) r1 r2 (by rw [q_zero]; exact ws1.nn (by omega) (by omega)) (ws2.le (by omega) (by omega))
 have a3 := dn_w ws1 d3; have b3 := up_w ws2 u3
 have r3:rt s1 = true := rt_q (by have := d3.le; have := u3.ge; grind)
 have l3 := rt_le r3
 have up:∀ {a b c:Nat} {v:Rat},b ≤ c → c ≤ 2046 → W0 a b v → W0 a c v := by
  intro a b c v h1 h2 h
  rcases h with h | h
  ·exact .inl h
  ·exact .inr ⟨h.lo,Rat.le_trans h.hi (pw_le h1 h2)⟩
 have wt1' := W0.add (by omega) (by omega) (by omega) (by omega) a3 (up (by omega) (by omega) a4:W0 915 1064 qz.lo.q)
 have wt2' := W0.add (by omega) (by omega) (by omega) (by omega) b3 (up (by omega) (by omega) b4:W0 915 1064 qz.hi.q)
 have zz:(pwr 915).q ≤ z.q * z.q := by
  rcases wz with h | h
  ·have := hz.lo
   have := Rat.mul_pos (show 0 < z.q by grind) (show 0 < z.q by grind)
   grind
  ·exact h.lo
 have zlo:(pwr 915).q ≤ qz.lo.q := d4.top _ zz
 have a3n := a3.nn (by omega) (by omega)
 have b3n := b3.nn (by omega) (by omega)
 have wt1:Wn 915 1065 (s1.lo.q + qz.lo.q) := ⟨by grind,wt1'.le (by omega) (by omega)⟩
 have wt2:Wn 915 1065 (s1.hi.q + qz.hi.q) := ⟨by grind,wt2'.le (by omega) (by omega)⟩
 obtain ⟨s2,e5,d5,u5⟩ := add_mk (c := F.zero) (d := pwr 1065) r3 r4 (by rw [q_zero]; grind) wt2.hi
 have w21:Wn 915 1065 s2.lo.q := ⟨d5.top _ wt1.lo,by have := d5.le; have := wt1.hi; grind⟩
 have w22:Wn 915 1065 s2.hi.q := ⟨by have := u5.ge; have := wt2.lo; grind,u5.bot _ wt2.hi⟩
 have r5:rt s2 = true := rt_q (by have := d5.le; have := u5.ge; grind)
 have s2n:0 ≤ s2.lo.q := by have := w21.lo; grind
 obtain ⟨nn,e6,r6,d6,u6⟩ := sqrt_mk r5 s2n
 have m := pw_mul (a := 969) (b := 969) (c := 915) (by omega) (by omega) (by omega) (by omega) (by omega) (by omega) rfl
 have nlo:(pwr 969).q ≤ nn.lo.q := d6.top _ (by grind) (by have := w21.lo; grind)
 have l6 := rt_le r6
 obtain ⟨x1,x2⟩ := hx.abs (by omega) (by omega) (by omega) (by omega)
 obtain ⟨y1,y2⟩ := hy.abs (by omega) (by omega) (by omega) (by omega)
 have z1 := hz.lo
 have z2 := hz.hi
 have p1043 := pp 1043 (by omega) (by omega)
 obtain ⟨dx,e7,h7⟩ := div_w (b := 1043) (c := 969) (d := 1097) (by omega) (by omega) (by omega) (by omega) (by omega) (by omega) rfl x1 x2 r6 nlo
 obtain ⟨dy,e8,h8⟩ := div_w (b := 1043) (c := 969) (d := 1097) (by omega) (by omega) (by omega) (by omega) (by omega) (by omega) rfl y1 y2 r6 nlo
 obtain ⟨dz,e9,h9⟩ := div_w (b := 1043) (c := 969) (d := 1097) (by omega) (by omega) (by omega) (by omega) (by omega) (by omega) rfl (by grind) z2 r6 nlo
 refine ⟨qx,qy,s1,qz,s2,nn,dx,dy,dz,?_,⟨d1,u1⟩,⟨d2,u2⟩,⟨d4,u4⟩,⟨d3,u3⟩,⟨d5,u5⟩,⟨d6,u6⟩,h7,h8,h9,wx,wy,⟨ws1,ws2⟩,wz,⟨wt1,wt2⟩,⟨w21,w22⟩,by grind,by grind⟩
 unfold unE unP
 refine (eval_cons (r := pt x) (e' := 0) ?_).trans ?_
 ·exact rfl
 refine (eval_cons (r := pt y) (e' := 0) ?_).trans ?_
 ·exact rfl
 refine (eval_cons (r := pt z) (e' := 0) ?_).trans ?_
 ·exact rfl
 refine (eval_cons (r := qx) (e' := 0) ?_).trans ?_
 ·exact e1
 refine (eval_cons (r := qy) (e' := 0) ?_).trans ?_
 ·exact e2
 refine (eval_cons (r := s1) (e' := 0) ?_).trans ?_
 ·exact e3
 refine (eval_cons (r := qz) (e' := 0) ?_).trans ?_
 ·exact e4
 refine (eval_cons (r := s2) (e' := 0) ?_).trans ?_
 ·exact e5
 refine (eval_cons (r := nn) (e' := 0) ?_).trans ?_
 ·exact e6
 refine (eval_cons (r := dx) (e' := 0) ?_).trans ?_
 ·exact e7
 refine (eval_cons (r := withI dx) (e' := 0) ?_).trans ?_
 ·exact rfl
 refine (eval_cons (r := dy) (e' := 0) ?_).trans ?_
 ·exact e8
 refine (eval_cons (r := withI dy) (e' := 0) ?_).trans ?_
 ·exact rfl
 refine (eval_cons (r := dz) (e' := 0) ?_).trans ?_
 ·exact e9
 refine (eval_cons (r := withI dz) (e' := 0) ?_).trans ?_
 ·exact rfl
 rfl
theorem un_scale {x y z x' y' z':F} {s:Nat} (hs:s ≤ 40) (hx:Wz 969 1043 x.q) (hy:Wz 969 1043 y.q) (hz:Wn 969 1043 z.q) (hx':Wz 969 1043 x'.q) (hy':Wz 969 1043 y'.q) (hz':Wn 969 1043 z'.q)
  (ex:x'.q = x.q * (pwr (1023 + s)).q) (ey:y'.q = y.q * (pwr (1023 + s)).q) (ez:z'.q = z.q * (pwr (1023 + s)).q):unV KkR x' y' z' = unV KkR x y z := by
 obtain ⟨qx,qy,s1,qz,s2,nn,dx,dy,dz,A⟩ := un_list hx hy hz
 obtain ⟨qx',qy',s1',qz',s2',nn',dx',dy',dz',B⟩ := un_list hx' hy' hz'
 have tt := pw_mul (a := 1023 + s) (b := 1023 + s) (c := 1023 + (s + s)) (by omega) (by omega) (by omega) (by omega) (by omega) (by omega) (by omega)
 have K1:Pws 915 1063 (s + s) := ⟨by omega,by omega,by omega,by omega⟩
 have K2:Pws 915 1064 (s + s) := ⟨by omega,by omega,by omega,by omega⟩
 have K3:Pws 915 1065 (s + s) := ⟨by omega,by omega,by omega,by omega⟩
 have K4:Pws 969 1044 s := ⟨by omega,by omega,by omega,by omega⟩
 have t1 := K4.t1
 have sq:∀ {u u':F},u'.q = u.q * (pwr (1023 + s)).q → u'.q * u'.q = u.q * u.q * (pwr (1023 + (s + s))).q := by
  intro u u' h
  rw [h,← tt]; grind
 have bx := B.fx; rw [sq ex] at bx
 have by_ := B.fy; rw [sq ey] at by_
 have bz := B.fz; rw [sq ez] at bz
 have x0 := dn_sc K1 A.wx.z A.fx.1 bx.1
 have x1 := up_sc K1 A.wx.z A.fx.2 bx.2
 have y0 := dn_sc K1 A.wy.z A.fy.1 by_.1
 have y1 := up_sc K1 A.wy.z A.fy.2 by_.2
 have z0 := dn_sc K1 A.wz.z A.fz.1 bz.1
 have z1 := up_sc K1 A.wz.z A.fz.2 bz.2
 have bs := B.fs
 rw [x0,x1,y0,y1,← Rat.add_mul,← Rat.add_mul] at bs
 have s0 := dn_sc K2 A.ws.1.z A.fs.1 bs.1
 have s1' := up_sc K2 A.ws.2.z A.fs.2 bs.2
 have bt := B.ft
 rw [s0,s1',z0,z1,← Rat.add_mul,← Rat.add_mul] at bt
 have t0 := dn_sc K3 (.inr (.inl A.wt.1)) A.ft.1 bt.1
 have t1' := up_sc K3 (.inr (.inl A.wt.2)) A.ft.2 bt.2
 rw [← tt,← Rat.mul_assoc] at t0 t1'
 have n0 := sqd_sc (e := 915) (f := 1065) K4 (by omega) (by omega) (by omega) (by omega) (by omega) (by omega) (by omega) A.w2.1 t0 A.fn.1 B.fn.1
 have n1 := squ_sc (e := 915) (f := 1065) K4 (by omega) (by omega) (by omega) (by omega) (by omega) (by omega) (by omega) A.w2.2 t1' A.fn.2 B.fn.2
 have wn := A.wn
 have quo:∀ {u n:Rat},0 < n → u * (pwr (1023 + s)).q / (n * (pwr (1023 + s)).q) = u / n := by
  intro u n hn
  generalize (pwr (1023 + s)).q = t at *
  have h1:u * t / (n * t) * (n * t) = u * t := Rat.div_mul_cancel (by have := Rat.mul_pos hn (show 0 < t by grind); grind)
  have h2:u / n * n = u := Rat.div_mul_cancel (by grind)
  generalize u * t / (n * t) = a at *
  generalize u / n = b at *
  have h3:(a - b) * (n * t) = 0 := by grind
  rcases Rat.mul_eq_zero.1 h3 with h4 | h4
  ·grind
  ·have := Rat.mul_pos hn (show 0 < t by grind); grind
 have eq:∀ {u u':F} {d d':I},u'.q = u.q * (pwr (1023 + s)).q → AllR d (u.q / nn.lo.q) (u.q / nn.hi.q) (u.q / nn.lo.q) (u.q / nn.hi.q) → AllR d' (u'.q / nn'.lo.q) (u'.q / nn'.hi.q) (u'.q / nn'.lo.q) (u'.q / nn'.hi.q) → d' = d := by
  intro u u' d d' h k k'
  rw [h,n0,n1,quo wn.1,quo wn.2] at k'
  exact allR_same k' k
 have d1 := eq ex A.dx B.dx
 have d2 := eq ey A.dy B.dy
 have d3 := eq ez A.dz B.dz
 have v1:unV KkR x y z = ⟨withI dx,withI dy,withI dz⟩ := by unfold unV; rw [A.e]; rfl
 have v2:unV KkR x' y' z' = ⟨withI dx',withI dy',withI dz'⟩ := by unfold unV; rw [B.e]; rfl
 rw [v1,v2,d1,d2,d3]
end Bu
