/- What the rows of these laws ask behind a call whose arguments are plain words and whose .. -/
import Derived.Test.YtejcekikbnlllaaGreatRows
import Derived.WalkKit
import Derived.ProofKit
import Derived.OpenShut
import Derived.Laws.Cover2
import Derived.ChangeSame
import Derived.Deep.Strs
import Ieee.Arith
import Derived.Laws.BitsAll
import Derived.Lib.ItoaNum
import Derived.RowKit
import Derived.Laws.BitsLemmas
set_option linter.all false
namespace Go.Proofs.YtejcekikbnlllaaGreat
open Go.ChangeShapes Go.WideShapes Go.ChangeAt Go.RowKit
theorem Tryz.own:ownKnob Tryz.prog.godebug = none := by kernel_rfl
section
variable {H:Type} {enc:TypeId × Value → H} {P:Program}
theorem post_scalar {f:Func} {s:ChangeSpec} {apart fresh handsOn again:Bool} {W W':World} {args:Array Value} {v:Value} {ds gs:List (DataW H)}
  (hW:DataW.Whole enc P f.params.toList s.vars apart W args.toList ds gs [])
  (hres:∀ (b:Nat) (sp:Nat → Bool) (hd:Bool),DataW.TrodAll enc P W' b sp hd f.resultTypes.toList (v.resultList f.resultTypes.size) (s.fn H (ds ++ gs)).results [])
  (hargs:∀ sp:Nat → Bool,DataW.TrodAll enc P W' 0 sp true f.params.toList args.toList (s.fn H (ds ++ gs)).args [])
  (hvars:∀ sp:Nat → Bool,DataW.TrodVars enc P W' sp s.vars (s.fn H (ds ++ gs)).vars [])
  (hb:Below W.heap.size W W')
  (hok:∀ (j:Nat) (t:TypeId) (r:Value),f.resultTypes[j]? = some t → (v.resultList f.resultTypes.size)[j]? = some r → Value.okWide P W' .any 0 t r) :
  s.post enc P f apart fresh handsOn again W args v W' := by
 refine ⟨ds,gs,[],[],[],[],hW,hres _ _ _,hargs _,hvars _,World.keptBut_mono (fun p hp => ⟨hp,?_⟩) (hb.frame (· ∈ [])),fun _ => ?_⟩
 ·cases hp
 ·refine ⟨hok,_,_,([] ++ []) ++ [],⟨[] ++ [],[],trodAll_append (hargs _) (hres _ _ _),hvars _,rfl,?_,?_⟩,?_⟩
  ·intro b off hp
   cases hp
  ·intro ha
   simp
  ·intro p hp _
   cases hp
end
end Go.Proofs.YtejcekikbnlllaaGreat
namespace Go.Proofs.YtejcekikbnlllaaGreat
open Go.ChangeShapes Go.WideShapes Go.ChangeAt Go.RowKit Go.Deep
section
variable {H:Type} {enc:TypeId × Value → H} {P:Program} {w:World} {base:Nat} {spare:Nat → Bool} {held:Bool}
end
section
variable {H:Type} {enc:TypeId × Value → H} {P:Program} {w:World} {base:Nat} {spare:Nat → Bool} {held:Bool}
structure ArrT (P:Program) (t e:TypeId) (n:Nat) (k:IntKind):Prop where
 ar:P.underlying t = some (.array n e)
 el:P.underlying e = some (.int k)
 ct:P.cellsOf t = n
 ce:P.cellsOf e = 1
theorem okWide_array {t e:TypeId} {n:Nat} {r:Reach} {b0:Nat} {v:Value} (ht:P.underlying t = some (.array n e)) (h:Value.okWide P w r b0 t v):∃ cs,v = .agg cs := by
 simp only [Value.okWide,ht] at h
 obtain ⟨cs,h1,_⟩ := h
 exact ⟨cs,h1⟩
theorem ints_of {k:IntKind} {f:DataW H → DataW H}:∀ {cs:List Value} {xs:List (DataW H × List MemPlace)},cs.length = xs.length →
  (∀ i:Nat,i < xs.length → ∃ n,(cs.drop i).take 1 = [.int k n] ∧ xs[i]? = some (.lit (.int k n),[]) ∧ (Lit.int k n).wf = true) →
  ∃ ns:List Int,ns.length = xs.length ∧ cs = ns.map (.int k) ∧ xs = ns.map (fun a => (DataW.lit (.int k a),[])) ∧ ∀ a ∈ ns,(Lit.int k a).wf = true
 | [],[],_,_ => ⟨[],rfl,rfl,rfl,by simp⟩
 | c :: cs, x :: xs, hl, h => by
   obtain ⟨n,h1,h2,h3⟩ := h 0 (by simp)
   simp at h1 h2
   obtain ⟨ns,g1,g2,g3,g4⟩ := ints_of (f := f) (cs := cs) (xs := xs) (by simpa using hl) fun i hi => by
    obtain ⟨m,k1,k2,k3⟩ := h (i + 1) (by simpa using hi)
    exact ⟨m,by simpa using k1,by simpa using k2,k3⟩
   refine ⟨n :: ns,by simp [g1],by simp [h1,g2],by simp [h2,g3],?_⟩
   intro a ha
   rcases List.mem_cons.1 ha with rfl | ha
   ·exact h3
   ·exact g4 a ha
theorem open_arr {t e:TypeId} {n:Nat} {k:IntKind} (hT:ArrT P t e n k) {r:Reach} {b0:Nat} {v:Value} {d:DataW H} {ps:List MemPlace} (hval:Value.okWide P w r b0 t v) (hd:DataW.Trod enc P w base spare held t v d ps) :
  ∃ ns:List Int,ns.length = n ∧ v = .agg (ns.map (.int k)).toArray ∧ d = .agg (ns.map fun a => .lit (.int k a)) ∧ ps = [] ∧ ∀ a ∈ ns,(Lit.int k a).wf = true := by
 obtain ⟨cs,rfl⟩ := okWide_array hT.ar hval
 obtain ⟨fuel,hf⟩ := hd
 obtain ⟨xs,m,_,hx,hl,hn,he⟩ := DataW.trod_array hT.ar hf
 rw [hT.ct] at hl
 have hcs:(Value.agg cs).cells.toList = cs.toList := rfl
 obtain ⟨ns,g1,g2,g3,g4⟩ := ints_of (k := k) (f := id) (cs := (Value.agg cs).cells.toList) (xs := xs) (by rw [hl,hn]) fun i hi => by
  have h := he i (by omega)
  rw [hT.ce,Nat.mul_one] at h
  obtain ⟨x,hx2⟩:∃ x,xs[i]? = some x := ⟨xs[i],List.getElem?_eq_getElem hi⟩
  rw [hx2] at h
  obtain ⟨a,c1,c2,c3⟩ := DataW.trod_int hT.el h
  exact ⟨a,c1,by rw [hx2,c2],c3⟩
 simp only [Prod.mk.injEq] at hx
 refine ⟨ns,by rw [g1,hn],?_,?_,?_,g4⟩
 ·congr 1
  apply Array.ext'
  rw [← hcs,g2]
 ·rw [hx.1,g3,List.map_map]; rfl
 ·rw [hx.2,g3]
  clear g2 g3 g4 g1
  induction ns with
  | nil => rfl
  | cons a l ih => simpa using ih
theorem trod_int_mk {t:TypeId} {k:IntKind} {a:Int} (n:Nat) (ht:P.underlying t = some (.int k)) (hw:(Lit.int k a).wf = true):DataW.trod enc P w base spare held (n + 1) t [.int k a] = some (.lit (.int k a),[]) := by
 simp [DataW.trod,ht,hw]
theorem shut_arr {t e:TypeId} {n:Nat} {k:IntKind} (hT:ArrT P t e n k) {ns:List Int} (hn:ns.length = n) (hw:∀ a ∈ ns,(Lit.int k a).wf = true) :
  DataW.Trod enc P w base spare held t (.agg (ns.map (.int k)).toArray) (.agg (ns.map fun a => .lit (.int k a))) [] := by
 refine ⟨2,?_⟩
 have key:∀ (l:List Nat) (xs:List (DataW H × List MemPlace)),l.mapM (fun i => DataW.trod enc P w base spare held 1 e ((((ns.map (Value.int k)).drop (i * 1)).take 1))) = some xs → True := fun _ _ _ => trivial
 have hm:∀ (i:Nat),i < n → DataW.trod enc P w base spare held 1 e ((((ns.map (Value.int k)).drop (i * 1)).take 1)) = some ((.lit (.int k (ns.getD i 0)),[])) := by
  intro i hi
  have e1:((ns.map (Value.int k)).drop (i * 1)).take 1 = [.int k (ns.getD i 0)] := by
   rw [Nat.mul_one,List.getD_eq_getElem?_getD,List.getElem?_eq_getElem (by omega:i < ns.length)]
   rw [List.drop_eq_getElem_cons (by simpa [hn] using hi)]
   simp
  rw [e1]
  refine trod_int_mk 0 hT.el (hw _ ?_)
  rw [List.getD_eq_getElem?_getD,List.getElem?_eq_getElem (by omega:i < ns.length)]
  exact List.getElem_mem _
 have hM:(List.range n).mapM (fun i => DataW.trod enc P w base spare held 1 e ((((ns.map (Value.int k)).drop (i * 1)).take 1))) = some ((List.range n).map fun i => (.lit (.int k (ns.getD i 0)),[])) := by
  generalize hL:List.range n = L
  have hlt:∀ i ∈ L,i < n := by intro i hi; rw [← hL] at hi; exact List.mem_range.1 hi
  clear hL
  induction L with
  | nil => rfl
  | cons a l ih =>
    rw [List.mapM_cons,hm a (hlt a (by simp)),ih fun i hi => hlt i (by simp [hi])]
    rfl
 have hD:(List.range n).map (fun i => (DataW.lit (.int k (ns.getD i 0)):DataW H)) = ns.map fun a => .lit (.int k a) := by
  apply List.ext_getElem
  ·simp [hn]
  ·intro i h1 h2
   simp at h1
   simp [List.getD_eq_getElem?_getD,List.getElem?_eq_getElem (by omega:i < ns.length)]
 unfold DataW.trod
 rw [hT.ar]
 simp only [hT.ce]
 have hc:(Value.agg (ns.map (Value.int k)).toArray).cells.toList = ns.map (Value.int k) := rfl
 rw [hc,if_pos (by simp [hT.ct,hn]),hM]
 simp only [Option.bind_some,Option.map_some]
 rw [List.map_map]
 simp only [Function.comp_def,hD]
 congr 2
 induction (List.range n) with
 | nil => rfl
 | cons a l ih => simpa using ih
end
end Go.Proofs.YtejcekikbnlllaaGreat
namespace Bu
def P:Nat := 4503599627370496
def T:Nat := 9218868437227405312
def S:Nat := 2 ^ 1074
def man (r:Nat):Nat := if r < P then r else P + r % P
def pl (r:Nat):Nat := r / P - 1
def nv (r:Nat):Nat := man r * 2 ^ pl r
theorem P_pos:0 < P := by unfold P; omega
theorem P_eq:P = 2 ^ 52 := rfl
theorem S_eq:S = 2 ^ 1074 := by unfold S; rfl
theorem S_pos:0 < S := by rw [S_eq]; exact Nat.two_pow_pos 1074
attribute [irreducible] S
theorem nv_mk (s m:Nat) (h:m ≤ 2 * P) (h2:s = 0 ∨ P ≤ m):nv (s * P + m) = m * 2 ^ s := by
 have hP := P_pos
 unfold nv man pl
 by_cases hm:m = 2 * P
 ·subst hm
  have e1:s * P + 2 * P = (s + 2) * P := by rw [← Nat.add_mul]
  have e2:¬ ((s + 2) * P < P) := by
   have:1 * P ≤ (s + 2) * P := Nat.mul_le_mul_right _ (by omega)
   omega
  rw [e1,if_neg e2,Nat.mul_mod_left,Nat.mul_div_cancel _ hP,show s + 2 - 1 = s + 1 from by omega,Nat.pow_succ]
  simp only [Nat.add_zero]
  rw [Nat.mul_comm 2 P,Nat.mul_assoc,Nat.mul_comm 2]
 ·by_cases h3:m < P
  ·have hs:s = 0 := by omega
   subst hs
   simp [h3,Nat.div_eq_of_lt h3]
  ·have e0:s * P + m = (s + 1) * P + (m - P) := by rw [Nat.add_mul]; omega
   have hlt:m - P < P := by omega
   have e2:¬ ((s + 1) * P + (m - P) < P) := by
    have:1 * P ≤ (s + 1) * P := Nat.mul_le_mul_right _ (by omega)
    omega
   rw [e0,if_neg e2,Nat.mul_comm (s+1) P,Nat.mul_add_mod,Nat.mod_eq_of_lt hlt,Nat.mul_add_div hP,Nat.div_eq_of_lt hlt]
   rw [show P + (m - P) = m from by omega,show s + 1 + 0 - 1 = s from by omega]
theorem rung_mk (r:Nat):∃ s m,r = s * P + m ∧ m < 2 * P ∧ (s = 0 ∨ P ≤ m) := by
 have hP := P_pos
 by_cases h:r < P
 ·exact ⟨0,r,by omega,by omega,Or.inl rfl⟩
 ·refine ⟨r / P - 1,P + r % P,?_,by have := Nat.mod_lt r hP; omega,Or.inr (by omega)⟩
  have h1 := Nat.div_add_mod r P
  have h2:1 ≤ r / P := (Nat.le_div_iff_mul_le hP).2 (by omega)
  obtain ⟨q,hq⟩:∃ q,r / P = q + 1 := ⟨r / P - 1,by omega⟩
  rw [hq] at h1 ⊢
  rw [show q + 1 - 1 = q from by omega]
  rw [Nat.mul_comm,Nat.add_mul] at h1
  omega
theorem nv_succ (r:Nat):nv r < nv (r + 1) := by
 obtain ⟨s,m,rfl,h1,h2⟩ := rung_mk r
 rw [Nat.add_assoc,nv_mk s m (by omega) h2,nv_mk s (m + 1) (by omega) (by omega)]
 exact Nat.mul_lt_mul_of_pos_right (by omega) (Nat.two_pow_pos _)
theorem nv_lt {a b:Nat} (h:a < b):nv a < nv b := by
 induction b with
 | zero => omega
 | succ n ih =>
   by_cases e:a = n
   ·subst e; exact nv_succ _
   ·exact Nat.lt_trans (ih (by omega)) (nv_succ n)
theorem nv_le {a b:Nat} (h:a ≤ b):nv a ≤ nv b := by
 by_cases e:a = b
 ·subst e; exact Nat.le_refl _
 ·exact Nat.le_of_lt (nv_lt (by omega))
theorem nv_lt_iff {a b:Nat}:nv a < nv b ↔ a < b :=
 ⟨fun h => by
  by_cases e:a < b
  ·exact e
  ·have := nv_le (show b ≤ a by omega); omega,nv_lt⟩
theorem nv_le_iff {a b:Nat}:nv a ≤ nv b ↔ a ≤ b := by
 have := @nv_lt_iff b a
 omega
theorem nv_inj {a b:Nat} (h:nv a = nv b):a = b := by
 have h1 := @nv_le_iff a b
 have h2 := @nv_le_iff b a
 omega
theorem nv_zero:nv 0 = 0 := by decide
def fl (x:Nat):Nat := (x.log2 - 52) * P + x >>> (x.log2 - 52)
theorem fl_parts (x:Nat):x >>> (x.log2 - 52) < 2 * P ∧ (x.log2 - 52 = 0 ∨ P ≤ x >>> (x.log2 - 52)) := by
 rw [Nat.shiftRight_eq_div_pow]
 by_cases h0:x = 0
 ·subst h0; simp [P]
 have h1 := Nat.lt_log2_self (n := x)
 have h2 := Nat.log2_self_le h0
 constructor
 ·rw [Nat.div_lt_iff_lt_mul (Nat.two_pow_pos _)]
  refine Nat.lt_of_lt_of_le h1 ?_
  rw [show 2 * P = 2 ^ 53 from rfl,← Nat.pow_add]
  exact Nat.pow_le_pow_right (by omega) (by omega)
 ·by_cases h:x.log2 - 52 = 0
  ·exact Or.inl h
  ·right
   rw [Nat.le_div_iff_mul_le (Nat.two_pow_pos _)]
   refine Nat.le_trans ?_ h2
   rw [P_eq,← Nat.pow_add]
   exact Nat.pow_le_pow_right (by omega) (by omega)
theorem nv_fl_le (x:Nat):nv (fl x) ≤ x := by
 obtain ⟨h1,h2⟩ := fl_parts x
 unfold fl
 rw [nv_mk _ _ (by omega) h2,Nat.shiftRight_eq_div_pow]
 exact Nat.div_mul_le_self _ _
theorem lt_nv_fl (x:Nat):x < nv (fl x + 1) := by
 obtain ⟨h1,h2⟩ := fl_parts x
 unfold fl
 rw [Nat.add_assoc,nv_mk _ _ (by omega) (by omega),Nat.shiftRight_eq_div_pow]
 have := Nat.div_add_mod x (2 ^ (x.log2 - 52))
 have h3 := Nat.mod_lt x (Nat.two_pow_pos (x.log2 - 52))
 rw [Nat.add_mul,Nat.mul_comm]
 omega
theorem le_fl {r x:Nat}:r ≤ fl x ↔ nv r ≤ x := by
 constructor
 ·intro h; exact Nat.le_trans (nv_le h) (nv_fl_le x)
 ·intro h
  have := lt_nv_fl x
  have h2:nv r < nv (fl x + 1) := by omega
  have := nv_lt_iff.1 h2
  omega
theorem fl_nv (r:Nat):fl (nv r) = r := by
 have h1 := (le_fl (r := r) (x := nv r)).2 (Nat.le_refl _)
 have h2 := nv_fl_le (nv r)
 have := nv_le_iff.1 h2
 omega
def ce (x:Nat):Nat := if nv (fl x) = x then fl x else fl x + 1
theorem ce_le {r x:Nat}:ce x ≤ r ↔ x ≤ nv r := by
 unfold ce
 have h0 := nv_fl_le x
 have h1 := lt_nv_fl x
 have hr := @le_fl r x
 split
 ·rename_i e
  have := @nv_le_iff (fl x) r
  omega
 ·have h2 := @nv_le_iff (fl x + 1) r
  constructor
  ·intro h; have := h2.2 h; omega
  ·intro h
   by_cases e:r ≤ fl x
   ·have := hr.1 e; have := nv_le e; omega
   ·omega
theorem fl_mono {x y:Nat} (h:x ≤ y):fl x ≤ fl y := le_fl.2 (Nat.le_trans (nv_fl_le x) h)
theorem fl_zero:fl 0 = 0 := by have := fl_nv 0; rwa [nv_zero] at this
theorem fl_mk {s m x:Nat} (hm:m < 2 * P) (h2:s = 0 ∨ P ≤ m) (h3:m * 2 ^ s ≤ x) (h4:x < (m + 1) * 2 ^ s):fl x = s * P + m := by
 have a := (le_fl (r := s * P + m) (x := x)).2 (by rw [nv_mk _ _ (by omega) h2]; exact h3)
 have b:¬ (s * P + (m + 1) ≤ fl x) := by
  rw [le_fl,nv_mk _ _ (by omega) (by omega)]; omega
 omega
def nvZ (k:Int):Int := if 0 ≤ k then (nv k.toNat:Int) else -(nv (-k).toNat:Int)
def flZ (x:Int):Int := if 0 ≤ x then (fl x.toNat:Int) else -(ce (-x).toNat:Int)
theorem nvZ_neg (k:Int):nvZ (-k) = -(nvZ k) := by
 unfold nvZ
 by_cases h:k = 0
 ·subst h; simp [nv_zero]
 ·by_cases h1:0 ≤ k
  ·rw [if_neg (by omega),if_pos h1]; simp
  ·rw [if_pos (by omega),if_neg h1]; simp
theorem nvZ_nonneg {k:Int} (h:0 ≤ k):0 ≤ nvZ k := by unfold nvZ; rw [if_pos h]; omega
theorem nvZ_natCast (k:Nat):nvZ (k:Int) = nv k := by unfold nvZ; simp
theorem nvZ_lt {a b:Int} (h:a < b):nvZ a < nvZ b := by
 unfold nvZ
 by_cases h1:0 ≤ a
 ·rw [if_pos h1,if_pos (by omega)]
  have := @nv_lt a.toNat b.toNat (by omega)
  omega
 ·rw [if_neg h1]
  by_cases h2:0 ≤ b
  ·rw [if_pos h2]
   have := @nv_lt 0 (-a).toNat (by omega)
   rw [nv_zero] at this
   omega
  ·rw [if_neg h2]
   have := @nv_lt (-b).toNat (-a).toNat (by omega)
   omega
theorem nvZ_lt_iff {a b:Int}:nvZ a < nvZ b ↔ a < b :=
 ⟨fun h => by
  by_cases e:a < b
  ·exact e
  ·by_cases e2:a = b
   ·subst e2; omega
   ·have := @nvZ_lt b a (by omega); omega,nvZ_lt⟩
theorem nvZ_le_iff {a b:Int}:nvZ a ≤ nvZ b ↔ a ≤ b := by
 have := @nvZ_lt_iff b a
 omega
theorem nvZ_inj {a b:Int} (h:nvZ a = nvZ b):a = b := by
 have h1 := @nvZ_le_iff a b
 have h2 := @nvZ_le_iff b a
 omega
theorem nvZ_zero:nvZ 0 = 0 := by simp [nvZ,nv_zero]
end Bu
namespace Bu
open Ieee
theorem T_eq:T = 2047 * P := rfl
theorem P_lt_T:P < T := by decide
structure F where
 k:Int
 hk:-(T:Int) < k ∧ k < (T:Int)
theorem F.ext' {a b:F} (h:a.k = b.k):a = b := by
 cases a; cases b; simp only at h; subst h; rfl
instance:DecidableEq F := fun a b => if h:a.k = b.k then isTrue (F.ext' h) else isFalse (fun e => h (by rw [e]))
def F.zero:F := ⟨0,by decide⟩
def F.max:F := ⟨(T:Int) - 1,by decide⟩
def F.min:F := ⟨1 - (T:Int),by decide⟩
def F.of (k:Int):F := if h:-(T:Int) < k ∧ k < (T:Int) then ⟨k,h⟩ else F.zero
theorem F.of_k {k:Int} (h:-(T:Int) < k ∧ k < (T:Int)):(F.of k).k = k := by unfold F.of; rw [dif_pos h]
def F.b (x:F):Nat := if 0 ≤ x.k then x.k.toNat else 9223372036854775808 + (-x.k).toNat
def F.z (x:F):Int := nvZ x.k
theorem F.z_le {a b:F}:a.z ≤ b.z ↔ a.k ≤ b.k := nvZ_le_iff
theorem F.z_inj {a b:F} (h:a.z = b.z):a = b := F.ext' (nvZ_inj h)
def rightB (w:Nat):Bool := decide (w < T) || (decide (9223372036854775808 < w) && decide (w < 9223372036854775808 + T))
theorem T_num:T = 9218868437227405312 := rfl
theorem right_F (x:F):rightB x.b = true := by
 have := x.hk
 have e := T_num
 unfold rightB F.b
 split <;> simp <;> omega
theorem F_of_right {w:Nat} (h:rightB w = true):∃ x:F,x.b = w := by
 have e := T_num
 unfold rightB at h
 simp only [Bool.or_eq_true,Bool.and_eq_true,decide_eq_true_eq] at h
 rcases h with h | ⟨h,h2⟩
 ·refine ⟨⟨(w:Int),by omega⟩,?_⟩
  unfold F.b; simp
 ·refine ⟨⟨-((w - 9223372036854775808:Nat):Int),by omega⟩,?_⟩
  unfold F.b; simp only
  rw [if_neg (by omega)]; omega
theorem F.b_lt (x:F):x.b < 18446744073709551616 := by
 have := x.hk
 have e := T_num
 unfold F.b; split <;> omega
theorem F.b_inj {x y:F} (h:x.b = y.b):x = y := by
 have h1 := x.hk
 have h2 := y.hk
 have e := T_num
 unfold F.b at h
 apply F.ext'
 split at h <;> split at h <;> omega
def F.abs (x:F):F := ⟨(x.k.natAbs:Int),by have := x.hk; omega⟩
theorem F.abs_b (x:F):x.b % 9223372036854775808 = x.abs.b := by
 have h1 := x.hk
 have e := T_num
 have e2:x.abs.k = (x.k.natAbs:Int) := rfl
 unfold F.b
 rw [e2,if_pos (show (0:Int) ≤ (x.k.natAbs:Int) from by omega)]
 split <;> omega
theorem dbl_sign:double.signWeight = 9223372036854775808 := by decide
theorem dbl_bin:double.binade = P := by decide
theorem dbl_inf:double.infRung = T := by decide
theorem dbl_least:double.leastPlace = -1074 := by decide
theorem read_parts (w:Nat) (neg:Bool) (r:Nat) (hr:r < 9223372036854775808) (hw:w = if neg then 9223372036854775808 + r else r) :
  double.read w = if r < T then .number neg (man r) (-1074 + (pl r:Int)) else if r = T then .infinity neg else .nan neg (r - T) := by
 unfold Format.read
 rw [dbl_sign,dbl_bin,dbl_inf,dbl_least]
 have e1:(w / 9223372036854775808 % 2 == 1) = neg := by
  cases neg <;> simp at hw <;> subst hw <;> simp <;> omega
 have e2:w % 9223372036854775808 = r := by
  cases neg <;> simp at hw <;> subst hw <;> omega
 simp only [e1,e2]
 have hPT := P_lt_T
 by_cases h1:r < P
 ·rw [if_pos h1,if_pos (by omega)]
  unfold man pl
  rw [if_pos h1,Nat.div_eq_of_lt h1]; rfl
 ·rw [if_neg h1]
  by_cases h2:r < T
  ·rw [if_pos h2,if_pos h2]
   unfold man pl
   rw [if_neg h1]
  ·rw [if_neg h2,if_neg h2]
theorem bad_parts {w:Nat} (hw:w < 18446744073709551616) (h:rightB w = false) :
  ∃ (neg:Bool) (r:Nat),r < 9223372036854775808 ∧ (w = if neg then 9223372036854775808 + r else r) ∧ ((neg = true ∧ r = 0) ∨ r = T ∨ T < r) := by
 have e := T_num
 unfold rightB at h
 simp only [Bool.or_eq_false_iff,Bool.and_eq_false_iff,decide_eq_false_iff_not] at h
 by_cases h1:w < 9223372036854775808
 ·exact ⟨false,w,h1,rfl,by omega⟩
 ·exact ⟨true,w - 9223372036854775808,by omega,by simp; omega,by
   simp only [true_and]; omega⟩
theorem read_F (x:F):double.read x.b = .number (decide (x.k < 0)) (man x.k.natAbs) (-1074 + (pl x.k.natAbs:Int)) := by
 have h1 := x.hk
 have e := T_num
 have := read_parts x.b (decide (x.k < 0)) x.k.natAbs (by omega) (by
  unfold F.b
  by_cases h:x.k < 0
  ·simp [h,Int.not_le.2 h]; omega
  ·simp [h,Int.not_lt.1 h]; omega)
 rw [this,if_pos (by omega)]
theorem signed_eq (neg:Bool) (m u:Nat):signed neg m u = (if neg then -1 else 1) * ((m * 2 ^ u:Nat):Int) := by
 unfold signed
 rw [Nat.shiftLeft_eq]
 cases neg <;> simp
theorem nvZ_sign (k:Int):nvZ k = (if decide (k < 0) then -1 else 1) * ((man k.natAbs * 2 ^ pl k.natAbs:Nat):Int) := by
 unfold nvZ nv
 by_cases h:k < 0
 ·rw [if_neg (by omega),show (-k).toNat = k.natAbs from by omega]; simp [h]
 ·rw [if_pos (by omega),show k.toNat = k.natAbs from by omega]; simp [h]
theorem compare_mul (a b:Int) (c:Int) (hc:0 < c):compare a b = compare (a * c) (b * c) := by
 have h1:a * c < b * c ↔ a < b := Int.mul_lt_mul_right hc
 have h2:a * c = b * c ↔ a = b := Int.mul_eq_mul_right_iff (by omega)
 show compareOfLessAndEq a b = compareOfLessAndEq (a * c) (b * c)
 unfold compareOfLessAndEq
 simp only [h1,h2]
theorem nvZ_compare (a b:Int):compare (nvZ a) (nvZ b) = compare a b := by
 show compareOfLessAndEq (nvZ a) (nvZ b) = compareOfLessAndEq a b
 unfold compareOfLessAndEq
 have h2:nvZ a = nvZ b ↔ a = b := ⟨nvZ_inj,fun h => by rw [h]⟩
 simp only [nvZ_lt_iff,h2]
theorem signed_base (k:Int) (base:Nat) (h:base ≤ pl k.natAbs) :
  signed (decide (k < 0)) (man k.natAbs) (pl k.natAbs - base) * ((2 ^ base:Nat):Int) = nvZ k := by
 rw [signed_eq,nvZ_sign,Int.mul_assoc,← Int.natCast_mul,Nat.mul_assoc,← Nat.pow_add,Nat.sub_add_cancel h]
theorem order_F (x y:F):double.order x.b y.b = some (compare x.k y.k) := by
 unfold Format.order
 rw [read_F,read_F]
 simp only [Datum.order]
 have hb:∀ p q:Nat,min (-1074 + (p:Int)) (-1074 + (q:Int)) = -1074 + ((min p q:Nat):Int) := by intro p q; omega
 rw [hb]
 have hs:∀ p q:Nat,(-1074 + (p:Int) - (-1074 + (q:Int))).toNat = p - q := by intro p q; omega
 rw [hs,hs,compare_mul _ _ ((2 ^ (min (pl x.k.natAbs) (pl y.k.natAbs)):Nat):Int) (by have := Nat.two_pow_pos (min (pl x.k.natAbs) (pl y.k.natAbs)); omega)]
 rw [signed_base _ _ (Nat.min_le_left _ _),signed_base _ _ (Nat.min_le_right _ _),nvZ_compare]
theorem order_lt (x y:F):(double.order x.b y.b == some .lt) = decide (x.k < y.k) := by
 rw [order_F,Bool.eq_iff_iff]
 simp only [beq_iff_eq,Option.some.injEq,decide_eq_true_eq]
 exact Int.compare_eq_lt
theorem order_gt (x y:F):(double.order x.b y.b == some .gt) = decide (y.k < x.k) := by
 rw [order_F,Bool.eq_iff_iff]
 simp only [beq_iff_eq,Option.some.injEq,decide_eq_true_eq]
 exact Int.compare_eq_gt
theorem order_eq (x y:F):(double.order x.b y.b == some .eq) = decide (x.k = y.k) := by
 rw [order_F,Bool.eq_iff_iff]
 simp only [beq_iff_eq,Option.some.injEq,decide_eq_true_eq]
 exact Int.compare_eq_eq
attribute [irreducible] F.of
def near (n d:Nat):Nat :=
 let r := fl (n / d)
 if 2 * n < (nv r + nv (r + 1)) * d then r else if (nv r + nv (r + 1)) * d < 2 * n then r + 1 else if r % 2 = 0 then r else r + 1
theorem cut_even (neg:Bool) (n drop:Nat):Toward.even.cut neg n drop =
  n / 2 ^ drop + (if 2 ^ drop < 2 * (n % 2 ^ drop) || (2 ^ drop == 2 * (n % 2 ^ drop) && n / 2 ^ drop % 2 == 1) then 1 else 0) := by
 unfold Toward.cut
 simp only [Nat.shiftLeft_eq,Nat.one_mul]
 by_cases h:drop ≤ n.log2 + 2
 ·rw [Nat.min_eq_left h]
  generalize 2 ^ drop = g
  by_cases c:(decide (g < 2 * (n % g)) || (g == 2 * (n % g) && n / g % 2 == 1)) = true
  ·simp only [c,if_true]; rfl
  ·simp only [c]; rfl
 ·rw [Nat.min_eq_right (by omega)]
  have h1 := Nat.lt_log2_self (n := n)
  have h2:2 ^ (n.log2 + 2) = 2 * 2 ^ (n.log2 + 1) := by rw [Nat.pow_succ _ (n.log2 + 1),Nat.mul_comm]
  have h3:2 ^ (n.log2 + 2) ≤ 2 ^ drop := Nat.pow_le_pow_right (by omega) (by omega)
  generalize 2 ^ (n.log2 + 1) = u at *
  generalize 2 ^ (n.log2 + 2) = g at *
  generalize 2 ^ drop = k at *
  rw [Nat.div_eq_of_lt (by omega),Nat.mod_eq_of_lt (by omega),Nat.div_eq_of_lt (by omega),Nat.mod_eq_of_lt (by omega)]
  have a:¬ g < 2 * n := by omega
  have b:(g == 2 * n) = false := by rw [beq_eq_false_iff_ne]; omega
  have c:¬ k < 2 * n := by omega
  have d:(k == 2 * n) = false := by rw [beq_eq_false_iff_ne]; omega
  simp [a,b,c,d]
  rw [Nat.mod_eq_of_lt (by omega)]; omega
theorem near_mk {n d s m:Nat} (hd:0 < d) (hm:m < 2 * P) (h2:s = 0 ∨ P ≤ m) (h3:m * 2 ^ s ≤ n / d) (h4:n / d < (m + 1) * 2 ^ s) :
  near n d = if 2 * n < (2 * m + 1) * 2 ^ s * d then s * P + m else if (2 * m + 1) * 2 ^ s * d < 2 * n then s * P + m + 1 else if m % 2 = 0 then s * P + m else s * P + m + 1 := by
 unfold near
 simp only
 rw [fl_mk hm h2 h3 h4,nv_mk s m (by omega) h2,Nat.add_assoc (s * P),nv_mk s (m + 1) (by omega) (by omega)]
 have e:m * 2 ^ s + (m + 1) * 2 ^ s = (2 * m + 1) * 2 ^ s := by rw [← Nat.add_mul]; congr 1; omega
 rw [e]
 have e2:(s * P + m) % 2 = m % 2 := by
  rw [show P = 2 * 2251799813685248 from rfl,← Nat.mul_assoc,Nat.mul_comm s 2,Nat.mul_assoc]
  omega
 rw [e2]
theorem nearest_eq (neg:Bool) (mag:Nat) (place:Int) (hmag:mag ≠ 0) :
  double.nearest neg mag place = double.word neg (min (near (mag * 2 ^ (place + 1074).toNat) (2 ^ (-(place + 1074)).toNat)) T) := by
 unfold Format.nearest
 rw [if_neg hmag,dbl_bin,dbl_inf,dbl_least]
 simp only
 have hf:(double.fractionBits:Int) = 52 := rfl
 rw [hf]
 congr 2
 -- s: the last place,from the least one on
 obtain ⟨s,hs⟩:∃ s:Nat,max (place + (mag.log2:Int) - 52) (-1074) = (s:Int) - 1074 := ⟨(max (place + (mag.log2:Int) - 52) (-1074) + 1074).toNat,by omega⟩
 rw [hs]
 have e0:((s:Int) - 1074 - -1074).toNat = s := by omega
 rw [e0,cut_even]
 have hl := Nat.lt_log2_self (n := mag)
 have hl2 := Nat.log2_self_le hmag
 rw [Nat.shiftLeft_eq]
 -- the number,times S,is n / d
 obtain ⟨a,ha⟩:∃ a,a = (place + 1074).toNat := ⟨_,rfl⟩
 obtain ⟨b,hb⟩:∃ b,b = (-(place + 1074)).toNat := ⟨_,rfl⟩
 obtain ⟨u,hu⟩:∃ u,u = (place - ((s:Int) - 1074)).toNat := ⟨_,rfl⟩
 obtain ⟨v,hv⟩:∃ v,v = ((s:Int) - 1074 - place).toNat := ⟨_,rfl⟩
 rw [← ha,← hb,← hu,← hv]
 -- u + s + b = a + v,and of u,v one is 0; of a,b one is 0
 have r1:u + s + b = a + v := by omega
 have r2:u = 0 ∨ v = 0 := by omega
 have r3:a = 0 ∨ b = 0 := by omega
 -- q: what is kept; t: the rest
 have hg0 := Nat.two_pow_pos v
 have hq := Nat.div_add_mod (mag * 2 ^ u) (2 ^ v)
 have ht := Nat.mod_lt (mag * 2 ^ u) hg0
 generalize hq':mag * 2 ^ u / 2 ^ v = q at *
 generalize mag * 2 ^ u % 2 ^ v = t at *
 have hd0 := Nat.two_pow_pos b
 -- n * 2^v = (2^v q + t) * 2^s * 2^b
 have hn:mag * 2 ^ a * 2 ^ v = (2 ^ v * q + t) * 2 ^ s * 2 ^ b := by
  rw [hq,Nat.mul_assoc mag,← Nat.pow_add,← r1,Nat.pow_add,Nat.pow_add]
  simp only [Nat.mul_assoc]
 generalize hN:mag * 2 ^ a = n at *
 have hqm:q < 2 * P ∧ (s = 0 ∨ P ≤ q) := by
  constructor
  ·rw [← hq',Nat.div_lt_iff_lt_mul hg0]
   by_cases hu0:u = 0
   ·subst hu0
    rw [Nat.pow_zero,Nat.mul_one,show 2 * P = 2 ^ 53 from rfl,← Nat.pow_add]
    exact Nat.lt_of_lt_of_le hl (Nat.pow_le_pow_right (by omega) (by omega))
   ·have hv0:v = 0 := by omega
    subst hv0
    rw [Nat.pow_zero,Nat.mul_one,show 2 * P = 2 ^ 53 from rfl]
    refine Nat.lt_of_lt_of_le (Nat.mul_lt_mul_of_pos_right hl (Nat.two_pow_pos u)) ?_
    rw [← Nat.pow_add]
    exact Nat.pow_le_pow_right (by omega) (by omega)
  ·by_cases hs0:s = 0
   ·exact Or.inl hs0
   ·right
    rw [← hq',Nat.le_div_iff_mul_le hg0]
    by_cases hu0:u = 0
    ·subst hu0
     rw [Nat.pow_zero,Nat.mul_one,P_eq,← Nat.pow_add]
     exact Nat.le_trans (Nat.pow_le_pow_right (by omega) (by omega)) hl2
    ·have hv0:v = 0 := by omega
     subst hv0
     rw [Nat.pow_zero,Nat.mul_one,P_eq]
     refine Nat.le_trans ?_ (Nat.mul_le_mul_right (2 ^ u) hl2)
     rw [← Nat.pow_add]
     exact Nat.pow_le_pow_right (by omega) (by omega)
 have hs0 := Nat.two_pow_pos s
 generalize 2 ^ v = g at *
 generalize 2 ^ b = d at *
 generalize h2s:2 ^ s = k at *
 have h3:q * 2 ^ s ≤ n / d := by
  rw [h2s,Nat.le_div_iff_mul_le hd0]
  refine Nat.le_of_mul_le_mul_right ?_ hg0
  rw [hn,show q * k * d * g = g * q * k * d from by grind]
  exact Nat.mul_le_mul_right _ (Nat.mul_le_mul_right _ (by omega))
 have h4:n / d < (q + 1) * 2 ^ s := by
  rw [h2s,Nat.div_lt_iff_lt_mul hd0]
  refine Nat.lt_of_mul_lt_mul_right (a := g) ?_
  rw [hn,show (q + 1) * k * d * g = (g * q + g) * k * d from by grind]
  exact Nat.mul_lt_mul_of_pos_right (Nat.mul_lt_mul_of_pos_right (by omega) hs0) hd0
 rw [near_mk hd0 hqm.1 hqm.2 h3 h4,h2s]
 -- compare 2 n with (2 q + 1) k d,times g
 have hkd:0 < k * d := Nat.mul_pos hs0 hd0
 have c1:2 * n < (2 * q + 1) * k * d ↔ 2 * t < g := by
  rw [← Nat.mul_lt_mul_right hg0,Nat.mul_assoc 2,hn,show 2 * ((g * q + t) * k * d) = (2 * (g * q) + 2 * t) * (k * d) from by grind,
   show (2 * q + 1) * k * d * g = (2 * (g * q) + g) * (k * d) from by grind,Nat.mul_lt_mul_right hkd]
  omega
 have c2:(2 * q + 1) * k * d < 2 * n ↔ g < 2 * t := by
  rw [← Nat.mul_lt_mul_right hg0,Nat.mul_assoc 2 n,hn,show 2 * ((g * q + t) * k * d) = (2 * (g * q) + 2 * t) * (k * d) from by grind,
   show (2 * q + 1) * k * d * g = (2 * (g * q) + g) * (k * d) from by grind,Nat.mul_lt_mul_right hkd]
  omega
 simp only [c1,c2]
 by_cases d1:2 * t < g
 ·have:¬ g < 2 * t := by omega
  have e:(g == 2 * t) = false := by rw [beq_eq_false_iff_ne]; omega
  simp [d1,this,e]
 ·by_cases d2:g < 2 * t
  ·simp [d1,d2]; omega
  ·have e:(g == 2 * t) = true := by rw [beq_iff_eq]; omega
   by_cases d3:q % 2 = 0
   ·simp [d1,d2,e,d3]
   ·have d4:q % 2 = 1 := by omega
    simp [d1,d2,e,d4]; omega
theorem near_exact {n d r:Nat} (hd:0 < d) (h:n = nv r * d):near n d = r := by
 unfold near
 subst h
 rw [Nat.mul_div_cancel _ hd,fl_nv]
 have h1 := nv_succ r
 have:2 * (nv r * d) < (nv r + nv (r + 1)) * d := by
  rw [← Nat.mul_assoc]
  exact Nat.mul_lt_mul_of_pos_right (by omega) hd
 simp [this]
theorem word_F (neg:Bool) (r:Nat) (hr:r < T) (hz:neg = true → r ≠ 0):double.word neg r = (F.of (if neg then -(r:Int) else r)).b := by
 unfold Format.word F.b
 rw [dbl_sign]
 cases neg
 ·simp only [Bool.false_eq_true,if_false]
  rw [F.of_k (by omega)]; simp
 ·simp only [if_true]
  rw [F.of_k (by omega),if_neg (by have := hz rfl; omega)]; omega
theorem near_ratio {n d n' d':Nat} (hd:0 < d) (hd':0 < d') (h:n * d' = n' * d):near n d = near n' d' := by
 have e:n / d = n' / d' := by
  have h1:n / d = n * d' / (d * d') := (Nat.mul_div_mul_right n d hd').symm
  have h2:n' / d' = n' * d / (d' * d) := (Nat.mul_div_mul_right n' d' hd).symm
  rw [h1,h2,h,Nat.mul_comm d d']
 unfold near
 rw [e]
 simp only
 generalize nv (fl (n' / d')) + nv (fl (n' / d') + 1) = k
 have c1:2 * n < k * d ↔ 2 * n' < k * d' := by
  rw [← Nat.mul_lt_mul_right hd',← Nat.mul_lt_mul_right hd,show 2 * n * d' = 2 * (n * d') from by grind,h,show 2 * (n' * d) = 2 * n' * d from by grind,
   show k * d * d' = k * d' * d from by grind,Nat.mul_lt_mul_right hd,Nat.mul_lt_mul_right hd]
 have c2:k * d < 2 * n ↔ k * d' < 2 * n' := by
  rw [← Nat.mul_lt_mul_right hd',show 2 * n * d' = 2 * (n * d') from by grind,h,show 2 * (n' * d) = 2 * n' * d from by grind,
   show k * d * d' = k * d' * d from by grind,Nat.mul_lt_mul_right hd]
 simp only [c1,c2]
theorem z_natAbs (x:F):x.z.natAbs = man x.k.natAbs * 2 ^ pl x.k.natAbs := by
 unfold F.z
 rw [nvZ_sign]
 by_cases h:x.k < 0 <;> simp [h,Int.natAbs_mul]
theorem z_sign (x:F):(x.z < 0 ↔ x.k < 0) := by
 have := @nvZ_lt_iff x.k 0
 rw [nvZ_zero] at this
 exact this
theorem z_zero (x:F):(x.z = 0 ↔ x.k = 0) := by
 constructor
 ·intro h; exact nvZ_inj (by rw [nvZ_zero]; exact h)
 ·intro h; unfold F.z; rw [h,nvZ_zero]
theorem man_zero (r:Nat) (h:man r = 0):r = 0 := by
 unfold man at h
 have := P_pos
 split at h <;> omega
theorem S_pow:∃ s:Nat,s = 1074 ∧ S = 2 ^ s := ⟨1074,rfl,S_eq⟩
theorem two_pow_split (a b:Int) (h:0 ≤ a + b + 1074 ∨ a + b + 1074 < 0) (ha:-1074 ≤ a) (hb:-1074 ≤ b) :
  2 ^ (a + b + 1074).toNat * S = 2 ^ (a + 1074).toNat * 2 ^ (b + 1074).toNat * 2 ^ (-(a + b + 1074)).toNat := by
 obtain ⟨s,hs,e⟩ := S_pow
 rw [e,← Nat.pow_add,← Nat.pow_add,← Nat.pow_add]
 exact congrArg (2 ^ ·) (by omega)
theorem mul_F (x y:F) (hx:x.k ≠ 0) (hy:y.k ≠ 0) :
  double.mul x.b y.b = some (double.word (decide (x.k < 0) ^^ decide (y.k < 0)) (min (near (x.z.natAbs * y.z.natAbs) S) T)) := by
 unfold Format.mul
 rw [read_F,read_F]
 simp only [Datum.product,Option.map_some,Format.write]
 have m1:man x.k.natAbs ≠ 0 := fun h => hx (by have := man_zero _ h; omega)
 have m2:man y.k.natAbs ≠ 0 := fun h => hy (by have := man_zero _ h; omega)
 rw [nearest_eq _ _ _ (Nat.mul_ne_zero m1 m2)]
 have e:near (man x.k.natAbs * man y.k.natAbs * 2 ^ (-1074 + (pl x.k.natAbs:Int) + (-1074 + (pl y.k.natAbs:Int)) + 1074).toNat) (2 ^ (-(-1074 + (pl x.k.natAbs:Int) + (-1074 + (pl y.k.natAbs:Int)) + 1074)).toNat) = near (x.z.natAbs * y.z.natAbs) S := by
  refine near_ratio (Nat.two_pow_pos _) S_pos ?_
  rw [z_natAbs,z_natAbs]
  have := two_pow_split (-1074 + (pl x.k.natAbs:Int)) (-1074 + (pl y.k.natAbs:Int)) (by omega) (by omega) (by omega)
  rw [show (-1074 + (pl x.k.natAbs:Int) + 1074).toNat = pl x.k.natAbs from by omega,show (-1074 + (pl y.k.natAbs:Int) + 1074).toNat = pl y.k.natAbs from by omega] at this
  rw [Nat.mul_assoc,this]
  generalize 2 ^ pl x.k.natAbs = a
  generalize 2 ^ pl y.k.natAbs = b
  grind
 rw [e]
theorem signed_scale (neg:Bool) (m:Nat) (i base:Int) (hb:-1074 ≤ base) (h:base ≤ i) :
  signed neg m (i - base).toNat * ((2 ^ (base + 1074).toNat:Nat):Int) = (if neg then -1 else 1) * ((m * 2 ^ (i + 1074).toNat:Nat):Int) := by
 rw [signed_eq,Int.mul_assoc,← Int.natCast_mul,Nat.mul_assoc,← Nat.pow_add,show (i - base).toNat + (base + 1074).toNat = (i + 1074).toNat from by omega]
theorem add_F (x y:F):double.add x.b y.b = some (if x.z + y.z = 0 then 0 else double.word (decide (x.z + y.z < 0)) (min (near (x.z + y.z).natAbs 1) T)) := by
 unfold Format.add
 rw [read_F,read_F]
 simp only [Datum.sum,Option.map_some,Format.write]
 obtain ⟨base,hbase⟩:∃ b:Int,b = min (-1074 + (pl x.k.natAbs:Int)) (-1074 + (pl y.k.natAbs:Int)) := ⟨_,rfl⟩
 rw [← hbase]
 have s1 := signed_scale (decide (x.k < 0)) (man x.k.natAbs) (-1074 + (pl x.k.natAbs:Int)) base (by omega) (by omega)
 have s2 := signed_scale (decide (y.k < 0)) (man y.k.natAbs) (-1074 + (pl y.k.natAbs:Int)) base (by omega) (by omega)
 rw [show (-1074 + (pl x.k.natAbs:Int) + 1074).toNat = pl x.k.natAbs from by omega,← nvZ_sign] at s1
 rw [show (-1074 + (pl y.k.natAbs:Int) + 1074).toNat = pl y.k.natAbs from by omega,← nvZ_sign] at s2
 generalize signed (decide (x.k < 0)) (man x.k.natAbs) (-1074 + (pl x.k.natAbs:Int) - base).toNat = u at *
 generalize signed (decide (y.k < 0)) (man y.k.natAbs) (-1074 + (pl y.k.natAbs:Int) - base).toNat = v at *
 have hp := Nat.two_pow_pos (base + 1074).toNat
 have hz:x.z + y.z = (u + v) * ((2 ^ (base + 1074).toNat:Nat):Int) := by
  unfold F.z; rw [Int.add_mul,s1,s2]
 have hpos:(0:Int) < ((2 ^ (base + 1074).toNat:Nat):Int) := by omega
 have t1:x.z + y.z = 0 ↔ u + v = 0 := by
  rw [hz]; constructor
  ·intro h; rcases Int.mul_eq_zero.1 h with h | h
   ·exact h
   ·omega
  ·intro h; rw [h,Int.zero_mul]
 have t2:x.z + y.z < 0 ↔ u + v < 0 := by
  rw [hz]
  have := Int.mul_lt_mul_right (b := u + v) (c := 0) hpos
  rw [Int.zero_mul] at this
  exact this
 by_cases h0:u + v = 0
 ·rw [if_pos (t1.2 h0)]
  have hx0:(decide (x.k < 0) && decide (y.k < 0)) = false := by
   rw [Bool.and_eq_false_iff]
   simp only [decide_eq_false_iff_not]
   have a1 := z_sign x
   have a2 := z_sign y
   have := t1.2 h0
   omega
  rw [h0]
  simp [hx0,Format.nearest,Format.word]
 ·rw [if_neg (fun h => h0 (t1.1 h)),if_neg h0,nearest_eq _ _ _ (by omega)]
  simp only [t2]
  have e:near ((u + v).natAbs * 2 ^ (base + 1074).toNat) (2 ^ (-(base + 1074)).toNat) = near (x.z + y.z).natAbs 1 := by
   refine near_ratio (Nat.two_pow_pos _) (by omega) ?_
   rw [hz,Int.natAbs_mul,Int.natAbs_natCast,show (-(base + 1074)).toNat = 0 from by omega]
  rw [e]
theorem ofInt_F (n:Int) (h:n ≠ 0):double.write (.number (decide (n < 0)) n.natAbs 0) = double.word (decide (n < 0)) (min (near (n.natAbs * S) 1) T) := by
 simp only [Format.write]
 rw [nearest_eq _ _ _ (by omega)]
 have e:near (n.natAbs * 2 ^ ((0:Int) + 1074).toNat) (2 ^ (-((0:Int) + 1074)).toNat) = near (n.natAbs * S) 1 := by
  refine near_ratio (Nat.two_pow_pos _) (by omega) ?_
  obtain ⟨s,hs,e⟩ := S_pow
  rw [e,show ((0:Int) + 1074).toNat = s from by omega,show (-((0:Int) + 1074)).toNat = 0 from by omega]
 rw [e]
def F.neg (x:F):F := ⟨-x.k,by have := x.hk; omega⟩
theorem F.neg_z (x:F):x.neg.z = -x.z := nvZ_neg x.k
theorem word_sign (p:F) (h:p.k ≠ 0):double.word (decide (p.k < 0)) p.k.natAbs = p.b := by
 have h1 := p.hk
 rw [word_F _ _ (by omega) (by simp; omega)]
 congr 1
 apply F.ext'
 by_cases h2:p.k < 0
 ·simp only [h2,decide_true,if_true]; rw [F.of_k (by omega)]; omega
 ·simp only [h2,decide_false,Bool.false_eq_true,if_false]; rw [F.of_k (by omega)]; omega
theorem z_natAbs' (x:F):x.z.natAbs = nv x.k.natAbs := z_natAbs x
theorem mul_exact {x y p:F} (hp:p.k ≠ 0) (h:p.z * S = x.z * y.z):double.mul x.b y.b = some p.b := by
 have hS:(0:Int) < S := by have := S_pos; omega
 have hpz:p.z ≠ 0 := fun e => hp ((z_zero p).1 e)
 have hxy:x.z * y.z ≠ 0 := by
  rw [← h]; intro e; rcases Int.mul_eq_zero.1 e with e | e
  ·exact hpz e
  ·omega
 have hx:x.k ≠ 0 := fun e => hxy (by rw [(z_zero x).2 e,Int.zero_mul])
 have hy:y.k ≠ 0 := fun e => hxy (by rw [(z_zero y).2 e,Int.mul_zero])
 rw [mul_F x y hx hy,← Int.natAbs_mul,← h,Int.natAbs_mul,Int.natAbs_natCast,z_natAbs',near_exact S_pos rfl,Nat.min_eq_left (by have := p.hk; omega),← word_sign p hp]
 congr 2
 have a1 := z_sign x
 have a2 := z_sign y
 have a3 := z_sign p
 have a4 := (z_zero x)
 have a5 := (z_zero y)
 have s1:p.z < 0 ↔ x.z * y.z < 0 := by
  rw [← h]
  have := Int.mul_lt_mul_right (b := p.z) (c := 0) hS
  rw [Int.zero_mul] at this
  exact this.symm
 rw [Bool.eq_iff_iff]
 by_cases b1:x.k < 0 <;> by_cases b2:y.k < 0
 ·have := Int.mul_pos_of_neg_of_neg (a1.2 b1) (a2.2 b2)
  simp [b1,b2]; omega
 ·have := Int.mul_neg_of_neg_of_pos (a1.2 b1) (show 0 < y.z by omega)
  simp [b1,b2]; omega
 ·have := Int.mul_neg_of_pos_of_neg (show 0 < x.z by omega) (a2.2 b2)
  simp [b1,b2]; omega
 ·have := Int.mul_pos (show 0 < x.z by omega) (show 0 < y.z by omega)
  simp [b1,b2]; omega
theorem ofInt_exact {n:Int} {p:F} (h:p.z = n * S):double.write (.number (decide (n < 0)) n.natAbs 0) = p.b := by
 have hS:(0:Int) < S := by have := S_pos; omega
 by_cases h0:n = 0
 ·subst h0
  rw [Int.zero_mul] at h
  have:p = F.zero := F.ext' ((z_zero p).1 h)
  subst this
  decide
 ·rw [ofInt_F n h0]
  have hp:p.k ≠ 0 := by
   intro e
   rw [(z_zero p).2 e] at h
   rcases Int.mul_eq_zero.1 h.symm with e2 | e2
   ·exact h0 e2
   ·omega
  have e1:n.natAbs * S = nv p.k.natAbs * 1 := by rw [← z_natAbs',h,Int.natAbs_mul,Int.natAbs_natCast]; simp
  rw [near_exact (by omega) e1,Nat.min_eq_left (by have := p.hk; omega),← word_sign p hp]
  congr 1
  have s1:p.z < 0 ↔ n < 0 := by
   rw [h]
   have := Int.mul_lt_mul_right (b := n) (c := 0) hS
   rw [Int.zero_mul] at this
   exact this
  have := z_sign p
  rw [Bool.eq_iff_iff]; simp; omega
end Bu
namespace Bu
open Go
def wn (a b:Int):Nat := a.toNat * 18446744073709551616 + b.toNat
def hi (n:Nat):Int := ((n / 18446744073709551616:Nat):Int)
def lo (n:Nat):Int := ((n % 18446744073709551616:Nat):Int)
def W128:Nat := 340282366920938463463374607431768211456
theorem W128_eq:W128 = 340282366920938463463374607431768211456 := rfl
theorem up_parts (x y n:Nat) (hn:n ≤ 64) (hy:y < 18446744073709551616) :
  (x * 18446744073709551616 + y) * 2 ^ n % W128 / 18446744073709551616 = x * 2 ^ n % 18446744073709551616 + y / 2 ^ (64 - n)
  ∧ (x * 18446744073709551616 + y) * 2 ^ n % W128 % 18446744073709551616 = y * 2 ^ n % 18446744073709551616
  ∧ x * 2 ^ n % 18446744073709551616 % 2 ^ n = 0 ∧ y / 2 ^ (64 - n) < 2 ^ n ∧ x * 2 ^ n % 18446744073709551616 + y / 2 ^ (64 - n) < 18446744073709551616 := by
 rw [W128_eq]
 have hpq:2 ^ n * 2 ^ (64 - n) = 18446744073709551616 := by
  rw [← Nat.pow_add,show n + (64 - n) = 64 from by omega]
 generalize hq:2 ^ n = q at *
 generalize hp:2 ^ (64 - n) = p at *
 have hp0:0 < p := by rw [← hp]; exact Nat.two_pow_pos _
 have hq0:0 < q := by rw [← hq]; exact Nat.two_pow_pos _
 have hd := Nat.div_add_mod y p
 have hm := Nat.mod_lt y hp0
 generalize y / p = u at *
 generalize y % p = v at *
 have hxd := Nat.div_add_mod x p
 have hxm := Nat.mod_lt x hp0
 generalize x / p = s at *
 generalize x % p = t at *
 have hu:u < q := by
  have:p * u < q * p := by omega
  rw [Nat.mul_comm p u] at this
  exact Nat.lt_of_mul_lt_mul_right this
 have e1:x * q = s * 18446744073709551616 + t * q := by
  rw [← hxd,← hpq]; grind
 have ht:t * q + q ≤ 18446744073709551616 := by
  rw [← hpq]
  have:(t + 1) * q ≤ p * q := Nat.mul_le_mul_right _ (by omega)
  rw [Nat.add_mul,Nat.one_mul,Nat.mul_comm p q] at this
  exact this
 have e2:y * q = u * 18446744073709551616 + v * q := by
  rw [← hd,← hpq]; grind
 have hv:v * q < 18446744073709551616 := by
  rw [← hpq,Nat.mul_comm q p]
  exact Nat.mul_lt_mul_of_pos_right hm hq0
 have e3:(x * 18446744073709551616 + y) * q = (s * 18446744073709551616 + t * q) * 18446744073709551616 + u * 18446744073709551616 + v * q := by
  rw [Nat.add_mul,e2,← e1]; grind
 rw [e3,e1,e2]
 have hmod:t * q % q = 0 := Nat.mul_mod_left _ _
 generalize t * q = tq at *
 generalize v * q = vq at *
 have e4:(s * 18446744073709551616 + tq) % 18446744073709551616 = tq := by omega
 rw [e4]
 refine ⟨?_,?_,hmod,hu,?_⟩ <;> omega
theorem up_arith_hi (a b:Int) (n:Nat) (ha:0 ≤ a) (hb:0 ≤ b) (hn:64 ≤ n) :
  IntKind.u64.wrap (b * 2 ^ (n - 64)) = hi (wn a b * 2 ^ n % W128) ∧ 0 = lo (wn a b * 2 ^ n % W128) := by
 obtain ⟨x,rfl⟩ := Int.eq_ofNat_of_zero_le ha
 obtain ⟨y,rfl⟩ := Int.eq_ofNat_of_zero_le hb
 obtain ⟨k,rfl⟩:∃ k,n = 64 + k := ⟨n - 64,by omega⟩
 rw [W128_eq]
 have e:wn x y * 2 ^ (64 + k) = (x * 2 ^ k) * 340282366920938463463374607431768211456 + (y * 2 ^ k) * 18446744073709551616 := by
  unfold wn
  simp only [Int.toNat_natCast]
  rw [Nat.pow_add,show (2:Nat) ^ 64 = 18446744073709551616 from rfl]
  generalize 2 ^ k = p
  grind
 rw [e,IntKind.wrap_u64,show 64 + k - 64 = k from by omega]
 unfold hi lo
 have e2:(y:Int) * 2 ^ k = ((y * 2 ^ k:Nat):Int) := by simp
 rw [e2]
 generalize y * 2 ^ k = p
 generalize x * 2 ^ k = q
 omega
theorem up_arith_lo (a b:Int) (n:Nat) (ha:0 ≤ a) (hb:0 ≤ b) (hb2:b ≤ 18446744073709551615) (hn:n < 64) :
  bits BinOp.or IntKind.u64 (IntKind.u64.wrap (a * 2 ^ n)) (b / 2 ^ (64 - n)) = hi (wn a b * 2 ^ n % W128) ∧ IntKind.u64.wrap (b * 2 ^ n) = lo (wn a b * 2 ^ n % W128) := by
 obtain ⟨x,rfl⟩ := Int.eq_ofNat_of_zero_le ha
 obtain ⟨y,rfl⟩ := Int.eq_ofNat_of_zero_le hb
 obtain ⟨h1,h2,h3,h4,h5⟩ := up_parts x y n (by omega) (by omega)
 unfold hi lo wn
 simp only [Int.toNat_natCast]
 rw [h1,h2,IntKind.wrap_u64,IntKind.wrap_u64]
 have e1:(x:Int) * 2 ^ n % 18446744073709551616 = ((x * 2 ^ n % 18446744073709551616:Nat):Int) := by simp
 have e2:(y:Int) * 2 ^ n % 18446744073709551616 = ((y * 2 ^ n % 18446744073709551616:Nat):Int) := by simp
 have e3:(y:Int) / 2 ^ (64 - n) = ((y / 2 ^ (64 - n):Nat):Int) := by simp
 rw [e1,e2,e3,u64_or_nat _ _ (by omega) (by omega),nat_join n _ _ h3 h4]
 exact ⟨rfl,rfl⟩
theorem dm (u w z p:Nat) (h:w + p ≤ 18446744073709551616) (h2:z < p):(u * 18446744073709551616 + w + z) / 18446744073709551616 = u ∧ (u * 18446744073709551616 + w + z) % 18446744073709551616 = z + w := by
 constructor <;> omega
theorem dn_parts (x y n:Nat) (hn:n < 64) (hx:x < 18446744073709551616) (hy:y < 18446744073709551616) :
  (x * 18446744073709551616 + y) / 2 ^ n / 18446744073709551616 = x / 2 ^ n
  ∧ (x * 18446744073709551616 + y) / 2 ^ n % 18446744073709551616 = y / 2 ^ n + x * 2 ^ (64 - n) % 18446744073709551616
  ∧ x * 2 ^ (64 - n) % 18446744073709551616 % 2 ^ (64 - n) = 0 ∧ y / 2 ^ n < 2 ^ (64 - n) := by
 have hpq:2 ^ n * 2 ^ (64 - n) = 18446744073709551616 := by
  rw [← Nat.pow_add,show n + (64 - n) = 64 from by omega]
 generalize hq:2 ^ n = q at *
 generalize hp:2 ^ (64 - n) = p at *
 have hp0:0 < p := by rw [← hp]; exact Nat.two_pow_pos _
 have hq0:0 < q := by rw [← hq]; exact Nat.two_pow_pos _
 have hd := Nat.div_add_mod x q
 have hm := Nat.mod_lt x hq0
 have hyq:y / q < p := by
  rw [Nat.div_lt_iff_lt_mul hq0,Nat.mul_comm]; omega
 generalize x / q = u at *
 generalize x % q = v at *
 -- x = q u + v;  (x 2^64 + y) / q = (q u + v) p + y / q
 have e:(x * 18446744073709551616 + y) / q = x * p + y / q := by
  rw [← hpq,show x * (q * p) + y = q * (x * p) + y from by grind,Nat.mul_add_div hq0]
 rw [e]
 have e1:x * p = u * 18446744073709551616 + v * p := by rw [← hd,← hpq]; grind
 have hv:v * p + p ≤ 18446744073709551616 := by
  rw [← hpq]
  have:(v + 1) * p ≤ q * p := Nat.mul_le_mul_right _ (by omega)
  rw [Nat.add_mul,Nat.one_mul] at this
  exact this
 have hmod:v * p % p = 0 := Nat.mul_mod_left _ _
 rw [e1]
 generalize v * p = w at *
 generalize y / q = z at *
 have e4:(u * 18446744073709551616 + w) % 18446744073709551616 = w := by omega
 rw [e4]
 obtain ⟨k1,k2⟩ := dm u w z p (by omega) hyq
 exact ⟨k1,k2,hmod,hyq⟩
theorem dn_arith_lo (a b:Int) (n:Nat) (ha:0 ≤ a) (ha2:a ≤ 18446744073709551615) (hb:0 ≤ b) (hb2:b ≤ 18446744073709551615) (hn:n < 64) :
  a / 2 ^ n = hi (wn a b / 2 ^ n) ∧ bits BinOp.or IntKind.u64 (b / 2 ^ n) (IntKind.u64.wrap (a * 2 ^ (64 - n))) = lo (wn a b / 2 ^ n) := by
 obtain ⟨x,rfl⟩ := Int.eq_ofNat_of_zero_le ha
 obtain ⟨y,rfl⟩ := Int.eq_ofNat_of_zero_le hb
 obtain ⟨h1,h2,h3,h4⟩ := dn_parts x y n hn (by omega) (by omega)
 unfold hi lo wn
 simp only [Int.toNat_natCast]
 rw [h1,h2,IntKind.wrap_u64]
 have e1:(x:Int) * 2 ^ (64 - n) % 18446744073709551616 = ((x * 2 ^ (64 - n) % 18446744073709551616:Nat):Int) := by simp
 have e2:(x:Int) / 2 ^ n = ((x / 2 ^ n:Nat):Int) := by simp
 have e3:(y:Int) / 2 ^ n = ((y / 2 ^ n:Nat):Int) := by simp
 have e5:y / 2 ^ n ≤ y := Nat.div_le_self _ _
 rw [e1,e2,e3,u64_or_nat _ _ (by omega) (by omega),Nat.or_comm,nat_join (64 - n) _ _ h3 h4,Nat.add_comm]
 exact ⟨rfl,rfl⟩
theorem dn_arith_hi (a b:Int) (n:Nat) (ha:0 ≤ a) (ha2:a ≤ 18446744073709551615) (hb:0 ≤ b) (hb2:b ≤ 18446744073709551615) (hn:64 ≤ n) :
  0 = hi (wn a b / 2 ^ n) ∧ a / 2 ^ (n - 64) = lo (wn a b / 2 ^ n) := by
 obtain ⟨x,rfl⟩ := Int.eq_ofNat_of_zero_le ha
 obtain ⟨y,rfl⟩ := Int.eq_ofNat_of_zero_le hb
 obtain ⟨k,rfl⟩:∃ k,n = 64 + k := ⟨n - 64,by omega⟩
 unfold hi lo wn
 simp only [Int.toNat_natCast]
 rw [show 64 + k - 64 = k from by omega]
 have e:(x * 18446744073709551616 + y) / 2 ^ (64 + k) = x / 2 ^ k := by
  rw [Nat.pow_add,← Nat.div_div_eq_div_mul,show (2:Nat) ^ 64 = 18446744073709551616 from rfl,show (x * 18446744073709551616 + y) / 18446744073709551616 = x from by omega]
 rw [e]
 have e3:(x:Int) / 2 ^ k = ((x / 2 ^ k:Nat):Int) := by simp
 rw [e3]
 have := Nat.div_le_self x (2 ^ k)
 generalize x / 2 ^ k = z at *
 clear e e3
 omega
theorem wn_lt (a b:Int) (ha2:a ≤ 18446744073709551615) (hb2:b ≤ 18446744073709551615):wn a b < W128 := by
 unfold wn; rw [W128_eq]; omega
theorem wn_hi_lo (n:Nat):wn (hi n) (lo n) = n := by unfold wn hi lo; omega
theorem hi_nonneg (n:Nat):0 ≤ hi n := by unfold hi; omega
theorem lo_nonneg (n:Nat):0 ≤ lo n := by unfold lo; omega
theorem lo_le (n:Nat):lo n ≤ 18446744073709551615 := by unfold lo; omega
theorem hi_le (n:Nat) (h:n < W128):hi n ≤ 18446744073709551615 := by unfold hi; rw [W128_eq] at h; omega
theorem dn_arith_all (a b:Int) (n:Nat) (ha:0 ≤ a) (ha2:a ≤ 18446744073709551615) (hb:0 ≤ b) (hb2:b ≤ 18446744073709551615) (hn:128 ≤ n) :
  0 = hi (wn a b / 2 ^ n) ∧ 0 = lo (wn a b / 2 ^ n) ∧ (!a == 0 || !b == 0) = decide (wn a b % 2 ^ n ≠ 0) := by
 have h1 := wn_lt a b ha2 hb2
 have h2:W128 ≤ 2 ^ n := by
  rw [show W128 = 2 ^ 128 from rfl]
  exact Nat.pow_le_pow_right (by omega) hn
 rw [Nat.div_eq_of_lt (by omega),Nat.mod_eq_of_lt (by omega)]
 refine ⟨rfl,rfl,?_⟩
 rw [Bool.eq_iff_iff]
 have e:wn a b = a.toNat * 18446744073709551616 + b.toNat := rfl
 simp only [Bool.or_eq_true,Bool.not_eq_true',beq_eq_false_iff_ne,ne_eq,decide_eq_true_eq]
 omega
theorem lost_iff (a b:Int) (n:Nat) (ha:0 ≤ a) (ha2:a ≤ 18446744073709551615) (hb:0 ≤ b) (hb2:b ≤ 18446744073709551615) :
  (!(hi (wn a b / 2 ^ n * 2 ^ n % W128) == a) || !(lo (wn a b / 2 ^ n * 2 ^ n % W128) == b)) = decide (wn a b % 2 ^ n ≠ 0) := by
 have hlt := wn_lt a b ha2 hb2
 have hd := Nat.div_add_mod (wn a b) (2 ^ n)
 have hle:wn a b / 2 ^ n * 2 ^ n ≤ wn a b := Nat.div_mul_le_self _ _
 rw [Nat.mod_eq_of_lt (by omega),Bool.eq_iff_iff]
 simp only [Bool.or_eq_true,Bool.not_eq_true',beq_eq_false_iff_ne,ne_eq,decide_eq_true_eq]
 rw [Nat.mul_comm] at hd
 generalize wn a b / 2 ^ n * 2 ^ n = u at *
 generalize wn a b % 2 ^ n = v at *
 have e:wn a b = a.toNat * 18446744073709551616 + b.toNat := rfl
 unfold hi lo
 omega
def blen (n:Nat):Nat := if n = 0 then 0 else n.log2 + 1
theorem blen_of {n k:Nat} (h1:2 ^ k ≤ n) (h2:n < 2 ^ (k + 1)):blen n = k + 1 := by
 have h0:n ≠ 0 := by have := Nat.two_pow_pos k; omega
 unfold blen
 rw [if_neg h0]
 have e:n.log2 = k := (Nat.log2_eq_iff h0).2 ⟨h1,h2⟩
 rw [e]
theorem lib_blen (n:Nat) (h:n < 18446744073709551616):Lib.bitLen n = blen n := by
 by_cases h0:n = 0
 ·subst h0; rfl
 ·obtain ⟨h1,h2,h3⟩ := Lib.bitLenAux_bounds 64 n h h0
  unfold Lib.bitLen
  obtain ⟨k,hk⟩:∃ k,Lib.bitLenAux 64 n = k + 1 := ⟨Lib.bitLenAux 64 n - 1,by omega⟩
  rw [hk] at h2 h3 ⊢
  rw [blen_of (k := k) (by simpa using h2) h3]
theorem blen_wn (x y:Nat) (hy:y < 18446744073709551616):blen (wn (x:Int) (y:Int)) = if x > 0 then 64 + blen x else blen y := by
 unfold wn
 simp only [Int.toNat_natCast]
 by_cases h:x > 0
 ·rw [if_pos h]
  have h0:x ≠ 0 := by omega
  have a1 := Nat.lt_log2_self (n := x)
  have a2 := Nat.log2_self_le h0
  have e:blen x = x.log2 + 1 := by unfold blen; rw [if_neg h0]
  rw [e,blen_of (k := x.log2 + 64)]
  ·omega
  ·rw [Nat.pow_add,show (2:Nat) ^ 64 = 18446744073709551616 from rfl]
   generalize 2 ^ x.log2 = u at *
   omega
  ·rw [show x.log2 + 64 + 1 = (x.log2 + 1) + 64 from by omega,Nat.pow_add _ _ 64,show (2:Nat) ^ 64 = 18446744073709551616 from rfl]
   generalize 2 ^ (x.log2 + 1) = u at *
   omega
 ·have:x = 0 := by omega
  subst this
  simp
theorem blen_le {n k:Nat} (h:n < 2 ^ k):blen n ≤ k := by
 unfold blen
 split
 ·omega
 ·rename_i h0
  have := (Nat.log2_lt h0).2 h
  omega
theorem blen_wn_le (a b:Int) (ha2:a ≤ 18446744073709551615) (hb2:b ≤ 18446744073709551615):blen (wn a b) ≤ 128 :=
 blen_le (wn_lt a b ha2 hb2)
def cutN (n:Nat) (e:Int):Nat := max (blen n - 53) (-1074 - e).toNat
theorem lt_blen (n:Nat):n < 2 ^ blen n := by
 unfold blen
 split
 ·omega
 ·exact Nat.lt_log2_self
theorem cut_lt (n:Nat) (e:Int):n / 2 ^ cutN n e < 9007199254740992 := by
 rw [Nat.div_lt_iff_lt_mul (Nat.two_pow_pos _),show 9007199254740992 = 2 ^ 53 from rfl,← Nat.pow_add]
 refine Nat.lt_of_lt_of_le (lt_blen n) (Nat.pow_le_pow_right (by omega) ?_)
 unfold cutN; omega
end Bu
namespace Bu
open Go Go.RowKit
theorem and_mask (x n:Nat) (hx:x < 18446744073709551616) (hn:n ≤ 63):bits BinOp.and IntKind.u64 (x:Int) (((2 ^ n - 1:Nat):Int)) = ((x % 2 ^ n:Nat):Int) := by
 have h1:2 ^ n ≤ 2 ^ 63 := Nat.pow_le_pow_right (by omega) hn
 rw [u64_and_nat _ _ hx (by omega),Nat.and_two_pow_sub_one_eq_mod]
theorem b_parts (x:F):x.b % P = x.k.natAbs % P ∧ x.b / P % 2048 = x.k.natAbs / P ∧ x.k.natAbs / P < 2047 := by
 have h1 := x.hk
 have e := T_num
 unfold F.b P
 split <;> omega
theorem b_frac (x:F):bits BinOp.and IntKind.u64 (x.b:Int) 4503599627370495 = ((x.k.natAbs % P:Nat):Int) := by
 have h := and_mask x.b 52 (by have := x.b_lt; omega) (by omega)
 rw [show ((2 ^ 52 - 1:Nat):Int) = 4503599627370495 from by decide,← P_eq,(b_parts x).1] at h
 exact h
theorem b_exp (x:F):bits BinOp.and IntKind.u64 ((x.b:Int) / 4503599627370496) 2047 = ((x.k.natAbs / P:Nat):Int) := by
 have h := and_mask (x.b / P) 11 (by have := x.b_lt; have := Nat.div_le_self x.b P; omega) (by omega)
 rw [show ((2 ^ 11 - 1:Nat):Int) = 2047 from by decide,show 2 ^ 11 = 2048 from rfl,(b_parts x).2.1] at h
 rw [show (x.b:Int) / 4503599627370496 = ((x.b / P:Nat):Int) from by rw [P]; omega]
 exact h
theorem or_hid (x:Nat):bits BinOp.or IntKind.u64 ((x % P:Nat):Int) 4503599627370496 = ((P + x % P:Nat):Int) := by
 have h1:x % P < P := Nat.mod_lt _ P_pos
 have e:P = 4503599627370496 := rfl
 have h := u64_or_nat (x % P) 4503599627370496 (by omega) (by omega)
 rw [Nat.or_comm,nat_join 52 4503599627370496 (x % P) (by decide) (by rw [← P_eq]; exact h1)] at h
 rw [show ((4503599627370496:Int)) = ((4503599627370496:Nat):Int) from rfl,h]
 rfl
theorem i64_and_nat (a b:Nat) (ha:a < 9223372036854775808) (hb:b < 9223372036854775808):bits .and .i64 (a:Int) (b:Int) = ((a &&& b:Nat):Int) := by
 have hx:a &&& b < 2 ^ 63 := Nat.and_lt_two_pow _ (by omega)
 show IntKind.i64.wrap ((BitVec.ofInt 64 (a:Int) &&& BitVec.ofInt 64 (b:Int)).toNat:Int) = _
 rw [BitVec.toNat_and,ofInt_u64 a (by omega),ofInt_u64 b (by omega)]
 rw [IntKind.wrap_i64]
 omega
theorem b_exp_i (x:F):bits BinOp.and IntKind.i64 (wrap64 ((x.b:Int) / 4503599627370496)) 2047 = ((x.k.natAbs / P:Nat):Int) := by
 have hlt := x.b_lt
 have e:P = 4503599627370496 := rfl
 have h := i64_and_nat (x.b / P) 2047 (by rw [e]; omega) (by omega)
 rw [show (2047:Nat) = 2 ^ 11 - 1 from rfl,Nat.and_two_pow_sub_one_eq_mod,show 2 ^ 11 = 2048 from rfl,(b_parts x).2.1] at h
 rw [show wrap64 ((x.b:Int) / 4503599627370496) = ((x.b / P:Nat):Int) from by rw [e]; unfold wrap64; omega]
 exact h
def F.like (x:F) (r:Nat):F := F.of (if x.k < 0 then -(r:Int) else r)
theorem F.like_b (x:F) (r:Nat) (h0:r ≠ 0) (h:r < T):(x.like r).b = (if x.k < 0 then 9223372036854775808 else 0) + r := by
 unfold F.like F.b
 by_cases hx:x.k < 0
 ·simp only [if_pos hx]; rw [F.of_k (by omega),if_neg (by omega)]; omega
 ·simp only [if_neg hx]; rw [F.of_k (by omega),if_pos (by omega)]; omega
theorem F.like_z (x:F) (r:Nat) (h:r < T):(x.like r).z = if x.k < 0 then -(nv r:Int) else nv r := by
 unfold F.like F.z
 rw [F.of_k (by split <;> omega)]
 by_cases hx:x.k < 0
 ·simp only [if_pos hx]; rw [nvZ_neg,nvZ_natCast]
 ·simp only [if_neg hx]; rw [nvZ_natCast]
theorem F.z_like (x:F):x.z = if x.k < 0 then -(nv x.k.natAbs:Int) else nv x.k.natAbs := by
 have h1 := z_natAbs' x
 have h2 := z_sign x
 split <;> omega
theorem b_sign (x:F):x.b / 9223372036854775808 % 2 * 9223372036854775808 = if x.k < 0 then 9223372036854775808 else 0 := by
 have h1 := x.hk
 have e := T_num
 unfold F.b
 split <;> split <;> omega
theorem ldexp_bits (x:F) (f:Nat) (h1:1 ≤ f) (h2:f ≤ 2046) :
  bits BinOp.or IntKind.u64 (bits BinOp.andNot IntKind.u64 (x.b:Int) 9218868437227405312) (IntKind.u64.wrap ((f:Int) * 4503599627370496)) = ((x.like (f * P + x.k.natAbs % P)).b:Int) := by
 have hlt := x.b_lt
 have eP:P = 4503599627370496 := rfl
 have eT := T_num
 have hm := Nat.mod_lt x.k.natAbs P_pos
 have a1 := u64_andNot_nat x.b 9218868437227405312 (by omega) (by omega)
 rw [show (18446744073709551615 - 9218868437227405312:Nat) = 2 ^ 63 ||| (2 ^ 52 - 1) from by decide,Nat.and_or_distrib_left,nat_bit 63,Nat.and_two_pow_sub_one_eq_mod] at a1
 rw [show (2:Nat) ^ 63 = 9223372036854775808 from rfl,show (2:Nat) ^ 52 = P from rfl,b_sign x,(b_parts x).1] at a1
 have hfP:f * P ≤ 2046 * P := Nat.mul_le_mul_right _ h2
 have hfP1:1 * P ≤ f * P := Nat.mul_le_mul_right _ h1
 have a2:IntKind.u64.wrap ((f:Int) * 4503599627370496) = ((f * P:Nat):Int) := by
  rw [IntKind.wrap_u64,eP]
  rw [eP] at hfP
  omega
 rw [a2,show ((9218868437227405312:Int)) = ((9218868437227405312:Nat):Int) from rfl,a1]
 have hs:(if x.k < 0 then 9223372036854775808 else 0:Nat) = 9223372036854775808 ∨ (if x.k < 0 then 9223372036854775808 else 0:Nat) = 0 := by split <;> simp
 rw [F.like_b x _ (by omega) (by omega)]
 generalize (if x.k < 0 then 9223372036854775808 else 0:Nat) = sg at *
 generalize x.k.natAbs % P = m at *
 have j1:f * P ||| m = f * P + m := nat_join 52 (f * P) m (by rw [show P = 2 ^ 52 from rfl]; exact Nat.mul_mod_left _ _) hm
 have j2:sg ||| (f * P + m) = sg + (f * P + m) := nat_join 63 sg (f * P + m) (by rcases hs with h | h <;> rw [h] <;> rfl) (by omega)
 have j3:sg ||| m = sg + m := nat_join 63 sg m (by rcases hs with h | h <;> rw [h] <;> rfl) (by omega)
 have b1:sg ||| m < 18446744073709551616 := by omega
 rw [u64_or_nat _ _ b1 (by omega),Nat.or_assoc,Nat.or_comm m,j1,j2]
theorem nv_fl_exact {m s:Nat} (h:m ≤ 2 * P):nv (fl (m * 2 ^ s)) = m * 2 ^ s := by
 by_cases h0:m = 0
 ·subst h0; rw [Nat.zero_mul,fl_zero,nv_zero]
 by_cases h2:m = 2 * P
 ·have e:m * 2 ^ s = P * 2 ^ (s + 1) := by rw [h2,Nat.pow_succ]; grind
  rw [e]
  have := nv_mk (s + 1) P (by omega) (Or.inr (Nat.le_refl _))
  rw [← this,fl_nv]
 ·-- m below 2P: lift m into the binade
  have hl := Nat.lt_log2_self (n := m)
  have hl2 := Nat.log2_self_le h0
  have hlt:m < 2 ^ 53 := by rw [show (2:Nat) ^ 53 = 2 * P from rfl]; omega
  have hle:m.log2 ≤ 52 := by
   by_cases c:m.log2 ≤ 52
   ·exact c
   ·have:2 ^ 53 ≤ 2 ^ m.log2 := Nat.pow_le_pow_right (by omega) (by omega)
    omega
  obtain ⟨t,ht⟩:∃ t,t = min s (52 - m.log2) := ⟨_,rfl⟩
  have e:m * 2 ^ s = (m * 2 ^ t) * 2 ^ (s - t) := by
   rw [Nat.mul_assoc,← Nat.pow_add]; congr 2; omega
  have hb:m * 2 ^ t < 2 * P := by
   rw [show 2 * P = 2 ^ 53 from rfl]
   refine Nat.lt_of_lt_of_le (Nat.mul_lt_mul_of_pos_right hl (Nat.two_pow_pos t)) ?_
   rw [← Nat.pow_add]
   exact Nat.pow_le_pow_right (by omega) (by omega)
  have hc:s - t = 0 ∨ P ≤ m * 2 ^ t := by
   by_cases c:s ≤ 52 - m.log2
   ·left; omega
   ·right
    rw [P_eq]
    refine Nat.le_trans ?_ (Nat.mul_le_mul_right (2 ^ t) hl2)
    rw [← Nat.pow_add]
    exact Nat.pow_le_pow_right (by omega) (by omega)
  rw [e,← nv_mk (s - t) (m * 2 ^ t) (by omega) hc,fl_nv]
theorem nv_T:nv T = P * 2 ^ 2046 := by
 have := nv_mk 2046 P (by omega) (Or.inr (Nat.le_refl _))
 rw [← this]
 rfl
theorem man_norm {r:Nat} (h:P ≤ r):man r = P + r % P := by unfold man; rw [if_neg (by omega)]
theorem nv_norm {r:Nat} (h:P ≤ r):nv r = (P + r % P) * 2 ^ (r / P - 1) := by unfold nv; rw [man_norm h]; rfl
def Sc (x y:F) (n:Int):Prop := y.z * ((2 ^ (-n).toNat:Nat):Int) = x.z * ((2 ^ n.toNat:Nat):Int)
theorem Sc.abs {x y:F} {n:Int} (h:Sc x y n):nv y.k.natAbs * 2 ^ (-n).toNat = nv x.k.natAbs * 2 ^ n.toNat := by
 have h2 := congrArg Int.natAbs h
 rw [Int.natAbs_mul,Int.natAbs_mul,Int.natAbs_natCast,Int.natAbs_natCast,z_natAbs',z_natAbs'] at h2
 exact h2
theorem Sc.sign {x y:F} {n:Int} (h:Sc x y n):(y.k < 0 ↔ x.k < 0) := by
 have h1 := z_sign x
 have h2 := z_sign y
 unfold Sc at h
 have p1:(0:Int) < ((2 ^ (-n).toNat:Nat):Int) := by have := Nat.two_pow_pos (-n).toNat; omega
 have p2:(0:Int) < ((2 ^ n.toNat:Nat):Int) := by have := Nat.two_pow_pos n.toNat; omega
 have a := Int.mul_lt_mul_right (b := y.z) (c := 0) p1
 have b := Int.mul_lt_mul_right (b := x.z) (c := 0) p2
 rw [Int.zero_mul] at a b
 rw [h] at a
 omega
theorem ldexp_parts {x x' y:F} {n c:Int} (h:Sc x y n) (hx:x.k ≠ 0) (hc:c ≤ 0) (hN:P ≤ x'.k.natAbs) (hxx:nv x'.k.natAbs = nv x.k.natAbs * 2 ^ (-c).toNat) (hs:x'.k < 0 ↔ x.k < 0) :
  let f := n + c + ((x'.k.natAbs / P:Nat):Int)
  (1 ≤ f ∧ f ≤ 2046 ∧ y = x'.like (f.toNat * P + x'.k.natAbs % P)) ∨
  (1 ≤ f + 53 ∧ f + 53 ≤ 53 ∧ (x'.like ((f + 53).toNat * P + x'.k.natAbs % P)).z = y.z * 9007199254740992) := by
 intro f
 have hab := h.abs
 have hsg := h.sign
 have hP := P_pos
 have hm := Nat.mod_lt x'.k.natAbs hP
 have hq1:1 ≤ x'.k.natAbs / P := (Nat.le_div_iff_mul_le hP).2 (by omega)
 have hn := nv_norm hN
 obtain ⟨q,hq⟩:∃ q,x'.k.natAbs / P = q + 1 := ⟨x'.k.natAbs / P - 1,by omega⟩
 have hfe:f = n + c + (q + 1:Nat) := by show n + c + ((x'.k.natAbs / P:Nat):Int) = _; rw [hq]
 rw [hq,Nat.add_sub_cancel] at hn
 clear_value f
 generalize x'.k.natAbs % P = fr at *
 -- y 2^A = (P + fr) 2^B
 have hAB:nv y.k.natAbs * 2 ^ ((-n).toNat + (-c).toNat) = (P + fr) * 2 ^ (n.toNat + q) := by
  rw [Nat.pow_add,← Nat.mul_assoc,hab,Nat.pow_add,Nat.mul_comm (2 ^ n.toNat) (2 ^ q),← Nat.mul_assoc,← hn,hxx]
  grind
 have hy0:y.k ≠ 0 := by
  intro e
  rw [e,Int.natAbs_zero,nv_zero,Nat.zero_mul] at hab
  have:nv x.k.natAbs = 0 := by
   rcases Nat.mul_eq_zero.1 hab.symm with e | e
   ·exact e
   ·have := Nat.two_pow_pos n.toNat; omega
  have := nv_inj (this.trans nv_zero.symm)
  omega
 have hypos:1 ≤ nv y.k.natAbs := by
  have := @nv_lt 0 y.k.natAbs (by omega)
  rw [nv_zero] at this; omega
 by_cases hf:1 ≤ f
 ·left
  have e1:n.toNat + q = ((-n).toNat + (-c).toNat) + (f.toNat - 1) := by omega
  rw [e1,Nat.pow_add _ _ (f.toNat - 1),Nat.mul_comm (2 ^ _) (2 ^ (f.toNat - 1)),← Nat.mul_assoc] at hAB
  have e2 := Nat.eq_of_mul_eq_mul_right (Nat.two_pow_pos _) hAB
  have e3:f.toNat * P + fr = (f.toNat - 1) * P + (P + fr) := by
   obtain ⟨g,hg⟩:∃ g,f.toNat = g + 1 := ⟨f.toNat - 1,by omega⟩
   rw [hg,Nat.add_sub_cancel,Nat.add_mul]; omega
  have e4:y.k.natAbs = f.toNat * P + fr := by
   apply nv_inj
   rw [e3,nv_mk _ _ (by omega) (Or.inr (by omega)),e2]
  have hyT := y.hk
  have hle:f ≤ 2046 := by
   by_cases c:f.toNat ≤ 2046
   ·omega
   ·have:2047 * P ≤ f.toNat * P := Nat.mul_le_mul_right _ (by omega)
    rw [T_eq] at hyT; omega
  refine ⟨hf,hle,?_⟩
  apply F.z_inj
  rw [F.like_z _ _ (by omega),F.z_like,e4]
  by_cases k1:x'.k < 0
  ·rw [if_pos k1,if_pos (by omega)]
  ·rw [if_neg k1,if_neg (by omega)]
 ·right
  have e1:(-n).toNat + (-c).toNat = (n.toNat + q) + (1 - f).toNat := by omega
  rw [e1,Nat.pow_add _ _ (1 - f).toNat,Nat.mul_comm (2 ^ (n.toNat + q)),← Nat.mul_assoc] at hAB
  have e2 := Nat.eq_of_mul_eq_mul_right (Nat.two_pow_pos _) hAB
  have hlt:(1 - f).toNat < 53 := by
   by_cases c:(1 - f).toNat < 53
   ·exact c
   ·have a1:2 ^ 53 ≤ 2 ^ (1 - f).toNat := Nat.pow_le_pow_right (by omega) (by omega)
    have a2:1 * 2 ^ (1 - f).toNat ≤ nv y.k.natAbs * 2 ^ (1 - f).toNat := Nat.mul_le_mul_right _ hypos
    rw [show (2:Nat) ^ 53 = 2 * P from rfl] at a1
    omega
  have g1:1 ≤ f + 53 := by omega
  have hT:(f + 53).toNat * P + fr < T := by
   have:(f + 53).toNat * P ≤ 53 * P := Nat.mul_le_mul_right _ (by omega)
   rw [T_eq]; omega
  refine ⟨g1,by omega,?_⟩
  rw [F.like_z _ _ hT,F.z_like y]
  have e3:(f + 53).toNat * P + fr = ((f + 53).toNat - 1) * P + (P + fr) := by
   obtain ⟨g,hg⟩:∃ g,(f + 53).toNat = g + 1 := ⟨(f + 53).toNat - 1,by omega⟩
   rw [hg,Nat.add_sub_cancel,Nat.add_mul]; omega
  have e4:nv ((f + 53).toNat * P + fr) = nv y.k.natAbs * 9007199254740992 := by
   rw [e3,nv_mk _ _ (by omega) (Or.inr (by omega)),← e2,Nat.mul_assoc,← Nat.pow_add]
   congr 1
   rw [show (1 - f).toNat + ((f + 53).toNat - 1) = 53 from by omega]
  rw [e4]
  by_cases k1:x'.k < 0
  ·rw [if_pos k1,if_pos (by omega)]; omega
  ·rw [if_neg k1,if_neg (by omega)]; omega
theorem lift_sub (x:F) (h:x.k.natAbs < P) (h0:x.k ≠ 0):∃ x':F,x'.z = x.z * 4503599627370496 ∧ P ≤ x'.k.natAbs ∧ nv x'.k.natAbs = nv x.k.natAbs * 2 ^ 52 ∧ (x'.k < 0 ↔ x.k < 0) := by
 have e1:nv x.k.natAbs = x.k.natAbs := by
  have := nv_mk 0 x.k.natAbs (by omega) (Or.inl rfl)
  simpa using this
 have e2 := nv_fl_exact (m := x.k.natAbs) (s := 52) (by omega)
 have hr:fl (x.k.natAbs * 2 ^ 52) < T := by
  have a1:x.k.natAbs * 2 ^ 52 ≤ P * 2 ^ 52 := Nat.mul_le_mul_right _ (by omega)
  have a2 := fl_mono a1
  have a3 := nv_mk 52 P (by omega) (Or.inr (Nat.le_refl _))
  rw [← a3,fl_nv] at a2
  have e:P = 4503599627370496 := rfl
  have e2 := T_num
  omega
 have hP:P ≤ fl (x.k.natAbs * 2 ^ 52) := by
  rw [le_fl]
  have := nv_mk 0 P (by omega) (Or.inl rfl)
  rw [Nat.zero_mul,Nat.zero_add,Nat.pow_zero,Nat.mul_one] at this
  rw [this,P_eq]
  have:1 * 2 ^ 52 ≤ x.k.natAbs * 2 ^ 52 := Nat.mul_le_mul_right _ (by omega)
  omega
 have hk:(x.like (fl (x.k.natAbs * 2 ^ 52))).k = if x.k < 0 then -(fl (x.k.natAbs * 2 ^ 52):Int) else fl (x.k.natAbs * 2 ^ 52) := by
  unfold F.like; rw [F.of_k (by split <;> omega)]
 have hka:(x.like (fl (x.k.natAbs * 2 ^ 52))).k.natAbs = fl (x.k.natAbs * 2 ^ 52) := by rw [hk]; split <;> omega
 refine ⟨x.like (fl (x.k.natAbs * 2 ^ 52)),?_,by rw [hka]; exact hP,by rw [hka,e2,e1],?_⟩
 ·rw [F.like_z _ _ hr,e2,F.z_like,e1]
  split <;> omega
 ·rw [hk]
  have := P_pos
  split <;> omega
def F.dy (m:Nat) (e:Int):F := F.of (fl (m * 2 ^ (e + 1074).toNat):Nat)
theorem dy_lt {m:Nat} {e:Int} (he:-1074 ≤ e) (h:(blen m:Int) + e ≤ 1024):fl (m * 2 ^ (e + 1074).toNat) < T := by
 have h1 := lt_blen m
 have h2:m * 2 ^ (e + 1074).toNat < nv T := by
  rw [nv_T]
  refine Nat.lt_of_lt_of_le (Nat.mul_lt_mul_of_pos_right h1 (Nat.two_pow_pos _)) ?_
  rw [← Nat.pow_add]
  obtain ⟨t,ht⟩:∃ t:Nat,t = 2046 := ⟨_,rfl⟩
  rw [← ht,show P * 2 ^ t = 2 ^ (52 + t) from by rw [Nat.pow_add]; rfl]
  exact Nat.pow_le_pow_right (by omega) (by omega)
 have h3 := nv_fl_le (m * 2 ^ (e + 1074).toNat)
 exact nv_lt_iff.1 (by omega)
theorem dy_z {m:Nat} {e:Int} (hm:m ≤ 2 * P) (he:-1074 ≤ e) (h:(blen m:Int) + e ≤ 1024):(F.dy m e).z = ((m * 2 ^ (e + 1074).toNat:Nat):Int) := by
 have := dy_lt he h
 unfold F.dy F.z
 rw [F.of_k (by omega),nvZ_natCast,nv_fl_exact hm]
theorem blen_2P {m:Nat} (hm:m ≤ 2 * P):blen m ≤ 54 := by
 apply blen_le
 have:P = 4503599627370496 := rfl
 omega
theorem nat_z {m:Nat} (hm:m ≤ 2 * P):(F.dy m 0).z = (m:Int) * S := by
 have := blen_2P hm
 rw [dy_z hm (by omega) (by omega)]
 obtain ⟨s,hs,e⟩ := S_pow
 rw [e,show ((0:Int) + 1074).toNat = s from by omega]
 simp
theorem nat_conv {m:Nat} (hm:m ≤ 2 * P):Ieee.double.write (.number (decide ((m:Int) < 0)) (m:Int).natAbs 0) = (F.dy m 0).b :=
 ofInt_exact (nat_z hm)
theorem nat_Sc {m:Nat} {e:Int} (hm:m ≤ 2 * P) (he:-1074 ≤ e) (h:(blen m:Int) + e ≤ 1024):Sc (F.dy m 0) (F.dy m e) e := by
 unfold Sc
 rw [nat_z hm,dy_z hm he h]
 obtain ⟨s,hs,e2⟩ := S_pow
 rw [e2,← Int.natCast_mul,← Int.natCast_mul,← Int.natCast_mul,Nat.mul_assoc,Nat.mul_assoc,← Nat.pow_add,← Nat.pow_add]
 rw [show (e + 1074).toNat + (-e).toNat = s + e.toNat from by omega]
theorem dy_max:F.dy 9007199254740991 971 = F.max := by decide +kernel
def F.turn (minus:Bool) (x:F):F := if minus then x.neg else x
def rndOut (minus away:Bool) (m:Nat) (e:Int):F × Int :=
 if m = 0 then (F.zero,0) else if 1024 < (blen m:Int) + e then (if away then (F.zero,10) else (F.turn minus F.max,0)) else (F.turn minus (F.dy m e),0)
theorem xor_top (r:Nat) (h:r < 2 ^ 63):r ^^^ 2 ^ 63 = 2 ^ 63 + r := by
 have e0 := Nat.two_pow_add_eq_or_of_lt h 1
 rw [Nat.mul_one] at e0
 rw [e0]
 apply Nat.eq_of_testBit_eq
 intro i
 rw [Nat.testBit_xor,Nat.testBit_or,Nat.testBit_two_pow]
 by_cases e:63 = i
 ·subst e; rw [Nat.testBit_lt_two_pow h]; rfl
 ·simp [e]
theorem negFloat_F (x:F) (h:x.k ≠ 0):Op.negFloat .f64 x.b = x.neg.b := by
 show x.b ^^^ 2 ^ 63 = x.neg.b
 have h1 := x.hk
 have e := T_num
 unfold F.neg F.b
 simp only
 by_cases h2:0 ≤ x.k
 ·rw [if_pos h2,if_neg (by omega),xor_top _ (by omega)]
  omega
 ·rw [if_neg h2,if_pos (by omega)]
  have := xor_top (-x.k).toNat (by omega)
  rw [show 9223372036854775808 + (-x.k).toNat = (-x.k).toNat ^^^ 2 ^ 63 from this.symm,Nat.xor_assoc,Nat.xor_self,Nat.xor_zero]
theorem F.max_k:F.max.k = 9218868437227405311 := rfl
theorem dy_pos {m:Nat} {e:Int} (hm:m ≤ 2 * P) (h0:m ≠ 0) (he:-1074 ≤ e) (h:(blen m:Int) + e ≤ 1024):(F.dy m e).k ≠ 0 := by
 intro c
 have h1 := (z_zero _).2 c
 rw [dy_z hm he h] at h1
 have h2:m * 2 ^ (e + 1074).toNat ≠ 0 := Nat.mul_ne_zero h0 (by have := Nat.two_pow_pos (e + 1074).toNat; omega)
 omega
def mUp (minus more up lost:Bool) (m0:Nat):Nat := if (up != minus) && (lost || more) then m0 + 1 else m0
def rndG (minus:Bool) (n:Nat) (more:Bool) (e:Int) (up:Bool):F × Int :=
 rndOut minus (up != minus) (mUp minus more up (decide (n % 2 ^ cutN n e ≠ 0)) (n / 2 ^ cutN n e)) (e + cutN n e)
theorem turn_false (x:F):F.turn false x = x := rfl
theorem turn_true (x:F):F.turn true x = x.neg := rfl
attribute [irreducible] F.dy F.turn
end Bu
namespace Bu
def flQ (A B:Nat):Nat := fl (A / B)
def ceQ (A B:Nat):Nat := ce ((A + B - 1) / B)
theorem le_flQ {r A B:Nat} (hB:0 < B):r ≤ flQ A B ↔ nv r * B ≤ A := by
 unfold flQ; rw [le_fl,Nat.le_div_iff_mul_le hB]
theorem ceQ_le {r A B:Nat} (hB:0 < B):ceQ A B ≤ r ↔ A ≤ nv r * B := by
 unfold ceQ
 rw [ce_le]
 constructor
 ·intro h
  have h1:(A + B - 1) / B < nv r + 1 := by omega
  rw [Nat.div_lt_iff_lt_mul hB,Nat.add_mul,Nat.one_mul] at h1
  omega
 ·intro h
  have h1:(A + B - 1) / B < nv r + 1 := by
   rw [Nat.div_lt_iff_lt_mul hB,Nat.add_mul,Nat.one_mul]
   omega
  omega
theorem flQ_eq {r A B:Nat} (hB:0 < B) (h1:nv r * B ≤ A) (h2:A < nv (r + 1) * B):flQ A B = r := by
 have a := (le_flQ hB).2 h1
 have b:¬ (r + 1 ≤ flQ A B) := by rw [le_flQ hB]; omega
 omega
theorem ceQ_eq {r A B:Nat} (hB:0 < B) (h1:nv r * B < A) (h2:A ≤ nv (r + 1) * B):ceQ A B = r + 1 := by
 have a := (ceQ_le hB).2 h2
 have b:¬ (ceQ A B ≤ r) := by rw [ceQ_le hB]; omega
 omega
theorem ceQ_exact {r A B:Nat} (hB:0 < B) (h:A = nv r * B):ceQ A B = r := by
 have a := (ceQ_le (r := r) (A := A) hB).2 (by omega)
 have b:r ≤ ceQ A B := by
  have h2 := (ceQ_le (A := A) hB).1 (Nat.le_refl _)
  have h3:nv r * B ≤ nv (ceQ A B) * B := by rw [← h]; exact h2
  exact nv_le_iff.1 (Nat.le_of_mul_le_mul_right h3 hB)
 omega
def flI (A:Int) (B:Nat):Int := if 0 ≤ A then (flQ A.toNat B:Int) else -(ceQ (-A).toNat B:Int)
def ceI (A:Int) (B:Nat):Int := -(flI (-A) B)
theorem ceQ_zero {B:Nat} (hB:0 < B):ceQ 0 B = 0 := by
 have h:0 = nv 0 * B := by have := nv_zero; rw [this,Nat.zero_mul]
 exact ceQ_exact hB h
theorem flQ_zero {B:Nat}:flQ 0 B = 0 := by
 have h := fl_zero
 unfold flQ
 rw [Nat.zero_div]
 exact h
theorem le_flI {k A:Int} {B:Nat} (hB:0 < B):k ≤ flI A B ↔ nvZ k * (B:Int) ≤ A := by
 have hBi:(0:Int) < B := by omega
 unfold flI
 by_cases hA:0 ≤ A
 ·rw [if_pos hA]
  obtain ⟨a,rfl⟩ := Int.eq_ofNat_of_zero_le hA
  rw [Int.toNat_natCast]
  by_cases hk:0 ≤ k
  ·obtain ⟨r,rfl⟩ := Int.eq_ofNat_of_zero_le hk
   have := @le_flQ r a B hB
   rw [nvZ_natCast,← Int.natCast_mul]
   omega
  ·have h1:nvZ k < nvZ 0 := nvZ_lt (by omega)
   rw [nvZ_zero] at h1
   have h2 := Int.mul_neg_of_neg_of_pos h1 hBi
   omega
 ·rw [if_neg hA]
  obtain ⟨a,ha⟩ := Int.eq_ofNat_of_zero_le (show 0 ≤ -A by omega)
  rw [ha,Int.toNat_natCast]
  by_cases hk:0 ≤ k
  ·have h1 := nvZ_nonneg hk
   have h2 := Int.mul_nonneg h1 (Int.le_of_lt hBi)
   have h3:¬ (ceQ a B ≤ 0) := by rw [ceQ_le hB,nv_zero]; omega
   omega
  ·obtain ⟨r,hr⟩ := Int.eq_ofNat_of_zero_le (show 0 ≤ -k by omega)
   have := @ceQ_le r a B hB
   have e:nvZ k = -(nv r:Int) := by rw [← Int.neg_neg k,nvZ_neg,hr,nvZ_natCast]
   rw [e,Int.neg_mul,← Int.natCast_mul]
   omega
theorem ceI_le {k A:Int} {B:Nat} (hB:0 < B):ceI A B ≤ k ↔ A ≤ nvZ k * (B:Int) := by
 unfold ceI
 have h := @le_flI (-k) (-A) B hB
 rw [nvZ_neg,Int.neg_mul] at h
 omega
def outUp (k:Int):F × Int := if (T:Int) ≤ k then (F.zero,10) else (F.of (max k (1 - T)),0)
def outDn (k:Int):F × Int := if k ≤ -(T:Int) then (F.zero,10) else (F.of (min k (T - 1)),0)
def rndR (up:Bool) (A:Int) (B:Nat):F × Int := if up then outUp (ceI A B) else outDn (flI A B)
theorem neg_of {k:Int} (h:-(T:Int) < k ∧ k < T):(F.of k).neg = F.of (-k) := by
 apply F.ext'
 show -(F.of k).k = _
 rw [F.of_k h,F.of_k (by omega)]
theorem rndR_mag (minus up:Bool) (A B:Nat) :
  rndR up (if minus then -(A:Int) else A) B = if (up != minus) then (if T ≤ ceQ A B then (F.zero,10) else (F.turn minus (F.of (ceQ A B:Nat)),0))
   else (F.turn minus (F.of (min (flQ A B) (T - 1):Nat)),0) := by
 have hT := T_num
 have ez:∀ b:Bool,F.turn b (F.of ((0:Nat):Int)) = F.of ((0:Nat):Int) := by decide +kernel
 cases minus <;> cases up
 ·-- down,of what is not below 0
  simp only [rndR,outDn,Bool.false_eq_true,if_false,bne_self_eq_false]
  have e:flI (A:Int) B = (flQ A B:Int) := by
   unfold flI; rw [if_pos (by omega),Int.toNat_natCast]
  rw [e,if_neg (by omega),turn_false]
  rw [show min (flQ A B:Int) ((T:Int) - 1) = ((min (flQ A B) (T - 1):Nat):Int) from by omega]
 ·simp only [rndR,outUp,if_true,Bool.false_eq_true,if_false,show (true != false) = true from rfl]
  have e:ceI (A:Int) B = (ceQ A B:Int) := by
   unfold ceI flI
   by_cases hA:A = 0
   ·subst hA
    rw [if_pos (by omega),show (-((0:Nat):Int)).toNat = 0 from rfl,flQ_zero]
    by_cases hB:0 < B
    ·rw [ceQ_zero hB]; rfl
    ·have:B = 0 := by omega
     subst this
     decide
   ·rw [if_neg (by omega),Int.neg_neg,Int.neg_neg,Int.toNat_natCast]
  rw [e]
  by_cases h:T ≤ ceQ A B
  ·rw [if_pos (by omega),if_pos h]
  ·rw [if_neg (by omega),if_neg h,turn_false]
   rw [show max (ceQ A B:Int) (1 - (T:Int)) = (ceQ A B:Int) from by omega]
 ·simp only [rndR,outDn,if_true,Bool.false_eq_true,if_false,show (false != true) = true from rfl]
  have e:flI (-(A:Int)) B = -(ceQ A B:Int) := by
   unfold flI
   by_cases hA:A = 0
   ·subst hA
    rw [if_pos (by omega),show (-((0:Nat):Int)).toNat = 0 from rfl,flQ_zero]
    by_cases hB:0 < B
    ·rw [ceQ_zero hB]; rfl
    ·have:B = 0 := by omega
     subst this
     decide
   ·rw [if_neg (by omega),Int.neg_neg,Int.toNat_natCast]
  rw [e]
  by_cases h:T ≤ ceQ A B
  ·rw [if_pos (by omega),if_pos h]
  ·rw [if_neg (by omega),if_neg h,turn_true,neg_of (by omega)]
   rw [show min (-(ceQ A B:Int)) ((T:Int) - 1) = -(ceQ A B:Int) from by omega]
 ·simp only [rndR,outUp,if_true,bne_self_eq_false,Bool.false_eq_true,if_false]
  have e:ceI (-(A:Int)) B = -(flQ A B:Int) := by
   unfold ceI flI
   rw [Int.neg_neg,if_pos (by omega),Int.toNat_natCast]
  rw [e,if_neg (by omega),turn_true,neg_of (by omega)]
  rw [show max (-(flQ A B:Int)) (1 - (T:Int)) = -((min (flQ A B) (T - 1):Nat):Int) from by omega]
theorem rndG_eq_rndR {minus more up:Bool} {n A B:Nat} {e:Int} (hB:0 < B)
  (h1:n * 2 ^ (e + 1074).toNat * B ≤ A * 2 ^ (-(e + 1074)).toNat) (h2:A * 2 ^ (-(e + 1074)).toNat < (n + 1) * 2 ^ (e + 1074).toNat * B)
  (h3:more = true ↔ A * 2 ^ (-(e + 1074)).toNat ≠ n * 2 ^ (e + 1074).toNat * B) (h4:more = true → 53 ≤ blen n) :
  rndG minus n more e up = rndR up (if minus then -(A:Int) else A) B := by
 have hT := T_num
 have hP:P = 4503599627370496 := rfl
 rw [rndR_mag]
 unfold rndG
 obtain ⟨X,hX⟩:∃ X,cutN n e = X := ⟨_,rfl⟩
 obtain ⟨p,hp⟩:∃ p,(e + 1074).toNat = p := ⟨_,rfl⟩
 obtain ⟨q,hq⟩:∃ q,(-(e + 1074)).toNat = q := ⟨_,rfl⟩
 rw [hX]
 rw [hp,hq] at h1 h2 h3
 -- s: the place behind the cut
 have hXq:q ≤ X := by unfold cutN at hX; omega
 obtain ⟨s,hs⟩:∃ s:Nat,e + X = (s:Int) - 1074 := ⟨(e + X + 1074).toNat,by unfold cutN at hX; omega⟩
 have hsX:s + q = p + X := by omega
 have hcl := cut_lt n e
 rw [hX] at hcl
 -- what is kept,the rest
 have hd := Nat.div_add_mod n (2 ^ X)
 have hr := Nat.mod_lt n (Nat.two_pow_pos X)
 have hXpos := Nat.two_pow_pos X
 generalize hm0:n / 2 ^ X = m0 at *
 generalize hrest:n % 2 ^ X = rest at *
 have hq0 := Nat.two_pow_pos q
 have hp0 := Nat.two_pow_pos p
 have hs0 := Nat.two_pow_pos s
 have hsq:2 ^ s * 2 ^ q = 2 ^ p * 2 ^ X := by rw [← Nat.pow_add,← Nat.pow_add,hsX]
 -- m0 2^s B ≤ A < (m0 + 1) 2^s B
 have b1:m0 * 2 ^ s * B ≤ A := by
  refine Nat.le_of_mul_le_mul_right ?_ hq0
  refine Nat.le_trans ?_ h1
  rw [show m0 * 2 ^ s * B * 2 ^ q = (2 ^ X * m0) * 2 ^ p * B from by
   rw [show m0 * 2 ^ s * B * 2 ^ q = m0 * (2 ^ s * 2 ^ q) * B from by grind,hsq]; grind]
  exact Nat.mul_le_mul_right _ (Nat.mul_le_mul_right _ (by omega))
 have b2:A < (m0 + 1) * 2 ^ s * B := by
  refine Nat.lt_of_mul_lt_mul_right (a := 2 ^ q) ?_
  refine Nat.lt_of_lt_of_le h2 ?_
  rw [show (m0 + 1) * 2 ^ s * B * 2 ^ q = (2 ^ X * m0 + 2 ^ X) * 2 ^ p * B from by
   rw [show (m0 + 1) * 2 ^ s * B * 2 ^ q = (m0 + 1) * (2 ^ s * 2 ^ q) * B from by grind,hsq]; grind]
  exact Nat.mul_le_mul_right _ (Nat.mul_le_mul_right _ (by omega))
 -- nothing is lost just if A is that
 have b3:(rest ≠ 0 ∨ more = true) ↔ A ≠ m0 * 2 ^ s * B := by
  rw [h3]
  have k1:A = m0 * 2 ^ s * B ↔ A * 2 ^ q = (2 ^ X * m0) * 2 ^ p * B := by
   rw [← Nat.mul_left_inj (Nat.ne_of_gt hq0) (b := A)]
   rw [show m0 * 2 ^ s * B * 2 ^ q = m0 * (2 ^ s * 2 ^ q) * B from by grind,hsq,show m0 * (2 ^ p * 2 ^ X) * B = 2 ^ X * m0 * 2 ^ p * B from by grind]
  constructor
  ·rintro (h | h) c
   ·rw [k1] at c
    rw [c,show n = 2 ^ X * m0 + rest from hd.symm] at h1
    have:(2 ^ X * m0 + rest) * 2 ^ p ≤ 2 ^ X * m0 * 2 ^ p := Nat.le_of_mul_le_mul_right h1 hB
    have := Nat.le_of_mul_le_mul_right this hp0
    omega
   ·rw [k1] at c
    by_cases hz:rest = 0
    ·apply h
     rw [c,← hd,hz,Nat.add_zero]
    ·rw [c,show n = 2 ^ X * m0 + rest from hd.symm] at h1
     have:(2 ^ X * m0 + rest) * 2 ^ p ≤ 2 ^ X * m0 * 2 ^ p := Nat.le_of_mul_le_mul_right h1 hB
     have := Nat.le_of_mul_le_mul_right this hp0
     omega
  ·intro h
   by_cases hz:rest = 0
   ·right
    intro c
    apply h
    rw [k1,c,← hd,hz,Nat.add_zero]
   ·exact Or.inl hz
 -- where what is kept is short,nothing is lost
 have b4:(s = 0 ∨ P ≤ m0) ∨ A = m0 * 2 ^ s * B := by
  by_cases c:53 ≤ blen n
  ·left
   by_cases c2:s = 0
   ·exact Or.inl c2
   ·right
    have hXe:X = blen n - 53 := by unfold cutN at hX; omega
    have hn0:n ≠ 0 := by intro c3; subst c3; simp [blen] at c
    have e1:blen n = n.log2 + 1 := by unfold blen; rw [if_neg hn0]
    rw [← hm0,Nat.le_div_iff_mul_le hXpos,hP,show 4503599627370496 = 2 ^ 52 from rfl,← Nat.pow_add]
    exact Nat.le_trans (Nat.pow_le_pow_right (by omega) (by omega)) (Nat.log2_self_le hn0)
  ·by_cases c2:s = 0
   ·exact Or.inl (Or.inl c2)
   ·right
    have hXe:X = 0 := by unfold cutN at hX; omega
    by_cases hA:A = m0 * 2 ^ s * B
    ·exact hA
    ·exfalso
     rcases b3.2 hA with h | h
     ·rw [hXe,Nat.pow_zero] at hr; omega
     ·exact c (h4 h)
 have hlost:decide (rest ≠ 0) = !decide (rest = 0) := by simp
 have hmB:∀ m:Nat,m ≤ 2 * P → m * 2 ^ s * B = nv (fl (m * 2 ^ s)) * B := fun m hm => by rw [nv_fl_exact hm]
 have hdy:∀ m:Nat,F.dy m (e + X) = F.of (fl (m * 2 ^ s):Nat) := by
  intro m; unfold F.dy; rw [hs,show ((s:Int) - 1074 + 1074).toNat = s from by omega]
 -- too great?
 have hbig:∀ m:Nat,m ≠ 0 → m ≤ 2 * P → (1024 < (blen m:Int) + (e + X) ↔ T ≤ fl (m * 2 ^ s)) := by
  intro m h0 hm
  rw [le_fl,nv_T,hs]
  have l1 := lt_blen m
  have e1:blen m = m.log2 + 1 := by unfold blen; rw [if_neg h0]
  have l2 := Nat.log2_self_le h0
  obtain ⟨t,ht⟩:∃ t:Nat,t = 2046 := ⟨_,rfl⟩
  rw [← ht,show P * 2 ^ t = 2 ^ (52 + t) from by rw [Nat.pow_add]; rfl]
  constructor
  ·intro h
   refine Nat.le_trans ?_ (Nat.mul_le_mul_right _ l2)
   rw [← Nat.pow_add]
   exact Nat.pow_le_pow_right (by omega) (by omega)
  ·intro h
   have h5:2 ^ (52 + t) < 2 ^ (blen m + s) := by
    rw [Nat.pow_add 2 (blen m)]
    exact Nat.lt_of_le_of_lt h (Nat.mul_lt_mul_of_pos_right l1 hs0)
   have := (Nat.pow_lt_pow_iff_right (by omega:1 < 2)).1 h5
   omega
 have hm0P:m0 < 2 * P := by omega
 -- the exact case,and the others
 by_cases hex:A = m0 * 2 ^ s * B
 ·have hno:rest = 0 ∧ more = false := by
   have := mt b3.1 (by rw [ne_eq,Classical.not_not]; exact hex)
   constructor
   ·by_cases c:rest = 0
    ·exact c
    ·exact absurd (Or.inl c) this
   ·cases more
    ·rfl
    ·exact absurd (Or.inr rfl) this
  have hmU:mUp minus more up (decide (rest ≠ 0)) m0 = m0 := by unfold mUp; rw [hno.1,hno.2]; simp
  rw [hmU]
  have hce:ceQ A B = fl (m0 * 2 ^ s) := ceQ_exact hB (by rw [hex,hmB m0 (by omega)])
  have hfl:flQ A B = fl (m0 * 2 ^ s) := by
   unfold flQ; rw [hex,Nat.mul_div_cancel _ hB]
  rw [hce,hfl]
  unfold rndOut
  by_cases hz:m0 = 0
  ·subst hz
   rw [if_pos rfl,Nat.zero_mul,fl_zero]
   have ez:∀ b:Bool,F.turn b (F.of ((0:Nat):Int)) = F.zero := by decide +kernel
   rw [if_neg (show ¬ T ≤ 0 by omega),Nat.min_eq_left (by omega),ez]
   split <;> rfl
  ·rw [if_neg hz]
   have hb := hbig m0 hz (by omega)
   by_cases g:1024 < (blen m0:Int) + (e + X)
   ·have g2 := hb.1 g
    rw [if_pos g,if_pos g2,Nat.min_eq_right (by omega)]
    rw [show F.of ((T - 1:Nat):Int) = F.max from by decide +kernel]
   ·have g2:¬ T ≤ fl (m0 * 2 ^ s) := fun c => g (hb.2 c)
    rw [if_neg g,if_neg g2,Nat.min_eq_left (by omega),hdy]
    split <;> rfl
 ·have hyes := b3.2 hex
  have hnorm : s = 0 ∨ P ≤ m0 := by rcases b4 with h | h
                                    ·exact h
                                    ·exact absurd h hex
  have n1 := nv_mk s m0 (by omega) hnorm
  have n2 := nv_mk s (m0 + 1) (by omega) (by omega)
  have f1:fl (m0 * 2 ^ s) = s * P + m0 := by rw [← n1,fl_nv]
  have f2:fl ((m0 + 1) * 2 ^ s) = s * P + (m0 + 1) := by rw [← n2,fl_nv]
  have hfl:flQ A B = s * P + m0 := flQ_eq hB (by rw [n1]; exact b1) (by rw [Nat.add_assoc,n2]; exact b2)
  have hce:ceQ A B = s * P + m0 + 1 := ceQ_eq hB (by rw [n1]; omega) (by rw [Nat.add_assoc,n2]; omega)
  have hyesb:(decide (rest ≠ 0) || more) = true := by
   rcases hyes with h | h
   ·simp [h]
   ·simp [h]
  by_cases aw:(up != minus) = true
  ·have hmU:mUp minus more up (decide (rest ≠ 0)) m0 = m0 + 1 := by unfold mUp; rw [aw,hyesb]; rfl
   rw [hmU,aw,if_pos rfl,hce]
   unfold rndOut
   rw [if_neg (by omega)]
   have hb := hbig (m0 + 1) (by omega) (by omega)
   rw [f2] at hb
   by_cases g:1024 < (blen (m0 + 1):Int) + (e + X)
   ·have g2 := hb.1 g
    rw [if_pos g,if_pos rfl,if_pos (by omega)]
   ·have g2:¬ T ≤ s * P + (m0 + 1) := fun c => g (hb.2 c)
    rw [if_neg g,if_neg (by omega),hdy,f2,Nat.add_assoc]
  ·have aw2:(up != minus) = false := by simpa using aw
   have hmU:mUp minus more up (decide (rest ≠ 0)) m0 = m0 := by unfold mUp; rw [aw2]; rfl
   rw [hmU,aw2,hfl]
   unfold rndOut
   by_cases hz:m0 = 0
   ·subst hz
    have hs1:s = 0 := by omega
    subst hs1
    rw [if_pos rfl]
    have ez:∀ b:Bool,F.turn b (F.of ((0:Nat):Int)) = F.zero := by decide +kernel
    rw [Nat.zero_mul,Nat.zero_add,Nat.min_eq_left (by omega),ez]
    simp
   ·rw [if_neg hz]
    have hb := hbig m0 hz (by omega)
    rw [f1] at hb
    by_cases g:1024 < (blen m0:Int) + (e + X)
    ·have g2 := hb.1 g
     rw [if_pos g,Nat.min_eq_right (by omega)]
     rw [show F.of ((T - 1:Nat):Int) = F.max from by decide +kernel]
     simp
    ·have g2:¬ T ≤ s * P + m0 := fun c => g (hb.2 c)
     rw [if_neg g,Nat.min_eq_left (by omega),hdy,f1]
     simp
theorem flI_nvZ (k:Int):flI (nvZ k) 1 = k := by
 have h1 := (le_flI (k := k) (A := nvZ k) (B := 1) (by omega)).2 (by omega)
 have h2 := (le_flI (k := flI (nvZ k) 1) (A := nvZ k) (B := 1) (by omega)).1 (Int.le_refl _)
 have h3:nvZ (flI (nvZ k) 1) ≤ nvZ k := by omega
 have := nvZ_le_iff.1 h3
 omega
theorem ceI_nvZ (k:Int):ceI (nvZ k) 1 = k := by
 unfold ceI; rw [← nvZ_neg,flI_nvZ]; omega
theorem rndR_nvZ (up:Bool) (k:Int):rndR up (nvZ k) 1 = if up then outUp k else outDn k := by
 unfold rndR; rw [flI_nvZ,ceI_nvZ]
def nextF (x:F) (up:Bool):F × Int := if up then outUp (x.k + 1) else outDn (x.k - 1)
theorem rndG_nv {minus up:Bool} {n r:Nat} {e:Int} (he:-1074 ≤ e) (h:n * 2 ^ (e + 1074).toNat = nv r) :
  rndG minus n false e up = if up then outUp (if minus then -(r:Int) else r) else outDn (if minus then -(r:Int) else r) := by
 have h0:(-(e + 1074)).toNat = 0 := by omega
 rw [rndG_eq_rndR (A := nv r) (B := 1) (by omega) (by rw [h,h0]; simp) (by
  rw [h0,Nat.add_mul,h]; have := Nat.two_pow_pos (e + 1074).toNat; omega) (by rw [h,h0]; simp) (by simp)]
 have e:(if minus then -(nv r:Int) else (nv r:Int)) = nvZ (if minus then -(r:Int) else r) := by
  cases minus
  ·simp only [Bool.false_eq_true,if_false]; rw [nvZ_natCast]
  ·simp only [if_true]; rw [nvZ_neg,nvZ_natCast]
 rw [e,rndR_nvZ]
theorem nv_up (r:Nat):(man r + 1) * 2 ^ pl r = nv (r + 1) := by
 obtain ⟨s,m,rfl,h1,h2⟩ := rung_mk r
 have hn := nv_mk s m (by omega) h2
 rw [Nat.add_assoc,nv_mk s (m + 1) (by omega) (by omega)]
 -- man,pl of s P + m
 have hP := P_pos
 have e1:man (s * P + m) = m ∧ pl (s * P + m) = s := by
  by_cases h3:m < P
  ·have hs:s = 0 := by omega
   subst hs
   unfold man pl
   simp [h3,Nat.div_eq_of_lt h3]
  ·have e0:s * P + m = (s + 1) * P + (m - P) := by rw [Nat.add_mul]; omega
   have hlt:m - P < P := by omega
   have e2:¬ ((s + 1) * P + (m - P) < P) := by
    have:1 * P ≤ (s + 1) * P := Nat.mul_le_mul_right _ (by omega)
    omega
   unfold man pl
   rw [e0,if_neg e2,Nat.mul_comm (s+1) P,Nat.mul_add_mod,Nat.mod_eq_of_lt hlt,Nat.mul_add_div hP,Nat.div_eq_of_lt hlt]
   omega
 rw [e1.1,e1.2]
theorem man_pl (r:Nat):(pl r = 0 ∨ P ≤ man r) ∧ man r < 2 * P := by
 have hP := P_pos
 have hm := Nat.mod_lt r hP
 unfold man pl
 by_cases h:r < P
 ·rw [if_pos h,Nat.div_eq_of_lt h]; omega
 ·rw [if_neg h]; omega
theorem nv_dn (r:Nat) (h:1 ≤ r) (h2:¬ (man r = P ∧ 1 ≤ pl r)):(man r - 1) * 2 ^ pl r = nv (r - 1) := by
 obtain ⟨t,rfl⟩:∃ t,r = t + 1 := ⟨r - 1,by omega⟩
 have h3 := man_pl (t + 1)
 have hm:man (t + 1) ≠ 0 := fun c => by have := man_zero _ c; omega
 obtain ⟨m,hmm⟩:∃ m,man (t + 1) = m + 1 := ⟨man (t + 1) - 1,by omega⟩
 have e1 := nv_mk (pl (t + 1)) m (by omega) (by omega)
 have e2:nv (pl (t + 1) * P + (m + 1)) = nv (t + 1) := by
  rw [nv_mk (pl (t + 1)) (m + 1) (by omega) (by omega)]; unfold nv; rw [hmm]
 have e3 := nv_inj e2
 have e4:pl (t + 1) * P + m = t := by omega
 rw [hmm,Nat.add_sub_cancel,Nat.add_sub_cancel,← e1,e4]
theorem nv_dn2 (r:Nat) (h:man r = P) (h2:1 ≤ pl r):9007199254740991 * 2 ^ (pl r - 1) = nv (r - 1) := by
 have hP:P = 4503599627370496 := rfl
 obtain ⟨s,hs⟩:∃ s,pl r = s + 1 := ⟨pl r - 1,by omega⟩
 have e1 := nv_mk s 9007199254740991 (by omega) (by omega)
 have e2:nv ((s + 1) * P + P) = nv r := by
  rw [nv_mk (s + 1) P (by omega) (by omega)]; unfold nv; rw [h,hs]
 have e3 := nv_inj e2
 have e4:s * P + 9007199254740991 = r - 1 := by rw [← e3,Nat.add_mul]; omega
 rw [hs,Nat.add_sub_cancel,← e1,e4]
end Bu
namespace Bu
open Ieee
def dAdd (up:Bool) (a b:F):F × Int := rndR up (a.z + b.z) 1
def dSub (up:Bool) (a b:F):F × Int := rndR up (a.z - b.z) 1
def dMul (up:Bool) (a b:F):F × Int := rndR up (a.z * b.z) S
def dDiv (up:Bool) (a b:F):F × Int := rndR up (if b.k < 0 then -(a.z * S) else a.z * S) b.z.natAbs
def sg (x:F):Bool := decide (x.k < 0)
def mn (x:F):Nat := man x.k.natAbs
def ex (x:F):Nat := pl x.k.natAbs
theorem z_parts (x:F):x.z = if sg x = true then -((mn x * 2 ^ ex x:Nat):Int) else ((mn x * 2 ^ ex x:Nat):Int) := by
 have h := z_natAbs x
 have h2 := z_sign x
 unfold sg mn ex
 by_cases c:x.k < 0
 ·rw [if_pos (by simpa using c),← h]; have := h2.2 c; omega
 ·rw [if_neg (by simpa using c),← h]; have:¬ x.z < 0 := fun e => c (h2.1 e); omega
theorem mn_lt (x:F):mn x < 9007199254740992 := by have := (man_pl x.k.natAbs).2; have:P = 4503599627370496 := rfl; unfold mn; omega
theorem mn_norm (x:F):ex x = 0 ∨ 4503599627370496 ≤ mn x := (man_pl x.k.natAbs).1
theorem ex_le (x:F):ex x ≤ 2045 := by
 have h := x.hk
 have hT := T_num
 have hP:P = 4503599627370496 := rfl
 unfold ex pl
 have:x.k.natAbs / P < 2047 := by rw [Nat.div_lt_iff_lt_mul P_pos,hP]; omega
 omega
theorem pow_pos' (n:Nat):0 < 2 ^ n := Nat.two_pow_pos n
theorem rndG_exact {minus up:Bool} {n A B:Nat} {e:Int} (hB:0 < B) (h:n * 2 ^ (e + 1074).toNat * B = A * 2 ^ (-(e + 1074)).toNat) :
  rndG minus n false e up = rndR up (if minus then -(A:Int) else A) B := by
 refine rndG_eq_rndR hB (Nat.le_of_eq h) ?_ (by simp [h]) (by simp)
 rw [← h,Nat.add_mul,Nat.add_mul]
 have:0 < 1 * 2 ^ (e + 1074).toNat * B := Nat.mul_pos (by have := pow_pos' (e + 1074).toNat; omega) hB
 omega
theorem rndG_mul (up:Bool) (a b:F):rndG (sg a != sg b) (mn a * mn b) false ((ex a:Int) - 1074 + ((ex b:Int) - 1074)) up = dMul up a b := by
 unfold dMul
 have hz:a.z * b.z = if (sg a != sg b) = true then -((mn a * 2 ^ ex a * (mn b * 2 ^ ex b):Nat):Int) else ((mn a * 2 ^ ex a * (mn b * 2 ^ ex b):Nat):Int) := by
  rw [z_parts a,z_parts b]
  cases sg a <;> cases sg b <;> simp [Int.mul_neg,Int.neg_mul]
 rw [hz]
 refine rndG_exact S_pos ?_
 obtain ⟨s,hs,hS⟩ := S_pow
 rw [hS]
 have e1:mn a * 2 ^ ex a * (mn b * 2 ^ ex b) = mn a * mn b * 2 ^ (ex a + ex b) := by rw [Nat.pow_add]; ac_rfl
 rw [e1,Nat.mul_assoc,Nat.mul_assoc (mn a * mn b),← Nat.pow_add,← Nat.pow_add]
 congr 2
 omega
structure Al (m n d:Nat):Prop where
 m53:m < 9007199254740992
 n53:n < 9007199254740992
 ord:d = 0 → n ≤ m
 nrm:d ≠ 0 → 4503599627370496 ≤ m
def smallN (n d:Nat):Nat := n * 18446744073709551616 / 2 ^ d
def moreN (n d:Nat):Bool := decide (n * 18446744073709551616 % 2 ^ d ≠ 0)
def addN (same:Bool) (m n d:Nat):Nat :=
 if same then m * 18446744073709551616 + smallN n d else m * 18446744073709551616 - smallN n d - (if moreN n d then 1 else 0)
theorem blen_ge {n k:Nat} (h:2 ^ k ≤ n):k + 1 ≤ blen n := by
 unfold blen
 have:n ≠ 0 := by have := pow_pos' k; omega
 rw [if_neg this]
 have := (Nat.le_log2 this).2 h
 omega
theorem rndG_add (minus same up:Bool) {m n d pa pb:Nat} (h:Al m n d) (hd:pa = pb + d) :
  rndG minus (addN same m n d) (moreN n d) ((pa:Int) - 1074 - 64) up =
   rndR up (if minus then -((if same then m * 2 ^ pa + n * 2 ^ pb else m * 2 ^ pa - n * 2 ^ pb:Nat):Int) else ((if same then m * 2 ^ pa + n * 2 ^ pb else m * 2 ^ pa - n * 2 ^ pb:Nat):Int)) 1 := by
 obtain ⟨Q,W⟩:∃ Q,(18446744073709551616:Nat) = Q := ⟨_,rfl⟩
 have hQ:Q = 2 ^ 64 := by rw [← W]
 have hQ0:0 < Q := by rw [hQ]; exact pow_pos' 64
 obtain ⟨h1,h2,h3,h4⟩ := h
 -- all by 2^d: with G = m 2^64 2^d,s 2^d + r = n 2^64
 obtain ⟨s,hs⟩:∃ s,smallN n d = s := ⟨_,rfl⟩
 obtain ⟨r,hr⟩:∃ r,n * 18446744073709551616 % 2 ^ d = r := ⟨_,rfl⟩
 have hdm:s * 2 ^ d + r = n * Q := by
  have := Nat.div_add_mod (n * 18446744073709551616) (2 ^ d)
  rw [hr] at this
  unfold smallN at hs
  rw [hs,Nat.mul_comm] at this
  rw [← W]; exact this
 have hrl:r < 2 ^ d := by rw [← hr]; exact Nat.mod_lt _ (pow_pos' d)
 have hmore:moreN n d = true ↔ r ≠ 0 := by unfold moreN; rw [hr]; simp
 -- n 2^64 ≤ m 2^64 2^d
 have hle:n ≤ m * 2 ^ d := by
  by_cases c:d = 0
  ·subst c; simpa using h3 rfl
  ·have := h4 c
   have h5:2 ≤ 2 ^ d := by
    have := Nat.pow_le_pow_right (show 0 < 2 by omega) (show 1 ≤ d by omega)
    simpa using this
   have := Nat.mul_le_mul this h5
   omega
 have hsle:s ≤ m * Q := by
  have:s * 2 ^ d ≤ (m * Q) * 2 ^ d := by
   rw [Nat.mul_assoc,Nat.mul_comm Q,← Nat.mul_assoc]
   have := Nat.mul_le_mul_right Q hle
   omega
  exact Nat.le_of_mul_le_mul_right this (pow_pos' d)
 have hslt:r ≠ 0 → s + 1 ≤ m * Q := by
  intro hr0
  have:s * 2 ^ d < (m * Q) * 2 ^ d := by
   rw [Nat.mul_assoc,Nat.mul_comm Q,← Nat.mul_assoc]
   have := Nat.mul_le_mul_right Q hle
   omega
  exact Nat.lt_of_mul_lt_mul_right this
 -- the value,by 2^64
 obtain ⟨V,hV⟩:∃ V,(if same then m * 2 ^ pa + n * 2 ^ pb else m * 2 ^ pa - n * 2 ^ pb:Nat) = V := ⟨_,rfl⟩
 obtain ⟨N,hN⟩:∃ N,addN same m n d = N := ⟨_,rfl⟩
 rw [hV,hN]
 -- N 2^pa <= V 2^64 < (N + 1) 2^pa
 have key:∃ t,V * Q = N * 2 ^ pa + t * 2 ^ pb ∧ t < 2 ^ d ∧ (moreN n d = true ↔ t ≠ 0) := by
  subst hd
  rw [← hV,← hN]
  unfold addN
  rw [hs]
  have e1:∀ x:Nat,x * 2 ^ (pb + d) = x * 2 ^ d * 2 ^ pb := fun x => by rw [Nat.pow_add]; ac_rfl
  cases same with
  | true =>
    refine ⟨r,?_,hrl,hmore⟩
    simp only [if_true,W]
    rw [e1,e1,← Nat.add_mul,← Nat.add_mul,Nat.mul_right_comm]
    refine congrArg (fun z => z * 2 ^ pb) ?_
    rw [Nat.add_mul,Nat.add_mul,← hdm]
    have:m * 2 ^ d * Q = m * Q * 2 ^ d := by ac_rfl
    omega
  | false =>
    simp only [Bool.false_eq_true,if_false,W]
    have hsub:m * 2 ^ (pb + d) - n * 2 ^ pb = (m * 2 ^ d - n) * 2 ^ pb := by rw [e1,Nat.sub_mul]
    have h6:(m * 2 ^ d - n) * Q = (m * Q - s) * 2 ^ d - r := by
     rw [Nat.sub_mul,Nat.sub_mul,← hdm]
     have:m * 2 ^ d * Q = m * Q * 2 ^ d := by ac_rfl
     omega
    rw [hsub]
    by_cases hr0:r = 0
    ·have hm0:moreN n d = false := by rw [← Bool.not_eq_true,hmore]; simpa using hr0
     rw [hm0]
     refine ⟨0,?_,pow_pos' d,by simp⟩
     simp only [Bool.false_eq_true,if_false,Nat.sub_zero,Nat.zero_mul,Nat.add_zero]
     rw [e1,Nat.mul_right_comm,h6,hr0,Nat.sub_zero]
    ·have hm1:moreN n d = true := hmore.2 hr0
     rw [hm1]
     refine ⟨2 ^ d - r,?_,by omega,by simp; omega⟩
     simp only [if_true]
     rw [e1,Nat.mul_right_comm,h6,← Nat.add_mul]
     refine congrArg (fun z => z * 2 ^ pb) ?_
     have h7 := hslt hr0
     obtain ⟨q,hq⟩:∃ q,m * Q - s = q + 1 := ⟨m * Q - s - 1,by omega⟩
     rw [hq,Nat.add_sub_cancel,Nat.add_mul]; omega
 obtain ⟨t,k1,k2,k3⟩ := key
 have kt:t * 2 ^ pb < 2 ^ pa := by
  rw [hd,Nat.pow_add,Nat.mul_comm (2 ^ pb)]
  exact Nat.mul_lt_mul_of_pos_right k2 (pow_pos' pb)
 have kt0:t ≠ 0 → 0 < t * 2 ^ pb := fun h => Nat.mul_pos (by omega) (pow_pos' pb)
 -- scale
 have hE:∃ p q:Nat,((pa:Int) - 1074 - 64 + 1074).toNat = p ∧ (-((pa:Int) - 1074 - 64 + 1074)).toNat = q ∧ p + 64 = pa + q := ⟨_,_,rfl,rfl,by omega⟩
 obtain ⟨p,q,hp,hq,hpq⟩ := hE
 have hscale:∀ x y:Nat,x * 2 ^ p ≤ y * 2 ^ q ↔ x * 2 ^ pa ≤ y * Q := by
  intro x y
  have e:x * 2 ^ p * Q = x * 2 ^ pa * 2 ^ q := by rw [hQ,Nat.mul_assoc,← Nat.pow_add,hpq,Nat.pow_add,← Nat.mul_assoc]
  have e2:y * 2 ^ q * Q = y * Q * 2 ^ q := by ac_rfl
  constructor
  ·intro h
   have := Nat.mul_le_mul_right Q h
   rw [e,e2] at this
   exact Nat.le_of_mul_le_mul_right this (pow_pos' q)
  ·intro h
   have := Nat.mul_le_mul_right (2 ^ q) h
   rw [← e,← e2] at this
   exact Nat.le_of_mul_le_mul_right this hQ0
 refine rndG_eq_rndR (by decide) ?_ ?_ ?_ ?_
 ·rw [hp,hq,Nat.mul_one]; exact (hscale N V).2 (by omega)
 ·rw [hp,hq,Nat.mul_one]
  have h5:¬ ((N + 1) * 2 ^ p ≤ V * 2 ^ q) := by
   rw [hscale,Nat.add_mul]; omega
  omega
 ·rw [hp,hq,Nat.mul_one,k3]
  have h5 := hscale N V
  have h6:V * 2 ^ q ≤ N * 2 ^ p ↔ V * Q ≤ N * 2 ^ pa := by
   have e:N * 2 ^ p * Q = N * 2 ^ pa * 2 ^ q := by rw [hQ,Nat.mul_assoc,← Nat.pow_add,hpq,Nat.pow_add,← Nat.mul_assoc]
   have e2:V * 2 ^ q * Q = V * Q * 2 ^ q := by ac_rfl
   constructor
   ·intro h
    have := Nat.mul_le_mul_right Q h
    rw [e,e2] at this
    exact Nat.le_of_mul_le_mul_right this (pow_pos' q)
   ·intro h
    have := Nat.mul_le_mul_right (2 ^ q) h
    rw [← e,← e2] at this
    exact Nat.le_of_mul_le_mul_right this hQ0
  constructor
  ·intro h0 he
   have := kt0 h0
   have := h6.1 (Nat.le_of_eq he)
   omega
  ·intro h0 he
   subst he
   rw [Nat.zero_mul,Nat.add_zero] at k1
   exact h0 (Nat.le_antisymm (h6.2 (Nat.le_of_eq k1)) (h5.2 (Nat.le_of_eq k1.symm)))
 ·intro hm1
  have hr0 := hmore.1 hm1
  -- d > 64
  have hd64:64 < d := by
   rcases Nat.lt_or_ge 64 d with h | h
   ·exact h
   ·exfalso
    apply hr0
    rw [← hr,W,hQ]
    exact Nat.mod_eq_zero_of_dvd (Nat.dvd_trans (Nat.pow_dvd_pow 2 h) (Nat.dvd_mul_left _ _))
  have hm52 := h4 (by omega)
  have p53:(2:Nat) ^ 53 = 9007199254740992 := by decide
  have p52:(2:Nat) ^ 52 = 4503599627370496 := by decide
  have hs52:s < 2 ^ 53 := by
   have:s * 2 ^ d < 2 ^ 53 * 2 ^ d := by
    have a1:n * Q < 2 ^ 53 * Q := Nat.mul_lt_mul_of_pos_right (by omega) hQ0
    have a2:(2:Nat) ^ 53 * Q ≤ 2 ^ 53 * 2 ^ d := by rw [hQ]; exact Nat.mul_le_mul_left _ (Nat.pow_le_pow_right (by omega) (by omega))
    omega
   exact Nat.lt_of_mul_lt_mul_right this
  have:2 ^ 115 ≤ N := by
   rw [← hN]
   unfold addN
   rw [hs,W]
   have a1:(2:Nat) ^ 52 * Q ≤ m * Q := Nat.mul_le_mul_right _ (by omega)
   have a2:(2:Nat) ^ 52 * Q = 2 * 2 ^ 115 := by rw [hQ]
   have a3:(2:Nat) ^ 53 + 1 ≤ 2 ^ 115 := by decide
   cases same
   ·simp only [Bool.false_eq_true,if_false]
    split <;> omega
   ·simp only [if_true]; omega
  have := blen_ge this
  omega
def Fst (a b:F):Prop := ex b < ex a ∨ (ex a = ex b ∧ mn b ≤ mn a)
theorem al_of {a b:F} (h:Fst a b):Al (mn a) (mn b) (ex a - ex b) := by
 unfold Fst at h
 refine ⟨mn_lt a,mn_lt b,fun hd => by omega,fun hd => ?_⟩
 have := mn_norm a
 omega
theorem rndG_dAdd {a b:F} (up:Bool) (h:Fst a b) :
  rndG (sg a) (addN (sg a == sg b) (mn a) (mn b) (ex a - ex b)) (moreN (mn b) (ex a - ex b)) ((ex a:Int) - 1074 - 64) up = dAdd up a b := by
 have hle:ex b ≤ ex a := by unfold Fst at h; omega
 rw [rndG_add (sg a) (sg a == sg b) up (al_of h) (show ex a = ex b + (ex a - ex b) by omega)]
 unfold dAdd
 congr 1
 have hz:mn b * 2 ^ ex b ≤ mn a * 2 ^ ex a := by
  rcases h with h | ⟨h,h2⟩
  ·have h3 := mn_norm a
   have h4 := mn_lt b
   have h5:2 ^ (ex b + 1) ≤ 2 ^ ex a := Nat.pow_le_pow_right (by omega) (by omega)
   rw [Nat.pow_succ] at h5
   have h6:mn a * (2 ^ ex b * 2) ≤ mn a * 2 ^ ex a := Nat.mul_le_mul_left _ h5
   have h7:mn b * 2 ^ ex b ≤ mn a * 2 * 2 ^ ex b := Nat.mul_le_mul_right _ (by omega)
   have h8:mn a * 2 * 2 ^ ex b = mn a * (2 ^ ex b * 2) := by ac_rfl
   omega
  ·rw [h]; exact Nat.mul_le_mul_right _ h2
 rw [z_parts a,z_parts b]
 cases sg a <;> cases sg b <;> simp only [Bool.false_eq_true,if_false,if_true,beq_self_eq_true,show (true == false) = false from rfl,show (false == true) = false from rfl] <;> omega
theorem dAdd_comm (up:Bool) (a b:F):dAdd up a b = dAdd up b a := by unfold dAdd; rw [Int.add_comm]
theorem dSub_zero (up:Bool) (a b:F) (h:b.k = 0):dSub up a b = dAdd up a b := by
 have:b.z = 0 := (z_zero b).2 h
 unfold dSub dAdd; rw [this,Int.sub_zero,Int.add_zero]
theorem dSub_neg (up:Bool) (a b:F):dSub up a b = dAdd up a b.neg := by
 unfold dSub dAdd; rw [F.neg_z,Int.sub_eq_add_neg]
theorem small_le {m n d:Nat} (h:Al m n d):smallN n d + (if moreN n d then 1 else 0) ≤ m * 18446744073709551616 := by
 have h1 := h.m53
 have h2 := h.n53
 by_cases c:d = 0
 ·subst c
  have h3 := h.ord rfl
  have e1:smallN n 0 = n * 18446744073709551616 := by unfold smallN; rw [Nat.pow_zero,Nat.div_one]
  have e2:moreN n 0 = false := by unfold moreN; rw [Nat.pow_zero,Nat.mod_one]; rfl
  rw [e1,e2]
  simp only [Bool.false_eq_true,if_false,Nat.add_zero]
  exact Nat.mul_le_mul_right _ h3
 ·have h4 := h.nrm c
  have h6:2 ≤ 2 ^ d := by
   have := Nat.pow_le_pow_right (show 0 < 2 by omega) (show 1 ≤ d by omega)
   simpa using this
  have h7:smallN n d * 2 ≤ n * 18446744073709551616 := by
   have:smallN n d * 2 ^ d ≤ n * 18446744073709551616 := Nat.div_mul_le_self _ _
   exact Nat.le_trans (Nat.mul_le_mul_left _ h6) this
  have h8:n * 18446744073709551616 ≤ (2 * m - 1) * 18446744073709551616 := Nat.mul_le_mul_right _ (by omega)
  have hQ0:0 < 18446744073709551616 := by decide
  have h9:(2 * m - 1) * 18446744073709551616 + 18446744073709551616 = m * 18446744073709551616 * 2 := by
   have:(2 * m - 1) + 1 = m * 2 := by omega
   rw [← Nat.succ_mul,Nat.succ_eq_add_one,this]; ac_rfl
  generalize 18446744073709551616 = Q at *
  have:(if moreN n d then 1 else 0) ≤ 1 := by split <;> omega
  omega
theorem wn_add (same:Bool) {m n d:Nat} (h:Al m n d):addN same m n d < W128 ∧ m * 18446744073709551616 + smallN n d < W128 := by
 have h5 := small_le h
 have h1:m * 18446744073709551616 + m * 18446744073709551616 < W128 := by
  have := h.m53
  have hW:W128 = 18446744073709551616 * 18446744073709551616 := by decide
  rw [hW,← Nat.add_mul]
  exact Nat.mul_lt_mul_of_pos_right (by omega) (by decide)
 generalize W128 = W at *
 unfold addN
 generalize m * 18446744073709551616 = A at *
 generalize smallN n d = s at *
 have h6:s ≤ A := by split at h5 <;> omega
 refine ⟨?_,by omega⟩
 split
 ·omega
 ·split <;> omega
theorem signed_not (b:Bool) (m n:Nat):signed (!b) m n = - signed b m n := by
 rw [signed_eq,signed_eq]
 cases b <;> simp
theorem sub_F (x y:F):double.sub x.b y.b = some (if x.z - y.z = 0 then 0 else double.word (decide (x.z - y.z < 0)) (min (near (x.z - y.z).natAbs 1) T)) := by
 unfold Format.sub
 rw [read_F,read_F]
 simp only [Datum.opposite,Datum.sum,Option.map_some,Format.write]
 obtain ⟨base,hbase⟩:∃ b:Int,b = min (-1074 + (pl x.k.natAbs:Int)) (-1074 + (pl y.k.natAbs:Int)) := ⟨_,rfl⟩
 rw [← hbase,signed_not]
 have s1 := signed_scale (decide (x.k < 0)) (man x.k.natAbs) (-1074 + (pl x.k.natAbs:Int)) base (by omega) (by omega)
 have s2 := signed_scale (decide (y.k < 0)) (man y.k.natAbs) (-1074 + (pl y.k.natAbs:Int)) base (by omega) (by omega)
 rw [show (-1074 + (pl x.k.natAbs:Int) + 1074).toNat = pl x.k.natAbs from by omega,← nvZ_sign] at s1
 rw [show (-1074 + (pl y.k.natAbs:Int) + 1074).toNat = pl y.k.natAbs from by omega,← nvZ_sign] at s2
 generalize signed (decide (x.k < 0)) (man x.k.natAbs) (-1074 + (pl x.k.natAbs:Int) - base).toNat = u at *
 generalize signed (decide (y.k < 0)) (man y.k.natAbs) (-1074 + (pl y.k.natAbs:Int) - base).toNat = v at *
 have hp := Nat.two_pow_pos (base + 1074).toNat
 have hz:x.z - y.z = (u + -v) * ((2 ^ (base + 1074).toNat:Nat):Int) := by
  unfold F.z; rw [Int.add_mul,Int.neg_mul,s1,s2]; omega
 have hpos:(0:Int) < ((2 ^ (base + 1074).toNat:Nat):Int) := by omega
 have t1:x.z - y.z = 0 ↔ u + -v = 0 := by
  rw [hz]; constructor
  ·intro h; rcases Int.mul_eq_zero.1 h with h | h
   ·exact h
   ·omega
  ·intro h; rw [h,Int.zero_mul]
 have t2:x.z - y.z < 0 ↔ u + -v < 0 := by
  rw [hz]
  have := Int.mul_lt_mul_right (b := u + -v) (c := 0) hpos
  rw [Int.zero_mul] at this
  exact this
 by_cases h0:u + -v = 0
 ·rw [if_pos (t1.2 h0)]
  have hx0:(decide (x.k < 0) && !decide (y.k < 0)) = false := by
   rw [Bool.and_eq_false_iff]
   have a1 := z_sign x
   have a2 := z_sign y
   have := t1.2 h0
   simp only [decide_eq_false_iff_not,Bool.not_eq_false',decide_eq_true_eq]
   omega
  rw [h0]
  simp [hx0,Format.nearest,Format.word]
 ·rw [if_neg (fun h => h0 (t1.1 h)),if_neg h0,nearest_eq _ _ _ (by omega)]
  simp only [t2]
  have e:near ((u + -v).natAbs * 2 ^ (base + 1074).toNat) (2 ^ (-(base + 1074)).toNat) = near (x.z - y.z).natAbs 1 := by
   refine near_ratio (Nat.two_pow_pos _) (by omega) ?_
   rw [hz,Int.natAbs_mul,Int.natAbs_natCast,show (-(base + 1074)).toNat = 0 from by omega]
  rw [e]
theorem near_le {n d r:Nat} (hd:0 < d) (h:n ≤ nv r * d):near n d ≤ r := by
 have h1:n / d ≤ nv r := by
  have := Nat.div_le_div_right (c := d) h
  rwa [Nat.mul_div_cancel _ hd] at this
 have h2:fl (n / d) ≤ r := by have := fl_mono h1; rwa [fl_nv] at this
 by_cases c:fl (n / d) = r
 ·have h3:nv r ≤ n / d := by rw [← c]; exact nv_fl_le _
  have h4:n = nv r * d := by
   have := Nat.le_div_iff_mul_le hd |>.1 h3
   omega
  rw [near_exact hd h4]; exact Nat.le_refl _
 ·unfold near
  simp only
  split
  ·omega
  ·split
   ·omega
   ·split <;> omega
theorem le_near {n d r:Nat} (hd:0 < d) (h:nv r * d ≤ n):r ≤ near n d := by
 have h1:nv r ≤ n / d := (Nat.le_div_iff_mul_le hd).2 h
 have h2:r ≤ fl (n / d) := by have := fl_mono h1; rwa [fl_nv] at this
 unfold near
 simp only
 split
 ·exact h2
 ·split
  ·omega
  ·split <;> omega
theorem quot_le {m n A B more:Nat} (hn:n ≠ 0) (h:m * 2 ^ A ≤ n * 2 ^ B) (hA:A ≤ B + more):(2 * (m * 2 ^ more / n) + (m * 2 ^ more % n != 0).toNat) ≤ 2 ^ (1 + more + B - A) := by
 obtain ⟨c,hc⟩:∃ c,B + more = A + c := ⟨B + more - A,by omega⟩
 have e1:1 + more + B - A = c + 1 := by omega
 rw [e1,Nat.pow_succ]
 have hp := Nat.two_pow_pos A
 have h1:m * 2 ^ more ≤ n * 2 ^ c := by
  have h2:m * 2 ^ A * 2 ^ more ≤ n * 2 ^ B * 2 ^ more := Nat.mul_le_mul_right _ h
  have e2:n * 2 ^ B * 2 ^ more = n * 2 ^ c * 2 ^ A := by rw [Nat.mul_assoc,Nat.mul_assoc,← Nat.pow_add,← Nat.pow_add,hc,Nat.add_comm]
  have e3:m * 2 ^ A * 2 ^ more = m * 2 ^ more * 2 ^ A := by rw [Nat.mul_right_comm]
  rw [e2,e3] at h2
  exact Nat.le_of_mul_le_mul_right h2 hp
 have hd := Nat.div_add_mod (m * 2 ^ more) n
 have hr := Nat.mod_lt (m * 2 ^ more) (Nat.pos_of_ne_zero hn)
 generalize m * 2 ^ more / n = Q at *
 generalize m * 2 ^ more % n = R at *
 generalize 2 ^ c = C at *
 have hQ:Q ≤ C := by
  apply Nat.le_of_not_lt
  intro g
  have := Nat.mul_le_mul_left n (show C + 1 ≤ Q from g)
  rw [Nat.mul_add] at this
  omega
 by_cases hR:R = 0
 ·subst hR; simp; omega
 ·have hs:(R != 0).toNat = 1 := by simp [hR]
  rw [hs]
  have:Q ≠ C := by
   intro e; subst e; omega
  omega
theorem div_le1 {x y:F} (hx:0 < x.k) (hy:0 < y.k) (h:x.z ≤ y.z) {r:Nat} (hr:nv r = S) (hT:r < T):∃ t:F,double.div x.b y.b = some t.b ∧ 0 ≤ t.k ∧ t.k ≤ r := by
 have m1:man x.k.natAbs ≠ 0 := fun h => by have := man_zero _ h; omega
 have m2:man y.k.natAbs ≠ 0 := fun h => by have := man_zero _ h; omega
 have hz:man x.k.natAbs * 2 ^ pl x.k.natAbs ≤ man y.k.natAbs * 2 ^ pl y.k.natAbs := by
  have a := z_natAbs x
  have b := z_natAbs y
  have s1 := (z_sign x); have s2 := (z_sign y)
  omega
 unfold Format.div
 rw [read_F,read_F]
 simp only [Datum.quotient,if_neg m2,Option.map_some,Format.write]
 rw [decide_eq_false (show ¬ x.k < 0 by omega),decide_eq_false (show ¬ y.k < 0 by omega)]
 generalize hmm:man x.k.natAbs = m at *
 generalize hnn:man y.k.natAbs = n at *
 generalize pl x.k.natAbs = A at *
 generalize pl y.k.natAbs = B at *
 obtain ⟨more,hmo⟩:∃ more,double.fractionBits + 2 + n.log2 - m.log2 = more := ⟨_,rfl⟩
 rw [hmo,Nat.shiftLeft_eq]
 have hfb:double.fractionBits = 52 := rfl
 rw [hfb] at hmo
 have l1 := Nat.log2_self_le m1
 have l2:n < 2 ^ (n.log2 + 1) := Nat.lt_log2_self
 have hAB:A + m.log2 < n.log2 + 1 + B := by
  have h1:2 ^ (A + m.log2) ≤ m * 2 ^ A := by rw [Nat.pow_add,Nat.mul_comm]; exact Nat.mul_le_mul_right _ l1
  have h2:n * 2 ^ B < 2 ^ (n.log2 + 1 + B) := by rw [Nat.pow_add]; exact Nat.mul_lt_mul_of_pos_right l2 (Nat.two_pow_pos B)
  exact (Nat.pow_lt_pow_iff_right (by omega)).1 (Nat.lt_of_le_of_lt h1 (Nat.lt_of_le_of_lt hz h2))
 have hA:A ≤ B + more := by omega
 have hq := quot_le m2 hz hA
 have hne:2 * (m * 2 ^ more / n) + (m * 2 ^ more % n != 0).toNat ≠ 0 := by
  intro h0
  have hd := Nat.div_add_mod (m * 2 ^ more) n
  have h1:m * 2 ^ more / n = 0 := by omega
  have h2:(m * 2 ^ more % n != 0).toNat = 0 := by omega
  have h3:m * 2 ^ more % n = 0 := by
   by_cases c:m * 2 ^ more % n = 0
   ·exact c
   ·simp [c] at h2
  rw [h1,h3] at hd
  have := Nat.mul_pos (Nat.pos_of_ne_zero m1) (Nat.two_pow_pos more)
  omega
 rw [nearest_eq _ _ _ hne]
 generalize 2 * (m * 2 ^ more / n) + (m * 2 ^ more % n != 0).toNat = mag at *
 have hn:near (mag * 2 ^ (-1074 + (A:Int) - (-1074 + (B:Int)) - (more:Int) - 1 + 1074).toNat) (2 ^ (-(-1074 + (A:Int) - (-1074 + (B:Int)) - (more:Int) - 1 + 1074)).toNat) ≤ r := by
  refine near_le (Nat.two_pow_pos _) ?_
  obtain ⟨sx,hs1,hs2⟩ := S_pow
  rw [hr,hs2,← Nat.pow_add]
  refine Nat.le_trans (Nat.mul_le_mul_right _ hq) ?_
  rw [← Nat.pow_add]
  exact Nat.pow_le_pow_right (by omega) (by omega)
 rw [Nat.min_eq_left (by omega),word_F _ _ (by omega) (by simp)]
 refine ⟨_,rfl,?_⟩
 have e:(if (false ^^ false) = true then -((near (mag * 2 ^ (-1074 + (A:Int) - (-1074 + (B:Int)) - (more:Int) - 1 + 1074).toNat) (2 ^ (-(-1074 + (A:Int) - (-1074 + (B:Int)) - (more:Int) - 1 + 1074)).toNat):Nat):Int) else ((near (mag * 2 ^ (-1074 + (A:Int) - (-1074 + (B:Int)) - (more:Int) - 1 + 1074).toNat) (2 ^ (-(-1074 + (A:Int) - (-1074 + (B:Int)) - (more:Int) - 1 + 1074)).toNat):Nat):Int)) = ((near (mag * 2 ^ (-1074 + (A:Int) - (-1074 + (B:Int)) - (more:Int) - 1 + 1074).toNat) (2 ^ (-(-1074 + (A:Int) - (-1074 + (B:Int)) - (more:Int) - 1 + 1074)).toNat):Nat):Int) := if_neg (by decide)
 rw [e,F.of_k (by omega)]
 omega
end Bu
