/- A small reckoner of Go code over values whose addresses are names: its values, and what .. -/
import Derived.RowKit
import Derived.Orders
import Derived.LoopN
import Derived.Laws.Sem
import Derived.Laws.World
import Derived.Laws.Cells
import Derived.Test.YtejcekikbnlllaaGreatT01
import Derived.ChangeKeysEq
set_option linter.all false
namespace Rx
open Go
inductive SV where
 | b (c:Bool)
 | i (k:IntKind) (n:Int)
 | si (k:IntKind) (n:Int)
 | f (x:Nat)
 | fl (x:Bu.F)
 | p (n off:Nat)
 | sp (n off:Nat)
 | np
 | sl (n off len cap:Nat)
 | ssl (n off len cap:Nat)
 | osl (y:Bool) (n len:Nat)
 | fn (f:Fn) (first cap:List SV)
 | o (v:Value)
 | agg (l:List SV)
 | tup (l:List SV)
 deriving Inhabited
structure Nms where
 f:Nat → Option Nat
 c:Nat → Nat
instance:CoeFun Nms (fun _ => Nat → Option Nat) := ⟨Nms.f⟩
def oslV (r len cap:Nat):Option Value := if len ≤ cap then some (.slice (some ⟨r,0,none⟩) len cap) else none
theorem oslV_some {r len cap:Nat} {v:Value}:oslV r len cap = some v ↔ len ≤ cap ∧ v = .slice (some ⟨r,0,none⟩) len cap := by
 unfold oslV
 by_cases h:len ≤ cap
 ·rw [if_pos h]; simp [h,eq_comm]
 ·rw [if_neg h]; simp [h]
def Nms.no:Nms := ⟨fun _ => none,fun _ => 0⟩
mutual
def den (m:Nms):SV → Option Value
 | .b c => some (.bool c)
 | .i k n => some (.int k n)
 | .si k n => some (.int k n)
 | .f x => some (.float .f64 x)
 | .fl x => some (.float .f64 x.b)
 | .p n off => (m n).map fun r => .pointer (some ⟨r,off,none⟩)
 | .sp n off => (m n).map fun r => .pointer (some ⟨r,off,none⟩)
 | .np => some (.pointer none)
 | .sl n off len cap => (m n).map fun r => .slice (some ⟨r,off,none⟩) len cap
 | .ssl n off len cap => (m n).map fun r => .slice (some ⟨r,off,none⟩) len cap
 | .osl _ n len => (m n).bind fun r => oslV r len (m.c r)
 | .fn f first cap => (dens m first).bind fun x => (dens m cap).map fun y => .func f x.toArray y.toArray
 | .o v => some v
 | .agg l => (dens m l).map fun x => .agg x.toArray
 | .tup l => (dens m l).map fun x => .tuple x.toArray
def dens (m:Nms):List SV → Option (List Value)
 | [] => some []
 | x :: l => (den m x).bind fun v => (dens m l).map fun vs => v :: vs
end
variable {m m':Nms}
theorem dens_nil:dens m [] = some [] := by simp [dens]
theorem dens_cons_some {x:SV} {l:List SV} {vs:List Value}:dens m (x :: l) = some vs ↔ ∃ v us,den m x = some v ∧ dens m l = some us ∧ vs = v :: us := by
 simp only [dens,Option.bind_eq_some_iff,Option.map_eq_some_iff]
 constructor
 ·rintro ⟨v,h1,us,h2,rfl⟩; exact ⟨v,us,h1,h2,rfl⟩
 ·rintro ⟨v,us,h1,h2,rfl⟩; exact ⟨v,h1,us,h2,rfl⟩
theorem dens_cons {x:SV} {l:List SV} {v:Value} {us:List Value} (h1:den m x = some v) (h2:dens m l = some us):dens m (x :: l) = some (v :: us) :=
 dens_cons_some.2 ⟨v,us,h1,h2,rfl⟩
theorem dens_length:∀ {l:List SV} {vs:List Value},dens m l = some vs → vs.length = l.length
 | [],vs,h => by simp [dens] at h; simp [h]
 | x :: l, vs, h => by
   obtain ⟨v,us,_,h2,rfl⟩ := dens_cons_some.1 h
   simp [dens_length h2]
theorem dens_get:∀ {l:List SV} {vs:List Value},dens m l = some vs → ∀ {j:Nat} {x:SV},l[j]? = some x → ∃ v,vs[j]? = some v ∧ den m x = some v
 | [],vs,h,j,x,hx => by simp at hx
 | y :: l, vs, h, j, x, hx => by
   obtain ⟨v,us,h1,h2,rfl⟩ := dens_cons_some.1 h
   cases j with
   | zero => simp at hx; subst hx; exact ⟨v,by simp,h1⟩
   | succ j => simp at hx; obtain ⟨u,hu,hd⟩ := dens_get h2 hx; exact ⟨u,by simpa using hu,hd⟩
theorem dens_of_get:∀ {l:List SV} {vs:List Value},vs.length = l.length → (∀ (j:Nat) (x:SV),l[j]? = some x → ∃ v,vs[j]? = some v ∧ den m x = some v) → dens m l = some vs
 | [],vs,hl,_ => by simp at hl; simp [hl,dens]
 | y :: l, vs, hl, h => by
   cases vs with
   | nil => simp at hl
   | cons v us =>
     have h0 := h 0 y (by simp)
     simp at h0
     refine dens_cons h0 (dens_of_get (by simpa using hl) fun j x hx => ?_)
     have := h (j + 1) x (by simpa using hx)
     simpa using this
theorem dens_append {l r:List SV} {vs us:List Value} (h1:dens m l = some vs) (h2:dens m r = some us):dens m (l ++ r) = some (vs ++ us) := by
 induction l generalizing vs with
 | nil => simp [dens] at h1; subst h1; simpa using h2
 | cons x l ih =>
   obtain ⟨v,ws,a,b,rfl⟩ := dens_cons_some.1 h1
   exact dens_cons a (ih b)
theorem dens_set {l:List SV} {vs:List Value} (h:dens m l = some vs) {x:SV} {v:Value} (hx:den m x = some v) (j:Nat):dens m (l.set j x) = some (vs.set j v) := by
 refine dens_of_get (by simp [dens_length h]) fun i y hy => ?_
 by_cases hij:j = i
 ·subst hij
  have hlt:j < l.length := by
   rcases Nat.lt_or_ge j l.length with h' | h'
   ·exact h'
   ·simp [List.getElem?_eq_none (by simpa using h':(l.set j x).length ≤ j)] at hy
  rw [List.getElem?_set_self hlt] at hy
  cases hy
  exact ⟨v,by rw [List.getElem?_set_self (by rw [dens_length h]; exact hlt)],hx⟩
 ·rw [List.getElem?_set_ne hij] at hy ⊢
  exact dens_get h hy
theorem dens_take {l:List SV} {vs:List Value} (h:dens m l = some vs) (j:Nat):dens m (l.take j) = some (vs.take j) := by
 induction l generalizing vs j with
 | nil => simp [dens] at h; subst h; simp [dens]
 | cons x l ih =>
   obtain ⟨v,ws,a,b,rfl⟩ := dens_cons_some.1 h
   cases j with
   | zero => simp [dens]
   | succ j => exact dens_cons a (ih b j)
theorem dens_drop {l:List SV} {vs:List Value} (h:dens m l = some vs) (j:Nat):dens m (l.drop j) = some (vs.drop j) := by
 induction l generalizing vs j with
 | nil => simp [dens] at h; subst h; simp [dens]
 | cons x l ih =>
   obtain ⟨v,ws,a,b,rfl⟩ := dens_cons_some.1 h
   cases j with
   | zero => exact dens_cons a b
   | succ j => exact ih b j
theorem dens_replicate {x:SV} {v:Value} (h:den m x = some v) (j:Nat):dens m (List.replicate j x) = some (List.replicate j v) := by
 induction j with
 | zero => simp [dens]
 | succ j ih => exact dens_cons h ih
structure Ext (m m':Nms):Prop where
 n:∀ n r,m n = some r → m' n = some r
 c:∀ n r,m n = some r → m'.c r = m.c r
theorem Ext.refl (m:Nms):Ext m m := ⟨fun _ _ h => h,fun _ _ _ => rfl⟩
theorem Ext.trans {a b c:Nms} (h:Ext a b) (k:Ext b c):Ext a c := ⟨fun n r x => k.n n r (h.n n r x),fun n r x => (k.c n r (h.n n r x)).trans (h.c n r x)⟩
mutual
theorem den_ext (hm:Ext m m'):∀ {x:SV} {v:Value},den m x = some v → den m' x = some v
 | .b _,v,h => by simpa [den] using h
 | .i _ _,v,h => by simpa [den] using h
 | .si _ _,v,h => by simpa [den] using h
 | .f _,v,h => by simpa [den] using h
 | .fl _,v,h => by simpa [den] using h
 | .p n off, v, h => by
   simp only [den,Option.map_eq_some_iff] at h ⊢
   obtain ⟨r,hr,e⟩ := h; exact ⟨r,hm.n _ _ hr,e⟩
 | .sp n off, v, h => by
   simp only [den,Option.map_eq_some_iff] at h ⊢
   obtain ⟨r,hr,e⟩ := h; exact ⟨r,hm.n _ _ hr,e⟩
 | .np,v,h => by simpa [den] using h
 | .sl n off len cap, v, h => by
   simp only [den,Option.map_eq_some_iff] at h ⊢
   obtain ⟨r,hr,e⟩ := h; exact ⟨r,hm.n _ _ hr,e⟩
 | .ssl n off len cap, v, h => by
   simp only [den,Option.map_eq_some_iff] at h ⊢
   obtain ⟨r,hr,e⟩ := h; exact ⟨r,hm.n _ _ hr,e⟩
 | .osl y n len, v, h => by
   simp only [den,Option.bind_eq_some_iff] at h ⊢
   obtain ⟨r,hr,e⟩ := h; exact ⟨r,hm.n _ _ hr,by rw [hm.c _ _ hr]; exact e⟩
 | .fn f first cap, v, h => by
   simp only [den,Option.bind_eq_some_iff,Option.map_eq_some_iff] at h ⊢
   obtain ⟨x,hx,y,hy,e⟩ := h
   exact ⟨x,dens_ext hm hx,y,dens_ext hm hy,e⟩
 | .o _,v,h => by simpa [den] using h
 | .agg l, v, h => by
   simp only [den,Option.map_eq_some_iff] at h ⊢
   obtain ⟨x,hx,e⟩ := h; exact ⟨x,dens_ext hm hx,e⟩
 | .tup l, v, h => by
   simp only [den,Option.map_eq_some_iff] at h ⊢
   obtain ⟨x,hx,e⟩ := h; exact ⟨x,dens_ext hm hx,e⟩
theorem dens_ext (hm:Ext m m'):∀ {l:List SV} {vs:List Value},dens m l = some vs → dens m' l = some vs
 | [],vs,h => by simpa [dens] using h
 | x :: l, vs, h => by
   obtain ⟨v,us,a,b,rfl⟩ := dens_cons_some.1 h
   exact dens_cons (den_ext hm a) (dens_ext hm b)
end
def toF (w:Nat):Bu.F := if w < 9223372036854775808 then Bu.F.of (w:Int) else Bu.F.of (-((w - 9223372036854775808:Nat):Int))
theorem toF_b {w:Nat} (h:Bu.rightB w = true):(toF w).b = w := by
 have e := Bu.T_num
 unfold Bu.rightB at h
 simp only [Bool.or_eq_true,Bool.and_eq_true,decide_eq_true_eq] at h
 unfold toF
 split
 ·rename_i hlt
  rw [Bu.F.b,Bu.F.of_k (by omega),if_pos (by omega)]; omega
 ·rename_i hlt
  rw [Bu.F.b,Bu.F.of_k (by omega),if_neg (by omega)]; omega
theorem toF_F (x:Bu.F):toF x.b = x := Bu.F.b_inj (toF_b (Bu.right_F x))
def ofW (w:Nat):SV := if Bu.rightB w = true then .fl (toF w) else .f w
theorem den_ofW (w:Nat):den m (ofW w) = some (.float .f64 w) := by
 unfold ofW
 split
 ·rename_i h; simp [den,toF_b h]
 ·simp [den]
mutual
def ofV:Value → SV
 | .bool c => .b c
 | .int k n => .i k n
 | .float k x => match k with | .f64 => ofW x | .f32 => .o (.float .f32 x)
 | .pointer none => .np
 | .agg cs => .agg (ofA cs)
 | .tuple cs => .tup (ofA cs)
 | v => .o v
def ofA:Array Value → List SV
 | ⟨l⟩ => ofVs l
def ofVs:List Value → List SV
 | [] => []
 | v :: l => ofV v :: ofVs l
end
mutual
theorem den_ofV:∀ v:Value,den m (ofV v) = some v
 | .bool c => by simp [ofV,den]
 | .int k n => by simp [ofV,den]
 | .float k x => by cases k <;> simp [ofV,den,den_ofW]
 | .complex _ _ _ => by simp [ofV,den]
 | .string _ => by simp [ofV,den]
 | .pointer none => by simp [ofV,den]
 | .pointer (some a) => by simp [ofV,den]
 | .slice _ _ _ => by simp [ofV,den]
 | .map _ => by simp [ofV,den]
 | .chan _ => by simp [ofV,den]
 | .func _ _ _ => by simp [ofV,den]
 | .nilFunc => by simp [ofV,den]
 | .iface _ _ => by simp [ofV,den]
 | .nilIface => by simp [ofV,den]
 | .agg cs => by simp [ofV,den,dens_ofA cs]
 | .tuple cs => by simp [ofV,den,dens_ofA cs]
theorem dens_ofA:∀ l:Array Value,dens m (ofA l) = some l.toList
 | ⟨l⟩ => by simp only [ofA]; exact dens_ofVs l
theorem dens_ofVs:∀ l:List Value,dens m (ofVs l) = some l
 | [] => by simp [ofVs,dens]
 | v :: l => by rw [ofVs]; exact dens_cons (den_ofV v) (dens_ofVs l)
end
mutual
def plain:SV → Option Value
 | .b c => some (.bool c)
 | .i k n => some (.int k n)
 | .si k n => some (.int k n)
 | .f x => some (.float .f64 x)
 | .fl x => some (.float .f64 x.b)
 | .np => some (.pointer none)
 | .o v => some v
 | .agg l => (plains l).map fun x => .agg x.toArray
 | .tup l => (plains l).map fun x => .tuple x.toArray
 | _ => none
def plains:List SV → Option (List Value)
 | [] => some []
 | x :: l => (plain x).bind fun v => (plains l).map fun vs => v :: vs
end
mutual
theorem den_plain:∀ {x:SV} {v:Value},plain x = some v → den m x = some v
 | .b _,v,h => by simpa [den,plain] using h
 | .i _ _,v,h => by simpa [den,plain] using h
 | .si _ _,v,h => by simpa [den,plain] using h
 | .f _,v,h => by simpa [den,plain] using h
 | .fl _,v,h => by simpa [den,plain] using h
 | .p _ _,v,h => by simp [plain] at h
 | .sp _ _,v,h => by simp [plain] at h
 | .np,v,h => by simpa [den,plain] using h
 | .sl _ _ _ _,v,h => by simp [plain] at h
 | .ssl _ _ _ _,v,h => by simp [plain] at h
 | .osl _ _ _,v,h => by simp [plain] at h
 | .fn _ _ _,v,h => by simp [plain] at h
 | .o _,v,h => by simpa [den,plain] using h
 | .agg l, v, h => by
   simp only [plain,den,Option.map_eq_some_iff] at h ⊢
   obtain ⟨x,hx,e⟩ := h; exact ⟨x,dens_plains hx,e⟩
 | .tup l, v, h => by
   simp only [plain,den,Option.map_eq_some_iff] at h ⊢
   obtain ⟨x,hx,e⟩ := h; exact ⟨x,dens_plains hx,e⟩
theorem dens_plains:∀ {l:List SV} {vs:List Value},plains l = some vs → dens m l = some vs
 | [],vs,h => by simpa [dens,plains] using h
 | x :: l, vs, h => by
   simp only [plains,Option.bind_eq_some_iff,Option.map_eq_some_iff] at h
   obtain ⟨v,h1,us,h2,rfl⟩ := h
   exact dens_cons (den_plain h1) (dens_plains h2)
end
def pureRun {α:Type} (P:Program):Sem α → Option α
 | .pure a => some a
 | .program k => pureRun P (k P)
 | .mark _ k => pureRun P k
 | _ => none
theorem pureRun_run {α:Type} {P:Program}:∀ {x:Sem α} {a:α},pureRun P x = some a → ∀ w,x.run P w = .ok a w
 | .pure a,b,h,w => by simp only [pureRun,Option.some.injEq] at h; subst h; rfl
 | .program k,b,h,w => by simp only [pureRun] at h; simp only [Sem.run]; exact pureRun_run h w
 | .mark _ k,b,h,w => by simp only [pureRun] at h; simp only [Sem.run]; exact pureRun_run h w
 | .load _ _ _,b,h,w => by simp [pureRun] at h
 | .store _ _ _ _,b,h,w => by simp [pureRun] at h
 | .new _ _,b,h,w => by simp [pureRun] at h
 | .shape _ _,b,h,w => by simp [pureRun] at h
 | .freeze _ _ _,b,h,w => by simp [pureRun] at h
 | .frozen _ _,b,h,w => by simp [pureRun] at h
 | .getObj _ _,b,h,w => by simp [pureRun] at h
 | .setObj _ _ _,b,h,w => by simp [pureRun] at h
 | .choose _ _,b,h,w => by simp [pureRun] at h
 | .sys _ _,b,h,w => by simp [pureRun] at h
 | .halt _,b,h,w => by simp [pureRun] at h
abbrev Dec := Option (List Bool)
abbrev Obs := List (Bool × Bool)
def ObsOk (ob:Obs):Prop := ∀ p ∈ ob,p.1 = p.2
def obsB (ob:Obs):Bool := ob.all fun p => p.1 == p.2
theorem ObsOk.of_B {ob:Obs} (h:obsB ob = true):ObsOk ob := by
 intro p hp
 have := List.all_eq_true.1 h p hp
 simpa using this
theorem ObsOk.left {a b:Obs} (h:ObsOk (a ++ b)):ObsOk a := fun p hp => h p (List.mem_append_left _ hp)
theorem ObsOk.right {a b:Obs} (h:ObsOk (a ++ b)):ObsOk b := fun p hp => h p (List.mem_append_right _ hp)
def takeB (ds:Dec) (c:Bool):Option (Bool × Dec × Obs) :=
 match ds with
 | none => some (c,none,[])
 | some [] => none
 | some (d :: r) => some (d,some r,[(c,d)])
theorem takeB_ok {ds ds':Dec} {c d:Bool} {ob:Obs} (h:takeB ds c = some (d,ds',ob)) (ho:ObsOk ob):d = c := by
 unfold takeB at h
 split at h
 ·simp only [Option.some.injEq,Prod.mk.injEq] at h; exact h.1.symm
 ·cases h
 ·simp only [Option.some.injEq,Prod.mk.injEq] at h
  obtain ⟨h1,_,h3⟩ := h
  rw [← h3] at ho
  have := ho (c,_) (List.mem_singleton.2 rfl)
  rw [← h1]; exact this.symm
mutual
def taint:SV → Bool
 | .f _ => true
 | .fl _ => true
 | .si _ _ => true
 | .agg l => taints l
 | .tup l => taints l
 | _ => false
def taints:List SV → Bool
 | [] => false
 | x :: l => taint x || taints l
end
def tagV (t:Bool) (ds:Dec) (v:Value):Option (SV × Dec × Obs) :=
 match t,v with
 | true,.bool c => (takeB ds c).map fun r => (.b r.1,r.2.1,r.2.2)
 | true,.int k n => some (.si k n,ds,[])
 | true, .float k x => match k with
   | .f64 => some (.f x,ds,[])
   | .f32 => some (.o (.float .f32 x),ds,[])
 | _,v => some (ofV v,ds,[])
theorem tagV_ok {t:Bool} {ds ds':Dec} {v:Value} {x:SV} {ob:Obs} (h:tagV t ds v = some (x,ds',ob)) (ho:ObsOk ob) (m:Nms):den m x = some v := by
 unfold tagV at h
 split at h
 ·simp only [Option.map_eq_some_iff,Prod.mk.injEq] at h
  obtain ⟨⟨d,e,o⟩,h1,rfl,rfl,rfl⟩ := h
  rw [takeB_ok h1 ho]; simp [den]
 ·simp only [Option.some.injEq,Prod.mk.injEq] at h; obtain ⟨rfl,_,_⟩ := h; simp [den]
 ·split at h <;> (simp only [Option.some.injEq,Prod.mk.injEq] at h; obtain ⟨rfl,_,_⟩ := h; simp [den])
 ·simp only [Option.some.injEq,Prod.mk.injEq] at h; obtain ⟨rfl,_,_⟩ := h; exact den_ofV _
def isAggT (P:Program) (t:TypeId):Option Bool :=
 match P.underlying t with
 | some (.struct _) | some (.array _ _) => some true
 | some _ => some false
 | none => none
def sizeT (P:Program) (t:TypeId):Option Nat := (P.info? t).map (·.size)
section
variable {P:Program} {w:World}
theorem run_underlying {t:TypeId} {d:TypeDesc} (h:P.underlying t = some d):(underlying t).run P w = .ok d w := by
 simp [underlying,h]
theorem run_sizeOf {t:TypeId} {n:Nat} (h:sizeT P t = some n):(Go.sizeOf t).run P w = .ok n w := by
 unfold sizeT at h
 simp only [Option.map_eq_some_iff] at h
 obtain ⟨i,hi,rfl⟩ := h
 simp [Go.sizeOf,typeInfo,hi]
theorem run_isAgg {t:TypeId} {b:Bool} (h:isAggT P t = some b):(isAgg t).run P w = .ok b w := by
 unfold isAggT at h
 unfold isAgg underlying
 split at h
 ·rename_i hd; simp only [Option.some.injEq] at h; subst h; simp [hd]
 ·rename_i hd; simp only [Option.some.injEq] at h; subst h; simp [hd]
 ·rename_i d h1 h2 hd
  simp only [Option.some.injEq] at h; subst h; simp only [Sem.run_bind,run_program,Result.andThen_ok,hd]
  cases d <;> first | rfl | exact absurd rfl (h1 _) | exact absurd rfl (h2 _ _)
 ·cases h
end
def partS (P:Program) (t:TypeId) (l:List SV) (off:Nat):Option SV :=
 match isAggT P t with
 | some true => (sizeT P t).map fun s => .agg ((l.drop off).take s)
 | some false => l[off]?
 | none => none
theorem partS_ok {P:Program} {t:TypeId} {l:List SV} {off:Nat} {x:SV} (h:partS P t l off = some x) {m:Nms} {vs:List Value} (hl:dens m l = some vs) (w:World) :
  ∃ v,den m x = some v ∧ (part t vs.toArray off).run P w = .ok v w := by
 unfold partS at h
 split at h
 ·rename_i ha
  simp only [Option.map_eq_some_iff] at h
  obtain ⟨s,hs,rfl⟩ := h
  refine ⟨.agg ((vs.drop off).take s).toArray,by simp [den,dens_take (dens_drop hl off) s],?_⟩
  simp only [part,Sem.run_bind,run_isAgg ha,Result.andThen_ok,if_true,run_sizeOf hs,Sem.run_pure]
  simp
 ·rename_i ha
  obtain ⟨v,hv,hd⟩ := dens_get hl h
  refine ⟨v,hd,?_⟩
  simp [part,run_isAgg ha,hv]
 ·cases h
def SV.cells:SV → List SV
 | .agg l => l
 | .o v => ofA v.cells
 | x => [x]
theorem cells_ok {m:Nms} {x:SV} {v:Value} (h:den m x = some v):dens m x.cells = some v.cells.toList := by
 cases x with
 | agg l =>
   simp only [den,Option.map_eq_some_iff] at h
   obtain ⟨y,hy,rfl⟩ := h
   simpa [SV.cells,Value.cells] using hy
 | o u =>
   simp only [den,Option.some.injEq] at h; subst h
   exact dens_ofA _
 | _ =>
   refine (dens_cons h dens_nil).trans ?_
   simp only [den,Option.some.injEq,Option.map_eq_some_iff,Option.bind_eq_some_iff,oslV_some] at h
   first
    | (subst h; rfl)
    | (obtain ⟨_,_,_,rfl⟩ := h; rfl)
    | (obtain ⟨_,_,rfl⟩ := h; rfl)
    | (obtain ⟨_,_,_,_,rfl⟩ := h; rfl)
def putRow (cells:List SV) (off:Nat):List SV → List SV
 | [] => cells
 | c :: r => putRow (cells.set off c) (off + 1) r
def putRowV (cells:List Value) (off:Nat):List Value → List Value
 | [] => cells
 | c :: r => putRowV (cells.set off c) (off + 1) r
theorem putRow_ok {m:Nms} {l:List SV}:∀ {cells:List SV} {off:Nat} {cv vs:List Value},dens m cells = some cv → dens m l = some vs → dens m (putRow cells off l) = some (putRowV cv off vs) := by
 induction l with
 | nil => intro cells off cv vs h1 h2; simp [dens] at h2; subst h2; exact h1
 | cons x l ih =>
   intro cells off cv vs h1 h2
   obtain ⟨v,us,a,b,rfl⟩ := dens_cons_some.1 h2
   exact ih (dens_set h1 a off) b
theorem putRow_length (l:List SV):∀ (cells:List SV) (off:Nat),(putRow cells off l).length = cells.length := by
 induction l with
 | nil => intro _ _; rfl
 | cons x l ih => intro cells off; simp [putRow,ih]
theorem putRowV_fold (l:List Value):∀ (cells:Array Value) (off j:Nat),
  ((l.zipIdx j).foldl (fun cs (c,i) => cs.setIfInBounds (off + i) c) cells) = (putRowV cells.toList (off + j) l).toArray := by
 induction l with
 | nil => intro cells off j; simp [putRowV]
 | cons x l ih =>
   intro cells off j
   simp only [List.zipIdx_cons,List.foldl_cons,putRowV]
   rw [ih]
   simp [Nat.add_assoc]
def fillS (place:Nat → Option (Nat × Nat)) (cells:List SV):List (Nat × SV) → Option (List SV)
 | [] => some cells
 | (i, x) :: rest =>
   match place i with
   | none => none
   | some (off, size) =>
     if x.cells.length = size ∧ off + x.cells.length ≤ cells.length then fillS place (putRow cells off x.cells) rest else none
theorem fillS_ok {m:Nms} {place:Nat → Option (Nat × Nat)}:∀ {parts:List (Nat × SV)} {vparts:List (Nat × Value)} {cells out:List SV} {cv:List Value},
  vparts.map (·.1) = parts.map (·.1) → dens m (parts.map (·.2)) = some (vparts.map (·.2)) → fillS place cells parts = some out → dens m cells = some cv →
  ∃ ov,dens m out = some ov ∧ Instr.fill place cv.toArray vparts = some ov.toArray
 | [], vparts, cells, out, cv, h0, h1, h2, h3 => by
   cases vparts with
   | nil => simp [fillS] at h2; subst h2; exact ⟨cv,h3,rfl⟩
   | cons a l => simp at h0
 | (i, x) :: rest, vparts, cells, out, cv, h0, h1, h2, h3 => by
   cases vparts with
   | nil => simp at h0
   | cons a l =>
     obtain ⟨j,v⟩ := a
     simp only [List.map_cons,List.cons.injEq] at h0
     obtain ⟨rfl,h0⟩ := h0
     simp only [List.map_cons] at h1
     obtain ⟨v',us,hv,hl,he⟩ := dens_cons_some.1 h1
     simp only [List.cons.injEq] at he
     obtain ⟨rfl,rfl⟩ := he
     simp only [fillS] at h2
     split at h2
     ·cases h2
     ·rename_i off size hp
      split at h2
      ·rename_i hc
       have hcv := cells_ok hv
       have hlen := dens_length hcv
       obtain ⟨ov,ho,hf⟩ := fillS_ok h0 hl h2 (putRow_ok (off := off) h3 hcv)
       refine ⟨ov,ho,?_⟩
       have h3l := dens_length h3
       simp only [Array.length_toList] at hlen
       simp only [Instr.fill,hp]
       rw [if_neg (by simp; omega)]
       rw [← hf]
       congr 1
       rw [← Array.foldl_toList,Array.toList_zipIdx]
       have := putRowV_fold v.cells.toList cv.toArray off 0
       simpa using this
      ·cases h2
def fop:BinOp → Option (Nat → Nat → Option Nat)
 | .add => some Ieee.double.add
 | .sub => some Ieee.double.sub
 | .mul => some Ieee.double.mul
 | .quo => some Ieee.double.div
 | _ => none
def f2i (k:IntKind) (x:Nat):Option Int :=
 match (FloatKind.f64.decode x).toInt .zero with
 | some n => if k.min ≤ n ∧ n ≤ k.max then some n else none
 | none => none
def mmF (mx:Bool) (x y:Nat):Option Nat :=
 match Ieee.double.order x y with
 | none => none
 | some .lt => some (if mx then y else x)
 | some .gt => some (if mx then x else y)
 | some .eq => some (if mx then (if (FloatKind.f64.decode x).neg then y else x) else (if (FloatKind.f64.decode x).neg then x else y))
def plainOp (P:Program) (ρ:Operand → SV) (ds:Dec) (o:Oper):Option (SV × Dec × Obs) :=
 if o.op.operands.all fun x => (plain (ρ x)).isSome then
  match pureRun P (execOp (fun x => (plain (ρ x)).getD undef) o) with
  | some (.value v) => tagV (taints (o.op.operands.toList.map ρ)) ds v
  | _ => none
 else none
def notSelect (o:Oper):Bool := match o.op with | .select _ _ => false | _ => true
theorem notSelect_ok {o:Oper} (h:notSelect o = true):∀ cs b,o.op ≠ .select cs b := by
 intro cs b e; simp [notSelect,e] at h
structure PureOk (P:Program) (o:Oper) (m:Nms) (ρv:Operand → Value) (x:SV):Prop where
 out:∃ v,den m x = some v ∧ ∀ w,(execOp ρv o).run P w = .ok (.value v) w
theorem plainOp_ok {P:Program} {ρ:Operand → SV} {ds ds':Dec} {o:Oper} {x:SV} {ob:Obs} (hs:notSelect o = true) (h:plainOp P ρ ds o = some (x,ds',ob)) (ho:ObsOk ob)
  {m:Nms} {ρv:Operand → Value} (hρ:∀ y ∈ o.op.operands,den m (ρ y) = some (ρv y)):PureOk P o m ρv x := by
 unfold plainOp at h
 split at h
 ·rename_i hall
  have he:execOp ρv o = execOp (fun y => (plain (ρ y)).getD undef) o := by
   refine execOp_congr o (notSelect_ok hs) fun y hy => ?_
   have h1 := Array.all_eq_true_iff_forall_mem.1 hall y hy
   obtain ⟨v,hv⟩ := Option.isSome_iff_exists.1 h1
   have h2 := den_plain (m := m) hv
   rw [hρ y hy] at h2
   simp only [Option.some.injEq] at h2
   simp [hv,h2]
  split at h
  ·rename_i v hv
   exact ⟨v,tagV_ok h ho m,fun w => by rw [he]; exact pureRun_run hv w⟩
  ·cases h
 ·cases h
def fieldT (P:Program) (t:TypeId) (f:Nat):Option Field :=
 match P.underlying t with
 | some (.struct fs) => fs[f]?
 | _ => none
def evFieldAddr (P:Program) (s:TypeId) (f:Nat):SV → Option SV
 | .p n off =>
   match fieldT P s f with
   | some fd => match sizeT P fd.type with
     | some (_ + 1) => some (.p n (off + fd.offset))
     | _ => none
   | none => none
 | .sp n off =>
   match fieldT P s f with
   | some fd => match sizeT P fd.type with
     | some (_ + 1) => some (.sp n (off + fd.offset))
     | _ => none
   | none => none
 | _ => none
def evField (P:Program) (t:TypeId) (f:Nat):SV → Option SV
 | .agg l => (fieldT P t f).bind fun fd => partS P fd.type l fd.offset
 | _ => none
def evIndexAddr (P:Program) (t:TypeId) (x ix:SV):Option SV :=
 match ix with
 | .i _ i =>
   match P.underlying t with
   | some (.array len elem) => match x with
     | .p n off => if 0 ≤ i ∧ i < len then (sizeT P elem).map fun s => .p n (off + i.toNat * s) else none
     | _ => none
   | some (.slice elem) => match x with
     | .sl n off len _ => if 0 ≤ i ∧ i < len then (sizeT P elem).map fun s => .p n (off + i.toNat * s) else none
     | _ => none
   | _ => none
 | _ => none
def evIndex (P:Program) (t:TypeId) (x ix:SV):Option SV :=
 match ix with
 | .i _ i =>
   match P.underlying t with
   | some (.array len elem) => match x with
     | .agg l => if 0 ≤ i ∧ i < len then (sizeT P elem).bind fun s => partS P elem l (i.toNat * s) else none
     | _ => none
   | _ => none
 | _ => none
def evBuild (P:Program) (t:TypeId) (parts:List (Nat × SV)):Option SV :=
 match P.info? t with
 | some ti => match ti.zero with
   | some z => match P.underlying t with
     | some (.struct fs) => match fs.toList.mapM fun f => (sizeT P f.type).map fun s => (f.offset, s) with
       | some places => (fillS (fun i => places[i]?) (ofA z.cells) parts).map .agg
       | none => none
     | some (.array _ elem) => match sizeT P elem with
       | some s => (fillS (fun i => some (i * s,s)) (ofA z.cells) parts).map .agg
       | none => none
     | _ => none
   | none => none
 | none => none
section
variable {P:Program} {m:Nms} {w:World}
theorem Addr_add (r off k:Nat):(⟨r,off,none⟩:Addr).add k = ⟨r,off + k,none⟩ := by
 unfold Addr.add
 by_cases h:k = 0
 ·simp [h]
 ·simp [h]
theorem run_sureAddr (a:Addr):(Instr.sureAddr (.pointer (some a))).run P w = .ok a w := rfl
theorem evFieldAddr_ok {s:TypeId} {f:Nat} {x y:SV} {v:Value} (h:evFieldAddr P s f x = some y) (hx:den m x = some v) :
  ∃ u,den m y = some u ∧ (Instr.fieldAt s v f).run P w = .ok u w := by
 unfold evFieldAddr at h
 split at h
 all_goals first
  | cases h; done
  | skip
 all_goals
  rename_i n off
  split at h
  ·rename_i fd hf
   split at h
   ·rename_i k hk
    simp only [Option.some.injEq] at h; subst h
    simp only [den,Option.map_eq_some_iff] at hx
    obtain ⟨r,hr,rfl⟩ := hx
    refine ⟨.pointer (some ⟨r,off + fd.offset,none⟩),by simp only [den,hr,Option.map_some],?_⟩
    unfold fieldT at hf
    split at hf
    ·rename_i fs hu
     simp [Instr.fieldAt,run_underlying hu,hf,run_sureAddr,fieldPlace,run_sizeOf hk,Addr_add]
    ·cases hf
   ·cases h
  ·cases h
theorem evField_ok {t:TypeId} {f:Nat} {x y:SV} {v:Value} (h:evField P t f x = some y) (hx:den m x = some v) :
  ∃ u,den m y = some u ∧ (Instr.field t v f).run P w = .ok u w := by
 unfold evField at h
 split at h
 ·rename_i l
  simp only [Option.bind_eq_some_iff] at h
  obtain ⟨fd,hf,hp⟩ := h
  simp only [den,Option.map_eq_some_iff] at hx
  obtain ⟨vs,hvs,rfl⟩ := hx
  obtain ⟨u,hu,hr⟩ := partS_ok hp hvs w
  refine ⟨u,hu,?_⟩
  unfold fieldT at hf
  split at hf
  ·rename_i fs hd
   simp [Instr.field,run_underlying hd,hf,asAgg,hr]
  ·cases hf
 ·cases h
theorem evIndexAddr_ok {t:TypeId} {x ix y:SV} {v vi:Value} (h:evIndexAddr P t x ix = some y) (hx:den m x = some v) (hi:den m ix = some vi) :
  ∃ u,den m y = some u ∧ (Instr.indexAt t v vi).run P w = .ok u w := by
 unfold evIndexAddr at h
 split at h
 ·rename_i k i
  simp only [den,Option.some.injEq] at hi; subst hi
  split at h
  ·rename_i len elem hd
   split at h
   ·rename_i n off
    split at h
    ·rename_i hc
     simp only [Option.map_eq_some_iff] at h
     obtain ⟨s,hs,rfl⟩ := h
     simp only [den,Option.map_eq_some_iff] at hx
     obtain ⟨r,hr,rfl⟩ := hx
     refine ⟨.pointer (some ⟨r,off + i.toNat * s,none⟩),by simp [den,hr],?_⟩
     simp [Instr.indexAt,asIntOf,run_underlying hd,run_sureAddr,hc,run_sizeOf hs,Addr_add]
    ·cases h
   ·cases h
  ·rename_i elem hd
   split at h
   ·rename_i n off len cap
    split at h
    ·rename_i hc
     simp only [Option.map_eq_some_iff] at h
     obtain ⟨s,hs,rfl⟩ := h
     simp only [den,Option.map_eq_some_iff] at hx
     obtain ⟨r,hr,rfl⟩ := hx
     refine ⟨.pointer (some ⟨r,off + i.toNat * s,none⟩),by simp [den,hr],?_⟩
     simp [Instr.indexAt,asIntOf,run_underlying hd,hc,run_sizeOf hs,Addr_add]
    ·cases h
   ·cases h
  ·cases h
 ·cases h
def ixS:SV → Option Int
 | .i _ i => some i
 | .si _ i => some i
 | _ => none
theorem ixS_ok {x:SV} {i:Int} {v:Value} (h:ixS x = some i) (hx:den m x = some v):∃ k,v = .int k i := by
 unfold ixS at h
 split at h <;> first | cases h; done | skip
 all_goals
  simp only [Option.some.injEq] at h; subst h
  simp only [den,Option.some.injEq] at hx
  exact ⟨_,hx.symm⟩
def ixB (i:Int) (len:Nat):Bool := decide (0 ≤ i) && decide (i < len)
theorem ixB_ok {i:Int} {len:Nat} (h:ixB i len = true):0 ≤ i ∧ i < len := by
 unfold ixB at h; simpa using h
def evIndexAddrS (P:Program) (t:TypeId) (x ix:SV):Option (SV × Obs) :=
 match P.underlying t with
 | some (.slice elem) => match sizeT P elem with
   | some s => match x with
     | .osl false n len => match ix with
       | .i _ i => if 0 ≤ i ∧ i < len then some (.p n (i.toNat * s),[]) else none
       | .si _ i => some (.sp n (i.toNat * s),[(ixB i len,true)])
       | _ => none
     | .osl true n len => match ixS ix with
       | some i => some (.sp n (i.toNat * s),[(ixB i len,true)])
       | none => none
     | .ssl n off len _ => match ixS ix with
       | some i => some (.sp n (off + i.toNat * s),[(ixB i len,true)])
       | none => none
     | .sl n off len _ => match ix with
       | .si _ i => some (.sp n (off + i.toNat * s),[(ixB i len,true)])
       | _ => none
     | _ => none
   | none => none
 | some (.array len elem) => match sizeT P elem with
   | some s => match x with
     | .p n off => match ix with
       | .si _ i => some (.sp n (off + i.toNat * s),[(ixB i len,true)])
       | _ => none
     | .sp n off => match ixS ix with
       | some i => some (.sp n (off + i.toNat * s),[(ixB i len,true)])
       | none => none
     | _ => none
   | none => none
 | _ => none
theorem indexAt_slice {t elem:TypeId} {s r off len cap:Nat} {k:IntKind} {i:Int} (hd:P.underlying t = some (.slice elem)) (hs:sizeT P elem = some s) (hc:0 ≤ i ∧ i < len) :
  (Instr.indexAt t (.slice (some ⟨r,off,none⟩) len cap) (.int k i)).run P w = .ok (.pointer (some ⟨r,off + i.toNat * s,none⟩)) w := by
 simp [Instr.indexAt,asIntOf,run_underlying hd,hc,run_sizeOf hs,Addr_add]
theorem indexAt_array {t elem:TypeId} {s r off len:Nat} {k:IntKind} {i:Int} (hd:P.underlying t = some (.array len elem)) (hs:sizeT P elem = some s) (hc:0 ≤ i ∧ i < len) :
  (Instr.indexAt t (.pointer (some ⟨r,off,none⟩)) (.int k i)).run P w = .ok (.pointer (some ⟨r,off + i.toNat * s,none⟩)) w := by
 simp [Instr.indexAt,asIntOf,run_underlying hd,run_sureAddr,hc,run_sizeOf hs,Addr_add]
theorem evIndexAddrS_ok {t:TypeId} {x ix y:SV} {ob:Obs} {v vi:Value} (h:evIndexAddrS P t x ix = some (y,ob)) (ho:ObsOk ob) (hx:den m x = some v) (hi:den m ix = some vi) :
  ∃ u,den m y = some u ∧ ∀ w,(Instr.indexAt t v vi).run P w = .ok u w := by
 have one:∀ {c:Bool},ObsOk [(c,true)] → c = true := fun h => h _ (List.mem_singleton.2 rfl)
 unfold evIndexAddrS at h
 split at h
 ·rename_i elem hd
  split at h
  ·rename_i s hs
   split at h
   ·rename_i n len
    simp only [den,Option.bind_eq_some_iff] at hx
    obtain ⟨r,hr,hx⟩ := hx
    obtain ⟨_,rfl⟩ := oslV_some.1 hx
    split at h
    ·rename_i ki i
     split at h
     ·rename_i hc
      simp only [Option.some.injEq,Prod.mk.injEq] at h; obtain ⟨rfl,rfl⟩ := h
      simp only [den,Option.some.injEq] at hi; subst hi
      exact ⟨.pointer (some ⟨r,i.toNat * s,none⟩),by simp only [den,hr,Option.map_some],fun w => (indexAt_slice (off := 0) hd hs hc).trans (by rw [Nat.zero_add])⟩
     ·cases h
    ·rename_i ki i
     simp only [Option.some.injEq,Prod.mk.injEq] at h; obtain ⟨rfl,rfl⟩ := h
     simp only [den,Option.some.injEq] at hi; subst hi
     have hc := ixB_ok (one ho)
     exact ⟨.pointer (some ⟨r,i.toNat * s,none⟩),by simp only [den,hr,Option.map_some],fun w => (indexAt_slice (off := 0) hd hs hc).trans (by rw [Nat.zero_add])⟩
    ·cases h
   ·rename_i n len
    simp only [den,Option.bind_eq_some_iff] at hx
    obtain ⟨r,hr,hx⟩ := hx
    obtain ⟨_,rfl⟩ := oslV_some.1 hx
    split at h
    ·rename_i i hix
     simp only [Option.some.injEq,Prod.mk.injEq] at h; obtain ⟨rfl,rfl⟩ := h
     obtain ⟨k,rfl⟩ := ixS_ok hix hi
     have hc := ixB_ok (one ho)
     exact ⟨.pointer (some ⟨r,i.toNat * s,none⟩),by simp only [den,hr,Option.map_some],fun w => (indexAt_slice (off := 0) hd hs hc).trans (by rw [Nat.zero_add])⟩
    ·cases h
   ·rename_i n off len cap
    simp only [den,Option.map_eq_some_iff] at hx
    obtain ⟨r,hr,rfl⟩ := hx
    split at h
    ·rename_i i hix
     simp only [Option.some.injEq,Prod.mk.injEq] at h; obtain ⟨rfl,rfl⟩ := h
     obtain ⟨k,rfl⟩ := ixS_ok hix hi
     have hc := ixB_ok (one ho)
     exact ⟨.pointer (some ⟨r,off + i.toNat * s,none⟩),by simp only [den,hr,Option.map_some],fun w => indexAt_slice hd hs hc⟩
    ·cases h
   ·rename_i n off len cap
    simp only [den,Option.map_eq_some_iff] at hx
    obtain ⟨r,hr,rfl⟩ := hx
    split at h
    ·rename_i ki i
     simp only [Option.some.injEq,Prod.mk.injEq] at h; obtain ⟨rfl,rfl⟩ := h
     simp only [den,Option.some.injEq] at hi; subst hi
     have hc := ixB_ok (one ho)
     exact ⟨.pointer (some ⟨r,off + i.toNat * s,none⟩),by simp only [den,hr,Option.map_some],fun w => indexAt_slice hd hs hc⟩
    ·cases h
   ·cases h
  ·cases h
 ·rename_i len elem hd
  split at h
  ·rename_i s hs
   split at h
   ·rename_i n off
    simp only [den,Option.map_eq_some_iff] at hx
    obtain ⟨r,hr,rfl⟩ := hx
    split at h
    ·rename_i ki i
     simp only [Option.some.injEq,Prod.mk.injEq] at h; obtain ⟨rfl,rfl⟩ := h
     simp only [den,Option.some.injEq] at hi; subst hi
     have hc := ixB_ok (one ho)
     exact ⟨.pointer (some ⟨r,off + i.toNat * s,none⟩),by simp only [den,hr,Option.map_some],fun w => indexAt_array hd hs hc⟩
    ·cases h
   ·rename_i n off
    simp only [den,Option.map_eq_some_iff] at hx
    obtain ⟨r,hr,rfl⟩ := hx
    split at h
    ·rename_i i hix
     simp only [Option.some.injEq,Prod.mk.injEq] at h; obtain ⟨rfl,rfl⟩ := h
     obtain ⟨k,rfl⟩ := ixS_ok hix hi
     have hc := ixB_ok (one ho)
     exact ⟨.pointer (some ⟨r,off + i.toNat * s,none⟩),by simp only [den,hr,Option.map_some],fun w => indexAt_array hd hs hc⟩
    ·cases h
   ·cases h
  ·cases h
 ·cases h
theorem evIndex_ok {t:TypeId} {x ix y:SV} {v vi:Value} (h:evIndex P t x ix = some y) (hx:den m x = some v) (hi:den m ix = some vi) :
  ∃ u,den m y = some u ∧ (Instr.index t v vi).run P w = .ok u w := by
 unfold evIndex at h
 split at h
 ·rename_i k i
  simp only [den,Option.some.injEq] at hi; subst hi
  split at h
  ·rename_i len elem hd
   split at h
   ·rename_i l
    split at h
    ·rename_i hc
     simp only [Option.bind_eq_some_iff] at h
     obtain ⟨s,hs,hp⟩ := h
     simp only [den,Option.map_eq_some_iff] at hx
     obtain ⟨vs,hvs,rfl⟩ := hx
     obtain ⟨u,hu,hr⟩ := partS_ok hp hvs w
     refine ⟨u,hu,?_⟩
     simp [Instr.index,asIntOf,run_underlying hd,hc,run_sizeOf hs,hr]
    ·cases h
   ·cases h
  ·cases h
 ·cases h
theorem run_mapM_sizes (fs:List Field):∀ places,(fs.mapM fun f => (sizeT P f.type).map fun s => (f.offset,s)) = some places →
  (fs.mapM fun f => (do pure (f.offset,← Go.sizeOf f.type):Sem (Nat × Nat))).run P w = .ok places w := by
 induction fs with
 | nil => intro places h; simp at h; subst h; simp
 | cons f fs ih =>
   intro places h
   simp only [List.mapM_cons,Option.bind_eq_bind,Option.bind_eq_some_iff,Option.map_eq_some_iff] at h
   obtain ⟨a,⟨s,hs,rfl⟩,bs,hb,he⟩ := h
   simp only [pure,Option.some.injEq] at he; subst he
   simp only [List.mapM_cons,Sem.run_bind,run_sizeOf hs,Result.andThen_ok,Sem.run_pure]
   rw [ih bs hb]
   simp
theorem evBuild_ok {t:TypeId} {parts:List (Nat × SV)} {vparts:List (Nat × Value)} {y:SV} (h:evBuild P t parts = some y)
  (h0:vparts.map (·.1) = parts.map (·.1)) (h1:dens m (parts.map (·.2)) = some (vparts.map (·.2))) :
  ∃ u,den m y = some u ∧ (Instr.build t vparts.toArray).run P w = .ok u w := by
 unfold evBuild at h
 split at h
 ·rename_i ti hti
  split at h
  ·rename_i z hz
   have hzero:(zeroValue t).run P w = .ok z w := by simp [zeroValue,typeInfo,hti,hz]
   have hzc:dens m (ofA z.cells) = some z.cells.toList := dens_ofA _
   split at h
   ·rename_i fs hd
    split at h
    ·rename_i places hp
     simp only [Option.map_eq_some_iff] at h
     obtain ⟨out,ho,rfl⟩ := h
     obtain ⟨ov,h2,h3⟩ := fillS_ok h0 h1 ho hzc
     refine ⟨.agg ov.toArray,by simp [den,h2],?_⟩
     have hm:(fs.mapM fun f => (do pure (f.offset,← Go.sizeOf f.type):Sem (Nat × Nat))).run P w = .ok places.toArray w := by
      rw [← Array.toArray_toList (xs := fs),List.mapM_toArray]
      simp only [Sem.run_map]
      rw [run_mapM_sizes fs.toList places hp]
      rfl
     simp only [Instr.build,Sem.run_bind,hzero,Result.andThen_ok,run_underlying hd]
     erw [hm]
     simp only [Result.andThen_ok]
     have h4:Instr.fill (fun x => places[x]?) z.cells vparts = some ov.toArray := by simpa using h3
     simp [h4]
    ·cases h
   ·rename_i n elem hd
    split at h
    ·rename_i s hs
     simp only [Option.map_eq_some_iff] at h
     obtain ⟨out,ho,rfl⟩ := h
     obtain ⟨ov,h2,h3⟩ := fillS_ok h0 h1 ho hzc
     refine ⟨.agg ov.toArray,by simp [den,h2],?_⟩
     have h4:Instr.fill (fun i => some (i * s,s)) z.cells vparts = some ov.toArray := by simpa using h3
     simp only [Instr.build,Sem.run_bind,hzero,Result.andThen_ok,run_underlying hd,run_sizeOf hs]
     simp [h4]
    ·cases h
   ·cases h
  ·cases h
 ·cases h
end
def byText (o:Oper):Bool :=
 match o.op with
 | .binOp .. | .unOp .. | .convert .. | .index .. | .slice .. => true
 | .call c => match c.callee with
   | .builtin b => match b with
     | .len | .min | .max | .cap => true
     | _ => false
   | _ => false
 | _ => false
def evCmp (op:BinOp) (eq:Bool):Option SV :=
 match op with
 | .eql => some (.b eq)
 | .neq => some (.b !eq)
 | _ => none
def nilKind (P:Program) (t:TypeId):Nat :=
 match P.underlying t with
 | some (.pointer _) => 1
 | some (.slice _) => 2
 | some (.func _ _ _) => 3
 | _ => 0
def evNil (P:Program) (op:BinOp) (t:TypeId):SV → SV → Option SV
 | .p _ _,.np => if nilKind P t = 1 then evCmp op false else none
 | .sl _ _ _ _,.o (.slice none _ _) => if nilKind P t = 2 then evCmp op false else none
 | .fn _ _ _,.o .nilFunc => if nilKind P t = 3 then evCmp op false else none
 | _,_ => none
def evShift (op:BinOp) (k k':IntKind) (a b:Int):Option (SV × Obs) :=
 match op with
 | .rem => if k = k' then some (.si k (a.tmod b),[(decide (b ≠ 0),true)]) else none
 | .quo => if k = k' then some (.si k (k.wrap (a.tdiv b)),[(decide (b ≠ 0),true)]) else none
 | .shl => some (.si k (k.wrap (a * 2 ^ min b.toNat k.bits)),[(decide (0 ≤ b),true)])
 | .shr => some (.si k (a.fdiv (2 ^ min b.toNat k.bits)),[(decide (0 ≤ b),true)])
 | _ => none
def evBin (P:Program) (op:BinOp) (t:TypeId) (x y:SV):Option (SV × Obs) :=
 match x,y with
 | .i k a,.si k' b => evShift op k k' a b
 | .si k a,.si k' b => evShift op k k' a b
 | .f a,.f b => (fop op).map fun g => (.f ((g a b).getD 0),[((g a b).isSome,true)])
 | .f a,.fl b => (fop op).map fun g => (.f ((g a b.b).getD 0),[((g a b.b).isSome,true)])
 | .fl a,.f b => (fop op).map fun g => (.f ((g a.b b).getD 0),[((g a.b b).isSome,true)])
 | .fl a,.fl b => (fop op).map fun g => (.fl (toF ((g a.b b.b).getD 0)),[((g a.b b.b).isSome,true),(Bu.rightB ((g a.b b.b).getD 0),true)])
 | x,y => (evNil P op t x y).map fun z => (z,[])
def cmpF (op:BinOp) (a b:Bu.F):Option Bool :=
 match op with
 | .lss => some (decide (a.k < b.k))
 | .leq => some (decide (a.k ≤ b.k))
 | .gtr => some (decide (b.k < a.k))
 | .geq => some (decide (b.k ≤ a.k))
 | .eql => some (decide (a.k = b.k))
 | .neq => some (!decide (a.k = b.k))
 | _ => none
def cmpW (op:BinOp) (a b:Nat):Option Bool :=
 match op with
 | .lss => some (Ieee.double.order a b == some .lt)
 | .leq => some (Ieee.double.order a b == some .lt || Ieee.double.order a b == some .eq)
 | .gtr => some (Ieee.double.order a b == some .gt)
 | .geq => some (Ieee.double.order a b == some .gt || Ieee.double.order a b == some .eq)
 | _ => none
def evCmpF (ρ:Operand → SV) (ds:Dec) (o:Oper):Option (SV × Dec × Obs) :=
 match o.op with
 | .binOp op _ x y _ => match ρ x, ρ y with
   | .fl a, .fl b => match cmpF op a b with
     | some c => (takeB ds c).map fun r => (.b r.1,r.2.1,r.2.2)
     | none => none
   | .f a, .fl b => match cmpW op a b.b with
     | some c => (takeB ds c).map fun r => (.b r.1,r.2.1,r.2.2)
     | none => none
   | .fl a, .f b => match cmpW op a.b b with
     | some c => (takeB ds c).map fun r => (.b r.1,r.2.1,r.2.2)
     | none => none
   | .f a, .f b => match cmpW op a b with
     | some c => (takeB ds c).map fun r => (.b r.1,r.2.1,r.2.2)
     | none => none
   | _,_ => none
 | _ => none
def eqFS (P:Program) (rec:TypeId → SV → SV → Option Bool) (xs ys:List SV):List Field → Option Bool
 | [] => some true
 | f :: fs => if f.name ≠ "_" then (match partS P f.type xs f.offset, partS P f.type ys f.offset with
   | some a, some b => match rec f.type a b, eqFS P rec xs ys fs with
     | some c,some r => some (c && r)
     | _,_ => none
   | _,_ => none) else eqFS P rec xs ys fs
def eqIS (P:Program) (rec:TypeId → SV → SV → Option Bool) (e:TypeId) (xs ys:List SV):List Nat → Option Bool
 | [] => some true
 | i :: is => match partS P e xs (i * P.cellsOf e), partS P e ys (i * P.cellsOf e) with
   | some a, some b => match rec e a b, eqIS P rec e xs ys is with
     | some c,some r => some (c && r)
     | _,_ => none
   | _,_ => none
def eqLeaf:TypeDesc → SV → SV → Option Bool
 | .int _, x, y => match x, y with
   | .i k a,.i k' b => if k = k' then some (a == b) else none
   | .si k a,.i k' b => if k = k' then some (a == b) else none
   | .i k a,.si k' b => if k = k' then some (a == b) else none
   | .si k a,.si k' b => if k = k' then some (a == b) else none
   | _,_ => none
 | .float .f64, x, y => match x, y with
   | .fl a,.fl b => some (decide (a.k = b.k))
   | .f a,.fl b => some (Ieee.double.order a b.b == some .eq)
   | .fl a,.f b => some (Ieee.double.order a.b b == some .eq)
   | .f a,.f b => some (Ieee.double.order a b == some .eq)
   | _,_ => none
 | .bool, x, y => match x, y with
   | .b a,.b b => some (a == b)
   | _,_ => none
 | _,_,_ => none
def eqT (P:Program):Nat → TypeId → SV → SV → Option Bool
 | 0,_,_,_ => none
 | d + 1, t, x, y => match P.underlying t with
   | some (.struct fs) => match x, y with
     | .agg xs,.agg ys => if P.stoodInHeld t = false then eqFS P (eqT P d) xs ys fs.toList else none
     | _,_ => none
   | some (.array n e) => match x, y with
     | .agg xs,.agg ys => if (P.info? e).isSome = true then eqIS P (eqT P d) e xs ys (List.range n) else none
     | _,_ => none
   | some td => eqLeaf td x y
   | none => none
def evCmpA (P:Program) (ρ:Operand → SV) (ds:Dec) (o:Oper):Option (SV × Dec × Obs) :=
 match o.op with
 | .binOp op t x y _ => match ρ x, ρ y with
   | .agg xs, .agg ys => if (taints xs || taints ys) && !(P.eqGuardType P.depth t) then
     (match eqT P 8 t (.agg xs) (.agg ys) with
     | some c => match op with
       | .eql => (takeB ds c).map fun r => (.b r.1,r.2.1,r.2.2)
       | .neq => (takeB ds (!c)).map fun r => (.b r.1,r.2.1,r.2.2)
       | _ => none
     | none => none) else none
   | _,_ => none
 | _ => none
def mnF (a b:Bu.F):Bu.F := if b.k < a.k then b else a
def mxF (a b:Bu.F):Bu.F := if a.k < b.k then b else a
def evUn (op:UnOp):SV → Option (SV × Obs)
 | .fl x => match op with
   | .neg => some (.fl x.neg,[(!decide (x.k = 0),true)])
   | _ => none
 | _ => none
def evConv (P:Program) (src dst:TypeId):SV → Option (SV × Obs)
 | .f b => match P.underlying src, P.underlying dst with
   | some _,some (.int k) => some (.si k ((f2i k b).getD 0),[((f2i k b).isSome,true)])
   | _,_ => none
 | .fl b => match P.underlying src, P.underlying dst with
   | some _,some (.int k) => some (.si k ((f2i k b.b).getD 0),[((f2i k b.b).isSome,true)])
   | _,_ => none
 | .si _ n => match P.underlying src, P.underlying dst with
   | some (.int _),some (.float .f64) => some (.fl (toF (FloatKind.f64.nearest n)),[(Bu.rightB (FloatKind.f64.nearest n),true)])
   | _,_ => none
 | _ => none
def bnd (d:Int):Option SV → Option Int
 | none => some d
 | some (.i _ a) => some a
 | _ => none
def evSlice (P:Program) (t:TypeId) (x:SV) (lo hi mx:Option SV):Option SV :=
 match mx,x,P.underlying t with
 | none, .sl n off len cap, some (.slice elem) =>
   match bnd 0 lo,bnd len hi,sizeT P elem with
   | some l, some h, some s =>
     if 0 ≤ l ∧ l ≤ h ∧ h ≤ (cap:Int) ∧ l.toNat ≠ cap then some (.sl n (off + l.toNat * s) (h.toNat - l.toNat) (cap - l.toNat)) else none
   | _,_,_ => none
 | none, .p n off, some (.array len elem) =>
   match lo,hi,sizeT P elem with
   | none,none,some _ => some (.sl n off len len)
   | _,_,_ => none
 | _,_,_ => none
def bndS (d:Int):Option SV → Option Int
 | none => some d
 | some x => ixS x
def slB (l h cap:Int):Bool := decide (0 ≤ l) && (decide (l ≤ h) && (decide (h ≤ cap) && (decide (l ≠ cap) || decide (l = 0))))
def endT (lo:Option SV) (l cap:Int):Nat := match lo with
 | none => l.toNat
 | some _ => bif decide (l = cap) then 0 else l.toNat
def slO (lo:Option SV) (l h cap:Int):Bool := match lo with
 | none => slB l h cap
 | some _ => decide (0 ≤ l) && (decide (l ≤ h) && decide (h ≤ cap))
def evSliceS (P:Program) (t:TypeId) (x:SV) (lo hi mx:Option SV):Option (SV × Obs) :=
 match P.underlying t with
 | some (.slice elem) => match sizeT P elem with
   | some s => match mx with
     | none => match x with
       | .osl _ n len => match lo, bndS len hi with
         | none,some h => some (.osl true n h.toNat,[(slB 0 h len,true)])
         | _,_ => none
       | .ssl n off len cap => match bndS 0 lo, bndS len hi with
         | some l,some h => some (.ssl n (off + endT lo l cap * s) (h.toNat - l.toNat) (cap - l.toNat),[(slO lo l h cap,true)])
         | _,_ => none
       | .sl n off len cap => match bndS 0 lo, bndS len hi with
         | some l,some h => some (.ssl n (off + endT lo l cap * s) (h.toNat - l.toNat) (cap - l.toNat),[(slO lo l h cap,true)])
         | _,_ => none
       | _ => none
     | some (.i _ mm) => match x with
       | .sl n off len cap => match bnd 0 lo, hi with
         | some l,some (.i _ h) => if 0 ≤ l ∧ l ≤ h ∧ h ≤ mm ∧ mm ≤ (cap:Int) ∧ l.toNat ≠ mm.toNat then some (.sl n (off + l.toNat * s) (h.toNat - l.toNat) (mm.toNat - l.toNat),[]) else none
         | _,_ => none
       | _ => none
     | _ => none
   | none => none
 | _ => none
def mnI (a b:Int):Int := if b < a then b else a
def evBuiltin (P:Program) (c:Call) (ρ:Operand → SV):Option (SV × Obs) :=
 match c.callee with
 | .builtin .min => match c.args.toList.map ρ with
   | [.f a,.f b] => some (.f ((mmF false a b).getD 0),[((mmF false a b).isSome,true)])
   | [.fl a,.fl b] => some (.fl (mnF a b),[])
   | [.si k a,.i _ b] => some (.si k (mnI a b),[])
   | [.si k a,.si _ b] => some (.si k (mnI a b),[])
   | _ => none
 | .builtin .max => match c.args.toList.map ρ with
   | [.f a,.f b] => some (.f ((mmF true a b).getD 0),[((mmF true a b).isSome,true)])
   | [.fl a,.fl b] => some (.fl (mxF a b),[])
   | [.fl a,.fl b,.fl c] => some (.fl (mxF (mxF a b) c),[])
   | _ => none
 | .builtin .len => match c.args.toList.map ρ, c.argTypes[0]? with
   | [x], some t => match P.underlying t, x with
     | some (.slice _),.sl _ _ len _ => some (.i .i64 len,[])
     | some (.slice _),.ssl _ _ len _ => some (.si .i64 len,[])
     | some (.slice _),.osl y _ len => some (match y with | true => .si .i64 len | false => .i .i64 len,[])
     | some (.array n _),_ => some (.i .i64 n,[])
     | _,_ => none
   | _,_ => none
 | _ => none
def evSpecial (P:Program) (ρ:Operand → SV) (o:Oper):Option (SV × Obs) :=
 match o.op with
 | .move x | .assign x => some (ρ x,[])
 | .pick c a b => match ρ c with
   | .b true => some (ρ a,[])
   | .b false => some (ρ b,[])
   | _ => none
 | .makeFunc fn first cap => some (.fn fn (first.toList.map ρ) (cap.toList.map ρ),[])
 | .build t parts => (evBuild P t (parts.toList.map fun q => (q.1,ρ q.2))).map fun x => (x,[])
 | .fieldAddr s x f => (evFieldAddr P s f (ρ x)).map fun x => (x,[])
 | .field t x f => (evField P t f (ρ x)).map fun x => (x,[])
 | .indexAddr t x ix => match evIndexAddr P t (ρ x) (ρ ix) with
   | some z => some (z,[])
   | none => evIndexAddrS P t (ρ x) (ρ ix)
 | .index t x ix => (evIndex P t (ρ x) (ρ ix)).map fun x => (x,[])
 | .extract x i => match ρ x with
   | .tup l => l[i]?.map fun x => (x,[])
   | _ => none
 | .nilCheck x => match ρ x with
   | .p n off => some (.p n off,[])
   | .sp n off => some (.sp n off,[])
   | .fn (.func g) a b => some (.fn (.func g) a b,[])
   | _ => none
 | .binOp op t x y _ => evBin P op t (ρ x) (ρ y)
 | .unOp op _ x => evUn op (ρ x)
 | .convert src dst x => evConv P src dst (ρ x)
 | .slice t x lo hi mx => match evSlice P t (ρ x) (lo.map ρ) (hi.map ρ) (mx.map ρ) with
   | some z => some (z,[])
   | none => evSliceS P t (ρ x) (lo.map ρ) (hi.map ρ) (mx.map ρ)
 | .call c => evBuiltin P c ρ
 | _ => none
def evPure (P:Program) (ρ:Operand → SV) (ds:Dec) (o:Oper):Option (SV × Dec × Obs) :=
 match evSpecial P ρ o with
 | some (x,ob) => some (x,ds,ob)
 | none => match evCmpF ρ ds o with
   | some r => some r
   | none => match evCmpA P ρ ds o with
     | some r => some r
     | none => if byText o then plainOp P ρ ds o else none
theorem byText_notSelect {o:Oper} (h:byText o = true):notSelect o = true := by
 unfold byText at h
 unfold notSelect
 split <;> first | rfl | (rename_i hs; rw [hs] at h; exact h)
section
variable {P:Program} {m:Nms} {w:World}
theorem f2i_run {k:IntKind} {b:Nat} {n:Int} (h:f2i k b = some n):(Conv.floatToInt .f64 b k).run P w = .ok (.int k n) w := by
 unfold f2i at h
 unfold Conv.floatToInt
 split at h
 ·rename_i a ha
  split at h
  ·rename_i hc
   simp only [Option.some.injEq] at h; subst h
   simp [ha,hc]
  ·cases h
 ·cases h
theorem obs1 {c:Bool} (h:ObsOk [(c,true)]):c = true := h (c,true) (List.mem_singleton.2 rfl)
theorem getD_of_isSome {α:Type} {x:Option α} {d:α} (h:x.isSome = true):x = some (x.getD d) := by
 cases x with
 | none => simp at h
 | some a => rfl
theorem evCmp_ok {op:BinOp} {e:Bool} {x:SV} (h:evCmp op e = some x):(op = .eql ∧ x = .b e) ∨ (op = .neq ∧ x = .b !e) := by
 unfold evCmp at h
 split at h
 ·simp only [Option.some.injEq] at h; exact .inl ⟨rfl,h.symm⟩
 ·simp only [Option.some.injEq] at h; exact .inr ⟨rfl,h.symm⟩
 ·cases h
theorem pairs_ok {ρ:Operand → SV} {ρv:Operand → Value} (ps:List (Nat × Operand)) (h:∀ q ∈ ps,den m (ρ q.2) = some (ρv q.2)) :
  dens m ((ps.map fun q => (q.1,ρ q.2)).map (·.2)) = some ((ps.map fun q => (q.1,ρv q.2)).map (·.2)) := by
 induction ps with
 | nil => simp [dens]
 | cons q l ih =>
   simp only [List.map_cons]
   exact dens_cons (h q (by simp)) (ih fun r hr => h r (by simp [hr]))
theorem args_ok {ρ:Operand → SV} {ρv:Operand → Value} (ps:List Operand) (h:∀ q ∈ ps,den m (ρ q) = some (ρv q)) :
  dens m (ps.map ρ) = some (ps.map ρv) := by
 induction ps with
 | nil => simp [dens]
 | cons q l ih =>
   simp only [List.map_cons]
   exact dens_cons (h q (by simp)) (ih fun r hr => h r (by simp [hr]))
theorem nilKind_ok {t:TypeId} {k:Nat} (h:nilKind P t = k):(k = 1 → ∃ e,P.underlying t = some (.pointer e)) ∧ (k = 2 → ∃ e,P.underlying t = some (.slice e)) ∧ (k = 3 → ∃ a b c,P.underlying t = some (.func a b c)) := by
 unfold nilKind at h
 split at h <;> subst h
 ·rename_i e he; exact ⟨(fun _ => ⟨e,he⟩),(fun c => by cases c),(fun c => by cases c)⟩
 ·rename_i e he; exact ⟨(fun c => by cases c),fun _ => ⟨e,he⟩,fun c => by cases c⟩
 ·rename_i a b c he; exact ⟨(fun c => by cases c),(fun c => by cases c),fun _ => ⟨a,b,c,he⟩⟩
 ·exact ⟨(fun c => by cases c),(fun c => by cases c),fun c => by cases c⟩
theorem equal_false (t:TypeId) (v u:Value) (op:BinOp) (z:SV) (X Y:Operand) (hz:evCmp op false = some z) (hne:∀ w,(Op.equal t v u).run P w = .ok false w)
  (hg:∀ op',eqGuard op' t X Y v u = pure () ∨ (op' ≠ .eql ∧ op' ≠ .neq)) (hb:∀ op',op' = .eql ∨ op' = .neq → binOp op' t v u = (if op' = .eql then do pure (.bool (← Op.equal t v u)) else do pure (.bool (!(← Op.equal t v u))))) :
  ∃ r,den m z = some r ∧ ∀ w,(do eqGuard op t X Y v u; binOp op t v u:Sem Value).run P w = .ok r w := by
 rcases evCmp_ok hz with ⟨rfl,rfl⟩ | ⟨rfl,rfl⟩
 ·refine ⟨.bool false,by simp [den],fun w => ?_⟩
  rcases hg .eql with h | h
  ·rw [h,hb .eql (.inl rfl)]; simp [hne]
  ·exact absurd rfl h.1
 ·refine ⟨.bool true,by simp [den],fun w => ?_⟩
  rcases hg .neq with h | h
  ·rw [h,hb .neq (.inr rfl)]; simp [hne]
  ·exact absurd rfl h.2
theorem equal_once {t:TypeId} {v u:Value} {b:Bool} {w:World} (h:(Op.equalIn (9999 + 1) t v u).run P w = .ok b w):(Op.equal t v u).run P w = .ok b w := h
theorem fop_run {op:BinOp} {t:TypeId} {X Y:Operand} {g:Nat → Nat → Option Nat} (hg:fop op = some g) {a b r:Nat} (h1:g a b = some r) (w:World) :
  (do eqGuard op t X Y (.float .f64 a) (.float .f64 b); binOp op t (.float .f64 a) (.float .f64 b):Sem Value).run P w = .ok (.float .f64 r) w := by
 have hf:∀ w,(Op.floatArith op .f64 a b).run P w = .ok (.float .f64 r) w := by
  intro w
  unfold fop at hg
  split at hg <;> first
   | (simp only [Option.some.injEq] at hg; subst hg; simp [Op.floatArith,FloatKind.format,h1])
   | cases hg
 unfold fop at hg
 split at hg <;> first
  | (simp only [Option.some.injEq] at hg; simp [eqGuard,binOp,hf])
  | cases hg
theorem obs2 {c d:Bool} (h:ObsOk [(c,true),(d,true)]):c = true ∧ d = true := ⟨h (c,true) (by simp),h (d,true) (by simp)⟩
theorem evShift_ok {op:BinOp} {t:TypeId} {k yk:IntKind} {a b:Int} {X Y:Operand} {z:SV} {ob:Obs} (h:evShift op k yk a b = some (z,ob)) (ho:ObsOk ob) :
  ∃ r,den m z = some r ∧ ∀ w,(do eqGuard op t X Y (.int k a) (.int yk b); binOp op t (.int k a) (.int yk b):Sem Value).run P w = .ok r w := by
 unfold evShift at h
 split at h
 ·split at h
  ·rename_i hk
   subst hk
   simp only [Option.some.injEq,Prod.mk.injEq] at h
   obtain ⟨rfl,rfl⟩ := h
   have h1:¬ b = 0 := of_decide_eq_true (obs1 ho)
   exact ⟨.int k (a.tmod b),by simp [den],fun w => by simp [eqGuard,binOp,Op.intDiv,h1]⟩
  ·cases h
 ·split at h
  ·rename_i hk
   subst hk
   simp only [Option.some.injEq,Prod.mk.injEq] at h
   obtain ⟨rfl,rfl⟩ := h
   have h1:¬ b = 0 := of_decide_eq_true (obs1 ho)
   exact ⟨.int k (k.wrap (a.tdiv b)),by simp [den],fun w => by simp [eqGuard,binOp,Op.intDiv,h1]⟩
  ·cases h
 ·simp only [Option.some.injEq,Prod.mk.injEq] at h
  obtain ⟨rfl,rfl⟩ := h
  have h1:¬ b < 0 := by have := of_decide_eq_true (obs1 ho); omega
  exact ⟨.int k (k.wrap (a * 2 ^ min b.toNat k.bits)),by simp [den],fun w => by simp [eqGuard,binOp,Op.shift,h1]⟩
 ·simp only [Option.some.injEq,Prod.mk.injEq] at h
  obtain ⟨rfl,rfl⟩ := h
  have h1:¬ b < 0 := by have := of_decide_eq_true (obs1 ho); omega
  exact ⟨.int k (a.fdiv (2 ^ min b.toNat k.bits)),by simp [den],fun w => by simp [eqGuard,binOp,Op.shift,h1]⟩
 ·cases h
theorem evBin_ok {op:BinOp} {t:TypeId} {x y:SV} {X Y:Operand} {z:SV} {ob:Obs} {v u:Value} (h:evBin P op t x y = some (z,ob)) (ho:ObsOk ob) (hx:den m x = some v) (hy:den m y = some u) :
  ∃ r,den m z = some r ∧ ∀ w,(do eqGuard op t X Y v u; binOp op t v u:Sem Value).run P w = .ok r w := by
 unfold evBin at h
 split at h
 ·simp only [den,Option.some.injEq] at hx hy
  subst hx hy
  exact evShift_ok h ho
 ·simp only [den,Option.some.injEq] at hx hy
  subst hx hy
  exact evShift_ok h ho
 ·rename_i a b
  simp only [Option.map_eq_some_iff,Prod.mk.injEq] at h
  obtain ⟨g,hg,rfl,rfl⟩ := h
  have h1 := getD_of_isSome (d := 0) (obs1 ho)
  simp only [den,Option.some.injEq] at hx hy
  subst hx hy
  exact ⟨_,by simp [den],fun w => fop_run hg h1 w⟩
 ·rename_i a b
  simp only [Option.map_eq_some_iff,Prod.mk.injEq] at h
  obtain ⟨g,hg,rfl,rfl⟩ := h
  have h1 := getD_of_isSome (d := 0) (obs1 ho)
  simp only [den,Option.some.injEq] at hx hy
  subst hx hy
  exact ⟨_,by simp [den],fun w => fop_run hg h1 w⟩
 ·rename_i a b
  simp only [Option.map_eq_some_iff,Prod.mk.injEq] at h
  obtain ⟨g,hg,rfl,rfl⟩ := h
  have h1 := getD_of_isSome (d := 0) (obs1 ho)
  simp only [den,Option.some.injEq] at hx hy
  subst hx hy
  exact ⟨_,by simp [den],fun w => fop_run hg h1 w⟩
 ·rename_i a b
  simp only [Option.map_eq_some_iff,Prod.mk.injEq] at h
  obtain ⟨g,hg,rfl,rfl⟩ := h
  have h1 := getD_of_isSome (d := 0) (obs2 ho).1
  have h2 := toF_b (obs2 ho).2
  simp only [den,Option.some.injEq] at hx hy
  subst hx hy
  exact ⟨.float .f64 ((g a.b b.b).getD 0),by simp [den,h2],fun w => fop_run hg h1 w⟩
 ·simp only [Option.map_eq_some_iff,Prod.mk.injEq] at h
  obtain ⟨s,hs,rfl,rfl⟩ := h
  unfold evNil at hs
  split at hs
  ·split at hs
   ·rename_i n off hk
    obtain ⟨e,he⟩ := (nilKind_ok hk).1 rfl
    simp only [den,Option.some.injEq,Option.map_eq_some_iff] at hx hy
    obtain ⟨r,hr,rfl⟩ := hx
    subst hy
    refine equal_false t _ _ op _ X Y hs (fun w => ?_) (fun op' => ?_) (fun op' h => ?_)
    ·exact equal_once (by rw [Op.equalIn]; simp only [Sem.run_bind,run_underlying he,Result.andThen_ok,Sem.run_pure])
    ·left; cases op' <;> rfl
    ·rcases h with rfl | rfl <;> rfl
   ·cases hs
  ·split at hs
   ·rename_i n off len cap a b hk
    obtain ⟨e,he⟩ := (nilKind_ok hk).2.1 rfl
    simp only [den,Option.some.injEq,Option.map_eq_some_iff] at hx hy
    obtain ⟨r,hr,rfl⟩ := hx
    subst hy
    refine equal_false t _ _ op _ X Y hs (fun w => ?_) (fun op' => ?_) (fun op' h => ?_)
    ·exact equal_once (by rw [Op.equalIn]; simp only [Sem.run_bind,run_underlying he,Result.andThen_ok,Sem.run_pure])
    ·left; cases op' <;> rfl
    ·rcases h with rfl | rfl <;> rfl
   ·cases hs
  ·split at hs
   ·rename_i f a b hk
    obtain ⟨p,q,r,he⟩ := (nilKind_ok hk).2.2 rfl
    simp only [den,Option.some.injEq,Option.map_eq_some_iff,Option.bind_eq_some_iff] at hx hy
    obtain ⟨_,_,_,_,rfl⟩ := hx
    subst hy
    refine equal_false t _ _ op _ X Y hs (fun w => ?_) (fun op' => ?_) (fun op' h => ?_)
    ·exact equal_once (by rw [Op.equalIn]; simp only [Sem.run_bind,run_underlying he,Result.andThen_ok,Sem.run_pure])
    ·left; cases op' <;> rfl
    ·rcases h with rfl | rfl <;> rfl
   ·cases hs
  ·cases hs
theorem evConv_ok {src dst:TypeId} {x z:SV} {ob:Obs} {v:Value} (h:evConv P src dst x = some (z,ob)) (ho:ObsOk ob) (hx:den m x = some v) :
  ∃ r,den m z = some r ∧ ∀ w,(convert src dst v).run P w = .ok r w := by
 unfold evConv at h
 split at h
 ·rename_i b
  split at h
  ·rename_i d k hs hd
   simp only [Option.some.injEq,Prod.mk.injEq] at h
   obtain ⟨rfl,rfl⟩ := h
   have h1 := getD_of_isSome (d := 0) (obs1 ho)
   simp only [den,Option.some.injEq] at hx; subst hx
   refine ⟨.int k ((f2i k b).getD 0),by simp [den],fun w => ?_⟩
   have := f2i_run (P := P) (w := w) h1
   simp only [convert,Sem.run_bind,run_underlying hs,run_underlying hd,Result.andThen_ok]
   cases d <;> exact this
  ·cases h
 ·rename_i b
  split at h
  ·rename_i d k hs hd
   simp only [Option.some.injEq,Prod.mk.injEq] at h
   obtain ⟨rfl,rfl⟩ := h
   have h1 := getD_of_isSome (d := 0) (obs1 ho)
   simp only [den,Option.some.injEq] at hx; subst hx
   refine ⟨.int k ((f2i k b.b).getD 0),by simp [den],fun w => ?_⟩
   have := f2i_run (P := P) (w := w) h1
   simp only [convert,Sem.run_bind,run_underlying hs,run_underlying hd,Result.andThen_ok]
   cases d <;> exact this
  ·cases h
 ·rename_i k n
  split at h
  ·rename_i k' hs hd
   simp only [Option.some.injEq,Prod.mk.injEq] at h
   obtain ⟨rfl,rfl⟩ := h
   have h1 := obs1 ho
   simp only [den,Option.some.injEq] at hx; subst hx
   refine ⟨.float .f64 (FloatKind.f64.nearest n),by simp [den,toF_b h1],fun w => ?_⟩
   simp only [convert,Sem.run_bind,run_underlying hs,run_underlying hd,Result.andThen_ok]
   rfl
  ·cases h
 ·cases h
theorem cmpF_run {op:BinOp} {t:TypeId} {X Y:Operand} {a b:Bu.F} {c:Bool} (h:cmpF op a b = some c) (w:World) :
  (do eqGuard op t X Y (.float .f64 a.b) (.float .f64 b.b); binOp op t (.float .f64 a.b) (.float .f64 b.b):Sem Value).run P w = .ok (.bool c) w := by
 have e1 := Bu.order_lt a b
 have e2 := Bu.order_gt a b
 have e3 := Bu.order_eq a b
 have e4:FloatKind.f64.format = Ieee.double := rfl
 unfold cmpF at h
 split at h <;> first
  | cases h; done
  | skip
 all_goals (simp only [Option.some.injEq] at h; subst h)
 ·simp [eqGuard,binOp,Op.floatCmp,e4,e1]
 ·have:(Ieee.double.order a.b b.b == some .lt || Ieee.double.order a.b b.b == some .eq) = decide (a.k ≤ b.k) := by
   rw [e1,e3,Bool.eq_iff_iff]; simp; omega
  simp [eqGuard,binOp,Op.floatCmp,e4,this]
 ·simp [eqGuard,binOp,Op.floatCmp,e4,e2]
 ·have:(Ieee.double.order a.b b.b == some .gt || Ieee.double.order a.b b.b == some .eq) = decide (b.k ≤ a.k) := by
   rw [e2,e3,Bool.eq_iff_iff]; simp; omega
  simp [eqGuard,binOp,Op.floatCmp,e4,this]
 ·simp [eqGuard,binOp,Op.floatCmp,e4,e3]
 ·have:(Ieee.double.order a.b b.b != some .eq) = !decide (a.k = b.k) := by rw [bne,e3]
  simp [eqGuard,binOp,Op.floatCmp,e4,this]
theorem cmpW_run {op:BinOp} {t:TypeId} {X Y:Operand} {a b:Nat} {c:Bool} (h:cmpW op a b = some c) (w:World) :
  (do eqGuard op t X Y (.float .f64 a) (.float .f64 b); binOp op t (.float .f64 a) (.float .f64 b):Sem Value).run P w = .ok (.bool c) w := by
 have e4:FloatKind.f64.format = Ieee.double := rfl
 unfold cmpW at h
 split at h <;> first
  | cases h; done
  | skip
 all_goals (simp only [Option.some.injEq] at h; subst h; simp [eqGuard,binOp,Op.floatCmp,e4])
theorem evCmpF_ok {ρ:Operand → SV} {ds ds':Dec} {o:Oper} {x:SV} {ob:Obs} (h:evCmpF ρ ds o = some (x,ds',ob)) (ho:ObsOk ob)
  {ρv:Operand → Value} (hρ:∀ y ∈ o.op.operands,den m (ρ y) = some (ρv y)):PureOk P o m ρv x := by
 unfold evCmpF at h
 split at h
 ·rename_i op t y z yt hop
  have hy := hρ y (by rw [hop]; simp [Op.operands])
  have hz := hρ z (by rw [hop]; simp [Op.operands])
  split at h
  ·rename_i a b ha hb
   rw [ha] at hy; rw [hb] at hz
   simp only [den,Option.some.injEq] at hy hz
   split at h
   ·rename_i c hc
    simp only [Option.map_eq_some_iff,Prod.mk.injEq] at h
    obtain ⟨⟨d,e,o'⟩,h1,rfl,rfl,rfl⟩ := h
    refine ⟨.bool d,by simp [den],fun w => ?_⟩
    have := cmpF_run (P := P) (t := t) (X := y) (Y := z) hc w
    simp only [execOp,hop,← hy,← hz]
    rw [Sem.run_bind,this,takeB_ok h1 ho]; rfl
   ·cases h
  ·rename_i a b ha hb
   rw [ha] at hy; rw [hb] at hz
   simp only [den,Option.some.injEq] at hy hz
   split at h
   ·rename_i c hc
    simp only [Option.map_eq_some_iff,Prod.mk.injEq] at h
    obtain ⟨⟨d,e,o'⟩,h1,rfl,rfl,rfl⟩ := h
    refine ⟨.bool d,by simp [den],fun w => ?_⟩
    have := cmpW_run (P := P) (t := t) (X := y) (Y := z) hc w
    simp only [execOp,hop,← hy,← hz]
    rw [Sem.run_bind,this,takeB_ok h1 ho]; rfl
   ·cases h
  ·rename_i a b ha hb
   rw [ha] at hy; rw [hb] at hz
   simp only [den,Option.some.injEq] at hy hz
   split at h
   ·rename_i c hc
    simp only [Option.map_eq_some_iff,Prod.mk.injEq] at h
    obtain ⟨⟨d,e,o'⟩,h1,rfl,rfl,rfl⟩ := h
    refine ⟨.bool d,by simp [den],fun w => ?_⟩
    have := cmpW_run (P := P) (t := t) (X := y) (Y := z) hc w
    simp only [execOp,hop,← hy,← hz]
    rw [Sem.run_bind,this,takeB_ok h1 ho]; rfl
   ·cases h
  ·rename_i a b ha hb
   rw [ha] at hy; rw [hb] at hz
   simp only [den,Option.some.injEq] at hy hz
   split at h
   ·rename_i c hc
    simp only [Option.map_eq_some_iff,Prod.mk.injEq] at h
    obtain ⟨⟨d,e,o'⟩,h1,rfl,rfl,rfl⟩ := h
    refine ⟨.bool d,by simp [den],fun w => ?_⟩
    have := cmpW_run (P := P) (t := t) (X := y) (Y := z) hc w
    simp only [execOp,hop,← hy,← hz]
    rw [Sem.run_bind,this,takeB_ok h1 ho]; rfl
   ·cases h
  ·cases h
 ·cases h
theorem evUn_ok {op:UnOp} {x z:SV} {ob:Obs} {v:Value} (h:evUn op x = some (z,ob)) (ho:ObsOk ob) (hx:den m x = some v) :
  ∃ r,den m z = some r ∧ ∀ w,(Op.unary op v).run P w = .ok r w := by
 unfold evUn at h
 split at h
 ·rename_i y
  split at h
  ·simp only [Option.some.injEq,Prod.mk.injEq] at h
   obtain ⟨rfl,rfl⟩ := h
   have h1 := obs1 ho
   simp only [den,Option.some.injEq] at hx; subst hx
   refine ⟨.float .f64 y.neg.b,by simp [den],fun w => ?_⟩
   have h2 := Bu.negFloat_F y (by simpa using h1)
   simp [Op.unary,h2]
  ·cases h
 ·cases h
theorem mnF_run (a b:Bu.F) (w:World):(Builtin.min2 (.float .f64 a.b) (.float .f64 b.b)).run P w = .ok (.float .f64 (mnF a b).b) w := by
 have e4:FloatKind.f64.format = Ieee.double := rfl
 simp only [Builtin.min2,e4,Bu.order_F]
 rcases Int.lt_trichotomy a.k b.k with h | h | h
 ·have e:mnF a b = a := if_neg (by omega)
  rw [Int.compare_eq_lt.2 h,e]; rfl
 ·have e := Bu.F.ext' h; subst e
  have e:mnF a a = a := if_neg (by omega)
  rw [Int.compare_eq_eq.2 rfl,e]; simp
 ·have e:mnF a b = b := if_pos h
  rw [Int.compare_eq_gt.2 h,e]; rfl
theorem mxF_run (a b:Bu.F) (w:World):(Builtin.max2 (.float .f64 a.b) (.float .f64 b.b)).run P w = .ok (.float .f64 (mxF a b).b) w := by
 have e4:FloatKind.f64.format = Ieee.double := rfl
 simp only [Builtin.max2,e4,Bu.order_F]
 rcases Int.lt_trichotomy a.k b.k with h | h | h
 ·have e:mxF a b = b := if_pos h
  rw [Int.compare_eq_lt.2 h,e]; rfl
 ·have e := Bu.F.ext' h; subst e
  have e:mxF a a = a := if_neg (by omega)
  rw [Int.compare_eq_eq.2 rfl,e]; simp
 ·have e:mxF a b = a := if_neg (by omega)
  rw [Int.compare_eq_gt.2 h,e]; rfl
theorem sliceBound_ok {k:IntKind} {a:Int} {y:Nat} {code:BoundsCode} (h:0 ≤ a ∧ a ≤ y) (w:World):(Instr.sliceBound (.int k a) y code).run P w = .ok a.toNat w := by
 simp [Instr.sliceBound,asIntOf,h]
theorem bnd_ok {d a:Int} {x:Option SV} {xv:Option Value} (h:bnd d x = some a) (hx:∀ y,x = some y → ∃ u,xv = some u ∧ den m y = some u) (h0:x = none → xv = none) :
  (xv = none ∧ a = d) ∨ ∃ k,xv = some (.int k a) := by
 unfold bnd at h
 split at h
 ·simp only [Option.some.injEq] at h; exact .inl ⟨h0 rfl,h.symm⟩
 ·rename_i k b
  simp only [Option.some.injEq] at h; subst h
  obtain ⟨u,rfl,hu⟩ := hx _ rfl
  simp only [den,Option.some.injEq] at hu; subst hu
  exact .inr ⟨k,rfl⟩
 ·cases h
theorem evSlice_ok {t:TypeId} {x z:SV} {lo hi mx:Option SV} {v:Value} {lov hiv mxv:Option Value} (h:evSlice P t x lo hi mx = some z) (hx:den m x = some v)
  (hlo:∀ y,lo = some y → ∃ u,lov = some u ∧ den m y = some u) (hlo0:lo = none → lov = none)
  (hhi:∀ y,hi = some y → ∃ u,hiv = some u ∧ den m y = some u) (hhi0:hi = none → hiv = none) (hmx0:mx = none → mxv = none) :
  ∃ r,den m z = some r ∧ ∀ w,(Instr.sliceAt t v lov hiv mxv).run P w = .ok r w := by
 unfold evSlice at h
 split at h
 ·rename_i n off len cap elem hd
  have hm0 := hmx0 rfl
  subst hm0
  simp only [den,Option.map_eq_some_iff] at hx
  obtain ⟨r,hr,rfl⟩ := hx
  split at h
  ·rename_i l hh s hl hhh hs
   split at h
   ·rename_i hc
    obtain ⟨c1,c2,c3,c4⟩ := hc
    simp only [Option.some.injEq] at h; subst h
    refine ⟨.slice (some ⟨r,off + l.toNat * s,none⟩) (hh.toNat - l.toNat) (cap - l.toNat),by simp [den,hr],fun w => ?_⟩
    have hb:(Instr.sliceBounds true len cap lov hiv none).run P w = .ok (l.toNat,hh.toNat,cap) w := by
     rcases bnd_ok hl hlo hlo0 with ⟨rfl,rfl⟩ | ⟨k,rfl⟩ <;> rcases bnd_ok hhh hhi hhi0 with ⟨rfl,rfl⟩ | ⟨k',rfl⟩
     ·simp [Instr.sliceBounds]
     ·have e1 := sliceBound_ok (P := P) (k := k') (a := hh) (y := cap) (code := .sliceAcap) ⟨by omega,by omega⟩ w
      simp [Instr.sliceBounds,e1]
     ·have e2 := sliceBound_ok (P := P) (k := k) (a := l) (y := len) (code := .sliceB) ⟨by omega,by omega⟩ w
      simp [Instr.sliceBounds,e2]
     ·have e1 := sliceBound_ok (P := P) (k := k') (a := hh) (y := cap) (code := .sliceAcap) ⟨by omega,by omega⟩ w
      have e2 := sliceBound_ok (P := P) (k := k) (a := l) (y := hh.toNat) (code := .sliceB) ⟨by omega,by omega⟩ w
      simp [Instr.sliceBounds,e1,e2]
    have hne:¬ cap = l.toNat := fun e => c4 e.symm
    simp [Instr.sliceAt,run_underlying hd,Instr.slice,hb,run_sizeOf hs,hne,Addr_add]
   ·cases h
  ·cases h
 ·rename_i n off len elem hd
  have hm0 := hmx0 rfl
  subst hm0
  simp only [den,Option.map_eq_some_iff] at hx
  obtain ⟨r,hr,rfl⟩ := hx
  split at h
  ·rename_i s hs
   have e1 := hlo0 rfl
   have e2 := hhi0 rfl
   subst e1; subst e2
   simp only [Option.some.injEq] at h; subst h
   refine ⟨.slice (some ⟨r,off,none⟩) len len,by simp [den,hr],fun w => ?_⟩
   by_cases c:len = 0
   ·subst c
    simp [Instr.sliceAt,run_underlying hd,Instr.sureAddr,Instr.sliceBounds,run_sizeOf hs,Addr_add]
   ·simp [Instr.sliceAt,run_underlying hd,Instr.sureAddr,Instr.sliceBounds,run_sizeOf hs,Addr_add,c]
  ·cases h
 ·cases h
theorem bndS_ok {d a:Int} {x:Option SV} {xv:Option Value} (h:bndS d x = some a) (hx:∀ y,x = some y → ∃ u,xv = some u ∧ den m y = some u) (h0:x = none → xv = none) :
  (xv = none ∧ a = d) ∨ ∃ k,xv = some (.int k a) := by
 unfold bndS at h
 split at h
 ·simp only [Option.some.injEq] at h; exact .inl ⟨h0 rfl,h.symm⟩
 ·obtain ⟨u,rfl,hu⟩ := hx _ rfl
  obtain ⟨k,rfl⟩ := ixS_ok h hu
  exact .inr ⟨k,rfl⟩
theorem sliceBounds_ok {len cap:Nat} {l h:Int} {lov hiv:Option Value} (hl:(lov = none ∧ l = 0) ∨ ∃ k,lov = some (.int k l)) (hh:(hiv = none ∧ h = len) ∨ ∃ k,hiv = some (.int k h)) (c1:0 ≤ l) (c2:l ≤ h) (c3:h ≤ cap) (w:World) :
  (Instr.sliceBounds true len cap lov hiv none).run P w = .ok (l.toNat,h.toNat,cap) w := by
 rcases hl with ⟨rfl,rfl⟩ | ⟨k,rfl⟩ <;> rcases hh with ⟨rfl,rfl⟩ | ⟨k',rfl⟩
 ·simp [Instr.sliceBounds]
 ·have e1 := sliceBound_ok (P := P) (k := k') (a := h) (y := cap) (code := .sliceAcap) ⟨by omega,by omega⟩ w
  simp [Instr.sliceBounds,e1]
 ·have e2 := sliceBound_ok (P := P) (k := k) (a := l) (y := len) (code := .sliceB) ⟨by omega,by omega⟩ w
  simp [Instr.sliceBounds,e2]
 ·have e1 := sliceBound_ok (P := P) (k := k') (a := h) (y := cap) (code := .sliceAcap) ⟨by omega,by omega⟩ w
  have e2 := sliceBound_ok (P := P) (k := k) (a := l) (y := h.toNat) (code := .sliceB) ⟨by omega,by omega⟩ w
  simp [Instr.sliceBounds,e1,e2]
theorem sliceBounds3_ok {len cap:Nat} {l h mm:Int} {lov:Option Value} {k k':IntKind} (hl:(lov = none ∧ l = 0) ∨ ∃ k,lov = some (.int k l)) (c1:0 ≤ l) (c2:l ≤ h) (c3:h ≤ mm) (c4:mm ≤ cap) (w:World) :
  (Instr.sliceBounds true len cap lov (some (.int k h)) (some (.int k' mm))).run P w = .ok (l.toNat,h.toNat,mm.toNat) w := by
 have e0 := sliceBound_ok (P := P) (k := k') (a := mm) (y := cap) (code := .slice3Acap) ⟨by omega,by omega⟩ w
 have e1 := sliceBound_ok (P := P) (k := k) (a := h) (y := mm.toNat) (code := .slice3B) ⟨by omega,by omega⟩ w
 rcases hl with ⟨rfl,rfl⟩ | ⟨q,rfl⟩
 ·simp [Instr.sliceBounds,e0,e1]
 ·have e2 := sliceBound_ok (P := P) (k := q) (a := l) (y := h.toNat) (code := .slice3C) ⟨by omega,by omega⟩ w
  simp [Instr.sliceBounds,e0,e1,e2]
theorem slB_ok {l h cap:Int} (k:slB l h cap = true):0 ≤ l ∧ l ≤ h ∧ h ≤ cap ∧ (l ≠ cap ∨ l = 0) := by
 unfold slB at k
 simpa using k
theorem slice_run {t elem:TypeId} {s r off len cap l h mm:Nat} {lov hiv mxv:Option Value} (hd:P.underlying t = some (.slice elem)) (hs:sizeT P elem = some s) {w:World}
  (hb:(Instr.sliceBounds true len cap lov hiv mxv).run P w = .ok (l,h,mm) w) (hc:mm ≠ l ∨ l = 0) :
  (Instr.sliceAt t (.slice (some ⟨r,off,none⟩) len cap) lov hiv mxv).run P w = .ok (.slice (some ⟨r,off + l * s,none⟩) (h - l) (mm - l)) w := by
 by_cases e:mm = l
 ·have l0:l = 0 := hc.resolve_left (fun k => k e)
  subst l0
  simp [Instr.sliceAt,run_underlying hd,Instr.slice,hb,run_sizeOf hs,e]
 ·simp [Instr.sliceAt,run_underlying hd,Instr.slice,hb,run_sizeOf hs,e,Addr_add]
theorem slO_ok {lo:Option SV} {l h cap:Int} (k:slO lo l h cap = true):0 ≤ l ∧ l ≤ h ∧ h ≤ cap ∧ (lo = none → l ≠ cap ∨ l = 0) := by
 unfold slO at k
 split at k
 ·obtain ⟨a,b,c,d⟩ := slB_ok k
  exact ⟨a,b,c,fun _ => d⟩
 ·simp only [Bool.and_eq_true,decide_eq_true_eq] at k
  exact ⟨k.1,k.2.1,k.2.2,fun h => by cases h⟩
theorem slice_end {t elem:TypeId} {s r off len cap:Nat} {l h:Int} {lo:Option SV} {lov hiv:Option Value} (hd:P.underlying t = some (.slice elem)) (hs:sizeT P elem = some s) {w:World}
  (hb:(Instr.sliceBounds true len cap lov hiv none).run P w = .ok (l.toNat,h.toNat,cap) w) (h0:0 ≤ l) (hc:lo = none → l ≠ cap ∨ l = 0) :
  (Instr.sliceAt t (.slice (some ⟨r,off,none⟩) len cap) lov hiv none).run P w = .ok (.slice (some ⟨r,off + endT lo l cap * s,none⟩) (h.toNat - l.toNat) (cap - l.toNat)) w := by
 unfold endT
 split
 ·exact slice_run hd hs hb (by have := hc rfl; omega)
 ·by_cases e:l = cap
  ·rw [decide_eq_true e,cond_true]
   have e2:cap = l.toNat := by omega
   simp [Instr.sliceAt,run_underlying hd,Instr.slice,hb,run_sizeOf hs,← e2]
  ·rw [decide_eq_false e,cond_false]
   exact slice_run hd hs hb (by omega)
theorem evSliceS_ok {t:TypeId} {x z:SV} {ob:Obs} {lo hi mx:Option SV} {v:Value} {lov hiv mxv:Option Value} (h:evSliceS P t x lo hi mx = some (z,ob)) (ho:ObsOk ob) (hx:den m x = some v)
  (hlo:∀ y,lo = some y → ∃ u,lov = some u ∧ den m y = some u) (hlo0:lo = none → lov = none)
  (hhi:∀ y,hi = some y → ∃ u,hiv = some u ∧ den m y = some u) (hhi0:hi = none → hiv = none) (hmx:∀ y,mx = some y → ∃ u,mxv = some u ∧ den m y = some u) (hmx0:mx = none → mxv = none) :
  ∃ r,den m z = some r ∧ ∀ w,(Instr.sliceAt t v lov hiv mxv).run P w = .ok r w := by
 unfold evSliceS at h
 split at h
 ·rename_i elem hd
  split at h
  ·rename_i s hs
   split at h
   ·have hm0 := hmx0 rfl
    subst hm0
    split at h
    ·rename_i y n len
     simp only [den,Option.bind_eq_some_iff] at hx
     obtain ⟨r,hr,hx⟩ := hx
     obtain ⟨hle,rfl⟩ := oslV_some.1 hx
     split at h
     ·rename_i h' hh
      simp only [Option.some.injEq,Prod.mk.injEq] at h; obtain ⟨rfl,rfl⟩ := h
      obtain ⟨c1,c2,c3,c4⟩ := slB_ok (obs1 ho)
      have hb := fun w => sliceBounds_ok (P := P) (len := len) (cap := m.c r) (l := 0) (h := h') (lov := lov) (hiv := hiv) (.inl ⟨hlo0 rfl,rfl⟩) (bndS_ok hh hhi hhi0) c1 c2 (by omega) w
      refine ⟨.slice (some ⟨r,0,none⟩) h'.toNat (m.c r),by simp only [den,hr,Option.bind_some]; exact oslV_some.2 ⟨by omega,rfl⟩,fun w => ?_⟩
      have := slice_run (P := P) (r := r) (off := 0) (l := 0) (h := h'.toNat) (mm := m.c r) hd hs (hb w) (.inr rfl)
      simpa using this
     ·cases h
    ·rename_i n off len cap
     simp only [den,Option.map_eq_some_iff] at hx
     obtain ⟨r,hr,rfl⟩ := hx
     split at h
     ·rename_i l h' hl hh
      simp only [Option.some.injEq,Prod.mk.injEq] at h; obtain ⟨rfl,rfl⟩ := h
      obtain ⟨c1,c2,c3,c4⟩ := slO_ok (obs1 ho)
      have hb := fun w => sliceBounds_ok (P := P) (len := len) (cap := cap) (l := l) (h := h') (lov := lov) (hiv := hiv) (bndS_ok hl hlo hlo0) (bndS_ok hh hhi hhi0) c1 c2 c3 w
      exact ⟨.slice (some ⟨r,_,none⟩) _ _,by simp only [den,hr,Option.map_some],fun w => slice_end hd hs (hb w) c1 c4⟩
     ·cases h
    ·rename_i n off len cap
     simp only [den,Option.map_eq_some_iff] at hx
     obtain ⟨r,hr,rfl⟩ := hx
     split at h
     ·rename_i l h' hl hh
      simp only [Option.some.injEq,Prod.mk.injEq] at h; obtain ⟨rfl,rfl⟩ := h
      obtain ⟨c1,c2,c3,c4⟩ := slO_ok (obs1 ho)
      have hb := fun w => sliceBounds_ok (P := P) (len := len) (cap := cap) (l := l) (h := h') (lov := lov) (hiv := hiv) (bndS_ok hl hlo hlo0) (bndS_ok hh hhi hhi0) c1 c2 c3 w
      exact ⟨.slice (some ⟨r,_,none⟩) _ _,by simp only [den,hr,Option.map_some],fun w => slice_end hd hs (hb w) c1 c4⟩
     ·cases h
    ·cases h
   ·rename_i km mm
    obtain ⟨um,rfl,hum⟩ := hmx _ rfl
    simp only [den,Option.some.injEq] at hum; subst hum
    split at h
    ·rename_i n off len cap
     simp only [den,Option.map_eq_some_iff] at hx
     obtain ⟨r,hr,rfl⟩ := hx
     split at h
     ·rename_i l kh h' hl
      obtain ⟨uh,rfl,huh⟩ := hhi _ rfl
      simp only [den,Option.some.injEq] at huh; subst huh
      split at h
      ·rename_i hc
       obtain ⟨c1,c2,c3,c4,c5⟩ := hc
       simp only [Option.some.injEq,Prod.mk.injEq] at h; obtain ⟨rfl,rfl⟩ := h
       have hb := fun w => sliceBounds3_ok (P := P) (len := len) (cap := cap) (k := kh) (k' := km) (l := l) (h := h') (mm := mm) (lov := lov) (bnd_ok hl hlo hlo0) c1 c2 c3 c4 w
       exact ⟨.slice (some ⟨r,_,none⟩) _ _,by simp only [den,hr,Option.map_some],fun w => slice_run hd hs (hb w) (by omega)⟩
      ·cases h
     ·cases h
    ·cases h
   ·cases h
  ·cases h
 ·cases h
theorem opt_ok {ρ:Operand → SV} {ρv:Operand → Value} {q:Option Operand} (h:∀ y,q = some y → den m (ρ y) = some (ρv y)) :
  (∀ y,q.map ρ = some y → ∃ u,q.map ρv = some u ∧ den m y = some u) ∧ (q.map ρ = none → q.map ρv = none) := by
 cases q with
 | none => exact ⟨by simp,by simp⟩
 | some y => exact ⟨by simpa using h y rfl,by simp⟩
theorem mmF_ok {mx:Bool} {a b r:Nat} (h:mmF mx a b = some r) (w:World):(if mx then Builtin.max2 (.float .f64 a) (.float .f64 b) else Builtin.min2 (.float .f64 a) (.float .f64 b)).run P w = .ok (.float .f64 r) w := by
 unfold mmF at h
 split at h
 ·cases h
 all_goals
  rename_i ho
  simp only [Option.some.injEq] at h
  subst h
  cases mx <;> simp [Builtin.max2,Builtin.min2,FloatKind.format,ho]
theorem list2 {α β:Type} {f:α → β} {l:List α} {a b:β} (h:l.map f = [a,b]):∃ x y,l = [x,y] ∧ f x = a ∧ f y = b := by
 match l,h with
 | [x,y],h => simp at h; exact ⟨x,y,rfl,h.1,h.2⟩
theorem list3 {α β:Type} {f:α → β} {l:List α} {a b c:β} (h:l.map f = [a,b,c]):∃ x y z,l = [x,y,z] ∧ f x = a ∧ f y = b ∧ f z = c := by
 match l,h with
 | [x,y,z],h => simp at h; exact ⟨x,y,z,rfl,h.1,h.2.1,h.2.2⟩
theorem list1 {α β:Type} {f:α → β} {l:List α} {a:β} (h:l.map f = [a]):∃ x,l = [x] ∧ f x = a := by
 match l,h with
 | [x],h => simp at h; exact ⟨x,rfl,h⟩
theorem evBuiltin_ok {c:Call} {ρ:Operand → SV} {ρv:Operand → Value} {t:TypeId} {z:SV} {ob:Obs} (h:evBuiltin P c ρ = some (z,ob)) (ho:ObsOk ob) (hρ:∀ y ∈ c.operands,den m (ρ y) = some (ρv y)) :
  ∃ r,den m z = some r ∧ ∀ w,(do let d ← resolve ρv c t; invoke d.target d.args:Sem Next).run P w = .ok (.value r) w := by
 unfold evBuiltin at h
 have hargs:∀ y ∈ c.args.toList,den m (ρ y) = some (ρv y) := fun y hy => hρ y (by
  simp only [Call.operands,Array.mem_append]; right; simpa using hy)
 split at h
 ·rename_i hc
  split at h
  ·rename_i a b hl
   simp only [Option.some.injEq,Prod.mk.injEq] at h
   obtain ⟨rfl,rfl⟩ := h
   have h1 := getD_of_isSome (d := 0) (obs1 ho)
   refine ⟨.float .f64 ((mmF false a b).getD 0),by simp [den],fun w => ?_⟩
   generalize (mmF false a b).getD 0 = r at h1
   obtain ⟨x,y,hxy,ha,hb⟩ := list2 hl
   have d1 := hargs x (by simp [hxy]); have d2 := hargs y (by simp [hxy])
   rw [ha] at d1; rw [hb] at d2
   simp only [den,Option.some.injEq] at d1 d2
   have hm := mmF_ok (P := P) h1
   simp only [Bool.false_eq_true,if_false] at hm
   have hca:c.args = #[x,y] := Array.ext' (by simpa using hxy)
   simp [resolve,hc,hca,invoke,builtin,Builtin.min_,← d1,← d2,hm]
  ·rename_i a b hl
   simp only [Option.some.injEq,Prod.mk.injEq] at h
   obtain ⟨rfl,rfl⟩ := h
   refine ⟨.float .f64 (mnF a b).b,by simp [den],fun w => ?_⟩
   obtain ⟨x,y,hxy,ha,hb⟩ := list2 hl
   have d1 := hargs x (by simp [hxy]); have d2 := hargs y (by simp [hxy])
   rw [ha] at d1; rw [hb] at d2
   simp only [den,Option.some.injEq] at d1 d2
   have hca:c.args = #[x,y] := Array.ext' (by simpa using hxy)
   simp [resolve,hc,hca,invoke,builtin,Builtin.min_,← d1,← d2,mnF_run]
  ·rename_i k a k' b hl
   simp only [Option.some.injEq,Prod.mk.injEq] at h
   obtain ⟨rfl,rfl⟩ := h
   refine ⟨.int k (mnI a b),by simp [den],fun w => ?_⟩
   obtain ⟨x,y,hxy,ha,hb⟩ := list2 hl
   have d1 := hargs x (by simp [hxy]); have d2 := hargs y (by simp [hxy])
   rw [ha] at d1; rw [hb] at d2
   simp only [den,Option.some.injEq] at d1 d2
   have hca:c.args = #[x,y] := Array.ext' (by simpa using hxy)
   simp [resolve,hc,hca,invoke,builtin,Builtin.min_,Builtin.min2,mnI,← d1,← d2]
  ·rename_i k a k' b hl
   simp only [Option.some.injEq,Prod.mk.injEq] at h
   obtain ⟨rfl,rfl⟩ := h
   refine ⟨.int k (mnI a b),by simp [den],fun w => ?_⟩
   obtain ⟨x,y,hxy,ha,hb⟩ := list2 hl
   have d1 := hargs x (by simp [hxy]); have d2 := hargs y (by simp [hxy])
   rw [ha] at d1; rw [hb] at d2
   simp only [den,Option.some.injEq] at d1 d2
   have hca:c.args = #[x,y] := Array.ext' (by simpa using hxy)
   simp [resolve,hc,hca,invoke,builtin,Builtin.min_,Builtin.min2,mnI,← d1,← d2]
  ·cases h
 ·rename_i hc
  split at h
  ·rename_i a b hl
   simp only [Option.some.injEq,Prod.mk.injEq] at h
   obtain ⟨rfl,rfl⟩ := h
   have h1 := getD_of_isSome (d := 0) (obs1 ho)
   refine ⟨.float .f64 ((mmF true a b).getD 0),by simp [den],fun w => ?_⟩
   generalize (mmF true a b).getD 0 = r at h1
   obtain ⟨x,y,hxy,ha,hb⟩ := list2 hl
   have d1 := hargs x (by simp [hxy]); have d2 := hargs y (by simp [hxy])
   rw [ha] at d1; rw [hb] at d2
   simp only [den,Option.some.injEq] at d1 d2
   have hm := mmF_ok (P := P) h1
   simp only [if_true] at hm
   have hca:c.args = #[x,y] := Array.ext' (by simpa using hxy)
   simp [resolve,hc,hca,invoke,builtin,Builtin.max_,← d1,← d2,hm]
  ·rename_i a b hl
   simp only [Option.some.injEq,Prod.mk.injEq] at h
   obtain ⟨rfl,rfl⟩ := h
   refine ⟨.float .f64 (mxF a b).b,by simp [den],fun w => ?_⟩
   obtain ⟨x,y,hxy,ha,hb⟩ := list2 hl
   have d1 := hargs x (by simp [hxy]); have d2 := hargs y (by simp [hxy])
   rw [ha] at d1; rw [hb] at d2
   simp only [den,Option.some.injEq] at d1 d2
   have hca:c.args = #[x,y] := Array.ext' (by simpa using hxy)
   simp [resolve,hc,hca,invoke,builtin,Builtin.max_,← d1,← d2,mxF_run]
  ·rename_i a b cc hl
   simp only [Option.some.injEq,Prod.mk.injEq] at h
   obtain ⟨rfl,rfl⟩ := h
   refine ⟨.float .f64 (mxF (mxF a b) cc).b,by simp [den],fun w => ?_⟩
   obtain ⟨x,y,z',hxy,ha,hb,hc3⟩ := list3 hl
   have d1 := hargs x (by simp [hxy]); have d2 := hargs y (by simp [hxy]); have d3 := hargs z' (by simp [hxy])
   rw [ha] at d1; rw [hb] at d2; rw [hc3] at d3
   simp only [den,Option.some.injEq] at d1 d2 d3
   have hca:c.args = #[x,y,z'] := Array.ext' (by simpa using hxy)
   simp [resolve,hc,hca,invoke,builtin,Builtin.max_,← d1,← d2,← d3,mxF_run]
  ·cases h
 ·rename_i hc
  split at h
  ·rename_i x ty hl hty
   obtain ⟨y,hxy,ha⟩ := list1 hl
   have d1 := hargs y (by simp [hxy])
   rw [ha] at d1
   have hca:c.args = #[y] := Array.ext' (by simpa using hxy)
   split at h
   ·rename_i e n off len cap hd
    simp only [Option.some.injEq,Prod.mk.injEq] at h
    obtain ⟨rfl,rfl⟩ := h
    simp only [den,Option.map_eq_some_iff] at d1
    obtain ⟨r,hr,d1⟩ := d1
    refine ⟨.int .i64 len,by simp [den],fun w => ?_⟩
    simp [resolve,hc,hca,invoke,builtin,Builtin.len_,← d1,hty,run_underlying hd,goInt]
   ·rename_i e n off len cap hd
    simp only [Option.some.injEq,Prod.mk.injEq] at h
    obtain ⟨rfl,rfl⟩ := h
    simp only [den,Option.map_eq_some_iff] at d1
    obtain ⟨r,hr,d1⟩ := d1
    refine ⟨.int .i64 len,by simp [den],fun w => ?_⟩
    simp [resolve,hc,hca,invoke,builtin,Builtin.len_,← d1,hty,run_underlying hd,goInt]
   ·rename_i e y n len hd
    simp only [Option.some.injEq,Prod.mk.injEq] at h
    obtain ⟨rfl,rfl⟩ := h
    simp only [den,Option.bind_eq_some_iff] at d1
    obtain ⟨r,hr,d1⟩ := d1
    obtain ⟨_,d1⟩ := oslV_some.1 d1
    refine ⟨.int .i64 len,by cases y <;> simp [den],fun w => ?_⟩
    simp [resolve,hc,hca,invoke,builtin,Builtin.len_,d1,hty,run_underlying hd,goInt]
   ·rename_i n e hd
    simp only [Option.some.injEq,Prod.mk.injEq] at h
    obtain ⟨rfl,rfl⟩ := h
    refine ⟨.int .i64 n,by simp [den],fun w => ?_⟩
    simp [resolve,hc,hca,invoke,builtin,Builtin.len_,hty,run_underlying hd,goInt]
   ·cases h
  ·cases h
 ·cases h
theorem evSpecial_ok {ρ:Operand → SV} {o:Oper} {x:SV} {ob:Obs} (h:evSpecial P ρ o = some (x,ob)) (ho:ObsOk ob)
  {ρv:Operand → Value} (hρ:∀ y ∈ o.op.operands,den m (ρ y) = some (ρv y)):PureOk P o m ρv x := by
 unfold evSpecial at h
 split at h
 ·rename_i x hop
  simp only [Option.some.injEq,Prod.mk.injEq] at h; obtain ⟨rfl,_⟩ := h
  exact ⟨_,hρ x (by rw [hop]; simp [Op.operands]),fun w => by simp [execOp,hop]⟩
 ·rename_i x hop
  simp only [Option.some.injEq,Prod.mk.injEq] at h; obtain ⟨rfl,_⟩ := h
  exact ⟨_,hρ x (by rw [hop]; simp [Op.operands]),fun w => by simp [execOp,hop]⟩
 ·rename_i c a b hop
  have hc := hρ c (by rw [hop]; simp [Op.operands])
  split at h
  ·rename_i hb
   rw [hb] at hc
   simp only [den,Option.some.injEq] at hc
   simp only [Option.some.injEq,Prod.mk.injEq] at h; obtain ⟨rfl,_⟩ := h
   exact ⟨_,hρ a (by rw [hop]; simp [Op.operands]),fun w => by simp [execOp,hop,← hc,asBool]⟩
  ·rename_i hb
   rw [hb] at hc
   simp only [den,Option.some.injEq] at hc
   simp only [Option.some.injEq,Prod.mk.injEq] at h; obtain ⟨rfl,_⟩ := h
   exact ⟨_,hρ b (by rw [hop]; simp [Op.operands]),fun w => by simp [execOp,hop,← hc,asBool]⟩
  ·cases h
 ·rename_i fn first cap hop
  simp only [Option.some.injEq,Prod.mk.injEq] at h; obtain ⟨rfl,_⟩ := h
  have h1 := args_ok (m := m) (ρ := ρ) (ρv := ρv) first.toList fun q hq => hρ q (by rw [hop]; simp only [Op.operands,Array.mem_append]; left; simpa using hq)
  have h2 := args_ok (m := m) (ρ := ρ) (ρv := ρv) cap.toList fun q hq => hρ q (by rw [hop]; simp only [Op.operands,Array.mem_append]; right; simpa using hq)
  refine ⟨.func fn (first.map ρv) (cap.map ρv),?_,fun w => by simp [execOp,hop,Instr.makeFunc]⟩
  simp [den,h1,h2]
  constructor <;> (apply Array.ext'; simp)
 ·rename_i t parts hop
  simp only [Option.map_eq_some_iff,Prod.mk.injEq] at h
  obtain ⟨y,hy,rfl,_⟩ := h
  have h1 := pairs_ok (m := m) (ρ := ρ) (ρv := ρv) parts.toList fun q hq => hρ q.2 (by
   rw [hop]; simp only [Op.operands,List.mem_toArray,List.mem_map]; exact ⟨q,hq,rfl⟩)
  have hb := fun w => evBuild_ok (P := P) (m := m) (w := w) (vparts := parts.toList.map fun q => (q.1,ρv q.2)) hy (by simp) h1
  obtain ⟨u,hu,_⟩ := hb default
  refine ⟨u,hu,fun w => ?_⟩
  obtain ⟨u',hu',hr⟩ := hb w
  rw [hu] at hu'; simp only [Option.some.injEq] at hu'; subst hu'
  have e:(parts.toList.map fun q => (q.1,ρv q.2)).toArray = parts.map fun (i,x) => (i,ρv x) := by apply Array.ext'; simp
  rw [e] at hr
  simp only [execOp,hop,Sem.run_bind,hr]; rfl
 ·rename_i s y f hop
  simp only [Option.map_eq_some_iff,Prod.mk.injEq] at h
  obtain ⟨z,hz,rfl,_⟩ := h
  have hb := fun w => evFieldAddr_ok (P := P) (w := w) hz (hρ y (by rw [hop]; simp [Op.operands]))
  obtain ⟨u,hu,_⟩ := hb default
  refine ⟨u,hu,fun w => ?_⟩
  obtain ⟨u',hu',hr⟩ := hb w
  rw [hu] at hu'; simp only [Option.some.injEq] at hu'; subst hu'
  simp only [execOp,hop,Sem.run_bind,hr]; rfl
 ·rename_i s y f hop
  simp only [Option.map_eq_some_iff,Prod.mk.injEq] at h
  obtain ⟨z,hz,rfl,_⟩ := h
  have hb := fun w => evField_ok (P := P) (w := w) hz (hρ y (by rw [hop]; simp [Op.operands]))
  obtain ⟨u,hu,_⟩ := hb default
  refine ⟨u,hu,fun w => ?_⟩
  obtain ⟨u',hu',hr⟩ := hb w
  rw [hu] at hu'; simp only [Option.some.injEq] at hu'; subst hu'
  simp only [execOp,hop,Sem.run_bind,hr]; rfl
 ·rename_i t y ix hop
  split at h
  ·rename_i z hz
   simp only [Option.some.injEq,Prod.mk.injEq] at h
   obtain ⟨rfl,_⟩ := h
   have hb := fun w => evIndexAddr_ok (P := P) (w := w) hz (hρ y (by rw [hop]; simp [Op.operands])) (hρ ix (by rw [hop]; simp [Op.operands]))
   obtain ⟨u,hu,_⟩ := hb default
   refine ⟨u,hu,fun w => ?_⟩
   obtain ⟨u',hu',hr⟩ := hb w
   rw [hu] at hu'; simp only [Option.some.injEq] at hu'; subst hu'
   simp only [execOp,hop,Sem.run_bind,hr]; rfl
  ·obtain ⟨u,hu,hr⟩ := evIndexAddrS_ok h ho (hρ y (by rw [hop]; simp [Op.operands])) (hρ ix (by rw [hop]; simp [Op.operands]))
   refine ⟨u,hu,fun w => ?_⟩
   simp only [execOp,hop,Sem.run_bind,hr w]; rfl
 ·rename_i t y ix hop
  simp only [Option.map_eq_some_iff,Prod.mk.injEq] at h
  obtain ⟨z,hz,rfl,_⟩ := h
  have hb := fun w => evIndex_ok (P := P) (w := w) hz (hρ y (by rw [hop]; simp [Op.operands])) (hρ ix (by rw [hop]; simp [Op.operands]))
  obtain ⟨u,hu,_⟩ := hb default
  refine ⟨u,hu,fun w => ?_⟩
  obtain ⟨u',hu',hr⟩ := hb w
  rw [hu] at hu'; simp only [Option.some.injEq] at hu'; subst hu'
  simp only [execOp,hop,Sem.run_bind,hr]; rfl
 ·rename_i y i hop
  have hy := hρ y (by rw [hop]; simp [Op.operands])
  split at h
  ·rename_i l hl
   simp only [Option.map_eq_some_iff,Prod.mk.injEq] at h
   obtain ⟨z,hz,rfl,_⟩ := h
   rw [hl] at hy
   simp only [den,Option.map_eq_some_iff] at hy
   obtain ⟨vs,hvs,he⟩ := hy
   obtain ⟨v,hv,hd⟩ := dens_get hvs hz
   exact ⟨v,hd,fun w => by simp [execOp,hop,← he,Instr.extract,hv]⟩
  ·cases h
 ·rename_i y hop
  have hy := hρ y (by rw [hop]; simp [Op.operands])
  split at h
  ·rename_i n off hl
   simp only [Option.some.injEq,Prod.mk.injEq] at h; obtain ⟨rfl,_⟩ := h
   rw [hl] at hy
   refine ⟨_,hy,fun w => ?_⟩
   simp only [den,Option.map_eq_some_iff] at hy
   obtain ⟨r,hr,he⟩ := hy
   simp [execOp,hop,← he]
  ·rename_i n off hl
   simp only [Option.some.injEq,Prod.mk.injEq] at h; obtain ⟨rfl,_⟩ := h
   rw [hl] at hy
   refine ⟨_,hy,fun w => ?_⟩
   simp only [den,Option.map_eq_some_iff] at hy
   obtain ⟨r,hr,he⟩ := hy
   simp [execOp,hop,← he]
  ·rename_i g a b hl
   simp only [Option.some.injEq,Prod.mk.injEq] at h; obtain ⟨rfl,_⟩ := h
   rw [hl] at hy
   refine ⟨_,hy,fun w => ?_⟩
   simp only [den,Option.map_eq_some_iff,Option.bind_eq_some_iff] at hy
   obtain ⟨r,hr,r2,hr2,he⟩ := hy
   simp [execOp,hop,← he]
  ·cases h
 ·rename_i op t y z yt hop
  obtain ⟨r,hr,hrun⟩ := evBin_ok (X := y) (Y := z) h ho (hρ y (by rw [hop]; simp [Op.operands])) (hρ z (by rw [hop]; simp [Op.operands]))
  refine ⟨r,hr,fun w => ?_⟩
  have := hrun w
  simp only [execOp,hop]
  rw [Sem.run_bind,this]; rfl
 ·rename_i op t y hop
  obtain ⟨r,hr,hrun⟩ := evUn_ok (P := P) h ho (hρ y (by rw [hop]; simp [Op.operands]))
  refine ⟨r,hr,fun w => ?_⟩
  simp only [execOp,hop,Sem.run_bind,hrun w]; rfl
 ·rename_i src dst y hop
  obtain ⟨r,hr,hrun⟩ := evConv_ok h ho (hρ y (by rw [hop]; simp [Op.operands]))
  refine ⟨r,hr,fun w => ?_⟩
  simp only [execOp,hop,Sem.run_bind,hrun w]; rfl
 ·rename_i t y lo hi mx hop
  have m1:∀ q,lo = some q → den m (ρ q) = some (ρv q) := fun q hq => hρ q (by rw [hop]; subst hq; simp [Op.operands])
  have m2:∀ q,hi = some q → den m (ρ q) = some (ρv q) := fun q hq => hρ q (by rw [hop]; subst hq; simp [Op.operands])
  have m3:∀ q,mx = some q → den m (ρ q) = some (ρv q) := fun q hq => hρ q (by rw [hop]; subst hq; simp [Op.operands])
  split at h
  ·rename_i z hz
   simp only [Option.some.injEq,Prod.mk.injEq] at h
   obtain ⟨rfl,_⟩ := h
   obtain ⟨r,hr,hrun⟩ := evSlice_ok hz (hρ y (by rw [hop]; simp [Op.operands])) (opt_ok m1).1 (opt_ok m1).2 (opt_ok m2).1 (opt_ok m2).2 (opt_ok m3).2
   refine ⟨r,hr,fun w => ?_⟩
   simp only [execOp,hop,Sem.run_bind,hrun w]; rfl
  ·obtain ⟨r,hr,hrun⟩ := evSliceS_ok h ho (hρ y (by rw [hop]; simp [Op.operands])) (opt_ok m1).1 (opt_ok m1).2 (opt_ok m2).1 (opt_ok m2).2 (opt_ok m3).1 (opt_ok m3).2
   refine ⟨r,hr,fun w => ?_⟩
   simp only [execOp,hop,Sem.run_bind,hrun w]; rfl
 ·rename_i c hop
  obtain ⟨r,hr,hrun⟩ := evBuiltin_ok (t := o.type) h ho (ρv := ρv) fun y hy => hρ y (by rw [hop]; exact hy)
  refine ⟨r,hr,fun w => ?_⟩
  simp only [execOp,hop]
  exact hrun w
 ·cases h
theorem eqFS_ok {rec:TypeId → SV → SV → Option Bool} {D:Nat} (hr:∀ t x y c vx vy,rec t x y = some c → den m x = some vx → den m y = some vy → (Op.equalIn D t vx vy).run P w = .ok c w)
  {xs ys:List SV} {vx vy:List Value} (hx:dens m xs = some vx) (hy:dens m ys = some vy):∀ {fs:List Field} {c:Bool},eqFS P rec xs ys fs = some c → (Op.eqFields D vx.toArray vy.toArray fs).run P w = .ok c w
 | [],c,h => by simp only [eqFS,Option.some.injEq] at h; subst h; simp [Op.eqFields]
 | f :: fs, c, h => by
   unfold eqFS at h
   unfold Op.eqFields
   split at h
   ·rename_i hn
    rw [if_pos hn]
    split at h
    ·rename_i a b ha hb
     split at h
     ·rename_i c1 c2 h1 h2
      simp only [Option.some.injEq] at h; subst h
      obtain ⟨u,hu,hu2⟩ := partS_ok ha hx w
      obtain ⟨v,hv,hv2⟩ := partS_ok hb hy w
      have h3 := hr f.type a b c1 u v h1 hu hv
      have h4 := eqFS_ok hr hx hy h2
      simp only [Sem.run_bind,hu2,hv2,h3,Result.andThen_ok]
      cases c1
      ·simp
      ·simp [h4]
     ·cases h
    ·cases h
   ·rename_i hn
    rw [if_neg hn]
    exact eqFS_ok hr hx hy h
theorem eqIS_ok {rec:TypeId → SV → SV → Option Bool} {D:Nat} (hr:∀ t x y c vx vy,rec t x y = some c → den m x = some vx → den m y = some vy → (Op.equalIn D t vx vy).run P w = .ok c w)
  {e:TypeId} {xs ys:List SV} {vx vy:List Value} (hx:dens m xs = some vx) (hy:dens m ys = some vy):∀ {is:List Nat} {c:Bool},eqIS P rec e xs ys is = some c → (Op.eqItems D e (P.cellsOf e) vx.toArray vy.toArray is).run P w = .ok c w
 | [],c,h => by simp only [eqIS,Option.some.injEq] at h; subst h; simp [Op.eqItems]
 | i :: is, c, h => by
   unfold eqIS at h
   unfold Op.eqItems
   split at h
   ·rename_i a b ha hb
    split at h
    ·rename_i c1 c2 h1 h2
     simp only [Option.some.injEq] at h; subst h
     obtain ⟨u,hu,hu2⟩ := partS_ok ha hx w
     obtain ⟨v,hv,hv2⟩ := partS_ok hb hy w
     have h3 := hr e a b c1 u v h1 hu hv
     have h4 := eqIS_ok hr hx hy h2
     simp only [Sem.run_bind,hu2,hv2,h3,Result.andThen_ok]
     cases c1
     ·simp
     ·simp [h4]
    ·cases h
   ·cases h
theorem eqLeaf_ok {t:TypeId} {td:TypeDesc} (hu:P.underlying t = some td) {x y:SV} {c:Bool} {vx vy:Value} (h:eqLeaf td x y = some c) (hx:den m x = some vx) (hy:den m y = some vy) (D:Nat):(Op.equalIn (D + 1) t vx vy).run P w = .ok c w := by
 unfold eqLeaf at h
 split at h
 ·split at h <;> first | cases h; done | skip
  all_goals
   split at h
   ·rename_i hk
    subst hk
    simp only [Option.some.injEq] at h; subst h
    simp only [den,Option.some.injEq] at hx hy; subst hx; subst hy
    exact run_equalIn_int w D t _ _ _ _ hu
   ·cases h
 ·split at h
  ·rename_i a b
   simp only [Option.some.injEq] at h; subst h
   simp only [den,Option.some.injEq] at hx hy; subst hx; subst hy
   have e3 := Bu.order_eq a b
   have e4:FloatKind.f64.format = Ieee.double := rfl
   simp [Op.equalIn,run_underlying hu,Op.floatEq,e4,e3]
  ·rename_i a b
   simp only [Option.some.injEq] at h; subst h
   simp only [den,Option.some.injEq] at hx hy; subst hx; subst hy
   have e4:FloatKind.f64.format = Ieee.double := rfl
   simp [Op.equalIn,run_underlying hu,Op.floatEq,e4]
  ·rename_i a b
   simp only [Option.some.injEq] at h; subst h
   simp only [den,Option.some.injEq] at hx hy; subst hx; subst hy
   have e4:FloatKind.f64.format = Ieee.double := rfl
   simp [Op.equalIn,run_underlying hu,Op.floatEq,e4]
  ·rename_i a b
   simp only [Option.some.injEq] at h; subst h
   simp only [den,Option.some.injEq] at hx hy; subst hx; subst hy
   have e4:FloatKind.f64.format = Ieee.double := rfl
   simp [Op.equalIn,run_underlying hu,Op.floatEq,e4]
  ·cases h
 ·split at h
  ·simp only [Option.some.injEq] at h; subst h
   simp only [den,Option.some.injEq] at hx hy; subst hx; subst hy
   simp [Op.equalIn,run_underlying hu]
  ·cases h
 ·cases h
theorem eqT_ok:∀ (d:Nat) {t:TypeId} {x y:SV} {c:Bool} {vx vy:Value},eqT P d t x y = some c → den m x = some vx → den m y = some vy → ∀ k,(Op.equalIn (d + k) t vx vy).run P w = .ok c w
 | 0,t,x,y,c,vx,vy,h,_,_,_ => by cases h
 | d + 1, t, x, y, c, vx, vy, h, hx, hy, k => by
   rw [show d + 1 + k = (d + k) + 1 from by omega]
   unfold eqT at h
   split at h
   ·rename_i fs hu
    split at h
    ·rename_i xs ys
     split at h
     ·rename_i hs
      simp only [den,Option.map_eq_some_iff] at hx hy
      obtain ⟨ux,hx,rfl⟩ := hx
      obtain ⟨uy,hy,rfl⟩ := hy
      have hf:P.fieldsOf t = fs := by unfold Program.fieldsOf; rw [hu]
      rw [run_equalIn_struct w (d + k) t _ _ (by rw [hf]; exact hu) hs,hf]
      exact eqFS_ok (fun t x y c vx vy h1 h2 h3 => eqT_ok d h1 h2 h3 k) hx hy h
     ·cases h
    ·cases h
   ·rename_i n e hu
    split at h
    ·rename_i xs ys
     split at h
     ·rename_i hs
      simp only [den,Option.map_eq_some_iff] at hx hy
      obtain ⟨ux,hx,rfl⟩ := hx
      obtain ⟨uy,hy,rfl⟩ := hy
      obtain ⟨i,hi⟩ := Option.isSome_iff_exists.1 hs
      rw [run_equalIn_array w (d + k) _ _ hu hi]
      exact eqIS_ok (fun t x y c vx vy h1 h2 h3 => eqT_ok d h1 h2 h3 k) hx hy h
     ·cases h
    ·cases h
   ·rename_i td _ _ hu
    exact eqLeaf_ok hu h hx hy (d + k)
   ·cases h
theorem evCmpA_ok {ρ:Operand → SV} {ds ds':Dec} {o:Oper} {x:SV} {ob:Obs} (h:evCmpA P ρ ds o = some (x,ds',ob)) (ho:ObsOk ob)
  {ρv:Operand → Value} (hρ:∀ y ∈ o.op.operands,den m (ρ y) = some (ρv y)):PureOk P o m ρv x := by
 unfold evCmpA at h
 split at h
 ·rename_i op t y z yt hop
  have hy := hρ y (by rw [hop]; simp [Op.operands])
  have hz := hρ z (by rw [hop]; simp [Op.operands])
  split at h
  ·rename_i xs ys ha hb
   rw [ha] at hy; rw [hb] at hz
   split at h
   ·rename_i hg
    simp only [Bool.and_eq_true,Bool.not_eq_true'] at hg
    split at h
    ·rename_i c hc
     have hrun:∀ w,(Op.equalIn 10000 t (ρv y) (ρv z)).run P w = .ok c w := fun w => eqT_ok (w := w) 8 hc hy hz 9992
     simp only [den,Option.map_eq_some_iff] at hy hz
     obtain ⟨ux,hx1,hx2⟩ := hy
     obtain ⟨uy,hy1,hy2⟩ := hz
     rw [← hx2,← hy2] at hrun
     split at h
     ·simp only [Option.map_eq_some_iff,Prod.mk.injEq] at h
      obtain ⟨⟨d,e,o'⟩,h1,rfl,rfl,rfl⟩ := h
      refine ⟨.bool d,by simp [den],fun w => ?_⟩
      simp only [execOp,hop,← hx2,← hy2]
      rw [Sem.run_bind,Sem.run_bind,run_eqGuard_agg w _ _ _ _ _ _ hg.2,Result.andThen_ok,run_eql_struct,hrun w,takeB_ok h1 ho]; rfl
     ·simp only [Option.map_eq_some_iff,Prod.mk.injEq] at h
      obtain ⟨⟨d,e,o'⟩,h1,rfl,rfl,rfl⟩ := h
      refine ⟨.bool d,by simp [den],fun w => ?_⟩
      simp only [execOp,hop,← hx2,← hy2]
      rw [Sem.run_bind,Sem.run_bind,run_eqGuard_agg w _ _ _ _ _ _ hg.2,Result.andThen_ok,run_neq_struct,hrun w,takeB_ok h1 ho]; rfl
     ·cases h
    ·cases h
   ·cases h
  ·cases h
 ·cases h
theorem evPure_ok {ρ:Operand → SV} {ds ds':Dec} {o:Oper} {x:SV} {ob:Obs} (h:evPure P ρ ds o = some (x,ds',ob)) (ho:ObsOk ob)
  {ρv:Operand → Value} (hρ:∀ y ∈ o.op.operands,den m (ρ y) = some (ρv y)):PureOk P o m ρv x := by
 unfold evPure at h
 split at h
 ·rename_i y ob' hs
  simp only [Option.some.injEq,Prod.mk.injEq] at h
  obtain ⟨rfl,_,rfl⟩ := h
  exact evSpecial_ok hs ho hρ
 ·split at h
  ·rename_i hr
   simp only [Option.some.injEq] at h; subst h
   exact evCmpF_ok hr ho hρ
  ·split at h
   ·rename_i hr
    simp only [Option.some.injEq] at h; subst h
    exact evCmpA_ok hr ho hρ
   ·split at h
    ·rename_i hb
     exact plainOp_ok (byText_notSelect hb) h ho hρ
    ·cases h
end
end Rx
