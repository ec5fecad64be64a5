/- Package trig by the reckoner: row, within, at. Package trig by the reckoner: SinCos; and .. -/
import Derived.Test.YtejcekikbnlllaaGreatT09
import Derived.Test.YtejcekikbnlllaaGreatT04
import Derived.Test.YtejcekikbnlllaaGreatT05
import Derived.Test.YtejcekikbnlllaaGreatT08
import Derived.Test.YtejcekikbnlllaaGreatT06
import Derived.Test.YtejcekikbnlllaaGreatT07
set_option linter.all false
namespace Go.Proofs.YtejcekikbnlllaaGreat
open Go.RowKit Bu Rx
theorem pdivG:PlainOk Tryz.prog 141 (kTwo pDiv) := two_ok div_F_w
theorem nextG:PlainOk Tryz.prog 83 (kNx nextF) := by
 intro args ds x ds' ob h1 ho
 unfold kNx at h1
 split at h1
 ·rename_i x up
  simp only [Option.some.injEq,Prod.mk.injEq] at h1
  obtain ⟨rfl,_,_⟩ := h1
  exact ⟨[.float .f64 x.b,.bool up],_,rfl,rfl,fun w => next_F x up w⟩
 ·cases h1
theorem addC:OfOk Tryz.prog 42 (kC (aII KTR.add)) := cadd_I (two_ok add_F_w)
theorem subC:OfOk Tryz.prog 39 (kC (aII KTR.sub)) := csub_I (two_ok sub_F_w)
theorem mulC:OfOk Tryz.prog 28 (kC (aII KTR.mul)) := cmul_I (two_ok mul_F_w)
theorem divC:OfOk Tryz.prog 65 (kC (aII KTR.div)) := cdiv_I pdivG
theorem sqrC:OfOk Tryz.prog 40 (kC (aI KTR.sqr)) := csqr_I (two_ok mul_F_w)
theorem numC:OfOk Tryz.prog 35 (kC (aF KTR.num)) := cnum_I
theorem negC:OfOk Tryz.prog 109 (kC (aI KTR.neg)) := cneg_I
def OIM:OracleF := lookO []
theorem oracleIM:OracleOk Tryz.prog OIM := .nil _
theorem constG {P:Program} {g:FuncId} {x:SV} {v:Value} (hx:plain x = some v) (h:∀ w,Calls P g #[] w fun e w' => e = .returned v ∧ Below w.heap.size w w'):PlainOk P g (oConst x) := by
 intro args ds y ds' ob hk ho
 unfold oConst at hk
 split at hk
 ·simp only [Option.some.injEq,Prod.mk.injEq] at hk
  obtain ⟨rfl,_,_⟩ := hk
  exact ⟨[],v,rfl,hx,h⟩
 ·cases hk
theorem irtK:PlainOk Tryz.prog 67 (kBI rt) := irightG
end Go.Proofs.YtejcekikbnlllaaGreat
namespace Go.Proofs.YtejcekikbnlllaaGreat
open Go Go.RowKit Go.Shelf Bu Rx
attribute [local go_sem] Oper.semAt_some
@[local go_sem] theorem run_store_float_n {P:Program} {w:World} {a:Addr} {m:Mode} (k:FloatKind) (b:Nat):(store a (.float k b) m).run P w = stored P w a (.float k b) m := run_store P w a _ m rfl
set_option maxRecDepth 100000 in
set_option maxHeartbeats 1000000 in
theorem parts_in (F:Fence) (n:Nat) (h:F.fn 332) (hro:F.round = none) (a:Option Addr) (len cap:Nat) (w:World) :
  CallsIn F n Tryz.prog 332 #[.slice a len cap] w fun e w' => e = .returned (.func (.func 347) #[] #[.pointer (some ⟨w.heap.size,0,none⟩)]) ∧ w' = w.alloc (.cells #[.slice a len cap] 205) := by
 refine callsIn_of_wp Tryz.func332 rfl h ?_ hro
 simp only [Tryz.ntmps332,List.size_toArray,List.length_cons,List.length_nil,Nat.reduceAdd,Nat.reduceSub,Array.replicate_succ,Array.replicate_zero,List.push_toArray,List.append_toArray,List.nil_append,List.cons_append]
 gi_wp2
 go_ret
 exact ⟨rfl,rfl⟩
def okP (q:Pt3):Prop := ∃ a b c:F,q.1 = a.b ∧ q.2.1 = b.b ∧ q.2.2 = c.b ∧ rt ⟨a,b⟩ = true ∧ c.k ≤ a.k ∧ b.k ≤ one64.k
theorem right_pt {q:Pt3} (h:okP q) (w:World):Calls Tryz.prog 67 #[.agg #[.float .f64 q.1,.float .f64 q.2.1]] w fun e w' => e = .returned (.bool true) ∧ Below w.heap.size w w' := by
 obtain ⟨a,b,c,h1,h2,_,hr,_⟩ := h
 obtain ⟨vs,v,e1,e2,k⟩ := irtK [.agg [.fl a,.fl b]] (some [true]) (.b true) (some []) [(rt ⟨a,b⟩,true)] rfl (fun p hp => by rw [List.mem_singleton.1 hp]; exact hr)
 have e1':vs = [.agg #[.float .f64 a.b,.float .f64 b.b]] := (Option.some.inj e1).symm
 have e2':v = .bool true := (Option.some.inj e2).symm
 subst e1'; subst e2'
 rw [h1,h2]
 exact k w
theorem KpL.alloc {b1 b2:Nat} (W:World) (o:Obj):KpL b1 b2 W (W.alloc o) := ⟨by rw [World.size_alloc]; omega,fun r q _ _ hr _ => (Below.heap_alloc W _ r (Array.getElem?_eq_some_iff.1 hr).1).trans hr⟩
theorem grown_of_below {W W1:World} (h:Below W.heap.size W W1):W.grownBy W1 none := ⟨h.os,h.tape,h.output,h.size,fun k hk _ => h.block k hk⟩
structure Dirs (W:World) (b:Nat) (e:Nat → {q:Pt3 // okP q}):Prop where
 c:∀ j,j < 6 → W.cell? ⟨b,2 * j,none⟩ = some (.float .f64 (e j).1.1) ∧ W.cell? ⟨b,2 * j + 1,none⟩ = some (.float .f64 (e j).1.2.1)
 g0:(e 0).1.2.2 = 13830554455654793216
 g1:(e 1).1.2.2 = 13830554455654793216
 g2:(e 2).1.2.2 = 0
 g3:(e 3).1.2.2 = 13830554455654793216
 g4:(e 4).1.2.2 = 13830554455654793216
 g5:(e 5).1.2.2 = 0
theorem Dirs.below {n₀:Nat} {A B:World} {b:Nat} {e:Nat → {q:Pt3 // okP q}} (h:Dirs A b e) (hb:b < n₀) (k:Below n₀ A B):Dirs B b e :=
 ⟨fun j hj => ⟨(k.cell (p := ⟨b,2 * j,none⟩) hb).trans (h.c j hj).1,(k.cell (p := ⟨b,2 * j + 1,none⟩) hb).trans (h.c j hj).2⟩,h.g0,h.g1,h.g2,h.g3,h.g4,h.g5⟩
theorem parts_stops (F:Fence) (n:Nat) (hf:F.fn 347) (hro:F.round = none) (hn:1 ≤ n) (Bs b cap b1 b2:Nat) (e:Nat → {q:Pt3 // okP q}) (w:World) (hb1:b ≠ b1) (hb2:b ≠ b2) (h1:b1 < w.heap.size) (h2:b2 < w.heap.size) (hB:Bs < w.heap.size) (hb:b < w.heap.size)
  (hBs:w.cell? ⟨Bs,0,none⟩ = some (.slice (some ⟨b,0,none⟩) 2 cap)) (hD:Dirs w b e) :
  SeqStopsK F n Tryz.prog 347 #[.pointer (some ⟨Bs,0,none⟩)] (fun x:{q:Pt3 // okP q} => ptE x) (KpL b1 b2) (fun _ => True) (fun _ => True) 6 w := fun l J Jx W hW hJ _ hY h0 => by
 have hD' := hD.below hb hW
 exact parts1_in F n hf hro hn l Bs b cap b1 b2 e hD'.g0 hD'.g1 hD'.g2 hD'.g3 hD'.g4 hD'.g5 J Jx W hJ hY hb1 hb2 (Nat.lt_of_lt_of_le h1 hW.size) (Nat.lt_of_lt_of_le h2 hW.size) ((hW.cell (p := ⟨Bs,0,none⟩) hB).trans hBs) hD'.c h0
theorem after_right {W W1:World} {B1 B2 Bx:Nat} {t t':TypeId} {u v x y:Value} (h1:Boxed W B1 t u) (h2:Boxed W B2 t v) (h3:W.heap[Bx]? = some (.cells #[x,y] t' (0,0))) (hb:Below W.heap.size W W1) :
  Boxed W1 B1 t u ∧ Boxed W1 B2 t v ∧ W1.heap[Bx]? = some (.cells #[x,y] t' (0,0)) ∧ W1.cell? ⟨B1,0,none⟩ = some u ∧ W1.frozen? ⟨B1,0,none⟩ = false ∧ W1.cell? ⟨B2,0,none⟩ = some v ∧ W1.frozen? ⟨B2,0,none⟩ = false ∧ W1.cell? ⟨Bx,0,none⟩ = some x ∧ W1.cell? ⟨Bx,1,none⟩ = some y := by
 have a := h1.kept (grown_of_below hb) (by simp)
 have b := h2.kept (grown_of_below hb) (by simp)
 have c := (hb.block Bx (Array.getElem?_eq_some_iff.1 h3).1).trans h3
 exact ⟨a,b,c,a.cell,a.frozen,b.cell,b.frozen,by simp [World.cell?,c],by simp [World.cell?,c]⟩
theorem body_end {w W W1:World} {n₀ B B1 B2:Nat} {t:TypeId} {u v:Value} (h1:Boxed W1 B1 t u) (h2:Boxed W1 B2 t v) (hne:B1 ≠ B2) (hb:Below W.heap.size W W1) (hw:Below n₀ w W) (hn:n₀ ≤ W.heap.size) (l1:n₀ ≤ B1) (l2:n₀ ≤ B2) (u' v':Value) :
  KeepsFrom B W ((W1.setCell ⟨B1,0,none⟩ u').setCell ⟨B2,0,none⟩ v') ∧ KpL B1 B2 W ((W1.setCell ⟨B1,0,none⟩ u').setCell ⟨B2,0,none⟩ v') ∧ (Boxed ((W1.setCell ⟨B1,0,none⟩ u').setCell ⟨B2,0,none⟩ v') B1 t u' ∧ Boxed ((W1.setCell ⟨B1,0,none⟩ u').setCell ⟨B2,0,none⟩ v') B2 t v') ∧ Below n₀ w ((W1.setCell ⟨B1,0,none⟩ u').setCell ⟨B2,0,none⟩ v') := by
 have k1:KeepsOthers W W1 := KeepsOthers.of_grownBy (grown_of_below hb) (fun j o h => by cases h)
 refine ⟨((k1.trans (KeepsOthers.setCell _ _ _)).trans (KeepsOthers.setCell _ _ _)).from _,⟨?_,fun r o q1 q2 hr ho => ?_⟩,⟨(h1.set u').other hne v',(h2.other (Ne.symm hne) u').set v'⟩,?_⟩
 ·have a := (grownBy_setCell' W1 B1 u').size
  have b := (grownBy_setCell' (W1.setCell ⟨B1,0,none⟩ u') B2 v').size
  have c := hb.size
  omega
 ·have g0 := Array.getElem?_eq_some_iff.1 hr
  have a := (hb.block r g0.1).trans hr
  have b := ((grownBy_setCell' W1 B1 u').block r (Nat.lt_of_lt_of_le g0.1 hb.size) (by simp [q1])).trans a
  exact ((grownBy_setCell' (W1.setCell ⟨B1,0,none⟩ u') B2 v').block r (Array.getElem?_eq_some_iff.1 b).1 (by simp [q2])).trans b
 ·exact ((hw.trans (hb.mono hn)).setCell (p := ⟨B1,0,none⟩) l1 _).setCell (p := ⟨B2,0,none⟩) l2 _
theorem ge_pt {q:Pt3} (h:okP q):(FloatKind.f64.format.order q.1 q.2.2 == some .gt || FloatKind.f64.format.order q.1 q.2.2 == some .eq) = true ∧ (FloatKind.f64.format.order q.2.1 4607182418800017408 == some .lt || FloatKind.f64.format.order q.2.1 4607182418800017408 == some .eq) = true := by
 obtain ⟨a,b,c,h1,h2,h3,_,h4,h5⟩ := h
 have e4:FloatKind.f64.format = Ieee.double := rfl
 have e1:(4607182418800017408:Nat) = one64.b := by decide +kernel
 rw [h1,h2,h3,e4,e1,Bu.order_gt,Bu.order_eq,Bu.order_lt,Bu.order_eq]
 constructor <;> (simp; omega)
set_option maxRecDepth 100000 in
set_option maxHeartbeats 4000000 in
theorem look_in (F:Fence) (n:Nat) (h1f:F.fn 298) (h2f:F.fn 332) (h3f:F.fn 347) (h4f:F.fn 67) (hro:F.round = none) (hn:6 ≤ n)
  (hR:∀ (m:Nat) (q:Pt3) (w:World),okP q → CallsIn F m Tryz.prog 67 #[.agg #[.float .f64 q.1,.float .f64 q.2.1]] w fun e w' => e = .returned (.bool true) ∧ Below w.heap.size w w')
  (b cap:Nat) (e:Nat → {q:Pt3 // okP q}) (w:World) (hb:b < w.heap.size) (hD:Dirs w b e) :
  CallsIn F n Tryz.prog 298 #[.slice (some ⟨b,0,none⟩) 2 cap] w fun e W' => e = .returned (.int .i64 0) ∧ Below w.heap.size w W' := by
 have h1:1 ≤ n := by omega
 refine callsIn_of_wp_marks Tryz.func298 rfl h1f ?_ hro
 simp only [Tryz.ntmps298,List.size_toArray,List.length_cons,List.length_nil,Nat.reduceAdd,Nat.reduceSub,Array.replicate_succ,Array.replicate_zero,List.push_toArray,List.append_toArray,List.nil_append,List.cons_append]
 gi_wp2_with (gi_at_call 332; refine (parts_in F (n - 1) h2f hro _ _ _ _).mono ?_; rintro e w' ⟨rfl,rfl⟩)
 have bR := ((Boxed.new w 4 (.bool true)).alloc (.cells #[.bool true] 4)).alloc (.cells #[.slice (some ⟨b,0,none⟩) 2 cap] 205)
 have bM := (Boxed.new (w.alloc (.cells #[.bool true] 4)) 4 (.bool true)).alloc (.cells #[.slice (some ⟨b,0,none⟩) 2 cap] 205)
 have bL := Boxed.new ((w.alloc (.cells #[.bool true] 4)).alloc (.cells #[.bool true] 4)) 205 (.slice (some ⟨b,0,none⟩) 2 cap)
 simp only [World.size_alloc] at bM bL
 have hB0:Below w.heap.size w (((w.alloc (.cells #[.bool true] 4)).alloc (.cells #[.bool true] 4)).alloc (.cells #[.slice (some ⟨b,0,none⟩) 2 cap] 205)) := (((Below.refl _ w).alloc (Nat.le_refl _) _).alloc (by simp) _).alloc (by simp; omega) _
 have hsz:(((w.alloc (.cells #[.bool true] 4)).alloc (.cells #[.bool true] 4)).alloc (.cells #[.slice (some ⟨b,0,none⟩) 2 cap] 205)).heap.size = w.heap.size + 3 := by simp
 obtain ⟨W0,hW0⟩:∃ W0,((w.alloc (.cells #[.bool true] 4)).alloc (.cells #[.bool true] 4)).alloc (.cells #[.slice (some ⟨b,0,none⟩) 2 cap] 205) = W0 := ⟨_,rfl⟩
 rw [hW0] at bR bM bL hB0 hsz ⊢
 clear hW0
 refine wpIn_rangeFunc_ownH hro h1 (gf := 347) (lb := #[.pointer (some ⟨w.heap.size + 1 + 1,0,none⟩)]) rfl h3f (enters_of Tryz.func347 (by kernel_rfl) rfl)
  (parts_stops F (n - 1) h3f hro (by omega) (w.heap.size + 1 + 1) b cap w.heap.size (w.heap.size + 1) e W0 (by omega) (by omega) (by omega) (by omega) (by omega) (by omega) bL.cell (hD.below hb hB0)) (fun h k => h.trans k) (fun W l o o' _ h hc _ => KpL.put W l o o' h hc) (Below.refl _ _) (fun _ => rfl)
  (fun pre W => (Boxed W w.heap.size 4 (.bool true) ∧ Boxed W (w.heap.size + 1) 4 (.bool true)) ∧ Below w.heap.size w W)
  (fun _ _ _ => False)
  (OwnFrom.and (OwnFrom.and (Own.from (boxed_own _ _ _) _) (Own.from (boxed_own _ _ _) _)) (ownFrom_below (Nat.le_refl _) (by omega)))
  (fun _ _ _ _ _ hs _ _ => hs)
  ⟨⟨bR,bM⟩,hB0⟩
  (fun x a' W => ∃ Bx,w.heap.size + 1 < Bx ∧ W.heap[Bx]? = some (.cells #[.float .f64 x.1.1,.float .f64 x.1.2.1] 33 (0,0)) ∧ a' = { tmps := #[.slice (some ⟨b,0,none⟩) 2 cap,undef,.int .i64 0,.pointer (some ⟨w.heap.size,0,none⟩),.pointer (some ⟨w.heap.size + 1,0,none⟩),.pointer (some ⟨Bx,0,none⟩),.float .f64 x.1.2.2,.slice (some ⟨b,0,none⟩) 2 cap,.func (.func 347) #[] #[.pointer (some ⟨w.heap.size + 1 + 1,0,none⟩)],.agg #[.float .f64 x.1.1,.float .f64 x.1.2.1],.float .f64 x.1.2.2,undef,undef,undef,undef,undef,undef,undef,undef,undef,undef,undef,undef,undef,undef,undef,undef,undef,undef,undef,undef,undef,undef,undef],defers := [] })
  (fun x a' _ X Y row hs hg hr => by
   obtain ⟨Bx,q1,q2,q3⟩ := hs
   refine ⟨Bx,q1,(hg.block Bx (Array.getElem?_eq_some_iff.1 q2).1 (fun h => ?_)).trans q2,q3⟩
   obtain ⟨_,o,ho,hc⟩ := hr Bx h.symm
   rw [q2] at ho; cases ho; cases hc)
  ?assign ?body ?done ?stop
 case assign =>
  rintro l pre x W K ⟨⟨bR1,bM1⟩,hB1⟩ hK
  gi_wp2
  exact hK _ _ ((KeepsOthers.alloc _ _).from _) (KpL.alloc _ _) ⟨⟨bR1.alloc _,bM1.alloc _⟩,hB1.alloc hB1.size _⟩ ⟨W.heap.size,bM1.lt,World.alloc_heap_new W _,rfl⟩
 case body =>
  rintro l pre x a' W hl ⟨r,hr⟩ ⟨⟨bR1,bM1⟩,hB1⟩ ⟨Bx,hBx,bX,rfl⟩ hlt
  have cR := bR1.cell
  have cM := bM1.cell
  have cX0:W.cell? ⟨Bx,0,none⟩ = some (.float .f64 x.1.1) := by simp [World.cell?,bX]
  have cX1:W.cell? ⟨Bx,1,none⟩ = some (.float .f64 x.1.2.1) := by simp [World.cell?,bX]
  have h1':1 ≤ n - 1 - 1 := by omega
  have n1:¬ Bx = w.heap.size := by omega
  have n2:¬ Bx = w.heap.size + 1 := by omega
  gi_wp2_with (gi_at_call 67; refine (CallsIn.inRound l (hR (n - 1 - 1 - 1) x.1 _ x.2)).mono ?_; rintro e w' ⟨rfl,hw'⟩; obtain ⟨bR2,bM2,bX2,cR2,fR2,cM2,fM2,dX0,dX1⟩ := after_right bR1 bM1 bX hw')
  all_goals (have hg := ge_pt x.2)
  all_goals (have hle := bM1.lt)
  all_goals first
   | (exfalso; simp_all; done)
   | (rw [hg.1,hg.2]; exact body_end bR2 bM2 (by omega) hw' hB1 (by omega) (by omega) (by omega) _ _)
   | exact body_end bR2 bM2 (by omega) hw' hB1 (by omega) (by omega) (by omega) _ _
 case done =>
  rintro D xs W hD2 _ ⟨⟨bR1,bM1⟩,hB1⟩ hK
  have cR := bR1.cell
  have cM := bM1.cell
  gi_wp2
  refine ⟨by simp,.inl ⟨_,_,rfl,run_takeDeferred hK,?_⟩⟩
  exact ⟨_,results_tmp rfl _ _ _,rfl,hB1.trans (belowK_b (w := w) (Nat.le_refl _) W D _ _ (by omega) hK rfl rfl)⟩
 case stop =>
  rintro D c pre W _ _ h _
  exact h.elim
end Go.Proofs.YtejcekikbnlllaaGreat
namespace Go.Proofs.YtejcekikbnlllaaGreat
open Go.RowKit Bu Rx
structure Ks where
 lt:Int → Int → Int → Int → Bool
 h:Int → Int
 l:Int → Int
 u:Int → Bool
def kLess (K:Ks):List SV → Dec → Option (SV × Dec × Obs)
 | [.agg [x, y], .agg [z, t]], ds => match intS x, intS y, intS z, intS t with
   | some (.u64,a),some (.u64,b),some (.u64,c),some (.u64,d) => (takeB ds (K.lt a b c d)).map fun r => (.b r.1,r.2.1,r.2.2)
   | _,_,_,_ => none
 | _,_ => none
def kSq (K:Ks):List SV → Dec → Option (SV × Dec × Obs)
 | [x], ds => match intS x with
   | some (.u64,a) => some (.agg [.si .u64 (K.h a),.si .u64 (K.l a)],ds,[(K.u a,true)])
   | _ => none
 | _,_ => none
def OGS (K:Kd) (J:Ks) (L:Int → Int):OracleF :=
 lookO [(60,plainO oRight),(154,plainO (kParts K)),(156,plainO (kRound K)),(163,plainO (kLz L K.u)),(164,plainO (kDown K)),(165,plainO (kLess J)),(166,plainO (kSq J))]
noncomputable def cS:Code := bodyOf Tryz.prog 93
noncomputable def cL:Code := seqL (seqR (seqR (seqR (seqR (seqR (seqR (seqR cS)))))))
noncomputable def cR:Code := inner (inner (seqR cL))
def sT (v w:Nat → SV) (x b:SV):List SV := [v 0,v 1,v 2,v 3,v 4,v 5,v 6,v 7,v 8,v 9,.p 0 0,x,b,v 10,v 11,v 12,v 13,v 14,v 15,v 16,v 17,v 18,v 19,v 20,v 21,v 22,v 23,v 24,v 25,v 26,v 27,v 28,v 29,v 30,v 31,v 32,v 33,v 34,v 35,v 36,v 37,v 38,v 39,v 40,v 41,v 42,v 43,v 44,v 45] ++ (List.range 27).map w
def sS (v w:Nat → SV) (x b:SV) (M:List Blk) (ds:Dec) (ob:Obs):St := ⟨sT v w x b,M,ds,ob⟩
def afterW (r:Option (Ex × St)):Nat → SV := fun i => match r with | some (_,s) => s.T.getD (i + 49) .np | none => .np
def orI (x b:Int):Int := IntKind.u64.wrap ↑(BitVec.ofInt IntKind.u64.bits x ||| BitVec.ofInt IntKind.u64.bits b).toNat
def shI (b:Int):Int := b.fdiv (2 ^ min (Int.toNat 1) IntKind.u64.bits)
def nM (a b:SV):List Blk := [⟨210,[a,b],.ex⟩]
theorem round_no (K:Kd) (J:Ks) (L:Int → Int) (n:Nat) (v w:Nat → SV) (x b N1 N2:Int) (d:List Bool) (ob:Obs) :
  (run Tryz.prog EG (OGS K J L) (n + 20)).2 cR (sS v w (.si .u64 x) (.si .u64 b) (nM (.si .u64 N1) (.si .u64 N2)) (some (true :: true :: d)) ob) =
   some (.normal,sS v (afterW ((run Tryz.prog EG (OGS K J L) (n + 20)).2 cR (sS v w (.si .u64 x) (.si .u64 b) (nM (.si .u64 N1) (.si .u64 N2)) (some (true :: true :: d)) ob))) (.si .u64 x) (.si .u64 (shI b)) (nM (.si .u64 N1) (.si .u64 N2)) (some d)
    ((J.lt N1 N2 (J.h (orI x b)) (J.l (orI x b)),true) :: (J.u (orI x b),true) :: (decide (b > 0),true) :: ob)) := by kernel_rfl
theorem round_yes (K:Kd) (J:Ks) (L:Int → Int) (n:Nat) (v w:Nat → SV) (x b N1 N2:Int) (d:List Bool) (ob:Obs) :
  (run Tryz.prog EG (OGS K J L) (n + 20)).2 cR (sS v w (.si .u64 x) (.si .u64 b) (nM (.si .u64 N1) (.si .u64 N2)) (some (true :: false :: d)) ob) =
   some (.normal,sS v (afterW ((run Tryz.prog EG (OGS K J L) (n + 20)).2 cR (sS v w (.si .u64 x) (.si .u64 b) (nM (.si .u64 N1) (.si .u64 N2)) (some (true :: false :: d)) ob))) (.si .u64 (orI x b)) (.si .u64 (shI b)) (nM (.si .u64 N1) (.si .u64 N2)) (some d)
    ((J.lt N1 N2 (J.h (orI x b)) (J.l (orI x b)),false) :: (J.u (orI x b),true) :: (decide (b > 0),true) :: ob)) := by kernel_rfl
def idB:Code → Nat | .block i _ => i | _ => 0
noncomputable def iB:Nat := idB (seqR cL)
theorem round_end (K:Kd) (J:Ks) (L:Int → Int) (n:Nat) (v w:Nat → SV) (x b N1 N2:Int) (d:List Bool) (ob:Obs) :
  (run Tryz.prog EG (OGS K J L) (n + 20)).2 cR (sS v w (.si .u64 x) (.si .u64 b) (nM (.si .u64 N1) (.si .u64 N2)) (some (false :: d)) ob) =
   some (.exit iB,sS v (afterW ((run Tryz.prog EG (OGS K J L) (n + 20)).2 cR (sS v w (.si .u64 x) (.si .u64 b) (nM (.si .u64 N1) (.si .u64 N2)) (some (false :: d)) ob))) (.si .u64 x) (.si .u64 b) (nM (.si .u64 N1) (.si .u64 N2)) (some d)
    ((decide (b > 0),false) :: ob)) := by kernel_rfl
def lessI (a b c d:Int):Bool := decide (a < c) || (decide (a = c) && decide (b < d))
def JR:Ks := ⟨lessI,fun x => mulH x x,fun x => mulL x x,u64B⟩
def OLS (f g:Int → Int → Int) (u:Int → Bool):OracleF := lookO [(155,plainO (kMul f g u))]
theorem oracleLS:OracleOk Tryz.prog (OLS mulH mulL u64B) := .cons mulG.of (.nil _)
theorem lessRun0 (a b c d:Int):valR ((run Tryz.prog EG (OLS mulH mulL u64B) 60).1 165 [.agg [.si .u64 a,.si .u64 b],.agg [.si .u64 c,.si .u64 d]] [] (some [true])) = some (.b true,some [],[(decide (a < c),true)]) := by kernel_rfl
theorem lessRun1 (a b c d:Int):valR ((run Tryz.prog EG (OLS mulH mulL u64B) 60).1 165 [.agg [.si .u64 a,.si .u64 b],.agg [.si .u64 c,.si .u64 d]] [] (some [false,false])) = some (.b false,some [],[(decide (a = c),false),(decide (a < c),false)]) := by kernel_rfl
theorem lessRun2 (a b c d:Int) (h:Bool):valR ((run Tryz.prog EG (OLS mulH mulL u64B) 60).1 165 [.agg [.si .u64 a,.si .u64 b],.agg [.si .u64 c,.si .u64 d]] [] (some [false,true,h])) = some (.b h,some [],[(decide (b < d),h),(decide (a = c),true),(decide (a < c),false)]) := by cases h <;> kernel_rfl
theorem sqRun (f g:Int → Int → Int) (u:Int → Bool) (a:Int):valR ((run Tryz.prog EG (OLS f g u) 60).1 166 [.si .u64 a] [] (some [])) = some (.agg [.si .u64 (f a a),.si .u64 (g a a)],some [],[(u a,true),(u a,true)]) := by kernel_rfl
theorem lessG:PlainOk Tryz.prog 165 (kLess JR) := by
 intro args ds x ds' ob h ho
 unfold kLess at h
 split at h
 ·rename_i y1 y2 y3 y4
  split at h
  ·rename_i a b c d e1 e2 e3 e4
   simp only [Option.map_eq_some_iff,Prod.mk.injEq] at h
   obtain ⟨⟨r,e,o⟩,h1,rfl,rfl,rfl⟩ := h
   have hd:r = lessI a b c d := takeB_ok h1 ho
   refine ⟨[.agg #[.int .u64 a,.int .u64 b],.agg #[.int .u64 c,.int .u64 d]],.bool r,plains_cons (plain_agg (plains_cons (intS_plain e1) (plains_cons (intS_plain e2) plains_nil))) (plains_cons (plain_agg (plains_cons (intS_plain e3) (plains_cons (intS_plain e4) plains_nil))) plains_nil),rfl,fun w => ?_⟩
   subst hd
   cases g1:decide (a < c)
   ·cases g2:decide (a = c)
    ·rw [show lessI a b c d = false from by simp only [lessI,g1,g2,Bool.false_and,Bool.or_false]]
     exact calls_of_val goodG oracleLS 60 (lessRun1 a b c d) (ObsOk.of_B (obsB_yes g2 (obsB_yes g1 obsB_nil))) rfl rfl w
    ·rw [show lessI a b c d = decide (b < d) from by simp only [lessI,g1,g2,Bool.true_and,Bool.false_or]]
     exact calls_of_val goodG oracleLS 60 (lessRun2 a b c d _) (ObsOk.of_B (obsB_yes rfl (obsB_yes g2 (obsB_yes g1 obsB_nil)))) rfl rfl w
   ·rw [show lessI a b c d = true from by simp only [lessI,g1,Bool.true_or]]
    exact calls_of_val goodG oracleLS 60 (lessRun0 a b c d) (ObsOk.of_B (obsB_yes g1 obsB_nil)) rfl rfl w
  ·cases h
 ·cases h
theorem squareG:PlainOk Tryz.prog 166 (kSq JR) := by
 intro args ds x ds' ob h ho
 unfold kSq at h
 split at h
 ·rename_i y1
  split at h
  ·rename_i a e1
   simp only [Option.some.injEq,Prod.mk.injEq] at h
   obtain ⟨rfl,rfl,rfl⟩ := h
   have hu:u64B a = true := ho (JR.u a,true) (by simp)
   exact ⟨[.int .u64 a],_,plains_cons (intS_plain e1) plains_nil,rfl,fun w => calls_of_val goodG oracleLS 60 (sqRun mulH mulL u64B a) (ObsOk.of_B (obsB_yes hu (obsB_yes hu obsB_nil))) rfl rfl w⟩
  ·cases h
 ·cases h
theorem oracleGS:OracleOk Tryz.prog (OGS KR JR lzI) := .cons rightG.of (.cons partsG.of (.cons roundG.of (.cons lzG.of (.cons downG.of (.cons lessG.of (.cons squareG.of (.nil _)))))))
def chain (P:Program) (E:ExtF) (O:OracleF) (n:Nat):List Code → St → Option St
 | [],s => some s
 | c :: l, s => match (run P E O n).2 c s with
   | some (.normal,s1) => chain P E O n l s1
   | _ => none
def seqs:List Code → Code → Code
 | [],c => c
 | a :: l,c => .seq a (seqs l c)
theorem chain_suf {P:Program} {E:ExtF} {O:OracleF} {n:Nat} (hP:Rx.Good P E) (hO:OracleOk P O):∀ {l:List Code} {s s':St},chain P E O n l s = some s' → Suf s.ob s'.ob
 | [],s,s',h => by simp only [chain,Option.some.injEq] at h; subst h; exact Suf.refl _
 | c :: l, s, s', h => by
   unfold chain at h
   split at h
   ·rename_i s1 h1
    exact ((run_ok hP hO n).2.1 _ _ _ _ h1).1.trans (chain_suf hP hO h)
   ·cases h
theorem chain_ok {P:Program} {E:ExtF} {O:OracleF} {n:Nat} (hP:Rx.Good P E) (hO:OracleOk P O):∀ {l:List Code} {s s':St} {c:Code} {ex:Ex} {s2:St},chain P E O n l s = some s' → ObsOk s'.ob → RunsTo P c s' ex s2 → RunsTo P (seqs l c) s ex s2
 | [],s,s',c,ex,s2,h,_,k => by simp only [chain,Option.some.injEq] at h; subst h; exact k
 | c1 :: l, s, s', c, ex, s2, h, ho, k => by
   unfold chain at h
   split at h
   ·rename_i s1 h1
    exact (RunsTo.of hP hO h1 ((chain_suf hP hO h).ok ho)).seq (chain_ok hP hO h ho k)
   ·cases h
noncomputable def cHs:List Code := [seqL cS,seqL (seqR cS),seqL (seqR (seqR cS)),seqL (seqR (seqR (seqR cS))),seqL (seqR (seqR (seqR (seqR cS)))),seqL (seqR (seqR (seqR (seqR (seqR cS))))),seqL (seqR (seqR (seqR (seqR (seqR (seqR cS))))))]
noncomputable def cB:Code := seqR (seqR (seqR (seqR (seqR (seqR (seqR (seqR cS)))))))
theorem cS_eq:cS = seqs cHs (.seq (.seq (seqL cL) (.block iB (.loop cR))) cB) := by kernel_rfl
noncomputable def sA (x:F) (up:Bool) (d:List Bool):St := ⟨[.fl x,.b up] ++ List.replicate 74 (.tup []),[],some d,[]⟩
noncomputable def hS (K:Kd) (J:Ks) (L:Int → Int) (x:F) (up:Bool) (d:List Bool):Option St := chain Tryz.prog EG (OGS K J L) 40 cHs (sA x up d)
noncomputable def hL (K:Kd) (J:Ks) (L:Int → Int) (x:F) (up:Bool) (d:List Bool):Option St := chain Tryz.prog EG (OGS K J L) 40 (cHs ++ [seqL cL]) (sA x up d)
def tOf (r:Option St) (i:Nat):SV := match r with | some s => s.T.getD i .np | none => .np
def vH (r:Option St) (i:Nat):SV := tOf r (if Nat.blt i 10 then i else i + 3)
def wH (r:Option St) (i:Nat):SV := tOf r (i + 49)
def nS (K:Kd) (L:Int → Int) (x:F):Int := IntKind.u64.wrap (K.mn x * 2 ^ min (L (K.mn x)).toNat IntKind.u64.bits)
def eS (K:Kd) (L:Int → Int) (x:F):Int := IntKind.i64.wrap (IntKind.i64.wrap (K.ex x - L (K.mn x)) - 64)
def ob4 (K:Kd) (L:Int → Int) (x:F) (odd:Bool):Obs := [(!((eS K L x).tmod 2 == 0),odd),(decide (0 ≤ L (K.mn x)),true),(K.u (K.mn x),true),(K.sg x,false),(decide (x.k = (toF 0).k),false),(decide (x.k < (toF 0).k),false)]
theorem headE (K:Kd) (J:Ks) (L:Int → Int) (x:F) (up:Bool):hL K J L x up [false,false,false,false] = some (sS (vH (hL K J L x up [false,false,false,false])) (wH (hL K J L x up [false,false,false,false])) (.i .u64 0) (.i .u64 9223372036854775808) (nM (.si .u64 (nS K L x)) (.i .u64 0)) (some []) (ob4 K L x false)) := by kernel_rfl
theorem headO (K:Kd) (J:Ks) (L:Int → Int) (x:F) (up:Bool):hL K J L x up [false,false,false,true,false] = some (sS (vH (hL K J L x up [false,false,false,true,false])) (wH (hL K J L x up [false,false,false,true,false])) (.i .u64 0) (.i .u64 9223372036854775808) (nM (.si .u64 (K.dh (nS K L x) 0 1)) (.si .u64 (K.dl (nS K L x) 0 1))) (some [])
 ([(K.u (nS K L x),true),(K.u 0,true),(K.dn 1,true),(K.dm (nS K L x) 0 1,false)] ++ ob4 K L x true)) := by kernel_rfl
def retR (P:Program) (fn:Func) (r:Option (Ex × St)):Option (SV × Obs) :=
 match r with
 | some (.ret, s) => match resultS P fn s with
   | some x => some (x,s.ob)
   | none => none
 | _ => none
def obT (K:Kd) (J:Ks) (X N1 N2 e:Int) (m:Bool):Obs := [(K.u 0,true),(K.u X,true),(K.re e,true),(!(J.h X == N1 && (J.l X == N2 && true)),m),(J.u X,true)]
theorem tailE (K:Kd) (J:Ks) (L:Int → Int) (x:F) (up:Bool) (w:Nat → SV) (X N1 N2:Int) (m:Bool) :
  retR Tryz.prog Tryz.f93 ((run Tryz.prog EG (OGS K J L) 40).2 cB (sS (vH (hL K J L x up [false,false,false,false])) w (.si .u64 X) (.si .u64 0) (nM (.si .u64 N1) (.si .u64 N2)) (some [m]) [])) =
   some (.tup [.fl (K.rF false 0 X m (IntKind.i64.wrap ((eS K L x).tdiv 2)) up),.si .i64 (K.rI false 0 X m (IntKind.i64.wrap ((eS K L x).tdiv 2)) up)],obT K J X N1 N2 (IntKind.i64.wrap ((eS K L x).tdiv 2)) m) := by cases m <;> kernel_rfl
theorem tailO (K:Kd) (J:Ks) (L:Int → Int) (x:F) (up:Bool) (w:Nat → SV) (X N1 N2:Int) (m:Bool) :
  retR Tryz.prog Tryz.f93 ((run Tryz.prog EG (OGS K J L) 40).2 cB (sS (vH (hL K J L x up [false,false,false,true,false])) w (.si .u64 X) (.si .u64 0) (nM (.si .u64 N1) (.si .u64 N2)) (some [m]) [])) =
   some (.tup [.fl (K.rF false 0 X m (IntKind.i64.wrap ((IntKind.i64.wrap (eS K L x + 1)).tdiv 2)) up),.si .i64 (K.rI false 0 X m (IntKind.i64.wrap ((IntKind.i64.wrap (eS K L x + 1)).tdiv 2)) up)],obT K J X N1 N2 (IntKind.i64.wrap ((IntKind.i64.wrap (eS K L x + 1)).tdiv 2)) m) := by cases m <;> kernel_rfl
theorem sqRun0 (K:Kd) (J:Ks) (L:Int → Int) (x:F) (up:Bool):valR ((run Tryz.prog EG (OGS K J L) 60).1 93 [.fl x,.b up] [] (some [true])) = some (.tup [.fl F.zero,.i .i64 12],some [],[(decide (x.k < (toF 0).k),true)]) := by kernel_rfl
theorem sqRun1 (K:Kd) (J:Ks) (L:Int → Int) (x:F) (up:Bool):valR ((run Tryz.prog EG (OGS K J L) 60).1 93 [.fl x,.b up] [] (some [false,true])) = some (.tup [.fl F.zero,.i .i64 0],some [],[(decide (x.k = (toF 0).k),true),(decide (x.k < (toF 0).k),false)]) := by kernel_rfl
theorem u64_bits:IntKind.u64.bits = 64 := rfl
theorem orI_add {a k:Nat} (h:a * 2 ^ (k + 1) + 2 ^ k < 18446744073709551616):orI ((a * 2 ^ (k + 1):Nat):Int) ((2 ^ k:Nat):Int) = ((a * 2 ^ (k + 1) + 2 ^ k:Nat):Int) := by
 have e1:a * 2 ^ (k + 1) + 2 ^ k = a * 2 ^ (k + 1) ||| 2 ^ k := by
  rw [Nat.mul_comm]
  exact Nat.two_pow_add_eq_or_of_lt (Nat.pow_lt_pow_right (by omega) (by omega)) a
 have h1:a * 2 ^ (k + 1) < 2 ^ 64 := Nat.lt_of_le_of_lt (Nat.le_add_right _ _) h
 have h2:2 ^ k < 2 ^ 64 := Nat.lt_of_le_of_lt (Nat.le_add_left _ _) h
 unfold orI
 rw [u64_bits,BitVec.toNat_or,BitVec.ofInt_natCast,BitVec.ofInt_natCast,BitVec.toNat_ofNat,BitVec.toNat_ofNat,Nat.mod_eq_of_lt h1,Nat.mod_eq_of_lt h2,← e1,IntKind.wrap_u64]
 generalize a * 2 ^ (k + 1) + 2 ^ k = y at *
 omega
theorem shI_half (b:Nat):shI (b:Int) = ((b / 2:Nat):Int) := by
 unfold shI
 rw [u64_bits,show min (Int.toNat 1) 64 = 1 from rfl,Int.pow_succ,Int.pow_zero,Int.one_mul]
 rw [Int.fdiv_eq_ediv_of_nonneg _ (by omega)]
 omega
theorem lessI_wn {N1 N2:Int} {m:Nat} (a1:0 ≤ N1) (a2:0 ≤ N2 ∧ N2 ≤ 18446744073709551615):lessI N1 N2 (hi m) (lo m) = decide (wn N1 N2 < m) := by
 unfold lessI wn hi lo
 rw [Bool.eq_iff_iff]
 simp only [Bool.or_eq_true,Bool.and_eq_true,decide_eq_true_eq]
 omega
theorem mulI (y:Nat):mulH (y:Int) (y:Int) = hi (y * y) ∧ mulL (y:Int) (y:Int) = lo (y * y) := by
 unfold mulH mulL
 rw [Int.toNat_natCast]; exact ⟨rfl,rfl⟩
theorem rounds_ok {N1 N2:Int} {n:Nat} (a1:0 ≤ N1) (a2:0 ≤ N2 ∧ N2 ≤ 18446744073709551615) (hn:wn N1 N2 = n):∀ (k x:Nat),(∃ a,x = a * 2 ^ k) → x + 2 ^ k ≤ 18446744073709551616 → ∀ (v w:Nat → SV) (d:Dec) (o:Obs),
  ∃ w',RoundsTo Tryz.prog cR (k + 1) (sS v w (.si .u64 (x:Int)) (.si .u64 ((2 ^ k / 2:Nat):Int)) (nM (.si .u64 N1) (.si .u64 N2)) d o) (.exit iB) (sS v w' (.si .u64 ((rootB n k x:Nat):Int)) (.si .u64 0) (nM (.si .u64 N1) (.si .u64 N2)) none [])
 | 0, x, _, _, v, w, d, o => by
   have h := round_end KR JR lzI 20 v w (x:Int) ((2 ^ 0 / 2:Nat):Int) N1 N2 [] []
   have hr := RunsTo.of goodG oracleGS h (ObsOk.of_B (obsB_yes (by decide) obsB_nil))
   exact ⟨_,RoundsTo.out ((hr.fin (SameSt.same _ _ none _ [] _)).retell (SameSt.same _ _ _ _ _ _))⟩
 | k + 1, x, ha, hx, v, w, d, o => by
   obtain ⟨a,rfl⟩ := ha
   have hp := pow_pos' k
   have e2:(2:Nat) ^ (k + 1) = 2 ^ k + 2 ^ k := by rw [Nat.pow_succ]; omega
   have hy:a * 2 ^ (k + 1) + 2 ^ k < 18446744073709551616 := by omega
   have eb:(2:Nat) ^ (k + 1) / 2 = 2 ^ k := by omega
   have eo := orI_add hy
   have es := shI_half (2 ^ k)
   have hlt:(a * 2 ^ (k + 1) + 2 ^ k) * (a * 2 ^ (k + 1) + 2 ^ k) < W128 := by
    have e:W128 = 18446744073709551616 * 18446744073709551616 := rfl
    rw [e]; exact Nat.mul_lt_mul'' hy hy
   have el:lessI N1 N2 (mulH ((a * 2 ^ (k + 1) + 2 ^ k:Nat):Int) ((a * 2 ^ (k + 1) + 2 ^ k:Nat):Int)) (mulL ((a * 2 ^ (k + 1) + 2 ^ k:Nat):Int) ((a * 2 ^ (k + 1) + 2 ^ k:Nat):Int)) = decide (n < (a * 2 ^ (k + 1) + 2 ^ k) * (a * 2 ^ (k + 1) + 2 ^ k)) := by
    rw [(mulI _).1,(mulI _).2,lessI_wn a1 a2,hn]
   have el2:JR.lt N1 N2 (JR.h ((a * 2 ^ (k + 1) + 2 ^ k:Nat):Int)) (JR.l ((a * 2 ^ (k + 1) + 2 ^ k:Nat):Int)) = decide (n < (a * 2 ^ (k + 1) + 2 ^ k) * (a * 2 ^ (k + 1) + 2 ^ k)) := el
   have hu:u64B ((a * 2 ^ (k + 1) + 2 ^ k:Nat):Int) = true := u64_mk (by omega) (by omega)
   have hb:decide (((2 ^ k:Nat):Int) > 0) = true := decide_eq_true (by omega)
   rw [eb]
   by_cases c:(a * 2 ^ (k + 1) + 2 ^ k) * (a * 2 ^ (k + 1) + 2 ^ k) ≤ n
   ·have h := round_yes KR JR lzI 20 v w ((a * 2 ^ (k + 1):Nat):Int) ((2 ^ k:Nat):Int) N1 N2 [] []
    rw [eo,es] at h
    have hr := RunsTo.of goodG oracleGS h (ObsOk.of_B (obsB_yes (el2.trans (decide_eq_false (Nat.not_lt.2 c))) (obsB_yes hu (obsB_yes hb obsB_nil))))
    obtain ⟨w',hw⟩ := rounds_ok a1 a2 hn k (a * 2 ^ (k + 1) + 2 ^ k) ⟨2 * a + 1,by rw [Nat.pow_succ,Nat.add_mul,Nat.one_mul,Nat.mul_comm 2 a,Nat.mul_assoc,Nat.mul_comm 2 (2 ^ k)]⟩ (by omega) v _ (some []) _
    refine ⟨w',?_⟩
    rw [show rootB n (k + 1) (a * 2 ^ (k + 1)) = rootB n k (a * 2 ^ (k + 1) + 2 ^ k) from by rw [rootB,if_pos c]]
    exact RoundsTo.next (hr.retell (SameSt.same _ _ _ _ _ _)) hw
   ·have h := round_no KR JR lzI 20 v w ((a * 2 ^ (k + 1):Nat):Int) ((2 ^ k:Nat):Int) N1 N2 [] []
    rw [eo,es] at h
    have hr := RunsTo.of goodG oracleGS h (ObsOk.of_B (obsB_yes (el2.trans (decide_eq_true (Nat.not_le.1 c))) (obsB_yes hu (obsB_yes hb obsB_nil))))
    obtain ⟨w',hw⟩ := rounds_ok a1 a2 hn k (a * 2 ^ (k + 1)) ⟨2 * a,by rw [Nat.pow_succ,Nat.mul_comm 2 a,Nat.mul_assoc,Nat.mul_comm 2 (2 ^ k)]⟩ (by omega) v _ (some []) _
    refine ⟨w',?_⟩
    rw [show rootB n (k + 1) (a * 2 ^ (k + 1)) = rootB n k (a * 2 ^ (k + 1)) from by rw [rootB,if_neg c]]
    exact RoundsTo.next (hr.retell (SameSt.same _ _ _ _ _ _)) hw
theorem dens_mid {m:Nms} {x y:SV} {b c:List SV} (h:den m x = den m y) (hb:dens m b = dens m c):∀ a:List SV,dens m (a ++ x :: b) = dens m (a ++ y :: c)
 | [] => by simp only [List.nil_append,dens,h,hb]
 | z :: a => by simp only [List.cons_append,dens,dens_mid h hb a]
theorem den_i (m:Nms) (k:IntKind) (n:Int):den m (.si k n) = den m (.i k n) := by simp only [den]
theorem same_head (v w:Nat → SV) (c1 c2:SV) (N1 N2:Int) (d:Dec) (o:Obs) (h:∀ m,den m c1 = some (.int .u64 N1)) (h2:∀ m,den m c2 = some (.int .u64 N2)) :
  SameSt (sS v w (.si .u64 0) (.si .u64 9223372036854775808) (nM (.si .u64 N1) (.si .u64 N2)) d o) (sS v w (.i .u64 0) (.i .u64 9223372036854775808) (nM c1 c2) d o) := by
 refine ⟨fun m => ?_,rfl,?_⟩
 ·exact dens_mid (den_i m _ _) (dens_mid (a := []) (den_i m _ _) rfl) [v 0,v 1,v 2,v 3,v 4,v 5,v 6,v 7,v 8,v 9,.p 0 0]
 ·intro i b hb
  have hi:i = 0 := by
   rcases Nat.lt_or_ge i 1 with h' | h'
   ·omega
   ·rw [List.getElem?_eq_none (by simpa [sS,nM] using h')] at hb; cases hb
  subst hi
  simp only [sS,nM,List.getElem?_cons_zero,Option.some.injEq] at hb
  subst hb
  refine ⟨_,rfl,rfl,rfl,fun _ => rfl,fun m => ?_⟩
  simp only [dens,h,h2,den]
theorem chain_split {P:Program} {E:ExtF} {O:OracleF} {n:Nat} {c:Code}:∀ {l:List Code} {s s2:St},chain P E O n (l ++ [c]) s = some s2 → ∃ s1,chain P E O n l s = some s1 ∧ (run P E O n).2 c s1 = some (.normal,s2)
 | [], s, s2, h => by
   refine ⟨s,rfl,?_⟩
   simp only [List.nil_append,chain] at h
   split at h
   ·rename_i s1 h1
    simp only [Option.some.injEq] at h; subst h; exact h1
   ·cases h
 | a :: l, s, s2, h => by
   simp only [List.cons_append,chain] at h
   split at h
   ·rename_i s1 h1
    obtain ⟨s3,h3,h4⟩ := chain_split h
    refine ⟨s3,?_,h4⟩
    simp only [chain,h1]; exact h3
   ·cases h
theorem retR_some {P:Program} {fn:Func} {r:Option (Ex × St)} {x:SV} {ob:Obs} (h:retR P fn r = some (x,ob)):∃ s,r = some (.ret,s) ∧ resultS P fn s = some x ∧ s.ob = ob := by
 unfold retR at h
 split at h
 ·rename_i s
  split at h
  ·rename_i y hy
   simp only [Option.some.injEq,Prod.mk.injEq] at h
   obtain ⟨rfl,rfl⟩ := h
   exact ⟨s,rfl,hy,rfl⟩
  ·cases h
 ·cases h
theorem sqBody:Tryz.f93.body = some cS := by kernel_rfl
theorem sqrt_join {x:F} {up:Bool} {l:List Bool} {c1 c2:SV} {N1 N2:Int} {n:Nat} {ob o2:Obs} {d:Dec} {y:SV} {val:Value} {m:Bool} (a1:0 ≤ N1) (a2:0 ≤ N2 ∧ N2 ≤ 18446744073709551615) (hn:wn N1 N2 = n)
  (hc1:∀ m,den m c1 = some (.int .u64 N1)) (hc2:∀ m,den m c2 = some (.int .u64 N2))
  (hh:hL KR JR lzI x up l = some (sS (vH (hL KR JR lzI x up l)) (wH (hL KR JR lzI x up l)) (.i .u64 0) (.i .u64 9223372036854775808) (nM c1 c2) d ob)) (ho:obsB ob = true)
  (ht:∀ w,retR Tryz.prog Tryz.f93 ((run Tryz.prog EG (OGS KR JR lzI) 40).2 cB (sS (vH (hL KR JR lzI x up l)) w (.si .u64 ((root64 n:Nat):Int)) (.si .u64 0) (nM (.si .u64 N1) (.si .u64 N2)) (some [m]) [])) = some (y,o2)) (ho2:obsB o2 = true) (hy:plain y = some val) (w:World) :
  Calls Tryz.prog 93 #[.float .f64 x.b,.bool up] w fun e w' => e = .returned val ∧ Below w.heap.size w w' := by
 generalize vH (hL KR JR lzI x up l) = v at *
 generalize wH (hL KR JR lzI x up l) = w0 at *
 unfold hL at hh
 obtain ⟨s7,h7,h8⟩ := chain_split hh
 have r8 := RunsTo.of goodG oracleGS h8 (ObsOk.of_B ho)
 have o7:ObsOk s7.ob := ((run_ok goodG oracleGS 40).2.1 _ _ _ _ h8).1.ok (ObsOk.of_B ho)
 obtain ⟨w',hw⟩ := rounds_ok a1 a2 hn 64 0 ⟨0,by simp⟩ (by decide) v w0 d ob
 have rl := RunsTo.block (RunsTo.loop hw)
 have rl2 := rl.retell (t := sS v w0 (.i .u64 0) (.i .u64 9223372036854775808) (nM c1 c2) d ob) (same_head v w0 c1 c2 N1 N2 d ob hc1 hc2)
 obtain ⟨s10,h10,hx,hob⟩ := retR_some (ht w')
 have r10 := (RunsTo.of goodG oracleGS h10 (by rw [hob]; exact ObsOk.of_B ho2)).retell (t := sS v w' (.si .u64 ((root64 n:Nat):Int)) (.si .u64 0) (nM (.si .u64 N1) (.si .u64 N2)) none []) (SameSt.same _ _ _ _ _ _)
 have all := chain_ok goodG oracleGS h7 o7 ((r8.seq rl2).seq r10)
 rw [← cS_eq] at all
 exact calls_of_runs (args := [.fl x,.b up]) (vs := [.float .f64 x.b,.bool up]) Tryz.func93 sqBody (all.retell (SameSt.same _ _ _ _ _ _)) hx rfl hy w
theorem tm_odd (e:Int):(!(e.tmod 2 == 0)) = decide (e % 2 ≠ 0) := by
 have h:e.tmod 2 = 0 ↔ e % 2 = 0 := by rw [← Int.dvd_iff_tmod_eq_zero,Int.dvd_iff_emod_eq_zero]
 rw [Bool.eq_iff_iff]
 simp only [Bool.not_eq_true',beq_eq_false_iff_ne,ne_eq,decide_eq_true_eq,h]
theorem td_half {e:Int} (h:e % 2 = 0):e.tdiv 2 = e / 2 := Int.tdiv_eq_ediv_of_dvd (Int.dvd_iff_emod_eq_zero.2 h)
theorem neq_wn {N1 N2:Int} {m:Nat} (hm:m < W128) (a1:0 ≤ N1 ∧ N1 ≤ 18446744073709551615) (a2:0 ≤ N2 ∧ N2 ≤ 18446744073709551615):(!(hi m == N1 && (lo m == N2 && true))) = decide (m ≠ wn N1 N2) := by
 unfold wn hi lo
 rw [Bool.eq_iff_iff]
 simp only [Bool.not_eq_true',Bool.and_true,Bool.and_eq_false_iff,beq_eq_false_iff_ne,ne_eq,decide_eq_true_eq]
 omega
theorem eS_eq (x:F):eS KR lzI x = (ex x:Int) - 1074 - nlz (mn x) - 64 := by
 have h1 := ex_le x
 have h3 := nlz_le (mn x)
 unfold eS
 show IntKind.i64.wrap (IntKind.i64.wrap ((ex x:Int) - 1074 - lzI (mn x)) - 64) = _
 rw [lzI_mn,Bu.wrap_small (n := (ex x:Int) - 1074 - nlz (mn x)) (by omega) (by omega),Bu.wrap_small (by omega) (by omega)]
theorem sqrt_F_w (x:F) (up:Bool) (w:World) :
  Calls Tryz.prog 93 #[.float .f64 x.b,.bool up] w fun e w' => e = .returned (.tuple #[.float .f64 (qSqrt up x).1.b,.int .i64 (qSqrt up x).2]) ∧ Below w.heap.size w w' := by
 unfold qSqrt
 by_cases h1:x.k < 0
 ·rw [if_pos h1]
  exact calls_of_val goodG oracleGS 60 (sqRun0 KR JR lzI x up) (ObsOk.of_B (obsB_yes (by rw [zero_k']; exact decide_eq_true h1) obsB_nil)) rfl rfl w
 rw [if_neg h1]
 have n1:decide (x.k < (toF 0).k) = false := by rw [zero_k']; exact decide_eq_false h1
 by_cases h2:x.k = 0
 ·rw [if_pos h2]
  exact calls_of_val goodG oracleGS 60 (sqRun1 KR JR lzI x up) (ObsOk.of_B (obsB_yes (by rw [zero_k']; exact decide_eq_true h2) (obsB_yes n1 obsB_nil))) rfl rfl w
 rw [if_neg h2]
 have n2:decide (x.k = (toF 0).k) = false := by rw [zero_k']; exact decide_eq_false h2
 have hpos:0 < x.k := by omega
 obtain ⟨X,p,q,hP,hX⟩ := sqP hpos
 have hb := norm_bounds (mn_pos h2) (mn_64 x)
 have hM:9223372036854775808 ≤ divM x ∧ divM x < 18446744073709551616 := hb
 have hS:nS KR lzI x = divM x := nA_eq h2
 have e1 := ex_le x
 have e3 := nlz_le (mn x)
 have hE := eS_eq x
 have hev := sqE_even x
 have hre:-5000 ≤ sqE x / 2 ∧ sqE x / 2 ≤ 5000 := by
  unfold sqE
  split <;> omega
 have hXl:X < 18446744073709551616 := by
  rcases Nat.lt_or_ge X 18446744073709551616 with c | c
  ·exact c
  ·exfalso
   have k1 := Nat.mul_le_mul c c
   have k2 := hP.root.le
   have k3:sqN x < W128 := by
    have:W128 = 340282366920938463463374607431768211456 := rfl
    unfold sqN
    split <;> omega
   have e:W128 = 18446744073709551616 * 18446744073709551616 := rfl
   omega
 have hXX:X * X < W128 := by
  have e:W128 = 18446744073709551616 * 18446744073709551616 := rfl
  rw [e]; exact Nat.mul_lt_mul'' hXl hXl
 have uX:u64B ((X:Nat):Int) = true := u64_mk (by omega) (by omega)
 have lz0:decide (0 ≤ lzI (KR.mn x)) = true := by
  show decide (0 ≤ lzI (mn x)) = true
  rw [lzI_mn]; exact decide_eq_true (by omega)
 have sg0:KR.sg x = false := decide_eq_false (by omega)
 have hw0:∀ m e,rndG false (wn 0 ((X:Nat):Int)) m e up = rndG false X m e up := by
  intro m e
  have:wn 0 ((X:Nat):Int) = X := by unfold wn; rw [Int.toNat_natCast]; omega
  rw [this]
 cases ho:sqO x
 ·-- even
  have hN:sqN x = divM x * 18446744073709551616 := by unfold sqN; rw [ho]; rfl
  have hEv:sqE x = (ex x:Int) - 1074 - nlz (mn x) - 64 := by unfold sqE; rw [ho]; rfl
  have hee:IntKind.i64.wrap ((eS KR lzI x).tdiv 2) = sqE x / 2 := by rw [hE,← hEv,td_half hev,Bu.wrap_small (by omega) (by omega)]
  have hodd:(!((eS KR lzI x).tmod 2 == 0)) = false := by rw [tm_odd,hE,← hEv]; exact decide_eq_false (by omega)
  have hwn:wn ((divM x:Nat):Int) 0 = sqN x := by rw [hN]; unfold wn; rw [Int.toNat_natCast,Int.toNat_zero,Nat.add_zero]
  have hh := headE KR JR lzI x up
  rw [hS] at hh
  have hd:dSqrt up x = rndG false (wn 0 ((X:Nat):Int)) (decide (X * X ≠ sqN x)) (sqE x / 2) up := by rw [hw0]; unfold dSqrt; rw [hX]
  rw [hd]
  refine sqrt_join (o2 := obT KR JR ((X:Nat):Int) ((divM x:Nat):Int) 0 (sqE x / 2) (decide (X * X ≠ sqN x))) (y := .tup [.fl (rndG false (wn 0 ((X:Nat):Int)) (decide (X * X ≠ sqN x)) (sqE x / 2) up).1,.si .i64 (rndG false (wn 0 ((X:Nat):Int)) (decide (X * X ≠ sqN x)) (sqE x / 2) up).2]) (m := decide (X * X ≠ sqN x)) (n := sqN x) (N1 := ((divM x:Nat):Int)) (N2 := 0) (by omega) ⟨by omega,by omega⟩ hwn (fun m => by simp only [den]) (fun m => by simp only [den]) hh ?_ (fun w' => ?_) ?_ rfl w
  ·exact obsB_yes hodd (obsB_yes lz0 (obsB_yes (mn_u64 x) (obsB_yes sg0 (obsB_yes n2 (obsB_yes n1 obsB_nil)))))
  ·rw [hX]
   have := tailE KR JR lzI x up w' ((X:Nat):Int) ((divM x:Nat):Int) 0 (decide (X * X ≠ sqN x))
   rw [hee] at this
   exact this
  ·refine obsB_yes u64_0 (obsB_yes uX (obsB_yes (decide_eq_true hre) (obsB_yes ?_ (obsB_yes uX obsB_nil))))
   show (!(mulH _ _ == _ && (mulL _ _ == _ && true))) = _
   rw [(mulI X).1,(mulI X).2,neq_wn hXX ⟨by omega,by omega⟩ ⟨by omega,by omega⟩,hwn]
 ·-- odd
  have hN:sqN x = divM x * 9223372036854775808 := by unfold sqN; rw [ho]; rfl
  have hEv:sqE x = (ex x:Int) - 1074 - nlz (mn x) - 63 := by unfold sqE; rw [ho]; rfl
  have hee:IntKind.i64.wrap ((IntKind.i64.wrap (eS KR lzI x + 1)).tdiv 2) = sqE x / 2 := by
   rw [hE,Bu.wrap_small (n := (ex x:Int) - 1074 - nlz (mn x) - 64 + 1) (by omega) (by omega),show (ex x:Int) - 1074 - nlz (mn x) - 64 + 1 = sqE x from by omega,td_half hev,Bu.wrap_small (by omega) (by omega)]
  have hodd:(!((eS KR lzI x).tmod 2 == 0)) = true := by rw [tm_odd,hE]; exact decide_eq_true (by omega)
  have hwd:wn ((divM x:Nat):Int) 0 / 2 ^ (1:Int).toNat = sqN x ∧ wn ((divM x:Nat):Int) 0 % 2 ^ (1:Int).toNat = 0 := by
   rw [hN]; unfold wn; rw [Int.toNat_natCast,show (1:Int).toNat = 1 from rfl]
   constructor <;> omega
  have hDh:KR.dh (nS KR lzI x) 0 1 = hi (sqN x) := by rw [hS]; show hi (wn _ _ / _) = _; rw [hwd.1]
  have hDl:KR.dl (nS KR lzI x) 0 1 = lo (sqN x) := by rw [hS]; show lo (wn _ _ / _) = _; rw [hwd.1]
  have hDm:KR.dm (nS KR lzI x) 0 1 = false := by rw [hS]; show decide (wn _ _ % _ ≠ 0) = _; rw [hwd.2]; rfl
  have hNl:sqN x < W128 := by
   have:W128 = 340282366920938463463374607431768211456 := rfl
   omega
  have hh := headO KR JR lzI x up
  rw [hDh,hDl] at hh
  have hd:dSqrt up x = rndG false (wn 0 ((X:Nat):Int)) (decide (X * X ≠ sqN x)) (sqE x / 2) up := by rw [hw0]; unfold dSqrt; rw [hX]
  rw [hd]
  have b1 := hi_nonneg (sqN x)
  have b2 := hi_le _ hNl
  have b3 := lo_nonneg (sqN x)
  have b4 := lo_le (sqN x)
  refine sqrt_join (o2 := obT KR JR ((X:Nat):Int) (hi (sqN x)) (lo (sqN x)) (sqE x / 2) (decide (X * X ≠ sqN x))) (y := .tup [.fl (rndG false (wn 0 ((X:Nat):Int)) (decide (X * X ≠ sqN x)) (sqE x / 2) up).1,.si .i64 (rndG false (wn 0 ((X:Nat):Int)) (decide (X * X ≠ sqN x)) (sqE x / 2) up).2]) (m := decide (X * X ≠ sqN x)) (n := sqN x) (N1 := hi (sqN x)) (N2 := lo (sqN x)) b1 ⟨b3,b4⟩ (wn_back _) (fun m => by simp only [den]) (fun m => by simp only [den]) hh ?_ (fun w' => ?_) ?_ rfl w
  ·exact obsB_yes (by rw [hS]; exact u64_mk (by omega) (by omega)) (obsB_yes u64_0 (obsB_yes rfl (obsB_yes hDm (obsB_yes hodd (obsB_yes lz0 (obsB_yes (mn_u64 x) (obsB_yes sg0 (obsB_yes n2 (obsB_yes n1 obsB_nil)))))))))
  ·rw [hX]
   have := tailO KR JR lzI x up w' ((X:Nat):Int) (hi (sqN x)) (lo (sqN x)) (decide (X * X ≠ sqN x))
   rw [hee] at this
   exact this
  ·refine obsB_yes u64_0 (obsB_yes uX (obsB_yes (decide_eq_true hre) (obsB_yes ?_ (obsB_yes uX obsB_nil))))
   show (!(mulH _ _ == _ && (mulL _ _ == _ && true))) = _
   rw [(mulI X).1,(mulI X).2,neq_wn hXX ⟨b1,b2⟩ ⟨b3,b4⟩,wn_back]
end Go.Proofs.YtejcekikbnlllaaGreat
namespace Go.Proofs.YtejcekikbnlllaaGreat
open Go.RowKit Bu
end Go.Proofs.YtejcekikbnlllaaGreat
namespace Go.Proofs.YtejcekikbnlllaaGreat
open Go.RowKit Bu Rx
def kOne (f:Bool → F → F × Int):List SV → Dec → Option (SV × Dec × Obs)
 | [.fl x,.b up],ds => some (.tup [.fl (f up x).1,.si .i64 (f up x).2],ds,[])
 | _,_ => none
theorem sqrtG:PlainOk Tryz.prog 93 (kOne qSqrt) := by
 intro args ds x ds' ob h1 ho
 unfold kOne at h1
 split at h1
 ·rename_i x up
  simp only [Option.some.injEq,Prod.mk.injEq] at h1
  obtain ⟨rfl,_,_⟩ := h1
  exact ⟨[.float .f64 x.b,.bool up],_,rfl,rfl,fun w => sqrt_F_w x up w⟩
 ·cases h1
def OISq (f:Bool → F → F × Int):OracleF := lookO [(67,plainO oRt),(93,plainO (kOne f))]
theorem oracleISq:OracleOk Tryz.prog (OISq qSqrt) := .cons irightG.of (.cons sqrtG.of (.nil _))
theorem csqrt_p0 (f:Bool → F → F × Int) (t:Nat) (n:Int) (a b:F):takeR 1 ((run Tryz.prog EG (OISq f) 60).1 37 (.p 0 0 :: [.agg [.fl a,.fl b]]) [⟨t,[.si .i64 n],.ex⟩] (some [true])) = some (.agg [.fl F.zero,.fl F.zero],[⟨t,[.si .i64 n],.ex⟩],some [],[((!(n == 0)),true)]) := by kernel_rfl
theorem csqrt_p1 (f:Bool → F → F × Int) (t:Nat) (n:Int) (a b:F):takeR 1 ((run Tryz.prog EG (OISq f) 60).1 37 (.p 0 0 :: [.agg [.fl a,.fl b]]) [⟨t,[.si .i64 n],.ex⟩] (some [false,false])) = some (.agg [.fl F.zero,.fl F.zero],[⟨t,[.i .i64 20],.ex⟩],some [],[(rt ⟨a,b⟩,false),((!(n == 0)),false)]) := by kernel_rfl
theorem csqrt_p2 (f:Bool → F → F × Int) (t:Nat) (n:Int) (a b:F):takeR 1 ((run Tryz.prog EG (OISq f) 60).1 37 (.p 0 0 :: [.agg [.fl a,.fl b]]) [⟨t,[.si .i64 n],.ex⟩] (some [false,true,true,true])) = some (.agg [.fl F.zero,.fl F.zero],[⟨t,[.si .i64 (f false a).2],.ex⟩],some [],[((!((f false a).2 == 0)),true),((!((f false a).2 == 0)),true),(rt ⟨a,b⟩,true),((!(n == 0)),false)]) := by kernel_rfl
theorem csqrt_p3 (f:Bool → F → F × Int) (t:Nat) (n:Int) (a b:F):takeR 1 ((run Tryz.prog EG (OISq f) 60).1 37 (.p 0 0 :: [.agg [.fl a,.fl b]]) [⟨t,[.si .i64 n],.ex⟩] (some [false,true,false,true])) = some (.agg [.fl F.zero,.fl F.zero],[⟨t,[.si .i64 (f true b).2],.ex⟩],some [],[((!((f true b).2 == 0)),true),((!((f false a).2 == 0)),false),(rt ⟨a,b⟩,true),((!(n == 0)),false)]) := by kernel_rfl
theorem csqrt_p4 (f:Bool → F → F × Int) (t:Nat) (n:Int) (a b:F):takeR 1 ((run Tryz.prog EG (OISq f) 60).1 37 (.p 0 0 :: [.agg [.fl a,.fl b]]) [⟨t,[.si .i64 n],.ex⟩] (some [false,true,false,false])) = some (.agg [.fl (f false a).1,.fl (f true b).1],[⟨t,[.si .i64 n],.ex⟩],some [],[((!((f true b).2 == 0)),false),((!((f false a).2 == 0)),false),(rt ⟨a,b⟩,true),((!(n == 0)),false)]) := by kernel_rfl
theorem csqrt_I:OfOk Tryz.prog 37 (kC (aI (cSqrt qSqrt))) := by
 refine ofI fun a b t n => ?_
 cases h0:(!(n == 0))
 ·cases h1:rt ⟨a,b⟩
  ·exact calc_path goodG oracleISq (csqrt_p1 qSqrt t n a b) (obsB_yes h1 (obsB_yes h0 obsB_nil)) (by simp only [cSqrt,askI,I.zero,h0,h1,cond_true,cond_false]) rfl
  ·cases h3:(!((qSqrt false a).2 == 0))
   ·cases h4:(!((qSqrt true b).2 == 0))
    ·exact calc_path goodG oracleISq (csqrt_p4 qSqrt t n a b) (obsB_yes h4 (obsB_yes h3 (obsB_yes h1 (obsB_yes h0 obsB_nil)))) (by simp only [cSqrt,askI,endsI,I.zero,h0,h1,h3,h4,cond_true,cond_false]) rfl
    ·exact calc_path goodG oracleISq (csqrt_p3 qSqrt t n a b) (obsB_yes h4 (obsB_yes h3 (obsB_yes h1 (obsB_yes h0 obsB_nil)))) (by simp only [cSqrt,askI,endsI,I.zero,h0,h1,h3,h4,cond_true,cond_false]) rfl
   ·exact calc_path goodG oracleISq (csqrt_p2 qSqrt t n a b) (obsB_yes h3 (obsB_yes h3 (obsB_yes h1 (obsB_yes h0 obsB_nil)))) (by simp only [cSqrt,askI,endsI,I.zero,h0,h1,h3,cond_true,cond_false]) rfl
 ·exact calc_path goodG oracleISq (csqrt_p0 qSqrt t n a b) (obsB_yes h0 obsB_nil) (by simp only [cSqrt,askI,I.zero,h0,cond_true]) rfl
theorem bwRun (a b:F) (n:Int):valR ((run Tryz.prog EG OIM 80).1 36 [.fl a,.fl b,.si .u32 n] [] (some [false,false])) = some (.fl (bwX a b n),some [],(decide (b.k < (bwX a b n).k),false) :: (decide ((bwX a b n).k < a.k),false) :: bwO a b n) := by kernel_rfl
theorem bwRun1 (a b:F) (n:Int):valR ((run Tryz.prog EG OIM 80).1 36 [.fl a,.fl b,.si .u32 n] [] (some [true])) = some (.fl a,some [],(decide ((bwX a b n).k < a.k),true) :: bwO a b n) := by kernel_rfl
theorem bwRun2 (a b:F) (n:Int):valR ((run Tryz.prog EG OIM 80).1 36 [.fl a,.fl b,.si .u32 n] [] (some [false,true])) = some (.fl b,some [],(decide (b.k < (bwX a b n).k),true) :: (decide ((bwX a b n).k < a.k),false) :: bwO a b n) := by kernel_rfl
theorem bwG:PlainOk Tryz.prog 36 (kBw bwF pairB wN32) := by
 intro args ds x ds' ob h ho
 unfold kBw at h
 split at h
 ·rename_i a b u
  split at h
  ·rename_i n hk
   simp only [Option.some.injEq,Prod.mk.injEq] at h; obtain ⟨rfl,_,rfl⟩ := h
   have hp:pairB a b = true := ho _ (List.mem_cons_self ..)
   have hn:wN32 n = true := ho (_,true) (List.mem_cons_of_mem _ (List.mem_cons_self ..))
   have hO := bw_ok hp hn
   refine ⟨[.float .f64 a.b,.float .f64 b.b,.int .u32 n],.float .f64 (bwF a b n).b,plains_cons rfl (plains_cons rfl (plains_cons (intS_plain hk) plains_nil)),rfl,fun w => ?_⟩
   unfold bwF
   cases h1:decide ((bwX a b n).k < a.k)
   ·cases h2:decide (b.k < (bwX a b n).k)
    ·exact calls_of_val goodG oracleIM 80 (bwRun a b n) (ObsOk.of_B (obsB_yes h2 (obsB_yes h1 hO))) rfl rfl w
    ·exact calls_of_val goodG oracleIM 80 (bwRun2 a b n) (ObsOk.of_B (obsB_yes h2 (obsB_yes h1 hO))) rfl rfl w
   ·exact calls_of_val goodG oracleIM 80 (bwRun1 a b n) (ObsOk.of_B (obsB_yes h1 hO)) rfl rfl w
  ·cases h
 ·cases h
theorem meetsRun0 (a b c d:F):valR ((run Tryz.prog EG OIM 80).1 27 [.agg [.fl a,.fl b],.agg [.fl c,.fl d]] [] (some [false])) = some (.b false,some [],[(decide (a.k ≤ d.k),false)]) := by kernel_rfl
theorem meetsRun1 (a b c d:F) (h:Bool):valR ((run Tryz.prog EG OIM 80).1 27 [.agg [.fl a,.fl b],.agg [.fl c,.fl d]] [] (some [true,h])) = some (.b h,some [],[(decide (c.k ≤ b.k),h),(decide (a.k ≤ d.k),true)]) := by cases h <;> kernel_rfl
theorem meetsG:PlainOk Tryz.prog 27 (kBII meetsB) := by
 intro args ds x ds' ob h ho
 unfold kBII at h
 split at h
 ·rename_i a b c d
  simp only [Option.map_eq_some_iff,Prod.mk.injEq] at h
  obtain ⟨⟨r,e,o⟩,h1,rfl,rfl,rfl⟩ := h
  have hd:r = meetsB ⟨a,b⟩ ⟨c,d⟩ := takeB_ok h1 ho
  subst hd
  refine ⟨[.agg #[.float .f64 a.b,.float .f64 b.b],.agg #[.float .f64 c.b,.float .f64 d.b]],.bool (meetsB ⟨a,b⟩ ⟨c,d⟩),rfl,rfl,fun w => ?_⟩
  unfold meetsB
  cases h1:decide (a.k ≤ d.k)
  ·exact calls_of_val goodG oracleIM 80 (meetsRun0 a b c d) (ObsOk.of_B (obsB_yes h1 obsB_nil)) rfl rfl w
  ·rw [Bool.true_and]
   exact calls_of_val goodG oracleIM 80 (meetsRun1 a b c d _) (ObsOk.of_B (obsB_yes rfl (obsB_yes h1 obsB_nil))) rfl rfl w
 ·cases h
def OCL (K:Kk):List (Nat × OF) := [(42,kC (aII K.add)),(39,kC (aII K.sub)),(28,kC (aII K.mul)),(65,kC (aII K.div)),(38,kC (aII K.max)),(40,kC (aI K.sqr)),(37,kC (aI K.sqrt))] ++
 [(109,kC (aI K.neg))] ++
 [(35,kC (aF K.num)),(67,plainO (kBI rt)),(60,plainO oRight),(59,plainO kAbs),(64,plainO (oI1 withI)),(29,plainO (oConst (.agg [.fl PIc.lo,.fl PIc.hi])))]
theorem absG:PlainOk Tryz.prog 59 kAbs := by
 intro args ds x ds' ob h ho
 unfold kAbs at h
 split at h
 ·rename_i x
  simp only [Option.some.injEq,Prod.mk.injEq] at h
  obtain ⟨rfl,_,_⟩ := h
  exact ⟨[.float .f64 x.b],_,rfl,rfl,fun w => (abs_F x w).mono fun e w' ⟨h1,h2⟩ => ⟨h1,h2 ▸ Below.refl _ _⟩⟩
 ·cases h
theorem vwRun0 (a b:F):valR ((run Tryz.prog EG OIM 60).1 64 [.agg [.fl a,.fl b]] [] (some [true])) = some (.agg [.fl F.zero,.fl F.zero],some [],[(decide ((mnF b one64).k < (mxF a mone64).k),true)]) := by kernel_rfl
theorem vwRun1 (a b:F):valR ((run Tryz.prog EG OIM 60).1 64 [.agg [.fl a,.fl b]] [] (some [false])) = some (.agg [.fl (mxF a mone64),.fl (mnF b one64)],some [],[(decide ((mnF b one64).k < (mxF a mone64).k),false)]) := by kernel_rfl
theorem vwG:PlainOk Tryz.prog 64 (oI1 withI) := by
 intro args ds x ds' ob h ho
 unfold oI1 at h
 split at h
 ·rename_i a b
  simp only [Option.some.injEq,Prod.mk.injEq] at h
  obtain ⟨rfl,_,_⟩ := h
  refine ⟨[.agg #[.float .f64 a.b,.float .f64 b.b]],_,rfl,rfl,fun w => ?_⟩
  cases h1:decide ((mnF b one64).k < (mxF a mone64).k)
  ·rw [show withI ⟨a,b⟩ = ⟨mxF a mone64,mnF b one64⟩ from by simp only [withI,h1,cond_false]]
   exact calls_of_val goodG oracleIM 60 (vwRun1 a b) (ObsOk.of_B (obsB_yes h1 obsB_nil)) rfl rfl w
  ·rw [show withI ⟨a,b⟩ = ⟨F.zero,F.zero⟩ from by simp only [withI,I.zero,h1,cond_true]]
   exact calls_of_val goodG oracleIM 60 (vwRun0 a b) (ObsOk.of_B (obsB_yes h1 obsB_nil)) rfl rfl w
 ·cases h
def OPi:OracleF := lookO [(83,plainO (kNx nextF))]
theorem oraclePi:OracleOk Tryz.prog OPi := .cons nextG.of (.nil _)
def OPiK (f:F → Bool → F × Int):OracleF := lookO [(83,plainO (kNx f))]
theorem piRun (f:F → Bool → F × Int):valR ((run Tryz.prog EG (OPiK f) 60).1 29 [] [] (some [])) = some (.agg [.fl pi64,.fl (f pi64 true).1],some [],[]) := by kernel_rfl
theorem piG:PlainOk Tryz.prog 29 (oConst (.agg [.fl PIc.lo,.fl PIc.hi])) := constG rfl fun w => calls_of_val goodG oraclePi 60 (piRun nextF) (ObsOk.of_B obsB_nil) rfl rfl w
theorem oracleCL:OracleOk Tryz.prog (lookO (OCL KkR)) :=
 .cons addC <| .cons subC <| .cons mulC <| .cons divC <| .cons cmax_I <| .cons sqrC <| .cons csqrt_I <|
 .cons negC <|
 .cons numC <| .cons irtK.of <| .cons rightG.of <| .cons absG.of <| .cons vwG.of <| .cons piG.of <| .nil _
def ivS (a:I):SV := .agg [.fl a.lo,.fl a.hi]
theorem unRun (K:Kk) (x y z:F):valR ((run Tryz.prog EG (lookO (OCL K)) 80).1 17 [.agg [.fl x,.fl y,.fl z]] [] (some [false,false])) = some (.tup [(unV K x y z).sv,.i .i64 0],some [],[(decide (huge64.k < (mostF x y z).k),false),(decide ((mostF x y z).k < tiny64.k),false)]) := by kernel_rfl
theorem unRun1 (K:Kk) (x y z:F):valR ((run Tryz.prog EG (lookO (OCL K)) 80).1 17 [.agg [.fl x,.fl y,.fl z]] [] (some [true])) = some (.tup [V3.zero.sv,.i .i64 50],some [],[(decide ((mostF x y z).k < tiny64.k),true)]) := by kernel_rfl
theorem unRun2 (K:Kk) (x y z:F):valR ((run Tryz.prog EG (lookO (OCL K)) 80).1 17 [.agg [.fl x,.fl y,.fl z]] [] (some [false,true])) = some (.tup [V3.zero.sv,.i .i64 50],some [],[(decide (huge64.k < (mostF x y z).k),true),(decide ((mostF x y z).k < tiny64.k),false)]) := by kernel_rfl
theorem ggDRun (K:Kk) (c al:I):valR ((run Tryz.prog EG (lookO (OCL K)) 80).1 300 [ivS c,ivS al] [] (some [true,true,true,true,true,true,false])) = some (.tup [ivS (gt (ggE K ggD c al).1 0),.i .i64 0],some [],(neB (ggE K ggD c al).2,false) :: ggO c al) := by kernel_rfl
theorem ggDRun1 (K:Kk) (c al:I):valR ((run Tryz.prog EG (lookO (OCL K)) 80).1 300 [ivS c,ivS al] [] (some [true,true,true,true,true,true,true])) = some (.tup [ivS I.zero,.si .i64 (ggE K ggD c al).2],some [],(neB (ggE K ggD c al).2,true) :: ggO c al) := by kernel_rfl
theorem gg1Run (K:Kk) (c al:I):valR ((run Tryz.prog EG (lookO (OCL K)) 80).1 302 [ivS c,ivS al] [] (some [true,true,true,true,true,true,false])) = some (.tup [ivS (gt (ggE K gg1 c al).1 0),.i .i64 0],some [],(neB (ggE K gg1 c al).2,false) :: ggO c al) := by kernel_rfl
theorem gg1Run1 (K:Kk) (c al:I):valR ((run Tryz.prog EG (lookO (OCL K)) 80).1 302 [ivS c,ivS al] [] (some [true,true,true,true,true,true,true])) = some (.tup [ivS I.zero,.si .i64 (ggE K gg1 c al).2],some [],(neB (ggE K gg1 c al).2,true) :: ggO c al) := by kernel_rfl
theorem neB_0 {e:Int} (h:neB e = false):e = 0 := by unfold neB at h; simpa using h
theorem gg_known {g:FuncId} {p:List Bu.Op}
  (h0:∀ (K:Kk) (c al:I),valR ((run Tryz.prog EG (lookO (OCL K)) 80).1 g [ivS c,ivS al] [] (some [true,true,true,true,true,true,false])) = some (.tup [ivS (gt (ggE K p c al).1 0),.i .i64 0],some [],(neB (ggE K p c al).2,false) :: ggO c al))
  (h1:∀ (K:Kk) (c al:I),valR ((run Tryz.prog EG (lookO (OCL K)) 80).1 g [ivS c,ivS al] [] (some [true,true,true,true,true,true,true])) = some (.tup [ivS I.zero,.si .i64 (ggE K p c al).2],some [],(neB (ggE K p c al).2,true) :: ggO c al)):PlainOk Tryz.prog g (kGg (ggR KkR p)) := by
 intro args ds x ds' ob h ho
 unfold kGg at h
 split at h
 ·rename_i a b c d
  simp only [Option.some.injEq,Prod.mk.injEq] at h
  obtain ⟨rfl,_,rfl⟩ := h
  refine ⟨[.agg #[.float .f64 a.b,.float .f64 b.b],.agg #[.float .f64 c.b,.float .f64 d.b]],_,rfl,rfl,fun w => ?_⟩
  unfold ggR
  cases k:neB (ggE KkR p ⟨a,b⟩ ⟨c,d⟩).2
  ·have r := h0 KkR ⟨a,b⟩ ⟨c,d⟩
   exact calls_of_val goodG oracleCL 80 r (fun q hq => by
    rcases List.mem_cons.1 hq with rfl | hq
    ·exact k
    ·exact ho q hq) rfl rfl w
  ·have r := h1 KkR ⟨a,b⟩ ⟨c,d⟩
   exact calls_of_val goodG oracleCL 80 r (fun q hq => by
    rcases List.mem_cons.1 hq with rfl | hq
    ·exact k
    ·exact ho q hq) rfl rfl w
 ·cases h
theorem ggDG:PlainOk Tryz.prog 300 (kGg (ggR KkR ggD)) := gg_known ggDRun ggDRun1
theorem gg1G:PlainOk Tryz.prog 302 (kGg (ggR KkR gg1)) := gg_known gg1Run gg1Run1
theorem unG:PlainOk Tryz.prog 17 (kUn (unV KkR) unB) := by
 intro args ds x ds' ob h ho
 unfold kUn at h
 split at h
 ·rename_i x y z
  simp only [Option.map_eq_some_iff,Prod.mk.injEq] at h
  obtain ⟨⟨r,e,o⟩,h1,rfl,rfl,rfl⟩ := h
  have hd:r = unB x y z := takeB_ok h1 ho
  subst hd
  unfold unB
  cases k1:decide ((mostF x y z).k < tiny64.k)
  ·cases k2:decide (huge64.k < (mostF x y z).k)
   ·exact ⟨[.agg #[.float .f64 x.b,.float .f64 y.b,.float .f64 z.b]],_,rfl,rfl,fun w => calls_of_val goodG oracleCL 80 (unRun KkR x y z) (ObsOk.of_B (obsB_yes k2 (obsB_yes k1 obsB_nil))) rfl rfl w⟩
   ·exact ⟨[.agg #[.float .f64 x.b,.float .f64 y.b,.float .f64 z.b]],_,rfl,rfl,fun w => calls_of_val goodG oracleCL 80 (unRun2 KkR x y z) (ObsOk.of_B (obsB_yes k2 (obsB_yes k1 obsB_nil))) rfl rfl w⟩
  ·exact ⟨[.agg #[.float .f64 x.b,.float .f64 y.b,.float .f64 z.b]],_,rfl,rfl,fun w => calls_of_val goodG oracleCL 80 (unRun1 KkR x y z) (ObsOk.of_B (obsB_yes k1 obsB_nil)) rfl rfl w⟩
 ·cases h
end Go.Proofs.YtejcekikbnlllaaGreat
namespace Go.Proofs.YtejcekikbnlllaaGreat
open Go Go.RowKit Bu Rx
theorem mk_okP {a b c:F} (h:rt ⟨a,b⟩ = true) (h1:c.k ≤ a.k) (h2:b.k ≤ one64.k):okP (a.b,b.b,c.b) := ⟨a,b,c,rfl,rfl,rfl,h,h1,h2⟩
theorem lit_b:mone64.b = 13830554455654793216 ∧ z64.b = 0 := by decide +kernel
theorem dir_ok {v:V3} (h:ObsOk (dirO v)):okP (v.x.lo.b,v.x.hi.b,mone64.b) ∧ okP (v.y.lo.b,v.y.hi.b,mone64.b) ∧ okP (v.z.lo.b,v.z.hi.b,z64.b) := by
 have m:∀ q ∈ dirO v,q.1 = q.2 := h
 have g:∀ {c:Bool},(c,true) ∈ dirO v → c = true := fun hq => m _ hq
 refine ⟨mk_okP (g (.tail _ (.tail _ (.tail _ (.tail _ (.tail _ (.tail _ (.tail _ (.tail _ (.head _)))))))))) (of_decide_eq_true (g (.tail _ (.tail _ (.tail _ (.tail _ (.tail _ (.head _)))))))) (of_decide_eq_true (g (.tail _ (.tail _ (.tail _ (.tail _ (.head _))))))),
  mk_okP (g (.tail _ (.tail _ (.tail _ (.tail _ (.tail _ (.tail _ (.tail _ (.head _))))))))) (of_decide_eq_true (g (.tail _ (.tail _ (.tail _ (.head _)))))) (of_decide_eq_true (g (.tail _ (.tail _ (.head _))))),
  mk_okP (g (.tail _ (.tail _ (.tail _ (.tail _ (.tail _ (.tail _ (.head _)))))))) (of_decide_eq_true (g (.tail _ (.head _)))) (of_decide_eq_true (g (.head _)))⟩
def kMlook:OF := fun args M ds => match args with
 | [.sl n 0 2 _] => match M[n]? with
   | some ⟨_,[.fl a,.fl b,.fl c,.fl d,.fl e,.fl f,.fl g,.fl h,.fl i,.fl j,.fl k,.fl l],.ex⟩ => some (.i .i64 0,M,ds,dirO ⟨⟨a,b⟩,⟨c,d⟩,⟨e,f⟩⟩ ++ dirO ⟨⟨g,h⟩,⟨i,j⟩,⟨k,l⟩⟩)
   | _ => none
 | _ => none
theorem look_w (v u:V3) (hv:ObsOk (dirO v)) (hu:ObsOk (dirO u)) (r cap:Nat) (t:TypeId) (w:World)
  (hr:w.heap[r]? = some (.cells #[.float .f64 v.x.lo.b,.float .f64 v.x.hi.b,.float .f64 v.y.lo.b,.float .f64 v.y.hi.b,.float .f64 v.z.lo.b,.float .f64 v.z.hi.b,.float .f64 u.x.lo.b,.float .f64 u.x.hi.b,.float .f64 u.y.lo.b,.float .f64 u.y.hi.b,.float .f64 u.z.lo.b,.float .f64 u.z.hi.b] t (0,0))) :
  Calls Tryz.prog 298 #[.slice (some ⟨r,0,none⟩) 2 cap] w fun e w' => e = .returned (.int .i64 0) ∧ Below w.heap.size w w' := by
 obtain ⟨v1,v2,v3⟩ := dir_ok hv
 obtain ⟨u1,u2,u3⟩ := dir_ok hu
 refine (callsIn_wide (n := 8)).1 (look_in _ 8 trivial trivial trivial trivial rfl (by omega) (fun m q w hq => callsIn_wide.2 (right_pt hq w)) r cap
  (fun j => match j with
   | 0 => ⟨_,v1⟩
   | 1 => ⟨_,v2⟩
   | 2 => ⟨_,v3⟩
   | 3 => ⟨_,u1⟩
   | 4 => ⟨_,u2⟩
   | _ => ⟨_,u3⟩) w (Array.getElem?_eq_some_iff.1 hr).1 ⟨fun j hj => ?_,lit_b.1,lit_b.1,lit_b.2,lit_b.1,lit_b.1,lit_b.2⟩)
 match j,hj with
 | 0,_ => simp [World.cell?,hr]
 | 1,_ => simp [World.cell?,hr]
 | 2,_ => simp [World.cell?,hr]
 | 3,_ => simp [World.cell?,hr]
 | 4,_ => simp [World.cell?,hr]
 | 5,_ => simp [World.cell?,hr]
theorem mlook_ok:OfOk Tryz.prog 298 kMlook := by
 intro args M ds x M' ds' ob h ho m w vs hvs hM
 unfold kMlook at h
 split at h
 ·rename_i n cap
  split at h
  ·rename_i t a b c d e f g h' i j k l hb
   simp only [Option.some.injEq,Prod.mk.injEq] at h
   obtain ⟨rfl,rfl,_,rfl⟩ := h
   obtain ⟨r,hr,hat⟩ := hM.blk n _ hb
   obtain ⟨cv,hcv,hh⟩ := hat.ex
   have e1:vs = [.slice (some ⟨r,0,none⟩) 2 cap] := by
    simp [dens,den,hr] at hvs; exact hvs.symm
   have e2:cv = [.float .f64 a.b,.float .f64 b.b,.float .f64 c.b,.float .f64 d.b,.float .f64 e.b,.float .f64 f.b,.float .f64 g.b,.float .f64 h'.b,.float .f64 i.b,.float .f64 j.b,.float .f64 k.b,.float .f64 l.b] := by
    simp [dens,den] at hcv; exact hcv.symm
   subst e1; subst e2
   exact (look_w ⟨⟨a,b⟩,⟨c,d⟩,⟨e,f⟩⟩ ⟨⟨g,h'⟩,⟨i,j⟩,⟨k,l⟩⟩ (fun q hq => ho q (List.mem_append_left _ hq)) (fun q hq => ho q (List.mem_append_right _ hq)) r cap t w hh).mono fun e w' ⟨he,hb⟩ => ⟨m,_,he,CallPost.same hM rfl hb⟩
  ·cases h
 ·cases h
end Go.Proofs.YtejcekikbnlllaaGreat
namespace Bu
open Rx Go
def InB (a b:I):Prop := b.lo.k ≤ a.lo.k ∧ a.hi.k ≤ b.hi.k ∧ a.lo.k ≤ a.hi.k
theorem InB.inn {a b:I} (h:InB a b):Inn a b := ⟨q_le.2 h.1,q_le.2 h.2.1,decide_eq_true h.2.2⟩
theorem Inn.inB {a b:I} (h:Inn a b):InB a b := ⟨q_le.1 h.lo,q_le.1 h.hi,of_decide_eq_true h.rt⟩
def monoB:Bu.Op → Bool
 | .lit a => rt a
 | .fn _ _ | .fn2 _ _ _ | .wi _ => false
 | _ => true
theorem mono_all {l:List Bu.Op} (h:l.all monoB = true):∀ o ∈ l,MonoO o := by
 intro o ho
 have := List.all_eq_true.1 h o ho
 cases o <;> first | trivial | exact this | cases this
def AllIn:List I → List I → Prop
 | [],[] => True
 | a :: v,b :: w => InB a b ∧ AllIn v w
 | _,_ => False
theorem AllIn.inn:∀ {v w:List I},AllIn v w → ∀ i,Inn (gt v i) (gt w i)
 | [],[],_,i => Inn.refl (gt_rt (v := []) (fun _ h => by cases h) i)
 | a :: v,b :: w,h,0 => h.1.inn
 | a :: v,b :: w,h,i + 1 => AllIn.inn (v := v) (w := w) h.2 i
 | [],_ :: _,h,_ => h.elim
 | _ :: _,[],h,_ => h.elim
theorem box {l:List Bu.Op} {v w:List I} (hm:l.all monoB = true) (hv:AllIn v w) (h:(evalK KkR l w 0).2 = 0):(evalK KkR l v 0).2 = 0 ∧ ∀ i,Inn (gt (evalK KkR l v 0).1 i) (gt (evalK KkR l w 0).1 i) := eval_inn (mono_all hm) hv.inn h
def four64:F := toF 4616189618054758400
def three64:F := toF 4613937818241073152
def minIo:F := toF 4607463893776728064
def minMt:F := toF 4589168020290535424
def maxMt:F := toF 4625196817309499392
def frD:List Op := [.num (one64),.sqr 2,.sub 0 1,.sqr 3,.add 1 0,.sqrt 0,.sub 0 6,.add 1 7,.div 1 0,.sqr 0,.add 4 10,.mul 11 0,.sub 0 11,.sub 7 13,.mul 14 0,.add 0 14,.div 3 0,.sqr 0,.num (q2),.mul 0 9,.add 19 2,.mul 1 0,.kept z64 one64 0]
def frC:List Op := [.num (q2),.sqr 1,.num (one64),.sub 0 1,.kept z64 one64 0,.sqr 6,.sqr 8,.sub 1 0,.sub 0 3,.sqr 0,.num (four64),.mul 5 4,.mul 1 0,.add 3 0,.sqrt 0,.add 0 6,.num (z64),.max 1 0,.mul 17 0,.sqrt 0,.add 5 18,.num (two64),.mul 0 2,.mul 0 23,.sub 3 0,.add 4 1,.div 1 0,.kept z64 one64 0,.mul 26 13,.sqr 24,.add 1 0,.mul 7 26,.sub 1 0,.add 2 1,.div 1 0,.mul 7 0,.kept z64 one64 0,.add 9 0,.mul 37 0]
def miH:List Op := [.add 5 2,.add 5 2,.add 5 2,.sqr 2,.sqr 2,.add 1 0,.sqr 3,.add 1 0,.sqrt 0,.num (q2),.mul 0 1,.kept z64 one64 0,.add 15 12,.div 0 4,.kept z64 one64 0]
def miV:List Op := [.num (four64),.mul 3 2,.mul 1 6,.mul 0 6,.div 2 0,.mul 5 7,.mul 5 9,.div 1 0]
def gg2:List Op := [.sqr 2,.num (one64),.sqr 3,.num (one64),.sub 0 1,.div 0 2,.num (q2),.num (one64),.mul 7 2,.add 1 0,.sqrt 0,.num (one64),.sub 1 0,.mul 6 0,.hid 0,.add 13 0,.sqr 16,.num (one64),.sub 0 1,.div 0 2,.num (q2),.num (one64),.mul 21 2,.add 1 0,.sqrt 0,.num (one64),.sub 1 0,.mul 6 0,.hid 0,.add 13 0,.num (one64),.div 0 1]
def lbV:List Op := [.lit (PIc),.div 1 0]
def bz1:I := ⟨z64,one64⟩
def bn:I := ⟨minIo,four64⟩
def bm:I := ⟨minMt,maxMt⟩
def b11:I := ⟨mone64,one64⟩
def bzz:I := ⟨toF 4575657221408423936,one64⟩
theorem Dn.one {r s:F} {v:Rat} (h:Dn r v) (k:Dn s v):r = s := by
 have a := h.top _ k.le; have b := k.top _ h.le
 exact q_inj (by grind)
theorem Up.one {r s:F} {v:Rat} (h:Up r v) (k:Up s v):r = s := by
 have a := h.bot _ k.ge; have b := k.bot _ h.ge
 exact q_inj (by grind)
theorem RD.one {v:Rat} {p s:F × Int} (h:RD v p) (k:RD v s):p.2 = s.2 ∧ (p.2 = 0 → p.1 = s.1) := by
 rcases h with ⟨a,b⟩ | ⟨a,b⟩ <;> rcases k with ⟨c,d⟩ | ⟨c,d⟩
 ·exact ⟨by rw [a,c],fun _ => b.one d⟩
 ·exact absurd (d p.1) (by have := b.le; grind)
 ·exact absurd (b s.1) (by have := d.le; grind)
 ·exact ⟨by rw [a,c],fun h => by rw [a] at h; exact absurd h (by decide)⟩
theorem RU.one {v:Rat} {p s:F × Int} (h:RU v p) (k:RU v s):p.2 = s.2 ∧ (p.2 = 0 → p.1 = s.1) := by
 rcases h with ⟨a,b⟩ | ⟨a,b⟩ <;> rcases k with ⟨c,d⟩ | ⟨c,d⟩
 ·exact ⟨by rw [a,c],fun _ => b.one d⟩
 ·exact absurd (d p.1) (by have := b.ge; grind)
 ·exact absurd (b s.1) (by have := d.ge; grind)
 ·exact ⟨by rw [a,c],fun h => by rw [a] at h; exact absurd h (by decide)⟩
theorem SqD.one {r s a:F} (h:SqD r a) (k:SqD s a):r = s := by
 have a := h.top _ k.nn k.le; have b := k.top _ h.nn h.le
 exact q_inj (by grind)
theorem SqU.one {r s a:F} (h:SqU r a) (k:SqU s a):r = s := by
 have a := h.bot _ k.nn k.ge; have b := k.bot _ h.nn h.ge
 exact q_inj (by grind)
theorem Dn.turn {r:F} {v:Rat} (h:Dn r v):Up r.neg (-v) := by
 refine ⟨by rw [q_neg]; have := h.le; grind,fun c hc => ?_⟩
 have := h.top c.neg (by rw [q_neg]; grind)
 rw [q_neg] at this ⊢; grind
theorem Up.turn {r:F} {v:Rat} (h:Up r v):Dn r.neg (-v) := by
 refine ⟨by rw [q_neg]; have := h.ge; grind,fun c hc => ?_⟩
 have := h.bot c.neg (by rw [q_neg]; grind)
 rw [q_neg] at this ⊢; grind
theorem I.one {a b:I} (h1:a.lo = b.lo) (h2:a.hi = b.hi):a = b := by cases a; cases b; simp only at h1 h2; subst h1; subst h2; rfl
theorem AllR.one {r u:I} {p q s t p' q' s' t':Rat} (h:AllR r p q s t) (k:AllR u p' q' s' t')
  (hp:(p' = p ∨ p' = q ∨ p' = s ∨ p' = t) ∧ (q' = p ∨ q' = q ∨ q' = s ∨ q' = t) ∧ (s' = p ∨ s' = q ∨ s' = s ∨ s' = t) ∧ (t' = p ∨ t' = q ∨ t' = s ∨ t' = t))
  (hk:(p = p' ∨ p = q' ∨ p = s' ∨ p = t') ∧ (q = p' ∨ q = q' ∨ q = s' ∨ q = t') ∧ (s = p' ∨ s = q' ∨ s = s' ∨ s = t') ∧ (t = p' ∨ t = q' ∨ t = s' ∨ t = t')):r = u := by
 obtain ⟨a1,a2,a3,a4⟩ := h.lo; obtain ⟨b1,b2,b3,b4⟩ := h.hi
 obtain ⟨c1,c2,c3,c4⟩ := k.lo; obtain ⟨d1,d2,d3,d4⟩ := k.hi
 have e1:∀ x,(x = p ∨ x = q ∨ x = s ∨ x = t) → r.lo.q ≤ x ∧ x ≤ r.hi.q := by rintro x (rfl | rfl | rfl | rfl) <;> exact ⟨by assumption,by assumption⟩
 have e2:∀ x,(x = p' ∨ x = q' ∨ x = s' ∨ x = t') → u.lo.q ≤ x ∧ x ≤ u.hi.q := by rintro x (rfl | rfl | rfl | rfl) <;> exact ⟨by assumption,by assumption⟩
 obtain ⟨p1,p2,p3,p4⟩ := hp; obtain ⟨k1,k2,k3,k4⟩ := hk
 have f1 := k.top (e1 _ p1).1 (e1 _ p2).1 (e1 _ p3).1 (e1 _ p4).1
 have f2 := h.top (e2 _ k1).1 (e2 _ k2).1 (e2 _ k3).1 (e2 _ k4).1
 have g1 := k.bot (e1 _ p1).2 (e1 _ p2).2 (e1 _ p3).2 (e1 _ p4).2
 have g2 := h.bot (e2 _ k1).2 (e2 _ k2).2 (e2 _ k3).2 (e2 _ k4).2
 exact I.one (q_inj (by grind)) (q_inj (by grind))
theorem turn_q (a:I):(turnI a).lo.q = -a.hi.q ∧ (turnI a).hi.q = -a.lo.q := ⟨q_neg _,q_neg _⟩
theorem AllR.turn {r:I} {p q s t:Rat} (h:AllR r p q s t):AllR (turnI r) (-p) (-q) (-s) (-t) := by
 obtain ⟨a1,a2,a3,a4⟩ := h.lo; obtain ⟨b1,b2,b3,b4⟩ := h.hi
 obtain ⟨e1,e2⟩ := turn_q r
 refine ⟨⟨by grind,by grind,by grind,by grind⟩,⟨by grind,by grind,by grind,by grind⟩,?_,?_⟩
 ·rcases h.hiE with k | k | k | k
  ·exact .inl k.turn
  ·exact .inr (.inl k.turn)
  ·exact .inr (.inr (.inl k.turn))
  ·exact .inr (.inr (.inr k.turn))
 ·rcases h.loE with k | k | k | k
  ·exact .inl k.turn
  ·exact .inr (.inl k.turn)
  ·exact .inr (.inr (.inl k.turn))
  ·exact .inr (.inr (.inr k.turn))
section
variable {v w:List I} {i j i' j':Nat} {r u:I}
theorem s_add (h:Fact (.add i j) v r) (k:Fact (.add i' j') w u) (a:gt w i' = gt v i) (b:gt w j' = gt v j):u = r := by
 have k1 := k.1; have k2 := k.2
 rw [a,b] at k1 k2
 exact I.one (k1.one h.1) (k2.one h.2)
theorem s_add_c (h:Fact (.add i j) v r) (k:Fact (.add i' j') w u) (a:gt w i' = gt v j) (b:gt w j' = gt v i):u = r := by
 have k1 := k.1; have k2 := k.2
 rw [a,b,Rat.add_comm] at k1 k2
 exact I.one (k1.one h.1) (k2.one h.2)
theorem s_add_t (h:Fact (.add i j) v r) (k:Fact (.add i' j') w u) (a:gt w i' = turnI (gt v i)) (b:gt w j' = turnI (gt v j)):u = turnI r := by
 have k1 := k.1; have k2 := k.2
 obtain ⟨e1,e2⟩ := turn_q (gt v i); obtain ⟨e3,e4⟩ := turn_q (gt v j)
 rw [a,b,e1,e3,show ∀ x y:Rat,-x + -y = -(x + y) from fun x y => by grind] at k1
 rw [a,b,e2,e4,show ∀ x y:Rat,-x + -y = -(x + y) from fun x y => by grind] at k2
 exact I.one (k1.one h.2.turn) (k2.one h.1.turn)
theorem s_sub_t (h:Fact (.sub i j) v r) (k:Fact (.sub i' j') w u) (a:gt w i' = gt v j) (b:gt w j' = gt v i):u = turnI r := by
 have k1 := k.1; have k2 := k.2
 rw [a,b,show ∀ x y:Rat,x - y = -(y - x) from fun x y => by grind] at k1 k2
 exact I.one (k1.one h.2.turn) (k2.one h.1.turn)
theorem s_sub_c (h:Fact (.sub i j) v r) (k:Fact (.sub i' j') w u) (a:gt w i' = turnI (gt v j)) (b:gt w j' = turnI (gt v i)):u = r := by
 have k1 := k.1; have k2 := k.2
 obtain ⟨e1,e2⟩ := turn_q (gt v i); obtain ⟨e3,e4⟩ := turn_q (gt v j)
 rw [a,b,e2,e3,show ∀ x y:Rat,-y - -x = x - y from fun x y => by grind] at k1
 rw [a,b,e1,e4,show ∀ x y:Rat,-y - -x = x - y from fun x y => by grind] at k2
 exact I.one (k1.one h.1) (k2.one h.2)
theorem s_mul (h:Fact (.mul i j) v r) (k:Fact (.mul i' j') w u) (a:gt w i' = gt v i) (b:gt w j' = gt v j):u = r := by
 have k1:AllR u _ _ _ _ := k
 rw [a,b] at k1
 exact k1.one h (by simp) (by simp)
theorem s_mul_t (h:Fact (.mul i j) v r) (k:Fact (.mul i' j') w u) (a:gt w i' = gt v i) (b:gt w j' = turnI (gt v j)):u = turnI r := by
 have k1:AllR u _ _ _ _ := k
 obtain ⟨e3,e4⟩ := turn_q (gt v j)
 rw [a,b,e3,e4,Rat.mul_neg,Rat.mul_neg,Rat.mul_neg,Rat.mul_neg] at k1
 exact k1.one (AllR.turn h) (by simp) (by simp)
theorem s_div (h:Fact (.div i j) v r) (k:Fact (.div i' j') w u) (a:gt w i' = gt v i) (b:gt w j' = gt v j):u = r := by
 have k1:AllR u _ _ _ _ := k.2
 rw [a,b] at k1
 exact k1.one h.2 (by simp) (by simp)
theorem neg_div' (x y:Rat):-x / y = -(x / y) := by rw [Rat.div_def,Rat.div_def,Rat.neg_mul]
theorem s_div_t (h:Fact (.div i j) v r) (k:Fact (.div i' j') w u) (a:gt w i' = turnI (gt v i)) (b:gt w j' = gt v j):u = turnI r := by
 have k1:AllR u _ _ _ _ := k.2
 obtain ⟨e3,e4⟩ := turn_q (gt v i)
 rw [a,b,e3,e4,neg_div',neg_div',neg_div',neg_div'] at k1
 exact k1.one (AllR.turn h.2) (by simp) (by simp)
theorem s_sqrt (h:Fact (.sqrt i) v r) (k:Fact (.sqrt i') w u) (a:gt w i' = gt v i):u = r := by
 have k1 := k.2.1; have k2 := k.2.2
 rw [a] at k1 k2
 exact I.one (k1.one h.2.1) (k2.one h.2.2)
theorem s_sqr (h:Fact (.sqr i) v r) (k:Fact (.sqr i') w u) (a:gt w i' = gt v i):u = r := by
 have k1 := k.1; have k2 := k.2
 rw [a] at k1 k2
 exact I.one (k1.one h.1) (k2.one h.2)
theorem s_max (h:Fact (.max i j) v r) (k:Fact (.max i' j') w u) (a:gt w i' = gt v i) (b:gt w j' = gt v j):u = r := by
 have k1:u = _ := k
 rw [a,b] at k1
 exact k1.trans (Eq.symm h)
theorem s_kept {l m:F} (h:Fact (.kept l m i) v r) (k:Fact (.kept l m i') w u) (a:gt w i' = gt v i):u = r := by
 have k1:u = _ := k
 rw [a] at k1
 exact k1.trans (Eq.symm h)
theorem bare_turn {a:I} (hr:a.lo.k ≤ a.hi.k):bareI (turnI a) = bareI a := by
 have e1:(turnI a).lo.k = -a.hi.k := F.neg_k _
 have e2:(turnI a).hi.k = -a.lo.k := F.neg_k _
 have z:F.zero.k = 0 := rfl
 refine I.one (F.ext' ?_) (F.ext' ?_)
 ·unfold bareI
  by_cases c1:0 ≤ a.lo.k <;> by_cases c2:a.hi.k ≤ 0 <;> by_cases c3:0 ≤ (turnI a).lo.k <;> by_cases c4:(turnI a).hi.k ≤ 0 <;>
   simp only [c1,c2,c3,c4,decide_true,decide_false,cond_true,cond_false] <;> first | rfl | (simp only [turnI,F.neg_k] at *; omega)
 ·unfold bareI
  by_cases c1:0 ≤ a.lo.k <;> by_cases c2:a.hi.k ≤ 0 <;> by_cases c3:0 ≤ (turnI a).lo.k <;> by_cases c4:(turnI a).hi.k ≤ 0 <;>
   simp only [c1,c2,c3,c4,decide_true,decide_false,cond_true,cond_false] <;> first | rfl | (simp only [turnI,F.neg_k,mxF_k] at *; omega)
theorem s_sqr_t (h:Fact (.sqr i) v r) (k:Fact (.sqr i') w u) (a:gt w i' = turnI (gt v i)) (hr:(gt v i).lo.k ≤ (gt v i).hi.k):u = r := by
 have k1 := k.1; have k2 := k.2
 rw [a,bare_turn hr] at k1 k2
 exact I.one (k1.one h.1) (k2.one h.2)
theorem kept_turn (a:I):keptI (turnI a) mone64 one64 = turnI (keptI a mone64 one64) := by
 have l:mone64.k = -one64.k := by decide +kernel
 have p:0 ≤ one64.k := by decide +kernel
 refine I.one (F.ext' ?_) (F.ext' ?_) <;> (simp only [keptI,turnI,F.neg_k,mnF_k,mxF_k]; omega)
theorem s_kept_t (h:Fact (.kept mone64 one64 i) v r) (k:Fact (.kept mone64 one64 i') w u) (a:gt w i' = turnI (gt v i)):u = turnI r := by
 have k1:u = _ := k
 rw [a,kept_turn] at k1
 exact k1.trans (congrArg turnI (Eq.symm h))
end
def sgI (s:Bool) (a:I):I := bif s then turnI a else a
theorem turn_turn (a:I):turnI (turnI a) = a := I.one (F.ext' (by show (a.lo.neg.neg).k = _; rw [F.neg_k,F.neg_k]; omega)) (F.ext' (by show (a.hi.neg.neg).k = _; rw [F.neg_k,F.neg_k]; omega))
theorem sg_sg (s t:Bool) (a:I):sgI s (sgI t a) = sgI (s != t) a := by cases s <;> cases t <;> simp [sgI,turn_turn]
def ChainR:List Bu.Op → List I → List I → Prop
 | [],v,u => u = v
 | o :: l,v,u => ∃ r,(Fact o v r ∧ ArgsRt o v) ∧ ChainR l (r :: v) u
theorem eval_chainR:∀ {l:List Bu.Op} {v:List I} {e:Int},(evalK KkR l v e).2 = 0 → ChainR l v (evalK KkR l v e).1
 | [],_,_,_ => rfl
 | o :: l, v, e, h => by
   have h2 := eval_chainR (l := l) h
   obtain ⟨g1,g3,g2⟩ := step_fact (eval_chain (l := l) h).1
   exact ⟨_,⟨g2,g3⟩,h2⟩
theorem chain_drop:∀ {l:List Bu.Op} {v u:List I},ChainR l v u → u.drop l.length = v
 | [],v,u,h => h
 | o :: l, v, u, ⟨r, _, h⟩ => by
   have := chain_drop h
   rw [show (o :: l).length = l.length + 1 from rfl,← List.drop_drop,this]; rfl
theorem chain_at:∀ {l:List Bu.Op} {v u:List I},ChainR l v u → ∀ {p:Nat} {o:Bu.Op},l.reverse[p]? = some o → Fact o (u.drop (p + 1)) (gt u p) ∧ ArgsRt o (u.drop (p + 1))
 | [],_,_,_,p,o,h => by simp at h
 | o :: l, v, u, ⟨r, f, h⟩, p, o', hp => by
   rw [List.reverse_cons] at hp
   by_cases k:p < l.reverse.length
   ·rw [List.getElem?_append_left k] at hp
    exact chain_at h hp
   ·rw [List.getElem?_append_right (by omega)] at hp
    have hl:l.reverse.length = l.length := List.length_reverse
    have d := chain_drop h
    have e:p - l.reverse.length = 0 := by
     cases c:p - l.reverse.length with
     | zero => rfl
     | succ n => rw [c] at hp; simp at hp
    rw [e] at hp
    have pe:p = l.length := by omega
    subst pe
    have eo:o = o' := by simpa using hp
    subst eo
    have e1:gt u l.length = r := by
     have:(u.drop l.length)[0]? = some r := by rw [d]; rfl
     rw [List.getElem?_drop] at this
     unfold gt
     rw [List.getD_eq_getElem?_getD,show l.length = l.length + 0 from rfl,this]; rfl
    have e2:u.drop (l.length + 1) = v := by rw [← List.drop_drop,d]; rfl
    rw [e1,e2]; exact f
theorem gt_drop (u:List I) (p i:Nat):gt (u.drop p) i = gt u (p + i) := by
 unfold gt
 rw [List.getD_eq_getElem?_getD,List.getD_eq_getElem?_getD,List.getElem?_drop]
abbrev Sg := Nat × Bool
def twS (z:Bool) (x:Sg):Sg := (x.1,z != x.2)
def vS (u:List I) (x:Sg):I := sgI x.2 (gt u x.1)
theorem vs_tw (u:List I) (z:Bool) (x:Sg):vS u (twS z x) = sgI z (vS u x) := by unfold vS twS; rw [sg_sg]
def eqF (a b:F):Bool := decide (a.k = b.k)
theorem eqF_ok {a b:F} (h:eqF a b = true):a = b := F.ext' (of_decide_eq_true h)
def numAt (x:F):List Bu.Op → Nat → Option Nat
 | [],_ => none
 | o :: t, p => match o with
   | .num y => bif eqF x y then some p else numAt x t (p + 1)
   | _ => numAt x t (p + 1)
theorem numAt_ok {x:F} {L:List Bu.Op}:∀ {t:List Bu.Op} {p q:Nat},(∀ i,t[i]? = L[p + i]?) → numAt x t p = some q → L[q]? = some (.num x)
 | [],_,_,_,h => by cases h
 | o :: t, p, q, ht, h => by
   have h0:L[p]? = some o := by have := ht 0; simpa using this.symm
   have ih:numAt x t (p + 1) = some q → L[q]? = some (.num x) := numAt_ok (p := p + 1) (fun i => by have := ht (i + 1); rw [show p + 1 + i = p + (i + 1) from by omega,← this]; rfl)
   unfold numAt at h
   split at h
   ·rename_i y
    cases c:eqF x y
    ·rw [c] at h; exact ih h
    ·rw [c] at h
     have e:p = q := by simpa using h
     subst e
     rw [eqF_ok c]; exact h0
   ·exact ih h
def canon (L:List Bu.Op) (p:Nat):Sg := match L[p]? with
 | some (.neg i) => (p + 1 + i,true)
 | some (.num x) => ((numAt x L 0).getD p,false)
 | _ => (p,false)
theorem canon_ok {l:List Bu.Op} {v u:List I} (h:ChainR l v u) (p:Nat):vS u (canon l.reverse p) = gt u p := by
 unfold canon
 split
 ·rename_i i e
  have f:gt u p = turnI (gt (u.drop (p + 1)) i) := (chain_at h e).1
  rw [f,gt_drop]; rfl
 ·rename_i x e
  have f:gt u p = ⟨x,x⟩ := (chain_at h e).1
  show gt u _ = _
  cases c:numAt x l.reverse 0 with
  | none => rfl
  | some q =>
    have f':gt u q = ⟨x,x⟩ := (chain_at h (numAt_ok (fun i => by rw [Nat.zero_add]) c)).1
    rw [f]; exact f'
 ·rfl
def eqI (a b:I):Bool := eqF a.lo b.lo && eqF a.hi b.hi
theorem eqI_ok {a b:I} (h:eqI a b = true):a = b := by
 obtain ⟨h1,h2⟩ := both h
 exact I.one (eqF_ok h1) (eqF_ok h2)
def eqS (x y:Sg):Bool := x.1 == y.1 && x.2 == y.2
theorem eqS_ok {x y:Sg} (h:eqS x y = true):x = y := by
 obtain ⟨h1,h2⟩ := both h
 exact Prod.ext (by simpa using h1) (by simpa using h2)
def mate (L:List Bu.Op) (m:List Sg) (o' o:Bu.Op) (p:Nat) (z:Bool):Bool :=
 let X := fun i => m.getD i (0,false)
 let A := fun i => canon L (p + 1 + i)
 let has := fun i => decide (i < m.length)
 match o',o with
 | .add i j,.add a b => has i && has j && (eqS (X i) (twS z (A a)) && eqS (X j) (twS z (A b)) || eqS (X i) (twS z (A b)) && eqS (X j) (twS z (A a)))
 | .sub i j,.sub a b => has i && has j && (eqS (X i) (twS z (A a)) && eqS (X j) (twS z (A b)) || eqS (X i) (twS (!z) (A b)) && eqS (X j) (twS (!z) (A a)))
 | .mul i j,.mul a b => has i && has j && (eqS (X i) (A a) && eqS (X j) (twS z (A b)) || eqS (X i) (twS true (A a)) && eqS (X j) (twS (!z) (A b)) || eqS (X i) (A b) && eqS (X j) (twS z (A a)) || eqS (X i) (twS true (A b)) && eqS (X j) (twS (!z) (A a)))
 | .div i j,.div a b => has i && has j && eqS (X i) (twS z (A a)) && eqS (X j) (A b)
 | .max i j,.max a b => has i && has j && !z && (eqS (X i) (A a) && eqS (X j) (A b))
 | .sqr i,.sqr a => has i && !z && (eqS (X i) (A a) || eqS (X i) (twS true (A a)))
 | .sqrt i,.sqrt a => has i && !z && eqS (X i) (A a)
 | .num x,.num y => !z && eqF x y
 | .lit x,.lit y => !z && eqI x y
 | .kept l h i,.kept l' h' a => has i && eqF l l' && eqF h h' && (!z && eqS (X i) (A a) || z && eqF l mone64 && eqF h one64 && eqS (X i) (twS true (A a)))
 | .wi i,.wi a => has i && !z && eqS (X i) (A a)
 | .hid i,.hid a => has i && !z && eqS (X i) (A a)
 | _,_ => false
def Rel (m:List Sg) (w u:List I):Prop := ∀ i,i < m.length → gt w i = vS u (m.getD i (0,false))
theorem s_sub {v w:List I} {i j i' j':Nat} {r u:I} (h:Fact (.sub i j) v r) (k:Fact (.sub i' j') w u) (a:gt w i' = gt v i) (b:gt w j' = gt v j):u = r := by
 have k1 := k.1; have k2 := k.2
 rw [a,b] at k1 k2
 exact I.one (k1.one h.1) (k2.one h.2)
theorem s_sub_n {v w:List I} {i j i' j':Nat} {r u:I} (h:Fact (.sub i j) v r) (k:Fact (.sub i' j') w u) (a:gt w i' = turnI (gt v i)) (b:gt w j' = turnI (gt v j)):u = turnI r := by
 have k1 := k.1; have k2 := k.2
 obtain ⟨e1,e2⟩ := turn_q (gt v i); obtain ⟨e3,e4⟩ := turn_q (gt v j)
 rw [a,b,e1,e4,show ∀ x y:Rat,-x - -y = -(x - y) from fun x y => by grind] at k1
 rw [a,b,e2,e3,show ∀ x y:Rat,-x - -y = -(x - y) from fun x y => by grind] at k2
 exact I.one (k1.one h.2.turn) (k2.one h.1.turn)
theorem s_mul_sg {v w:List I} {i j i' j':Nat} {r u:I} {s t:Bool} (h:Fact (.mul i j) v r) (k:Fact (.mul i' j') w u) (a:gt w i' = sgI s (gt v i)) (b:gt w j' = sgI t (gt v j)):u = sgI (s != t) r := by
 have k1:AllR u _ _ _ _ := k
 obtain ⟨e1,e2⟩ := turn_q (gt v i); obtain ⟨e3,e4⟩ := turn_q (gt v j)
 cases s <;> cases t <;> simp only [sgI,cond_false,cond_true] at a b
 ·exact s_mul h k a b
 ·exact s_mul_t h k a b
 ·rw [a,b,e1,e2,Rat.neg_mul,Rat.neg_mul,Rat.neg_mul,Rat.neg_mul] at k1
  exact k1.one (AllR.turn h) (by simp) (by simp)
 ·rw [a,b,e1,e2,e3,e4,Rat.neg_mul,Rat.neg_mul,Rat.neg_mul,Rat.neg_mul,Rat.mul_neg,Rat.mul_neg,Rat.mul_neg,Rat.mul_neg,Rat.neg_neg,Rat.neg_neg,Rat.neg_neg,Rat.neg_neg] at k1
  exact k1.one h (by simp) (by simp)
theorem fact_swap {i j:Nat} {v:List I} {r:I} (h:Fact (.mul i j) v r):Fact (.mul j i) v r := by
 have k:AllR r _ _ _ _ := h
 show AllR r _ _ _ _
 rw [Rat.mul_comm,Rat.mul_comm (gt v i).lo.q (gt v j).hi.q,Rat.mul_comm (gt v i).hi.q (gt v j).lo.q,Rat.mul_comm (gt v i).hi.q] at k
 exact ⟨⟨k.lo.1,k.lo.2.2.1,k.lo.2.1,k.lo.2.2.2⟩,⟨k.hi.1,k.hi.2.2.1,k.hi.2.1,k.hi.2.2.2⟩,by rcases k.loE with e | e | e | e <;> simp [e],by rcases k.hiE with e | e | e | e <;> simp [e]⟩
theorem add_swap {i j:Nat} {v:List I} {r:I} (h:Fact (.add i j) v r):Fact (.add j i) v r :=
 ⟨by have := h.1; rwa [Rat.add_comm] at this,by have := h.2; rwa [Rat.add_comm] at this⟩
theorem mate_ok {l:List Bu.Op} {v u w:List I} {m:List Sg} (h:ChainR l v u) (hm:Rel m w u) {o' o:Bu.Op} {p:Nat} {z:Bool} {r:I} (hp:l.reverse[p]? = some o) (hf:Fact o' w r) (hc:mate l.reverse m o' o p z = true):r = sgI z (gt u p) := by
 obtain ⟨f,ar⟩ := chain_at h hp
 have A:∀ i,vS u (canon l.reverse (p + 1 + i)) = gt (u.drop (p + 1)) i := fun i => by rw [canon_ok h,gt_drop]
 generalize hL:l.reverse = L at *
 generalize hV:u.drop (p + 1) = V at *
 have T:∀ {x:Sg} {z:Bool} {i:Nat},eqS x (twS z (canon L (p + 1 + i))) = true → vS u x = sgI z (gt V i) := fun {x z i} e => by rw [eqS_ok e,vs_tw,A]
 have Z:∀ {x:Sg} {i:Nat},eqS x (canon L (p + 1 + i)) = true → vS u x = gt V i := fun {x i} e => by rw [eqS_ok e,A]
 unfold mate at hc
 split at hc <;> simp only [Bool.and_eq_true,Bool.or_eq_true,decide_eq_true_eq,Bool.not_eq_true',and_assoc] at hc
 ·obtain ⟨hi,hj,⟨e1,e2⟩ | ⟨e1,e2⟩⟩ := hc
  ·have a := (hm _ hi).trans (T e1); have b := (hm _ hj).trans (T e2)
   cases z
   ·exact s_add f hf a b
   ·exact s_add_t f hf a b
  ·have a := (hm _ hi).trans (T e1); have b := (hm _ hj).trans (T e2)
   cases z
   ·exact s_add_c f hf a b
   ·exact s_add_t (add_swap f) hf a b
 ·obtain ⟨hi,hj,⟨e1,e2⟩ | ⟨e1,e2⟩⟩ := hc
  ·have a := (hm _ hi).trans (T e1); have b := (hm _ hj).trans (T e2)
   cases z
   ·exact s_sub f hf a b
   ·exact s_sub_n f hf a b
  ·have a := (hm _ hi).trans (T e1); have b := (hm _ hj).trans (T e2)
   cases z
   ·exact s_sub_c f hf a b
   ·exact s_sub_t f hf a b
 ·obtain ⟨hi,hj,((⟨e1,e2⟩ | ⟨e1,e2⟩) | ⟨e1,e2⟩) | ⟨e1,e2⟩⟩ := hc
  ·have a := (hm _ hi).trans (Z e1); have b := (hm _ hj).trans (T e2)
   have := s_mul_sg (s := false) (t := z) f hf a b
   cases z <;> exact this
  ·have a := (hm _ hi).trans (T e1); have b := (hm _ hj).trans (T e2)
   have := s_mul_sg (s := true) (t := !z) f hf a b
   cases z <;> exact this
  ·have a := (hm _ hi).trans (Z e1); have b := (hm _ hj).trans (T e2)
   have := s_mul_sg (s := false) (t := z) (fact_swap f) hf a b
   cases z <;> exact this
  ·have a := (hm _ hi).trans (T e1); have b := (hm _ hj).trans (T e2)
   have := s_mul_sg (s := true) (t := !z) (fact_swap f) hf a b
   cases z <;> exact this
 ·obtain ⟨hi,hj,e1,e2⟩ := hc
  have a := (hm _ hi).trans (T e1); have b := (hm _ hj).trans (Z e2)
  cases z
  ·exact s_div f hf a b
  ·exact s_div_t f hf a b
 ·obtain ⟨hi,hj,rfl,e1,e2⟩ := hc
  exact s_max f hf ((hm _ hi).trans (Z e1)) ((hm _ hj).trans (Z e2))
 ·obtain ⟨hi,rfl,e1 | e1⟩ := hc
  ·exact s_sqr f hf ((hm _ hi).trans (Z e1))
  ·exact s_sqr_t f hf ((hm _ hi).trans (T e1)) (of_decide_eq_true ar)
 ·obtain ⟨hi,rfl,e1⟩ := hc
  exact s_sqrt f hf ((hm _ hi).trans (Z e1))
 ·obtain ⟨rfl,e1⟩ := hc
  have a:r = _ := hf
  have b:gt u p = _ := f
  rw [a,eqF_ok e1]; exact b.symm
 ·obtain ⟨rfl,e1⟩ := hc
  have a:r = _ := hf
  have b:gt u p = _ := f
  rw [a,eqI_ok e1]; exact b.symm
 ·obtain ⟨hi,e1,e2,⟨rfl,e3⟩ | ⟨rfl,e3,e4,e5⟩⟩ := hc
  ·rw [eqF_ok e1,eqF_ok e2] at hf
   exact s_kept f hf ((hm _ hi).trans (Z e3))
  ·rw [eqF_ok e3,eqF_ok e4] at hf
   rw [← eqF_ok e1,← eqF_ok e2,eqF_ok e3,eqF_ok e4] at f
   exact s_kept_t f hf ((hm _ hi).trans (T e5))
 ·obtain ⟨hi,rfl,e1⟩ := hc
  have a:r = _ := hf
  have b:gt u p = _ := f
  rw [a,(hm _ hi).trans (Z e1)]; exact b.symm
 ·obtain ⟨hi,rfl,e1⟩ := hc
  have a:r = _ := hf
  have b:gt u p = _ := f
  rw [a,(hm _ hi).trans (Z e1)]; exact b.symm
 ·cases hc
def seek (L:List Bu.Op) (m:List Sg) (o':Bu.Op):List Bu.Op → Nat → Option Sg
 | [],_ => none
 | o :: t,p => bif mate L m o' o p false then some (p,false) else bif mate L m o' o p true then some (p,true) else seek L m o' t (p + 1)
theorem seek_ok {L:List Bu.Op} {m:List Sg} {o':Bu.Op}:∀ {t:List Bu.Op} {p:Nat} {x:Sg},(∀ i,t[i]? = L[p + i]?) → seek L m o' t p = some x → ∃ o,L[x.1]? = some o ∧ mate L m o' o x.1 x.2 = true
 | [],_,_,_,h => by cases h
 | o :: t, p, x, ht, h => by
   unfold seek at h
   have h0:L[p]? = some o := by have := ht 0; simpa using this.symm
   cases c1:mate L m o' o p false
   ·rw [c1,cond_false] at h
    cases c2:mate L m o' o p true
    ·rw [c2,cond_false] at h
     exact seek_ok (p := p + 1) (fun i => by have := ht (i + 1); rw [show p + 1 + i = p + (i + 1) from by omega,← this]; rfl) h
    ·rw [c2,cond_true] at h
     cases h; exact ⟨o,h0,c2⟩
   ·rw [c1,cond_true] at h
    cases h; exact ⟨o,h0,c1⟩
theorem rel_cons {m:List Sg} {w u:List I} {r:I} {x:Sg} (h:Rel m w u) (e:r = vS u x):Rel (x :: m) (r :: w) u := by
 intro i hi
 cases i with
 | zero => exact e
 | succ i => exact h i (by simpa using hi)
def seek2 (L:List Bu.Op) (m:List Sg) (o':Bu.Op) (p:Nat):Option Sg := match L[p]? with
 | some o => bif mate L m o' o p false then some (p,false) else seek L m o' L 0
 | none => seek L m o' L 0
theorem seek2_ok {L:List Bu.Op} {m:List Sg} {o':Bu.Op} {p:Nat} {x:Sg} (h:seek2 L m o' p = some x):∃ o,L[x.1]? = some o ∧ mate L m o' o x.1 x.2 = true := by
 have far:seek L m o' L 0 = some x → ∃ o,L[x.1]? = some o ∧ mate L m o' o x.1 x.2 = true := fun h => seek_ok (fun i => by rw [Nat.zero_add]) h
 unfold seek2 at h
 split at h
 ·rename_i o e
  cases c:mate L m o' o p false
  ·rw [c] at h; exact far h
  ·rw [c] at h; cases h; exact ⟨o,e,c⟩
 ·exact far h
def twin2 (L:List Bu.Op):List Bu.Op → List Sg → Option (List Sg)
 | [],m => some m
 | o :: t, m => match o with
   | .neg i => bif decide (i < m.length) then twin2 L t (twS true (m.getD i (0,false)) :: m) else none
   | o => match seek2 L m o t.length with
     | some x => twin2 L t ((bif x.2 then twS true (canon L x.1) else canon L x.1) :: m)
     | none => none
theorem twin2_ok {l:List Bu.Op} {v u:List I} (h:ChainR l v u):∀ {t:List Bu.Op} {w u':List I} {m k:List Sg},ChainR t w u' → Rel m w u → twin2 l.reverse t m = some k → Rel k u' u
 | [], w, u', m, k, hc, hm, hk => by
   cases hk
   rw [show u' = w from hc]; exact hm
 | o :: t, w, u', m, k, ⟨r, ⟨f, _⟩, hc⟩, hm, hk => by
   have gen:(∀ i,o ≠ .neg i) → Rel k u' u := by
    intro hn
    have hk':(match seek2 l.reverse m o t.length with
     | some x => twin2 l.reverse t ((bif x.2 then twS true (canon l.reverse x.1) else canon l.reverse x.1) :: m)
     | none => none) = some k := by
     rw [← hk]
     cases o <;> first | rfl | exact absurd rfl (hn _)
    split at hk'
    ·rename_i x hx
     obtain ⟨o2,h1,h2⟩ := seek2_ok hx
     have e := mate_ok h hm h1 f h2
     refine twin2_ok h hc (rel_cons hm ?_) hk'
     rw [e]
     cases x.2
     ·exact (canon_ok h _).symm
     ·rw [cond_true,vs_tw,canon_ok h]
    ·cases hk'
   cases o with
   | neg i =>
     unfold twin2 at hk
     simp only at hk
     cases c:decide (i < m.length)
     ·rw [c] at hk; cases hk
     ·rw [c,cond_true] at hk
      refine twin2_ok h hc (rel_cons hm ?_) hk
      rw [vs_tw,← hm i (of_decide_eq_true c)]; exact f
   | _ => exact gen (fun i => by simp)
def tw1 (l t:List Bu.Op) (ps:List Nat) (i j:Nat):Bool := match twin2 l.reverse t (ps.map fun p => (l.length + p,false)) with
 | some k => decide (i < k.length) && eqS (k.getD i (0,false)) (j,false)
 | none => false
theorem tw_get {l t:List Bu.Op} {v w:List I} {ps:List Nat} {i j:Nat} (h:(evalK KkR l v 0).2 = 0) (h':(evalK KkR t w 0).2 = 0) (hw:∀ i,i < ps.length → gt w i = gt v (ps.getD i 0)) (hk:tw1 l t ps i j = true):gt (evalK KkR t w 0).1 i = gt (evalK KkR l v 0).1 j := by
 have c := eval_chainR h
 have c' := eval_chainR h'
 have d := chain_drop c
 have hr:Rel (ps.map fun p => (l.length + p,false)) w (evalK KkR l v 0).1 := by
  intro i hi
  rw [List.length_map] at hi
  have e:(ps.map fun p => (l.length + p,false)).getD i (0,false) = (l.length + ps.getD i 0,false) := by
   rw [List.getD_eq_getElem?_getD,List.getD_eq_getElem?_getD,List.getElem?_map,List.getElem?_eq_getElem hi]; rfl
  rw [hw i hi,e]
  show gt v (ps.getD i 0) = gt (evalK KkR l v 0).1 (l.length + ps.getD i 0)
  rw [← gt_drop,d]
 unfold tw1 at hk
 split at hk
 ·rename_i k e
  rw [Bool.and_eq_true] at hk
  rw [twin2_ok c c' hr e i (of_decide_eq_true hk.1),eqS_ok hk.2]; rfl
 ·cases hk
theorem one_box {v:V3} (h:OneP v):InB v.x b11 ∧ InB v.y b11 ∧ InB v.z bzz := by
 have e:bzz.lo.q = 1 / 128 := by have:bzz.lo.q * 128 = 1 := q_of' (n := 1) (s := 7) (by decide +kernel) rfl; grind
 exact ⟨⟨h.x.lo,h.x.hi,h.x.rt⟩,⟨h.y.lo,h.y.hi,h.y.rt⟩,⟨q_le.1 (by rw [e]; exact h.up),h.z.hi,h.z.rt⟩⟩
end Bu
