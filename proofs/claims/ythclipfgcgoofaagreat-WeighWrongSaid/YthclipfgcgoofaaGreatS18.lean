/- What was not drawn is told: any rows, any direction by numbers, anything drawn. -/
import Derived.Test.YthclipfgcgoofaaGreatRows
import Derived.Test.YthclipfgcgoofaaGreatS01
import Derived.Test.YthclipfgcgoofaaGreatS14
import Derived.Test.YthclipfgcgoofaaGreatS17
set_option linter.all false
namespace Go.Proofs.YthclipfgcgoofaaGreat
open Go.ChangeShapes Go.WideShapes Go.ChangeAt Go.RowKit
set_option linter.unusedVariables false
theorem ivT:IvT Tryz.prog 27 23 := ⟨⟨_,_,Tryz.underlying27,rfl,rfl,rfl,rfl⟩,Tryz.underlying23,by kernel_rfl,by kernel_rfl⟩
theorem f3T:F3T Tryz.prog 25 23 := ⟨⟨_,_,_,Tryz.underlying25,rfl,rfl,rfl,rfl,rfl,rfl⟩,Tryz.underlying23,by kernel_rfl,by kernel_rfl⟩
theorem arrT_u32x3:ArrT Tryz.prog 65 45 3 .u32 := ⟨Tryz.underlying65,Tryz.underlying45,by kernel_rfl,by kernel_rfl⟩
theorem lst_3 {l:List Int} (h:l.length = 3):∃ y0 y1 y2,l = [y0,y1,y2] := by match l,h with | [y0,y1,y2],_ => exact ⟨y0,y1,y2,rfl⟩
theorem arrT_u32x8:ArrT Tryz.prog 107 45 8 .u32 := ⟨Tryz.underlying107,Tryz.underlying45,by kernel_rfl,by kernel_rfl⟩
theorem laid:Go.laidOutB Tryz.prog = true := by kernel_rfl
theorem vecT:VecT Tryz.prog 33 27 23 := ⟨⟨_,_,_,Tryz.underlying33,rfl,rfl,rfl,rfl,rfl,rfl⟩,ivT,by kernel_rfl⟩
theorem drT:DrT Tryz.prog 38 5 25 33 3 4 27 23 := ⟨⟨_,_,_,_,_,Tryz.underlying38,⟨rfl,rfl⟩,⟨rfl,rfl⟩,⟨rfl,rfl⟩,⟨rfl,rfl⟩,rfl,rfl⟩,Tryz.underlying5,by kernel_rfl,f3T,vecT,Tryz.underlying3,by kernel_rfl,Tryz.underlying4,by kernel_rfl,by kernel_rfl⟩
theorem rd_all:∀ t ∈ [22,65,38],Tryz.prog.readableRec t = true ∧ t < Tryz.prog.types.size := by
 intro t ht
 simp only [List.mem_cons,List.not_mem_nil,or_false] at ht
 rcases ht with rfl | rfl | rfl <;> exact ⟨by kernel_rfl,by first | decide +kernel | kernel_rfl⟩
set_option maxRecDepth 100000 in
theorem weighWrong_lifted (os:Os) (started:os.Started) (H:Type) (enc:TypeId × Value → H) :
  ReturnsInHanded {} Tryz.checked os 7 .any (Rows.weighWrongSpec.pre6 enc Tryz.prog Tryz.f7 Rows.weighWrongRow.domain false) (Rows.weighWrongSpec.post enc Tryz.prog Tryz.f7 false true false false) := by
 refine returnsInHanded_of_change (C := Tryz.checked) Tryz.own started (by kernel_rfl) Tryz.func7
  (ChangeSpec.witness6 (enc := enc) (C := Tryz.checked) false ⟨#[],#[.slice none 0 0,.agg #[.int .u32 0,.int .u32 0,.int .u32 0],.agg #[.int .u8 0,.float .f64 0,.float .f64 0,.float .f64 0,.float .f64 0,.float .f64 0,.float .f64 0,.float .f64 0,.float .f64 0,.float .f64 0,.int .i64 0,.bool false]],[]⟩ 8 (by kernel_rfl) (by kernel_rfl) (by kernel_rfl) (by kernel_rfl)) ?_
 intro W base args ds gs before hval0 hW hcnd _
 have hval:∀ (j:Nat) t v,Tryz.f7.params[j]? = some t → args[j]? = some v → Value.okWide Tryz.prog W .any base t v := hval0
 have hW' := hW
 obtain ⟨p,q,hA0,hV,rfl,hfz,hnd⟩ := hW
 have hA:DataW.TrodAll enc Tryz.prog W 0 (fun _ => true) true Tryz.f7.params.toList args.toList ds p := hA0
 rw [Tryz.params7] at hA hval
 obtain ⟨v0,vs0,d0,ds0,p0,q0,hargs,rfl,rfl,h0,r0⟩ := trodAll_cons hA
 obtain ⟨v1,vs1,d1,ds1,p1,q1,rfl,rfl,rfl,h1,r1⟩ := trodAll_cons r0
 obtain ⟨v2,vs2,d2,ds2,p2,q2,rfl,rfl,rfl,h2,r2⟩ := trodAll_cons r1
 obtain ⟨rfl,rfl,rfl⟩ := trodAll_nil r2
 obtain rfl:args = #[v0,v1,v2] := by cases args; simp_all
 obtain ⟨rfl,rfl⟩ := trodVars_none hV
 obtain ⟨ns1,l1,rfl,rfl,rfl,w1⟩ := open_arr arrT_u32x3 (hval 1 65 v1 rfl rfl) h1
 obtain ⟨a1_0,a1_1,a1_2,rfl⟩ := lst_3 l1
 obtain ⟨m2,a2,b2,c2,e2_0,e2_1,e2_2,e2_3,e2_4,e2_5,o2,s2,rfl,rfl,w2,x2,y2⟩ := open_drawn drT (hval 2 38 v2 rfl rfl) h2
 clear hA0 hval0
 simp only [List.append_nil] at hW'
 have hR := open_rows Tryz.underlying22 arrT_u32x8 (hval 0 22 v0 rfl rfl) h0
 have fin:∀ W':World,Below W.heap.size W W' → (Rows.weighWrongSpec.post enc Tryz.prog Tryz.f7 false true false false) W #[v0,.agg #[.int .u32 a1_0,.int .u32 a1_1,.int .u32 a1_2],.agg #[.int .u8 m2,.float .f64 a2,.float .f64 b2,.float .f64 c2,.float .f64 e2_0,.float .f64 e2_1,.float .f64 e2_2,.float .f64 e2_3,.float .f64 e2_4,.float .f64 e2_5,.int .i64 o2,.bool s2]] (.bool true) W' := fun W' hg =>
  post_kept laid (by simp only [Tryz.params7]; exact rd_all) rfl hW' (fun _ _ _ => (trodAll_cons_mk (shut_bool Tryz.underlying4 _) trodAll_mk0)) rfl rfl hg (ok_one (by kernel_rfl) rfl (okWide_bool_mk Tryz.underlying4 _))
 rcases hR with rfl | ⟨r,off,len,cap,cv,el,z,rfl,hlc,hh,hcs⟩
 ·refine (weighWrong_none (w := W) (vs := [.slice none 0 0,.agg #[.int .u32 a1_0,.int .u32 a1_1,.int .u32 a1_2],.agg #[.int .u8 m2,.float .f64 a2,.float .f64 b2,.float .f64 c2,.float .f64 e2_0,.float .f64 e2_1,.float .f64 e2_2,.float .f64 e2_3,.float .f64 e2_4,.float .f64 e2_5,.int .i64 o2,.bool s2]]) (by rfl) (u32_w (w1 a1_0 (by simp))) (u32_w (w1 a1_1 (by simp))) (u32_w (w1 a1_2 (by simp))) (f64_in w2) (f64_in x2) (f64_in y2)).mono fun e W' ⟨he,hg⟩ => ?_
  subst he
  exact ⟨_,rfl,fin W' hg⟩
 ·obtain ⟨m,cells,hM,hm0,hb⟩ := rows_mem (cap := cap) hh hcs
  have hvs:Rx.dens m [.ssl 0 off len cap,.agg [.si .u32 a1_0,.si .u32 a1_1,.si .u32 a1_2],.agg [.si .u8 m2,.f a2,.f b2,.f c2,.f e2_0,.f e2_1,.f e2_2,.f e2_3,.f e2_4,.f e2_5,.si .i64 o2,.b s2]] = some [.slice (some ⟨r,off,none⟩) len cap,.agg #[.int .u32 a1_0,.int .u32 a1_1,.int .u32 a1_2],.agg #[.int .u8 m2,.float .f64 a2,.float .f64 b2,.float .f64 c2,.float .f64 e2_0,.float .f64 e2_1,.float .f64 e2_2,.float .f64 e2_3,.float .f64 e2_4,.float .f64 e2_5,.int .i64 o2,.bool s2]] := by
   have h1:m.f 0 = some r := hm0
   unfold Rx.dens Rx.den
   rw [h1]; rfl
  refine (weighWrong_some (w := W) hM hvs hlc hb (u32_w (w1 a1_0 (by simp))) (u32_w (w1 a1_1 (by simp))) (u32_w (w1 a1_2 (by simp))) (f64_in w2) (f64_in x2) (f64_in y2)).mono fun e W' ⟨he,hg⟩ => ?_
  subst he
  exact ⟨_,rfl,fin W' hg⟩
theorem weighWrong_inPlace:(Rows.weighWrongRow.inPlace == Tryz.prog.inPlace 7) = true := by kernel_rfl
theorem weighWrong_unfollowed:(Rows.weighWrongRow.unfollowed == Tryz.prog.unfollowed 7) = true := by kernel_rfl
theorem weighWrong_recurses:(Rows.weighWrongRow.recurses == Tryz.prog.recurses 7) = true := by kernel_rfl
theorem weighWrong_varsNamed:(Rows.weighWrongRow.named == Tryz.prog.varsNamed 7) = true := by kernel_rfl
theorem weighWrong_closed:joinedFacts Tryz.pinned.checked.prog 7 Tryz.f7 Rows.weighWrongSpec Rows.weighWrongRow = true := by
 have e:Tryz.pinned.checked.prog = Tryz.prog := rfl
 rw [e]
 unfold joinedFacts
 rw [laid,weighWrong_inPlace,weighWrong_unfollowed,weighWrong_recurses,weighWrong_varsNamed]
 change _ = true
 kernel_rfl
theorem weighWrong_over:Rows.weighWrongRow.holds Tryz.pinned (OpenSpec.ofChange Rows.weighWrongSpec) :=
 OpenClaim.holds_of_wide 7 Tryz.f7 rfl rfl rfl rfl rfl rfl rfl ⟨rfl,rfl,rfl,rfl,rfl⟩ rfl rfl rfl rfl rfl (by kernel_rfl) Tryz.func7 weighWrong_closed
  (of_decide_eq_true (by kernel_rfl)) (by unfold Func.isWrapper; first | (rw [if_pos (by decide +kernel)]; kernel_rfl) | (rw [if_neg (by decide +kernel)]; exact ⟨rfl,rfl⟩))
  (fun os started H enc _ => weighWrong_lifted os started H enc)
theorem weighWrong_holds:Rows.WeighWrongSaid := weighWrong_over
#print axioms weighWrong_holds
end Go.Proofs.YthclipfgcgoofaaGreat
