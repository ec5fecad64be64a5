/- Of Lambert alone, whichever direction is drawn counts its albedo; of an Oren, its value .. -/
import Derived.Test.YtejcekikbnlllaaGreatRows
import Derived.Test.YtejcekikbnlllaaGreatT01
import Derived.Test.YtejcekikbnlllaaGreatT17
set_option linter.all false
namespace Go.Proofs.YtejcekikbnlllaaGreat
open Go.ChangeShapes Go.WideShapes Go.ChangeAt Go.RowKit
set_option linter.unusedVariables false
theorem arrT_u32x3:ArrT Tryz.prog 24 23 3 .u32 := ⟨Tryz.underlying24,Tryz.underlying23,by kernel_rfl,by kernel_rfl⟩
theorem arrT_u32x6:ArrT Tryz.prog 54 23 6 .u32 := ⟨Tryz.underlying54,Tryz.underlying23,by kernel_rfl,by kernel_rfl⟩
theorem lst_3 {l:List Int} (h:l.length = 3):∃ y0 y1 y2,l = [y0,y1,y2] := by match l,h with | [y0,y1,y2],_ => exact ⟨y0,y1,y2,rfl⟩
theorem lst_6 {l:List Int} (h:l.length = 6):∃ y0 y1 y2 y3 y4 y5,l = [y0,y1,y2,y3,y4,y5] := by match l,h with | [y0,y1,y2,y3,y4,y5],_ => exact ⟨y0,y1,y2,y3,y4,y5,rfl⟩
set_option maxRecDepth 100000 in
theorem weighAlbedo_lifted (os:Os) (started:os.Started) (H:Type) (enc:TypeId × Value → H) :
  ReturnsInHanded {} Tryz.checked os 4 .any (Rows.weighAlbedoSpec.pre6 enc Tryz.prog Tryz.f4 Rows.weighAlbedoRow.domain false) (Rows.weighAlbedoSpec.post enc Tryz.prog Tryz.f4 false true false false) := by
 refine returnsInHanded_of_change (C := Tryz.checked) Tryz.own started (by kernel_rfl) Tryz.func4
  (ChangeSpec.witness6 (enc := enc) (C := Tryz.checked) false ⟨#[],#[.agg #[.int .u32 0,.int .u32 0,.int .u32 0],.int .u32 0,.agg #[.int .u32 0,.int .u32 0,.int .u32 0,.int .u32 0,.int .u32 0,.int .u32 0]],[]⟩ 8 (by kernel_rfl) (by kernel_rfl) (by kernel_rfl) (by kernel_rfl)) ?_
 intro W base args ds gs before hval0 hW hcnd _
 have hval:∀ (j:Nat) t v,Tryz.f4.params[j]? = some t → args[j]? = some v → Value.okWide Tryz.prog W .any base t v := hval0
 have hW' := hW
 obtain ⟨p,q,hA0,hV,rfl,hfz,hnd⟩ := hW
 have hA:DataW.TrodAll enc Tryz.prog W 0 (fun _ => true) true Tryz.f4.params.toList args.toList ds p := hA0
 rw [Tryz.params4] at hA hval
 obtain ⟨v0,vs0,d0,ds0,p0,q0,hargs,rfl,rfl,h0,r0⟩ := trodAll_cons hA
 obtain ⟨v1,vs1,d1,ds1,p1,q1,rfl,rfl,rfl,h1,r1⟩ := trodAll_cons r0
 obtain ⟨v2,vs2,d2,ds2,p2,q2,rfl,rfl,rfl,h2,r2⟩ := trodAll_cons r1
 obtain ⟨rfl,rfl,rfl⟩ := trodAll_nil r2
 obtain rfl:args = #[v0,v1,v2] := by cases args; simp_all
 obtain ⟨rfl,rfl⟩ := trodVars_none hV
 obtain ⟨ns0,l0,rfl,rfl,rfl,w0⟩ := open_arr arrT_u32x3 (hval 0 24 v0 rfl rfl) h0
 obtain ⟨a0_0,a0_1,a0_2,rfl⟩ := lst_3 l0
 obtain ⟨a1,rfl,rfl,rfl,w1⟩ := open_int Tryz.underlying23 (hval 1 23 v1 rfl rfl) h1
 obtain ⟨ns2,l2,rfl,rfl,rfl,w2⟩ := open_arr arrT_u32x6 (hval 2 54 v2 rfl rfl) h2
 obtain ⟨a2_0,a2_1,a2_2,a2_3,a2_4,a2_5,rfl⟩ := lst_6 l2
 clear hA0 hval0
 simp only [List.append_nil] at hW'
 refine (weighAlbedo_row a0_0 a0_1 a0_2 a1 a2_0 a2_1 a2_2 a2_3 a2_4 a2_5 (w0 a0_0 (by simp)) (w0 a0_1 (by simp)) (w0 a0_2 (by simp)) w1 (w2 a2_0 (by simp)) (w2 a2_1 (by simp)) (w2 a2_2 (by simp)) (w2 a2_3 (by simp)) (w2 a2_4 (by simp)) (w2 a2_5 (by simp)) W).mono fun e W' ⟨he,hg⟩ => ?_
 subst he
 exact ⟨_,rfl,post_scalar hW' (fun _ _ _ => (trodAll_cons_mk (shut_bool Tryz.underlying4 _) trodAll_mk0)) (fun sp => (trodAll_cons_mk (shut_arr arrT_u32x3 (ns := [a0_0,a0_1,a0_2]) rfl w0) (trodAll_cons_mk (shut_int Tryz.underlying23 w1) (trodAll_cons_mk (shut_arr arrT_u32x6 (ns := [a2_0,a2_1,a2_2,a2_3,a2_4,a2_5]) rfl w2) trodAll_mk0)))) (fun _ => rfl) hg (ok_one (by kernel_rfl) rfl (okWide_bool_mk Tryz.underlying4 _))⟩
theorem laid:Go.laidOutB Tryz.prog = true := by kernel_rfl
theorem weighAlbedo_inPlace:(Rows.weighAlbedoRow.inPlace == Tryz.prog.inPlace 4) = true := by kernel_rfl
theorem weighAlbedo_unfollowed:(Rows.weighAlbedoRow.unfollowed == Tryz.prog.unfollowed 4) = true := by kernel_rfl
theorem weighAlbedo_recurses:(Rows.weighAlbedoRow.recurses == Tryz.prog.recurses 4) = true := by kernel_rfl
theorem weighAlbedo_varsNamed:(Rows.weighAlbedoRow.named == Tryz.prog.varsNamed 4) = true := by kernel_rfl
theorem weighAlbedo_closed:joinedFacts Tryz.pinned.checked.prog 4 Tryz.f4 Rows.weighAlbedoSpec Rows.weighAlbedoRow = true := by
 have e:Tryz.pinned.checked.prog = Tryz.prog := rfl
 rw [e]
 unfold joinedFacts
 rw [laid,weighAlbedo_inPlace,weighAlbedo_unfollowed,weighAlbedo_recurses,weighAlbedo_varsNamed]
 change _ = true
 kernel_rfl
theorem weighAlbedo_over:Rows.weighAlbedoRow.holds Tryz.pinned (OpenSpec.ofChange Rows.weighAlbedoSpec) :=
 OpenClaim.holds_of_wide 4 Tryz.f4 rfl rfl rfl rfl rfl rfl rfl ⟨rfl,rfl,rfl,rfl,rfl⟩ rfl rfl rfl rfl rfl (by kernel_rfl) Tryz.func4 weighAlbedo_closed
  (of_decide_eq_true (by kernel_rfl)) (by unfold Func.isWrapper; first | (rw [if_pos (by decide +kernel)]; kernel_rfl) | (rw [if_neg (by decide +kernel)]; exact ⟨rfl,rfl⟩))
  (fun os started H enc _ => weighAlbedo_lifted os started H enc)
theorem weighAlbedo_holds:Rows.WeighAlbedoSaid := weighAlbedo_over
#print axioms weighAlbedo_holds
end Go.Proofs.YtejcekikbnlllaaGreat
