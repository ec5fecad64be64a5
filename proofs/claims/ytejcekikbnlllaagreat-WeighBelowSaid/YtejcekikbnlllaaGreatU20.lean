/- What is drawn of a program without NodeOren never surely counts more than 1, in any .. -/
import Derived.Test.YtejcekikbnlllaaGreatU19
set_option linter.all false
open Go.Proofs.Tryz(prog)
namespace Go.Proofs.YtejcekikbnlllaaGreat
open Go.ChangeShapes Go.WideShapes Go.ChangeAt Go.RowKit
set_option linter.unusedVariables false
theorem arrT_u32x3:ArrT prog 24 23 3 .u32:=⟨Tryz.underlying24,Tryz.underlying23,by kernel_rfl,by kernel_rfl⟩
theorem arrT_u64x3:ArrT prog 89 25 3 .u64:=⟨Tryz.underlying89,Tryz.underlying25,by kernel_rfl,by kernel_rfl⟩
theorem lst_3{l:List Int}(h:l.length=3):∃y0 y1 y2,l=[y0,y1,y2]:=by match l,h with| [y0,y1,y2],_=>exact⟨y0,y1,y2,rfl⟩
theorem arrT_u32x8:ArrT prog 121 23 8 .u32:=⟨Tryz.underlying121,Tryz.underlying23,by kernel_rfl,by kernel_rfl⟩
theorem laid:Go.laidOutB prog=true:=by kernel_rfl
theorem rd_all:∀t∈ [22,24,89],Tryz.prog.readableRec t=true/\t<Tryz.prog.types.size:=by intro t ht;simp only[List.mem_cons,List.not_mem_nil,or_false]at ht;rcases ht with rfl|rfl|rfl<;>exact⟨by kernel_rfl,by first|decide+kernel|kernel_rfl⟩
set_option maxRecDepth 100000 in
theorem weighBelow_lifted(os:Os)(started:os.Started)(H:Type)(enc:TypeId×Value->H) :
  ReturnsInHanded {} Tryz.checked os 8 .any (Rows.weighBelowSpec.pre6 enc prog Tryz.f8 Rows.weighBelowRow.domain false) (Rows.weighBelowSpec.post enc prog Tryz.f8 false true false false):=by
 refine returnsInHanded_of_change (C:=Tryz.checked) Tryz.own started (by kernel_rfl) Tryz.func8
  (ChangeSpec.witness6 (enc:=enc) (C:=Tryz.checked) false ⟨#[],#[.slice none 0 0,.agg #[.int .u32 0,.int .u32 0,.int .u32 0],.agg #[.int .u64 0,.int .u64 0,.int .u64 0]],[]⟩ 8 (by kernel_rfl) (by kernel_rfl) (by kernel_rfl) (by kernel_rfl)) ?_
 intro W base args ds gs before hval0 hW hcnd _;have hval:∀(j:Nat)t v,Tryz.f8.params[j]? =some t->args[j]? =some v->Value.okWide prog W .any base t v:=hval0;have hW':=hW;obtain⟨p,q,hA0,hV,rfl,hfz,hnd⟩:=hW;have hA:DataW.TrodAll enc prog W 0 (fun _=>true) true Tryz.f8.params.toList args.toList ds p:=hA0;rw[Tryz.params8]at hA hval;obtain⟨v0,vs0,d0,ds0,p0,q0,hargs,rfl,rfl,h0,r0⟩:=trodAll_cons hA;obtain⟨v1,vs1,d1,ds1,p1,q1,rfl,rfl,rfl,h1,r1⟩:=trodAll_cons r0;obtain⟨v2,vs2,d2,ds2,p2,q2,rfl,rfl,rfl,h2,r2⟩:=trodAll_cons r1;obtain⟨rfl,rfl,rfl⟩:=trodAll_nil r2;obtain rfl:args= #[v0,v1,v2]:=by cases args;simp_all
 obtain⟨rfl,rfl⟩:=trodVars_none hV;obtain⟨ns1,l1,rfl,rfl,rfl,w1⟩:=open_arr arrT_u32x3 (hval 1 24 v1 rfl rfl) h1;obtain⟨a1_0,a1_1,a1_2,rfl⟩:=lst_3 l1;obtain⟨ns2,l2,rfl,rfl,rfl,w2⟩:=open_arr arrT_u64x3 (hval 2 89 v2 rfl rfl) h2;obtain⟨a2_0,a2_1,a2_2,rfl⟩:=lst_3 l2;clear hA0 hval0;simp only[List.append_nil]at hW';have hR:=open_rows Tryz.underlying22 arrT_u32x8 (hval 0 22 v0 rfl rfl) h0;have fin:∀W':World,Below W.heap.size W W'->(Rows.weighBelowSpec.post enc prog Tryz.f8 false true false false) W #[v0,.agg #[.int .u32 a1_0,.int .u32 a1_1,.int .u32 a1_2],.agg #[.int .u64 a2_0,.int .u64 a2_1,.int .u64 a2_2]] (.bool true) W':=fun W' hg=>
  post_kept laid (by simp only[Tryz.params8];exact rd_all) rfl hW' (fun _ _ _=>(trodAll_cons_mk (shut_bool Tryz.underlying4 _) trodAll_mk0)) rfl rfl hg (ok_one (by kernel_rfl) rfl (okWide_bool_mk Tryz.underlying4 _))
 rcases hR with rfl|⟨r,off,len,cap,cv,el,z,rfl,hlc,hh,hcs⟩
 ·refine(weighBelow_none (w:=W) (vs:=[.slice none 0 0,.agg #[.int .u32 a1_0,.int .u32 a1_1,.int .u32 a1_2],.agg #[.int .u64 a2_0,.int .u64 a2_1,.int .u64 a2_2]]) (by rfl) (u32_w (w1 a1_0 (by simp))) (u32_w (w1 a1_1 (by simp))) (u32_w (w1 a1_2 (by simp))) (u64_w (w2 a2_0 (by simp))) (u64_w (w2 a2_1 (by simp))) (u64_w (w2 a2_2 (by simp)))).mono fun e W' ⟨he,hg⟩=> ?_;subst he;exact⟨_,rfl,fin W' hg⟩
 ·obtain⟨m,cells,hM,hm0,hb⟩:=rows_mem (cap:=cap) hh hcs;have hvs:Rx.dens m [.ssl 0 off len cap,.agg [.si .u32 a1_0,.si .u32 a1_1,.si .u32 a1_2],.agg [.si .u64 a2_0,.si .u64 a2_1,.si .u64 a2_2]]=some [.slice (some ⟨r,off,none⟩) len cap,.agg #[.int .u32 a1_0,.int .u32 a1_1,.int .u32 a1_2],.agg #[.int .u64 a2_0,.int .u64 a2_1,.int .u64 a2_2]]:=by have h1:m.f 0=some r:=hm0;unfold Rx.dens Rx.den;rw[h1];rfl
  refine(weighBelow_some (w:=W) hM hvs hlc hb (u32_w (w1 a1_0 (by simp))) (u32_w (w1 a1_1 (by simp))) (u32_w (w1 a1_2 (by simp))) (u64_w (w2 a2_0 (by simp))) (u64_w (w2 a2_1 (by simp))) (u64_w (w2 a2_2 (by simp)))).mono fun e W' ⟨he,hg⟩=> ?_;subst he;exact⟨_,rfl,fin W' hg⟩
theorem weighBelow_inPlace:(Rows.weighBelowRow.inPlace==Tryz.prog.inPlace 8)=true:=by kernel_rfl
theorem weighBelow_unfollowed:(Rows.weighBelowRow.unfollowed==Tryz.prog.unfollowed 8)=true:=by kernel_rfl
theorem weighBelow_recurses:(Rows.weighBelowRow.recurses==Tryz.prog.recurses 8)=true:=by kernel_rfl
theorem weighBelow_varsNamed:(Rows.weighBelowRow.named==Tryz.prog.varsNamed 8)=true:=by kernel_rfl
theorem weighBelow_closed:joinedFacts Tryz.pinned.checked.prog 8 Tryz.f8 Rows.weighBelowSpec Rows.weighBelowRow=true:=by
 have e:Tryz.pinned.checked.prog=prog:=rfl;rw[e];unfold joinedFacts;rw[laid,weighBelow_inPlace,weighBelow_unfollowed,weighBelow_recurses,weighBelow_varsNamed]
 change _=true
 kernel_rfl
theorem weighBelow_over:Rows.weighBelowRow.holds Tryz.pinned (OpenSpec.ofChange Rows.weighBelowSpec):=
 OpenClaim.holds_of_wide 8 Tryz.f8 rfl rfl rfl rfl rfl rfl rfl ⟨rfl,rfl,rfl,rfl,rfl⟩ rfl rfl rfl rfl rfl (by kernel_rfl) Tryz.func8 weighBelow_closed
  (oTz (by kernel_rfl)) (by unfold Func.isWrapper;first|(rw[if_pos (by decide+kernel)];kernel_rfl)|(rw[if_neg (by decide+kernel)];exact⟨rfl,rfl⟩))
  (fun os started H enc _=>weighBelow_lifted os started H enc)
theorem weighBelow_holds:Rows.WeighBelowSaid:=weighBelow_over
#print axioms weighBelow_holds
end Go.Proofs.YtejcekikbnlllaaGreat
