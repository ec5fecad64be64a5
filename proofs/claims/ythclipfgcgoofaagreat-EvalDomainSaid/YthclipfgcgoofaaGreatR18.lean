/- A triple that has no unit vector is told, whichever; at or below the horizon there is .. -/
import Derived.Test.YthclipfgcgoofaaGreatRows
import Derived.Test.YthclipfgcgoofaaGreatR01
import Derived.Test.YthclipfgcgoofaaGreatR14
import Derived.Test.YthclipfgcgoofaaGreatR17
set_option linter.all false
namespace Go.Proofs.YthclipfgcgoofaaGreat
open Go.ChangeShapes Go.WideShapes Go.ChangeAt Go.RowKit
set_option linter.unusedVariables false
theorem f3T : F3T Tryz.prog 25 23 := ⟨⟨_, _, _, Tryz.underlying25, rfl, rfl, rfl, rfl, rfl, rfl⟩, Tryz.underlying23, by kernel_rfl, by kernel_rfl⟩
theorem arrT_u32x6 : ArrT Tryz.prog 46 45 6 .u32 := ⟨Tryz.underlying46, Tryz.underlying45, by kernel_rfl, by kernel_rfl⟩
theorem lst_6 {l : List Int} (h : l.length = 6) : ∃ y0 y1 y2 y3 y4 y5, l = [y0, y1, y2, y3, y4, y5] := by match l, h with | [y0, y1, y2, y3, y4, y5], _ => exact ⟨y0, y1, y2, y3, y4, y5, rfl⟩
theorem arrT_u32x8 : ArrT Tryz.prog 107 45 8 .u32 := ⟨Tryz.underlying107, Tryz.underlying45, by kernel_rfl, by kernel_rfl⟩
theorem laid : Go.laidOutB Tryz.prog = true := by kernel_rfl
theorem rd_all : ∀ t ∈ [22, 25, 25, 46, 5], Tryz.prog.readableRec t = true ∧ t < Tryz.prog.types.size := by
 intro t ht
 simp only [List.mem_cons, List.not_mem_nil, or_false] at ht
 rcases ht with rfl | rfl | rfl | rfl | rfl <;> exact ⟨by kernel_rfl, by first | decide +kernel | kernel_rfl⟩
set_option maxRecDepth 100000 in
theorem evalDomain_lifted (os : Os) (started : os.Started) (H : Type) (enc : TypeId × Value → H) :
  ReturnsInHanded {} Tryz.checked os 4 .any (Rows.evalDomainSpec.pre6 enc Tryz.prog Tryz.f4 Rows.evalDomainRow.domain false) (Rows.evalDomainSpec.post enc Tryz.prog Tryz.f4 false true false false) := by
 refine returnsInHanded_of_change (C := Tryz.checked) Tryz.own started (by kernel_rfl) Tryz.func4
  (ChangeSpec.witness6 (enc := enc) (C := Tryz.checked) false ⟨#[], #[.slice none 0 0, .agg #[.float .f64 0, .float .f64 0, .float .f64 0], .agg #[.float .f64 0, .float .f64 0, .float .f64 0], .agg #[.int .u32 0, .int .u32 0, .int .u32 0, .int .u32 0, .int .u32 0, .int .u32 0], .int .u8 0], []⟩ 8 (by kernel_rfl) (by kernel_rfl) (by kernel_rfl) (by kernel_rfl)) ?_
 intro W base args ds gs before hval0 hW hcnd _
 have hval : ∀ (j : Nat) t v, Tryz.f4.params[j]? = some t → args[j]? = some v → Value.okWide Tryz.prog W .any base t v := hval0
 have hW' := hW
 obtain ⟨p, q, hA0, hV, rfl, hfz, hnd⟩ := hW
 have hA : DataW.TrodAll enc Tryz.prog W 0 (fun _ => true) true Tryz.f4.params.toList args.toList ds p := hA0
 rw [Tryz.params4] at hA hval
 obtain ⟨v0, vs0, d0, ds0, p0, q0, hargs, rfl, rfl, h0, r0⟩ := trodAll_cons hA
 obtain ⟨v1, vs1, d1, ds1, p1, q1, rfl, rfl, rfl, h1, r1⟩ := trodAll_cons r0
 obtain ⟨v2, vs2, d2, ds2, p2, q2, rfl, rfl, rfl, h2, r2⟩ := trodAll_cons r1
 obtain ⟨v3, vs3, d3, ds3, p3, q3, rfl, rfl, rfl, h3, r3⟩ := trodAll_cons r2
 obtain ⟨v4, vs4, d4, ds4, p4, q4, rfl, rfl, rfl, h4, r4⟩ := trodAll_cons r3
 obtain ⟨rfl, rfl, rfl⟩ := trodAll_nil r4
 obtain rfl : args = #[v0, v1, v2, v3, v4] := by cases args; simp_all
 obtain ⟨rfl, rfl⟩ := trodVars_none hV
 obtain ⟨a1, b1, c1, rfl, rfl, rfl, w1, x1, y1⟩ := open_f3 f3T (hval 1 25 v1 rfl rfl) h1
 obtain ⟨a2, b2, c2, rfl, rfl, rfl, w2, x2, y2⟩ := open_f3 f3T (hval 2 25 v2 rfl rfl) h2
 obtain ⟨ns3, l3, rfl, rfl, rfl, w3⟩ := open_arr arrT_u32x6 (hval 3 46 v3 rfl rfl) h3
 obtain ⟨a3_0, a3_1, a3_2, a3_3, a3_4, a3_5, rfl⟩ := lst_6 l3
 obtain ⟨a4, rfl, rfl, rfl, w4⟩ := open_int Tryz.underlying5 (hval 4 5 v4 rfl rfl) h4
 clear hA0 hval0
 simp only [List.append_nil] at hW'
 have hR := open_rows Tryz.underlying22 arrT_u32x8 (hval 0 22 v0 rfl rfl) h0
 have fin : ∀ W' : World, Below W.heap.size W W' → (Rows.evalDomainSpec.post enc Tryz.prog Tryz.f4 false true false false) W #[v0, .agg #[.float .f64 a1, .float .f64 b1, .float .f64 c1], .agg #[.float .f64 a2, .float .f64 b2, .float .f64 c2], .agg #[.int .u32 a3_0, .int .u32 a3_1, .int .u32 a3_2, .int .u32 a3_3, .int .u32 a3_4, .int .u32 a3_5], .int .u8 a4] (.bool true) W' := fun W' hg =>
  post_kept laid (by simp only [Tryz.params4]; exact rd_all) rfl hW' (fun _ _ _ => (trodAll_cons_mk (shut_bool Tryz.underlying4 _) trodAll_mk0)) rfl rfl hg (ok_one (by kernel_rfl) rfl (okWide_bool_mk Tryz.underlying4 _))
 rcases hR with rfl | ⟨r, off, len, cap, cv, el, z, rfl, hlc, hh, hcs⟩
 ·refine (evalDomain_none (w := W) (vs := [.slice none 0 0, .agg #[.float .f64 a1, .float .f64 b1, .float .f64 c1], .agg #[.float .f64 a2, .float .f64 b2, .float .f64 c2], .agg #[.int .u32 a3_0, .int .u32 a3_1, .int .u32 a3_2, .int .u32 a3_3, .int .u32 a3_4, .int .u32 a3_5], .int .u8 a4]) (by rfl) (f64_in w1) (f64_in x1) (f64_in y1) (f64_in w2) (f64_in x2) (f64_in y2) (u6_mk (w3 a3_0 (by simp)) (w3 a3_1 (by simp)) (w3 a3_2 (by simp)) (w3 a3_3 (by simp)) (w3 a3_4 (by simp)) (w3 a3_5 (by simp))) w4).mono fun e W' ⟨he, hg⟩ => ?_
  subst he
  exact ⟨_, rfl, fin W' hg⟩
 ·obtain ⟨m, cells, hM, hm0, hb⟩ := rows_mem (cap := cap) hh hcs
  have hvs : Rx.dens m [.ssl 0 off len cap, .agg [.f a1, .f b1, .f c1], .agg [.f a2, .f b2, .f c2], Bu.U6.sv (Bu.U6.mk a3_0 a3_1 a3_2 a3_3 a3_4 a3_5), .si .u8 a4] = some [.slice (some ⟨r, off, none⟩) len cap, .agg #[.float .f64 a1, .float .f64 b1, .float .f64 c1], .agg #[.float .f64 a2, .float .f64 b2, .float .f64 c2], .agg #[.int .u32 a3_0, .int .u32 a3_1, .int .u32 a3_2, .int .u32 a3_3, .int .u32 a3_4, .int .u32 a3_5], .int .u8 a4] := by
   have h1 : m.f 0 = some r := hm0
   unfold Rx.dens Rx.den
   rw [h1]; rfl
  refine (evalDomain_some (w := W) hM hvs hlc hb (f64_in w1) (f64_in x1) (f64_in y1) (f64_in w2) (f64_in x2) (f64_in y2) (u6_mk (w3 a3_0 (by simp)) (w3 a3_1 (by simp)) (w3 a3_2 (by simp)) (w3 a3_3 (by simp)) (w3 a3_4 (by simp)) (w3 a3_5 (by simp))) w4).mono fun e W' ⟨he, hg⟩ => ?_
  subst he
  exact ⟨_, rfl, fin W' hg⟩
theorem evalDomain_inPlace : (Rows.evalDomainRow.inPlace == Tryz.prog.inPlace 4) = true := by kernel_rfl
theorem evalDomain_unfollowed : (Rows.evalDomainRow.unfollowed == Tryz.prog.unfollowed 4) = true := by kernel_rfl
theorem evalDomain_recurses : (Rows.evalDomainRow.recurses == Tryz.prog.recurses 4) = true := by kernel_rfl
theorem evalDomain_varsNamed : (Rows.evalDomainRow.named == Tryz.prog.varsNamed 4) = true := by kernel_rfl
theorem evalDomain_closed : joinedFacts Tryz.pinned.checked.prog 4 Tryz.f4 Rows.evalDomainSpec Rows.evalDomainRow = true := by
 have e : Tryz.pinned.checked.prog = Tryz.prog := rfl
 rw [e]
 unfold joinedFacts
 rw [laid, evalDomain_inPlace, evalDomain_unfollowed, evalDomain_recurses, evalDomain_varsNamed]
 change _ = true
 kernel_rfl
theorem evalDomain_over : Rows.evalDomainRow.holds Tryz.pinned (OpenSpec.ofChange Rows.evalDomainSpec) :=
 OpenClaim.holds_of_wide 4 Tryz.f4 rfl rfl rfl rfl rfl rfl rfl ⟨rfl, rfl, rfl, rfl, rfl⟩ rfl rfl rfl rfl rfl (by kernel_rfl) Tryz.func4 evalDomain_closed
  (of_decide_eq_true (by kernel_rfl)) (by unfold Func.isWrapper; first | (rw [if_pos (by decide +kernel)]; kernel_rfl) | (rw [if_neg (by decide +kernel)]; exact ⟨rfl, rfl⟩))
  (fun os started H enc _ => evalDomain_lifted os started H enc)
theorem evalDomain_holds : Rows.EvalDomainSaid := evalDomain_over
#print axioms evalDomain_holds
end Go.Proofs.YthclipfgcgoofaaGreat
