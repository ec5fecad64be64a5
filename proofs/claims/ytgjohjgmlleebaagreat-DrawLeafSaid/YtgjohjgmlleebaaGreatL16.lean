/- DrawLeaf: a leaf alone is always sure; under a mix of it with itself the way is the same. -/
import Derived.Test.YtgjohjgmlleebaaGreatRows
import Derived.Test.YtgjohjgmlleebaaGreatL01
import Derived.Test.YtgjohjgmlleebaaGreatL15
namespace Go.Proofs.YtgjohjgmlleebaaGreat
set_option linter.all false
open Go.ChangeShapes Go.WideShapes Go.ChangeAt Go.RowKit
set_option linter.unusedVariables false

theorem arrT_u32x3 : ArrT Tryz.prog 62 23 3 .u32 := ⟨Tryz.underlying62, Tryz.underlying23, by kernel_rfl, by kernel_rfl⟩
theorem arrT_u32x8 : ArrT Tryz.prog 48 23 8 .u32 := ⟨Tryz.underlying48, Tryz.underlying23, by kernel_rfl, by kernel_rfl⟩
theorem arrT_u64x3 : ArrT Tryz.prog 63 56 3 .u64 := ⟨Tryz.underlying63, Tryz.underlying56, by kernel_rfl, by kernel_rfl⟩
theorem lst_3 {l : List Int} (h : l.length = 3) : ∃ y0 y1 y2, l = [y0, y1, y2] := by match l, h with | [y0, y1, y2], _ => exact ⟨y0, y1, y2, rfl⟩
theorem lst_8 {l : List Int} (h : l.length = 8) : ∃ y0 y1 y2 y3 y4 y5 y6 y7, l = [y0, y1, y2, y3, y4, y5, y6, y7] := by match l, h with | [y0, y1, y2, y3, y4, y5, y6, y7], _ => exact ⟨y0, y1, y2, y3, y4, y5, y6, y7, rfl⟩
set_option maxRecDepth 100000 in
theorem drawLeaf_lifted (os : Os) (started : os.Started) (H : Type) (enc : TypeId × Value → H) :
    ReturnsInHanded {} Tryz.checked os 7 .any (Rows.drawLeafSpec.pre6 enc Tryz.prog Tryz.f7 Rows.drawLeafRow.domain false) (Rows.drawLeafSpec.post enc Tryz.prog Tryz.f7 false true false false) := by
  refine returnsInHanded_of_change (C := Tryz.checked) Tryz.own started (by kernel_rfl) Tryz.func7
    (ChangeSpec.witness6 (enc := enc) (C := Tryz.checked) false ⟨#[], #[.agg #[.int .u32 0, .int .u32 0, .int .u32 0, .int .u32 0, .int .u32 0, .int .u32 0, .int .u32 0, .int .u32 0], .int .u32 0, .agg #[.int .u32 0, .int .u32 0, .int .u32 0], .agg #[.int .u64 0, .int .u64 0, .int .u64 0]], []⟩ 8 (by kernel_rfl) (by kernel_rfl) (by kernel_rfl) (by kernel_rfl)) ?_
  intro W base args ds gs before hval0 hW hcnd _
  have hval : ∀ (j : Nat) t v, Tryz.f7.params[j]? = some t → args[j]? = some v → Value.okWide Tryz.prog W .any base t v := hval0
  have hW' := hW
  obtain ⟨p, q, hA0, hV, rfl, hfz, hnd⟩ := hW
  have hA : DataW.TrodAll enc Tryz.prog W 0 (fun _ => true) true Tryz.f7.params.toList args.toList ds p := hA0
  rw [Tryz.params7] at hA hval
  obtain ⟨v0, vs0, d0, ds0, p0, q0, hargs, rfl, rfl, h0, r0⟩ := trodAll_cons hA
  obtain ⟨v1, vs1, d1, ds1, p1, q1, rfl, rfl, rfl, h1, r1⟩ := trodAll_cons r0
  obtain ⟨v2, vs2, d2, ds2, p2, q2, rfl, rfl, rfl, h2, r2⟩ := trodAll_cons r1
  obtain ⟨v3, vs3, d3, ds3, p3, q3, rfl, rfl, rfl, h3, r3⟩ := trodAll_cons r2
  obtain ⟨rfl, rfl, rfl⟩ := trodAll_nil r3
  obtain rfl : args = #[v0, v1, v2, v3] := by cases args; simp_all
  obtain ⟨rfl, rfl⟩ := trodVars_none hV
  obtain ⟨ns0, l0, rfl, rfl, rfl, w0⟩ := open_arr arrT_u32x8 (hval 0 48 v0 rfl rfl) h0
  obtain ⟨a0_0, a0_1, a0_2, a0_3, a0_4, a0_5, a0_6, a0_7, rfl⟩ := lst_8 l0
  obtain ⟨a1, rfl, rfl, rfl, w1⟩ := open_int Tryz.underlying23 (hval 1 23 v1 rfl rfl) h1
  obtain ⟨ns2, l2, rfl, rfl, rfl, w2⟩ := open_arr arrT_u32x3 (hval 2 62 v2 rfl rfl) h2
  obtain ⟨a2_0, a2_1, a2_2, rfl⟩ := lst_3 l2
  obtain ⟨ns3, l3, rfl, rfl, rfl, w3⟩ := open_arr arrT_u64x3 (hval 3 63 v3 rfl rfl) h3
  obtain ⟨a3_0, a3_1, a3_2, rfl⟩ := lst_3 l3
  clear hA0 hval0
  simp only [List.append_nil] at hW'
  refine (drawLeaf_row a0_0 a0_1 a0_2 a0_3 a0_4 a0_5 a0_6 a0_7 a1 a2_0 a2_1 a2_2 a3_0 a3_1 a3_2 (w0 a0_0 (by simp)) (w0 a0_1 (by simp)) (w0 a0_2 (by simp)) (w0 a0_3 (by simp)) (w0 a0_4 (by simp)) (w0 a0_5 (by simp)) (w0 a0_6 (by simp)) (w0 a0_7 (by simp)) w1 (w2 a2_0 (by simp)) (w2 a2_1 (by simp)) (w2 a2_2 (by simp)) (w3 a3_0 (by simp)) (w3 a3_1 (by simp)) (w3 a3_2 (by simp)) W).mono fun e W' ⟨he, hg⟩ => ?_
  subst he
  exact ⟨_, rfl, post_scalar hW' (fun _ _ _ => (trodAll_cons_mk (shut_bool Tryz.underlying4 _) trodAll_mk0)) (fun sp => (trodAll_cons_mk (shut_arr arrT_u32x8 (ns := [a0_0, a0_1, a0_2, a0_3, a0_4, a0_5, a0_6, a0_7]) rfl w0) (trodAll_cons_mk (shut_int Tryz.underlying23 w1) (trodAll_cons_mk (shut_arr arrT_u32x3 (ns := [a2_0, a2_1, a2_2]) rfl w2) (trodAll_cons_mk (shut_arr arrT_u64x3 (ns := [a3_0, a3_1, a3_2]) rfl w3) trodAll_mk0))))) (fun _ => rfl) hg (ok_one (by kernel_rfl) rfl (okWide_bool_mk Tryz.underlying4 _))⟩

theorem drawLeaf_over : Rows.drawLeafRow.holds Tryz.pinned (OpenSpec.ofChange Rows.drawLeafSpec) :=
  OpenClaim.holds_of_wide 7 Tryz.f7 rfl rfl rfl rfl rfl rfl rfl ⟨rfl, rfl, rfl, rfl, rfl⟩ rfl rfl rfl rfl rfl (by kernel_rfl) Tryz.func7 (by kernel_rfl)
    (of_decide_eq_true (by kernel_rfl)) (by unfold Func.isWrapper; first | (rw [if_pos (by decide +kernel)]; kernel_rfl) | (rw [if_neg (by decide +kernel)]; exact ⟨rfl, rfl⟩))
    (fun os started H enc _ => drawLeaf_lifted os started H enc)

theorem drawLeaf_holds : Rows.DrawLeafSaid := drawLeaf_over
#print axioms drawLeaf_holds
end Go.Proofs.YtgjohjgmlleebaaGreat
