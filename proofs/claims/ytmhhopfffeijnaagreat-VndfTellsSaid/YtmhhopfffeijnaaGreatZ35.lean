/- What is drawn, and how often, is exactly what the document's formulas tell, or the error: for every vectors, alpha and draws of any words. -/
import Derived.Test.YtmhhopfffeijnaaGreatRows
import Derived.Test.YtmhhopfffeijnaaGreatZ27
import Derived.Test.YtmhhopfffeijnaaGreatZ34
namespace Go.Proofs.YtmhhopfffeijnaaGreat
set_option linter.all false
open Go.ChangeShapes Go.WideShapes Go.ChangeAt Go.RowKit
set_option linter.unusedVariables false

theorem ivT : IvT Tryz.prog 24 22 := ⟨⟨_, _, Tryz.underlying24, rfl, rfl, rfl, rfl⟩, Tryz.underlying22, by kernel_rfl, by kernel_rfl⟩
theorem arrT_u32x3 : ArrT Tryz.prog 42 41 3 .u32 := ⟨Tryz.underlying42, Tryz.underlying41, by kernel_rfl, by kernel_rfl⟩
theorem lst_3 {l : List Int} (h : l.length = 3) : ∃ y0 y1 y2, l = [y0, y1, y2] := by match l, h with | [y0, y1, y2], _ => exact ⟨y0, y1, y2, rfl⟩
theorem vecT : VecT Tryz.prog 33 24 22 := ⟨⟨_, _, _, Tryz.underlying33, rfl, rfl, rfl, rfl, rfl, rfl⟩, ivT, by kernel_rfl⟩
set_option maxRecDepth 100000 in
theorem vndfTells_lifted (os : Os) (started : os.Started) (H : Type) (enc : TypeId × Value → H) :
    ReturnsInHanded {} Tryz.checked os 5 .any (Rows.vndfTellsSpec.pre6 enc Tryz.prog Tryz.f5 Rows.vndfTellsRow.domain false) (Rows.vndfTellsSpec.post enc Tryz.prog Tryz.f5 false true false false) := by
  refine returnsInHanded_of_change (C := Tryz.checked) Tryz.own started (by kernel_rfl) Tryz.func5
    (ChangeSpec.witness6 (enc := enc) (C := Tryz.checked) false ⟨#[], #[.agg #[.float .f64 0, .float .f64 0, .float .f64 0, .float .f64 0, .float .f64 0, .float .f64 0], .agg #[.float .f64 0, .float .f64 0, .float .f64 0, .float .f64 0, .float .f64 0, .float .f64 0], .agg #[.float .f64 0, .float .f64 0], .agg #[.int .u32 0, .int .u32 0, .int .u32 0], .agg #[.int .u32 0, .int .u32 0, .int .u32 0], .int .u8 0, .int .u64 0, .int .u64 0], []⟩ 8 (by kernel_rfl) (by kernel_rfl) (by kernel_rfl) (by kernel_rfl)) ?_
  intro W base args ds gs before hval0 hW hcnd _
  have hval : ∀ (j : Nat) t v, Tryz.f5.params[j]? = some t → args[j]? = some v → Value.okWide Tryz.prog W .any base t v := hval0
  have hW' := hW
  obtain ⟨p, q, hA0, hV, rfl, hfz, hnd⟩ := hW
  have hA : DataW.TrodAll enc Tryz.prog W 0 (fun _ => true) true Tryz.f5.params.toList args.toList ds p := hA0
  rw [Tryz.params5] at hA hval
  obtain ⟨v0, vs0, d0, ds0, p0, q0, hargs, rfl, rfl, h0, r0⟩ := trodAll_cons hA
  obtain ⟨v1, vs1, d1, ds1, p1, q1, rfl, rfl, rfl, h1, r1⟩ := trodAll_cons r0
  obtain ⟨v2, vs2, d2, ds2, p2, q2, rfl, rfl, rfl, h2, r2⟩ := trodAll_cons r1
  obtain ⟨v3, vs3, d3, ds3, p3, q3, rfl, rfl, rfl, h3, r3⟩ := trodAll_cons r2
  obtain ⟨v4, vs4, d4, ds4, p4, q4, rfl, rfl, rfl, h4, r4⟩ := trodAll_cons r3
  obtain ⟨v5, vs5, d5, ds5, p5, q5, rfl, rfl, rfl, h5, r5⟩ := trodAll_cons r4
  obtain ⟨v6, vs6, d6, ds6, p6, q6, rfl, rfl, rfl, h6, r6⟩ := trodAll_cons r5
  obtain ⟨v7, vs7, d7, ds7, p7, q7, rfl, rfl, rfl, h7, r7⟩ := trodAll_cons r6
  obtain ⟨rfl, rfl, rfl⟩ := trodAll_nil r7
  obtain rfl : args = #[v0, v1, v2, v3, v4, v5, v6, v7] := by cases args; simp_all
  obtain ⟨rfl, rfl⟩ := trodVars_none hV
  obtain ⟨a0, b0, c0, k0, f0, g0, rfl, rfl, rfl, w0, x0, y0⟩ := open_vec vecT (hval 0 33 v0 rfl rfl) h0
  obtain ⟨a1, b1, c1, k1, f1, g1, rfl, rfl, rfl, w1, x1, y1⟩ := open_vec vecT (hval 1 33 v1 rfl rfl) h1
  obtain ⟨a2, b2, rfl, rfl, rfl, w2, x2⟩ := open_iv ivT (hval 2 24 v2 rfl rfl) h2
  obtain ⟨ns3, l3, rfl, rfl, rfl, w3⟩ := open_arr arrT_u32x3 (hval 3 42 v3 rfl rfl) h3
  obtain ⟨a3_0, a3_1, a3_2, rfl⟩ := lst_3 l3
  obtain ⟨ns4, l4, rfl, rfl, rfl, w4⟩ := open_arr arrT_u32x3 (hval 4 42 v4 rfl rfl) h4
  obtain ⟨a4_0, a4_1, a4_2, rfl⟩ := lst_3 l4
  obtain ⟨a5, rfl, rfl, rfl, w5⟩ := open_int Tryz.underlying5 (hval 5 5 v5 rfl rfl) h5
  obtain ⟨a6, rfl, rfl, rfl, w6⟩ := open_int Tryz.underlying31 (hval 6 31 v6 rfl rfl) h6
  obtain ⟨a7, rfl, rfl, rfl, w7⟩ := open_int Tryz.underlying31 (hval 7 31 v7 rfl rfl) h7
  clear hA0 hval0
  simp only [List.append_nil] at hW'
  refine (vndfTells_row a0 b0 c0 k0 f0 g0 a1 b1 c1 k1 f1 g1 a2 b2 a3_0 a3_1 a3_2 a4_0 a4_1 a4_2 a5 a6 a7 (f64_in w0.1) (f64_in w0.2) (f64_in x0.1) (f64_in x0.2) (f64_in y0.1) (f64_in y0.2) (f64_in w1.1) (f64_in w1.2) (f64_in x1.1) (f64_in x1.2) (f64_in y1.1) (f64_in y1.2) (f64_in w2) (f64_in x2) (w3 a3_0 (by simp)) (w3 a3_1 (by simp)) (w3 a3_2 (by simp)) (w4 a4_0 (by simp)) (w4 a4_1 (by simp)) (w4 a4_2 (by simp)) w5 w6 w7 W).mono fun e W' ⟨he, hg⟩ => ?_
  subst he
  exact ⟨_, rfl, post_scalar hW' (fun _ _ _ => (trodAll_cons_mk (shut_bool Tryz.underlying4 _) trodAll_mk0)) (fun sp => (trodAll_cons_mk (shut_vec vecT w0 x0 y0) (trodAll_cons_mk (shut_vec vecT w1 x1 y1) (trodAll_cons_mk (shut_iv ivT w2 x2) (trodAll_cons_mk (shut_arr arrT_u32x3 (ns := [a3_0, a3_1, a3_2]) rfl w3) (trodAll_cons_mk (shut_arr arrT_u32x3 (ns := [a4_0, a4_1, a4_2]) rfl w4) (trodAll_cons_mk (shut_int Tryz.underlying5 w5) (trodAll_cons_mk (shut_int Tryz.underlying31 w6) (trodAll_cons_mk (shut_int Tryz.underlying31 w7) trodAll_mk0))))))))) (fun _ => rfl) hg (ok_one (by kernel_rfl) rfl (okWide_bool_mk Tryz.underlying4 _))⟩

theorem vndfTells_over : Rows.vndfTellsRow.holds Tryz.pinned (OpenSpec.ofChange Rows.vndfTellsSpec) :=
  OpenClaim.holds_of_wide 5 Tryz.f5 rfl rfl rfl rfl rfl rfl rfl ⟨rfl, rfl, rfl, rfl, rfl⟩ rfl rfl rfl rfl rfl (by kernel_rfl) Tryz.func5 (by kernel_rfl)
    (of_decide_eq_true (by kernel_rfl)) (by unfold Func.isWrapper; first | (rw [if_pos (by decide +kernel)]; kernel_rfl) | (rw [if_neg (by decide +kernel)]; exact ⟨rfl, rfl⟩))
    (fun os started H enc _ => vndfTells_lifted os started H enc)

theorem vndfTells_holds : Rows.VndfTellsSaid := vndfTells_over
#print axioms vndfTells_holds
end Go.Proofs.YtmhhopfffeijnaaGreat
