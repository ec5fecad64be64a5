/- What is drawn, and the middle of a box, is exactly what the document's formulas tell: for every two draws and every vector of words. -/
import Derived.Test.YtmhhopfffeijnaaGreatRows
import Derived.Test.YtmhhopfffeijnaaGreatRv
import Derived.Test.YtmhhopfffeijnaaGreatOc
namespace Go.Proofs.YtmhhopfffeijnaaGreat
set_option linter.all false
open Go.ChangeShapes Go.WideShapes Go.ChangeAt Go.RowKit
set_option linter.unusedVariables false

theorem ivT : IvT Tryz.prog 24 22 := ⟨⟨_, _, Tryz.underlying24, rfl, rfl, rfl, rfl⟩, Tryz.underlying22, by kernel_rfl, by kernel_rfl⟩
theorem vecT : VecT Tryz.prog 33 24 22 := ⟨⟨_, _, _, Tryz.underlying33, rfl, rfl, rfl, rfl, rfl, rfl⟩, ivT, by kernel_rfl⟩
set_option maxRecDepth 100000 in
theorem cosineTells_lifted (os : Os) (started : os.Started) (H : Type) (enc : TypeId × Value → H) :
    ReturnsInHanded {} Tryz.checked os 4 .any (Rows.cosineTellsSpec.pre6 enc Tryz.prog Tryz.f4 Rows.cosineTellsRow.domain false) (Rows.cosineTellsSpec.post enc Tryz.prog Tryz.f4 false true false false) := by
  refine returnsInHanded_of_change (C := Tryz.checked) Tryz.own started (by kernel_rfl) Tryz.func4
    (ChangeSpec.witness6 (enc := enc) (C := Tryz.checked) false ⟨#[], #[.int .u64 0, .int .u64 0, .agg #[.float .f64 0, .float .f64 0, .float .f64 0, .float .f64 0, .float .f64 0, .float .f64 0]], []⟩ 8 (by kernel_rfl) (by kernel_rfl) (by kernel_rfl) (by kernel_rfl)) ?_
  intro W base args ds gs before hval0 hW hcnd _
  have hval : ∀ (j : Nat) t v, Tryz.f4.params[j]? = some t → args[j]? = some v → Value.okWide Tryz.prog W .any base t v := hval0
  have hW' := hW
  obtain ⟨p, q, hA0, hV, rfl, hfz, hnd⟩ := hW
  have hA : DataW.TrodAll enc Tryz.prog W 0 (fun _ => true) true Tryz.f4.params.toList args.toList ds p := hA0
  rw [Tryz.params4] at hA hval
  obtain ⟨v0, vs0, d0, ds0, p0, q0, hargs, rfl, rfl, h0, r0⟩ := trodAll_cons hA
  obtain ⟨v1, vs1, d1, ds1, p1, q1, rfl, rfl, rfl, h1, r1⟩ := trodAll_cons r0
  obtain ⟨v2, vs2, d2, ds2, p2, q2, rfl, rfl, rfl, h2, r2⟩ := trodAll_cons r1
  obtain ⟨rfl, rfl, rfl⟩ := trodAll_nil r2
  obtain rfl : args = #[v0, v1, v2] := by cases args; simp_all
  obtain ⟨rfl, rfl⟩ := trodVars_none hV
  obtain ⟨a0, rfl, rfl, rfl, w0⟩ := open_int Tryz.underlying31 (hval 0 31 v0 rfl rfl) h0
  obtain ⟨a1, rfl, rfl, rfl, w1⟩ := open_int Tryz.underlying31 (hval 1 31 v1 rfl rfl) h1
  obtain ⟨a2, b2, c2, k2, f2, g2, rfl, rfl, rfl, w2, x2, y2⟩ := open_vec vecT (hval 2 33 v2 rfl rfl) h2
  clear hA0 hval0
  simp only [List.append_nil] at hW'
  refine (cosineTells_row a0 a1 a2 b2 c2 k2 f2 g2 w0 w1 (f64_in w2.1) (f64_in w2.2) (f64_in x2.1) (f64_in x2.2) (f64_in y2.1) (f64_in y2.2) W).mono fun e W' ⟨he, hg⟩ => ?_
  subst he
  exact ⟨_, rfl, post_scalar hW' (fun _ _ _ => (trodAll_cons_mk (shut_bool Tryz.underlying4 _) trodAll_mk0)) (fun sp => (trodAll_cons_mk (shut_int Tryz.underlying31 w0) (trodAll_cons_mk (shut_int Tryz.underlying31 w1) (trodAll_cons_mk (shut_vec vecT w2 x2 y2) trodAll_mk0)))) (fun _ => rfl) hg (ok_one (by kernel_rfl) rfl (okWide_bool_mk Tryz.underlying4 _))⟩

theorem cosineTells_over : Rows.cosineTellsRow.holds Tryz.pinned (OpenSpec.ofChange Rows.cosineTellsSpec) :=
  OpenClaim.holds_of_wide 4 Tryz.f4 rfl rfl rfl rfl rfl rfl rfl ⟨rfl, rfl, rfl, rfl, rfl⟩ rfl rfl rfl rfl rfl (by kernel_rfl) Tryz.func4 (by kernel_rfl)
    (of_decide_eq_true (by kernel_rfl)) (by unfold Func.isWrapper; first | (rw [if_pos (by decide +kernel)]; kernel_rfl) | (rw [if_neg (by decide +kernel)]; exact ⟨rfl, rfl⟩))
    (fun os started H enc _ => cosineTells_lifted os started H enc)

theorem cosineTells_holds : Rows.CosineTellsSaid := cosineTells_over
#print axioms cosineTells_holds
end Go.Proofs.YtmhhopfffeijnaaGreat
