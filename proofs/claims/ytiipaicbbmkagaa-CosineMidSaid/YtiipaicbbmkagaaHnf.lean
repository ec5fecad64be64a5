/- CosineMid: the middle of a box is within it; of a box of one triple it is that; of intervals that are not there is none: for every vector of words. -/
import Derived.Test.YtiipaicbbmkagaaRows
import Derived.Test.YtiipaicbbmkagaaRw
import Derived.Test.YtiipaicbbmkagaaRv
import Derived.Test.YtiipaicbbmkagaaHn
namespace Go.Proofs.Ytiipaicbbmkagaa
set_option linter.all false
open Go.ChangeShapes Go.WideShapes Go.ChangeAt Go.RowKit
set_option linter.unusedVariables false

theorem ivT : IvT Try.prog 24 22 := ⟨⟨_, _, Try.underlying24, rfl, rfl, rfl, rfl⟩, Try.underlying22, by kernel_rfl, by kernel_rfl⟩
theorem vecT : VecT Try.prog 48 24 22 := ⟨⟨_, _, _, Try.underlying48, rfl, rfl, rfl, rfl, rfl, rfl⟩, ivT, by kernel_rfl⟩
set_option maxRecDepth 100000 in
theorem cosineMid_lifted (os : Os) (started : os.Started) (H : Type) (enc : TypeId × Value → H) :
    ReturnsInHanded {} Try.checked os 9 .any (Rows.cosineMidSpec.pre6 enc Try.prog Try.f9 Rows.cosineMidRow.domain false) (Rows.cosineMidSpec.post enc Try.prog Try.f9 false true false false) := by
  refine returnsInHanded_of_change (C := Try.checked) Try.own started (by kernel_rfl) Try.func9
    (ChangeSpec.witness6 (enc := enc) (C := Try.checked) false ⟨#[], #[.agg #[.float .f64 0, .float .f64 0, .float .f64 0, .float .f64 0, .float .f64 0, .float .f64 0]], []⟩ 8 (by kernel_rfl) (by kernel_rfl) (by kernel_rfl) (by kernel_rfl)) ?_
  intro W base args ds gs before hval0 hW hcnd _
  have hval : ∀ (j : Nat) t v, Try.f9.params[j]? = some t → args[j]? = some v → Value.okWide Try.prog W .any base t v := hval0
  have hW' := hW
  obtain ⟨p, q, hA0, hV, rfl, hfz, hnd⟩ := hW
  have hA : DataW.TrodAll enc Try.prog W 0 (fun _ => true) true Try.f9.params.toList args.toList ds p := hA0
  rw [Try.params9] at hA hval
  obtain ⟨v0, vs0, d0, ds0, p0, q0, hargs, rfl, rfl, h0, r0⟩ := trodAll_cons hA
  obtain ⟨rfl, rfl, rfl⟩ := trodAll_nil r0
  obtain rfl : args = #[v0] := by cases args; simp_all
  obtain ⟨rfl, rfl⟩ := trodVars_none hV
  obtain ⟨a0, b0, c0, k0, f0, g0, rfl, rfl, rfl, w0, x0, y0⟩ := open_vec vecT (hval 0 48 v0 rfl rfl) h0
  clear hA0 hval0
  simp only [List.append_nil] at hW'
  refine (cosineMid_row a0 b0 c0 k0 f0 g0 (f64_in w0.1) (f64_in w0.2) (f64_in x0.1) (f64_in x0.2) (f64_in y0.1) (f64_in y0.2) W).mono fun e W' ⟨he, hg⟩ => ?_
  subst he
  exact ⟨_, rfl, post_scalar hW' (fun _ _ _ => (trodAll_cons_mk (shut_bool Try.underlying4 _) trodAll_mk0)) (fun sp => (trodAll_cons_mk (shut_vec vecT w0 x0 y0) trodAll_mk0)) (fun _ => rfl) hg (ok_one (by kernel_rfl) rfl (okWide_bool_mk Try.underlying4 _))⟩

theorem cosineMid_over : Rows.cosineMidRow.holds Try.pinned (OpenSpec.ofChange Rows.cosineMidSpec) :=
  OpenClaim.holds_of_wide 9 Try.f9 rfl rfl rfl rfl rfl rfl rfl ⟨rfl, rfl, rfl, rfl, rfl⟩ rfl rfl rfl rfl rfl (by kernel_rfl) Try.func9 (by kernel_rfl)
    (of_decide_eq_true (by kernel_rfl)) (by unfold Func.isWrapper; first | (rw [if_pos (by decide +kernel)]; kernel_rfl) | (rw [if_neg (by decide +kernel)]; exact ⟨rfl, rfl⟩))
    (fun os started H enc _ => cosineMid_lifted os started H enc)

theorem cosineMid_holds : Rows.CosineMidSaid := cosineMid_over
#print axioms cosineMid_holds
end Go.Proofs.Ytiipaicbbmkagaa
