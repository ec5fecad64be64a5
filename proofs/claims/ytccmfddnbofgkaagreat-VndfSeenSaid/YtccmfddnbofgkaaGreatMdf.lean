/- Row VndfSeen of layer 13: what is drawn is of length 1, above the horizon, and seen; and where it is surely above 0 it is drawn. -/
import Derived.Test.YtccmfddnbofgkaaGreatRows
import Derived.Test.YtccmfddnbofgkaaGreatRv
import Derived.Test.YtccmfddnbofgkaaGreatRa
import Derived.Test.YtccmfddnbofgkaaGreatMd
namespace Go.Proofs.YtccmfddnbofgkaaGreat
set_option linter.all false
open Go.ChangeShapes Go.WideShapes Go.ChangeAt Go.RowKit
set_option linter.unusedVariables false

theorem arrT_u32x3 : ArrT Tryz.prog 23 22 3 .u32 := ⟨Tryz.underlying23, Tryz.underlying22, by kernel_rfl, by kernel_rfl⟩
theorem lst_3 {l : List Int} (h : l.length = 3) : ∃ y0 y1 y2, l = [y0, y1, y2] := by match l, h with | [y0, y1, y2], _ => exact ⟨y0, y1, y2, rfl⟩
set_option maxRecDepth 100000 in
theorem vndfSeen_lifted (os : Os) (started : os.Started) (H : Type) (enc : TypeId × Value → H) :
    ReturnsInHanded {} Tryz.checked os 3 .any (Rows.vndfSeenSpec.pre6 enc Tryz.prog Tryz.f3 Rows.vndfSeenRow.domain false) (Rows.vndfSeenSpec.post enc Tryz.prog Tryz.f3 false true false false) := by
  refine returnsInHanded_of_change (C := Tryz.checked) Tryz.own started (by kernel_rfl) Tryz.func3
    (ChangeSpec.witness6 (enc := enc) (C := Tryz.checked) false ⟨#[], #[.agg #[.int .u32 0, .int .u32 0, .int .u32 0], .int .u32 0, .int .u64 0, .int .u64 0], []⟩ 8 (by kernel_rfl) (by kernel_rfl) (by kernel_rfl) (by kernel_rfl)) ?_
  intro W base args ds gs before hval0 hW hcnd _
  have hval : ∀ (j : Nat) t v, Tryz.f3.params[j]? = some t → args[j]? = some v → Value.okWide Tryz.prog W .any base t v := hval0
  have hW' := hW
  obtain ⟨p, q, hA0, hV, rfl, hfz, hnd⟩ := hW
  have hA : DataW.TrodAll enc Tryz.prog W 0 (fun _ => true) true Tryz.f3.params.toList args.toList ds p := hA0
  rw [Tryz.params3] at hA hval
  obtain ⟨v0, vs0, d0, ds0, p0, q0, hargs, rfl, rfl, h0, r0⟩ := trodAll_cons hA
  obtain ⟨v1, vs1, d1, ds1, p1, q1, rfl, rfl, rfl, h1, r1⟩ := trodAll_cons r0
  obtain ⟨v2, vs2, d2, ds2, p2, q2, rfl, rfl, rfl, h2, r2⟩ := trodAll_cons r1
  obtain ⟨v3, vs3, d3, ds3, p3, q3, rfl, rfl, rfl, h3, r3⟩ := trodAll_cons r2
  obtain ⟨rfl, rfl, rfl⟩ := trodAll_nil r3
  obtain rfl : args = #[v0, v1, v2, v3] := by cases args; simp_all
  obtain ⟨rfl, rfl⟩ := trodVars_none hV
  obtain ⟨ns0, l0, rfl, rfl, rfl, w0⟩ := open_arr arrT_u32x3 (hval 0 23 v0 rfl rfl) h0
  obtain ⟨a0_0, a0_1, a0_2, rfl⟩ := lst_3 l0
  obtain ⟨a1, rfl, rfl, rfl, w1⟩ := open_int Tryz.underlying22 (hval 1 22 v1 rfl rfl) h1
  obtain ⟨a2, rfl, rfl, rfl, w2⟩ := open_int Tryz.underlying24 (hval 2 24 v2 rfl rfl) h2
  obtain ⟨a3, rfl, rfl, rfl, w3⟩ := open_int Tryz.underlying24 (hval 3 24 v3 rfl rfl) h3
  clear hA0 hval0
  simp only [List.append_nil] at hW'
  refine (vndfSeen_row a0_0 a0_1 a0_2 a1 a2 a3 (w0 a0_0 (by simp)) (w0 a0_1 (by simp)) (w0 a0_2 (by simp)) w1 w2 w3 W).mono fun e W' ⟨he, hg⟩ => ?_
  subst he
  exact ⟨_, rfl, post_scalar hW' (fun _ _ _ => (trodAll_cons_mk (shut_bool Tryz.underlying4 _) trodAll_mk0)) (fun sp => (trodAll_cons_mk (shut_arr arrT_u32x3 (ns := [a0_0, a0_1, a0_2]) rfl w0) (trodAll_cons_mk (shut_int Tryz.underlying22 w1) (trodAll_cons_mk (shut_int Tryz.underlying24 w2) (trodAll_cons_mk (shut_int Tryz.underlying24 w3) trodAll_mk0))))) (fun _ => rfl) hg (ok_one (by kernel_rfl) rfl (okWide_bool_mk Tryz.underlying4 _))⟩

theorem vndfSeen_over : Rows.vndfSeenRow.holds Tryz.pinned (OpenSpec.ofChange Rows.vndfSeenSpec) :=
  OpenClaim.holds_of_wide 3 Tryz.f3 rfl rfl rfl rfl rfl rfl rfl ⟨rfl, rfl, rfl, rfl, rfl⟩ rfl rfl rfl rfl rfl (by kernel_rfl) Tryz.func3 (by kernel_rfl)
    (of_decide_eq_true (by kernel_rfl)) (by unfold Func.isWrapper; first | (rw [if_pos (by decide +kernel)]; kernel_rfl) | (rw [if_neg (by decide +kernel)]; exact ⟨rfl, rfl⟩))
    (fun os started H enc _ => vndfSeen_lifted os started H enc)

theorem vndfSeen_holds : Rows.VndfSeenSaid := vndfSeen_over
#print axioms vndfSeen_holds
end Go.Proofs.YtccmfddnbofgkaaGreat
