/- DensDrawn: where something is surely sent it is surely drawn, and mirrors by no less than what they send back. -/
import Derived.Test.YtgjohjgmlleebaaGreatRows
import Derived.Test.YtgjohjgmlleebaaGreatV01
import Derived.Test.YtgjohjgmlleebaaGreatV14
import Derived.Test.YtgjohjgmlleebaaGreatV15
namespace Go.Proofs.YtgjohjgmlleebaaGreat
set_option linter.all false
open Go.ChangeShapes Go.WideShapes Go.ChangeAt Go.RowKit
set_option linter.unusedVariables false

theorem arrT_u32x6 : ArrT Tryz.prog 24 23 6 .u32 := ⟨Tryz.underlying24, Tryz.underlying23, by kernel_rfl, by kernel_rfl⟩
theorem lst_6 {l : List Int} (h : l.length = 6) : ∃ y0 y1 y2 y3 y4 y5, l = [y0, y1, y2, y3, y4, y5] := by match l, h with | [y0, y1, y2, y3, y4, y5], _ => exact ⟨y0, y1, y2, y3, y4, y5, rfl⟩
theorem arrT_u32x8 : ArrT Tryz.prog 48 23 8 .u32 := ⟨Tryz.underlying48, Tryz.underlying23, by kernel_rfl, by kernel_rfl⟩
theorem laid : Go.laidOutB Tryz.prog = true := by kernel_rfl
theorem rd_all : ∀ t ∈ [22, 24], Tryz.prog.readableRec t = true ∧ t < Tryz.prog.types.size := by
  intro t ht
  simp only [List.mem_cons, List.not_mem_nil, or_false] at ht
  rcases ht with rfl | rfl <;> exact ⟨by kernel_rfl, by first | decide +kernel | kernel_rfl⟩
set_option maxRecDepth 100000 in
theorem densDrawn_lifted (os : Os) (started : os.Started) (H : Type) (enc : TypeId × Value → H) :
    ReturnsInHanded {} Tryz.checked os 14 .any (Rows.densDrawnSpec.pre6 enc Tryz.prog Tryz.f14 Rows.densDrawnRow.domain false) (Rows.densDrawnSpec.post enc Tryz.prog Tryz.f14 false true false false) := by
  refine returnsInHanded_of_change (C := Tryz.checked) Tryz.own started (by kernel_rfl) Tryz.func14
    (ChangeSpec.witness6 (enc := enc) (C := Tryz.checked) false ⟨#[], #[.slice none 0 0, .agg #[.int .u32 0, .int .u32 0, .int .u32 0, .int .u32 0, .int .u32 0, .int .u32 0]], []⟩ 8 (by kernel_rfl) (by kernel_rfl) (by kernel_rfl) (by kernel_rfl)) ?_
  intro W base args ds gs before hval0 hW hcnd _
  have hval : ∀ (j : Nat) t v, Tryz.f14.params[j]? = some t → args[j]? = some v → Value.okWide Tryz.prog W .any base t v := hval0
  have hW' := hW
  obtain ⟨p, q, hA0, hV, rfl, hfz, hnd⟩ := hW
  have hA : DataW.TrodAll enc Tryz.prog W 0 (fun _ => true) true Tryz.f14.params.toList args.toList ds p := hA0
  rw [Tryz.params14] at hA hval
  obtain ⟨v0, vs0, d0, ds0, p0, q0, hargs, rfl, rfl, h0, r0⟩ := trodAll_cons hA
  obtain ⟨v1, vs1, d1, ds1, p1, q1, rfl, rfl, rfl, h1, r1⟩ := trodAll_cons r0
  obtain ⟨rfl, rfl, rfl⟩ := trodAll_nil r1
  obtain rfl : args = #[v0, v1] := by cases args; simp_all
  obtain ⟨rfl, rfl⟩ := trodVars_none hV
  obtain ⟨ns1, l1, rfl, rfl, rfl, w1⟩ := open_arr arrT_u32x6 (hval 1 24 v1 rfl rfl) h1
  obtain ⟨a1_0, a1_1, a1_2, a1_3, a1_4, a1_5, rfl⟩ := lst_6 l1
  clear hA0 hval0
  simp only [List.append_nil] at hW'
  have hR := open_rows Tryz.underlying22 arrT_u32x8 (hval 0 22 v0 rfl rfl) h0
  have fin : ∀ W' : World, Below W.heap.size W W' → (Rows.densDrawnSpec.post enc Tryz.prog Tryz.f14 false true false false) W #[v0, .agg #[.int .u32 a1_0, .int .u32 a1_1, .int .u32 a1_2, .int .u32 a1_3, .int .u32 a1_4, .int .u32 a1_5]] (.bool true) W' := fun W' hg =>
    post_kept laid (by simp only [Tryz.params14]; exact rd_all) rfl hW' (fun _ _ _ => (trodAll_cons_mk (shut_bool Tryz.underlying4 _) trodAll_mk0)) rfl rfl hg (ok_one (by kernel_rfl) rfl (okWide_bool_mk Tryz.underlying4 _))
  rcases hR with rfl | ⟨r, off, len, cap, cv, el, z, rfl, hlc, hh, hcs⟩
  · refine (densDrawn_none (w := W) (vs := [.slice none 0 0, .agg #[.int .u32 a1_0, .int .u32 a1_1, .int .u32 a1_2, .int .u32 a1_3, .int .u32 a1_4, .int .u32 a1_5]]) (by rfl) (u6_mk (w1 a1_0 (by simp)) (w1 a1_1 (by simp)) (w1 a1_2 (by simp)) (w1 a1_3 (by simp)) (w1 a1_4 (by simp)) (w1 a1_5 (by simp)))).mono fun e W' ⟨he, hg⟩ => ?_
    subst he
    exact ⟨_, rfl, fin W' hg⟩
  · obtain ⟨m, cells, hM, hm0, hb⟩ := rows_mem (cap := cap) hh hcs
    have hvs : Rx.dens m [.ssl 0 off len cap, Bu.U6.sv (Bu.U6.mk a1_0 a1_1 a1_2 a1_3 a1_4 a1_5)] = some [.slice (some ⟨r, off, none⟩) len cap, .agg #[.int .u32 a1_0, .int .u32 a1_1, .int .u32 a1_2, .int .u32 a1_3, .int .u32 a1_4, .int .u32 a1_5]] := by
      have h1 : m.f 0 = some r := hm0
      unfold Rx.dens Rx.den
      rw [h1]; rfl
    refine (densDrawn_some (w := W) hM hvs hlc hb (u6_mk (w1 a1_0 (by simp)) (w1 a1_1 (by simp)) (w1 a1_2 (by simp)) (w1 a1_3 (by simp)) (w1 a1_4 (by simp)) (w1 a1_5 (by simp)))).mono fun e W' ⟨he, hg⟩ => ?_
    subst he
    exact ⟨_, rfl, fin W' hg⟩

theorem densDrawn_over : Rows.densDrawnRow.holds Tryz.pinned (OpenSpec.ofChange Rows.densDrawnSpec) :=
  OpenClaim.holds_of_wide 14 Tryz.f14 rfl rfl rfl rfl rfl rfl rfl ⟨rfl, rfl, rfl, rfl, rfl⟩ rfl rfl rfl rfl rfl (by kernel_rfl) Tryz.func14 (by kernel_rfl)
    (of_decide_eq_true (by kernel_rfl)) (by unfold Func.isWrapper; first | (rw [if_pos (by decide +kernel)]; kernel_rfl) | (rw [if_neg (by decide +kernel)]; exact ⟨rfl, rfl⟩))
    (fun os started H enc _ => densDrawn_lifted os started H enc)

theorem densDrawn_holds : Rows.DensDrawnSaid := densDrawn_over
#print axioms densDrawn_holds
end Go.Proofs.YtgjohjgmlleebaaGreat
