/- DrawBox: what is drawn stands in its box, above the horizon; a mirror's direction is the straight one; the second and the third draw change nothing of the path. -/
import Derived.Test.YtgjohjgmlleebaaGreatRows
import Derived.Test.YtgjohjgmlleebaaGreatM01
import Derived.Test.YtgjohjgmlleebaaGreatM14
import Derived.Test.YtgjohjgmlleebaaGreatM16
namespace Go.Proofs.YtgjohjgmlleebaaGreat
set_option linter.all false
open Go.ChangeShapes Go.WideShapes Go.ChangeAt Go.RowKit
set_option linter.unusedVariables false

theorem arrT_u32x3 : ArrT Tryz.prog 62 23 3 .u32 := ⟨Tryz.underlying62, Tryz.underlying23, by kernel_rfl, by kernel_rfl⟩
theorem arrT_u64x3 : ArrT Tryz.prog 63 56 3 .u64 := ⟨Tryz.underlying63, Tryz.underlying56, by kernel_rfl, by kernel_rfl⟩
theorem lst_3 {l : List Int} (h : l.length = 3) : ∃ y0 y1 y2, l = [y0, y1, y2] := by match l, h with | [y0, y1, y2], _ => exact ⟨y0, y1, y2, rfl⟩
theorem arrT_u32x8 : ArrT Tryz.prog 48 23 8 .u32 := ⟨Tryz.underlying48, Tryz.underlying23, by kernel_rfl, by kernel_rfl⟩
theorem laid : Go.laidOutB Tryz.prog = true := by kernel_rfl
theorem rd_all : ∀ t ∈ [22, 62, 63, 56, 56], Tryz.prog.readableRec t = true ∧ t < Tryz.prog.types.size := by
  intro t ht
  simp only [List.mem_cons, List.not_mem_nil, or_false] at ht
  rcases ht with rfl | rfl | rfl | rfl | rfl <;> exact ⟨by kernel_rfl, by first | decide +kernel | kernel_rfl⟩
set_option maxRecDepth 100000 in
theorem drawBox_lifted (os : Os) (started : os.Started) (H : Type) (enc : TypeId × Value → H) :
    ReturnsInHanded {} Tryz.checked os 6 .any (Rows.drawBoxSpec.pre6 enc Tryz.prog Tryz.f6 Rows.drawBoxRow.domain false) (Rows.drawBoxSpec.post enc Tryz.prog Tryz.f6 false true false false) := by
  refine returnsInHanded_of_change (C := Tryz.checked) Tryz.own started (by kernel_rfl) Tryz.func6
    (ChangeSpec.witness6 (enc := enc) (C := Tryz.checked) false ⟨#[], #[.slice none 0 0, .agg #[.int .u32 0, .int .u32 0, .int .u32 0], .agg #[.int .u64 0, .int .u64 0, .int .u64 0], .int .u64 0, .int .u64 0], []⟩ 8 (by kernel_rfl) (by kernel_rfl) (by kernel_rfl) (by kernel_rfl)) ?_
  intro W base args ds gs before hval0 hW hcnd _
  have hval : ∀ (j : Nat) t v, Tryz.f6.params[j]? = some t → args[j]? = some v → Value.okWide Tryz.prog W .any base t v := hval0
  have hW' := hW
  obtain ⟨p, q, hA0, hV, rfl, hfz, hnd⟩ := hW
  have hA : DataW.TrodAll enc Tryz.prog W 0 (fun _ => true) true Tryz.f6.params.toList args.toList ds p := hA0
  rw [Tryz.params6] at hA hval
  obtain ⟨v0, vs0, d0, ds0, p0, q0, hargs, rfl, rfl, h0, r0⟩ := trodAll_cons hA
  obtain ⟨v1, vs1, d1, ds1, p1, q1, rfl, rfl, rfl, h1, r1⟩ := trodAll_cons r0
  obtain ⟨v2, vs2, d2, ds2, p2, q2, rfl, rfl, rfl, h2, r2⟩ := trodAll_cons r1
  obtain ⟨v3, vs3, d3, ds3, p3, q3, rfl, rfl, rfl, h3, r3⟩ := trodAll_cons r2
  obtain ⟨v4, vs4, d4, ds4, p4, q4, rfl, rfl, rfl, h4, r4⟩ := trodAll_cons r3
  obtain ⟨rfl, rfl, rfl⟩ := trodAll_nil r4
  obtain rfl : args = #[v0, v1, v2, v3, v4] := by cases args; simp_all
  obtain ⟨rfl, rfl⟩ := trodVars_none hV
  obtain ⟨ns1, l1, rfl, rfl, rfl, w1⟩ := open_arr arrT_u32x3 (hval 1 62 v1 rfl rfl) h1
  obtain ⟨a1_0, a1_1, a1_2, rfl⟩ := lst_3 l1
  obtain ⟨ns2, l2, rfl, rfl, rfl, w2⟩ := open_arr arrT_u64x3 (hval 2 63 v2 rfl rfl) h2
  obtain ⟨a2_0, a2_1, a2_2, rfl⟩ := lst_3 l2
  obtain ⟨a3, rfl, rfl, rfl, w3⟩ := open_int Tryz.underlying56 (hval 3 56 v3 rfl rfl) h3
  obtain ⟨a4, rfl, rfl, rfl, w4⟩ := open_int Tryz.underlying56 (hval 4 56 v4 rfl rfl) h4
  clear hA0 hval0
  simp only [List.append_nil] at hW'
  have hR := open_rows Tryz.underlying22 arrT_u32x8 (hval 0 22 v0 rfl rfl) h0
  have fin : ∀ W' : World, Below W.heap.size W W' → (Rows.drawBoxSpec.post enc Tryz.prog Tryz.f6 false true false false) W #[v0, .agg #[.int .u32 a1_0, .int .u32 a1_1, .int .u32 a1_2], .agg #[.int .u64 a2_0, .int .u64 a2_1, .int .u64 a2_2], .int .u64 a3, .int .u64 a4] (.bool true) W' := fun W' hg =>
    post_kept laid (by simp only [Tryz.params6]; exact rd_all) rfl hW' (fun _ _ _ => (trodAll_cons_mk (shut_bool Tryz.underlying4 _) trodAll_mk0)) rfl rfl hg (ok_one (by kernel_rfl) rfl (okWide_bool_mk Tryz.underlying4 _))
  rcases hR with rfl | ⟨r, off, len, cap, cv, el, z, rfl, hlc, hh, hcs⟩
  · refine (drawBox_none (w := W) (vs := [.slice none 0 0, .agg #[.int .u32 a1_0, .int .u32 a1_1, .int .u32 a1_2], .agg #[.int .u64 a2_0, .int .u64 a2_1, .int .u64 a2_2], .int .u64 a3, .int .u64 a4]) (by rfl) (u32_w (w1 a1_0 (by simp))) (u32_w (w1 a1_1 (by simp))) (u32_w (w1 a1_2 (by simp))) (u64_w (w2 a2_0 (by simp))) (u64_w (w2 a2_1 (by simp))) (u64_w (w2 a2_2 (by simp))) (u64_w w3) (u64_w w4)).mono fun e W' ⟨he, hg⟩ => ?_
    subst he
    exact ⟨_, rfl, fin W' hg⟩
  · obtain ⟨m, cells, hM, hm0, hb⟩ := rows_mem (cap := cap) hh hcs
    have hvs : Rx.dens m [.ssl 0 off len cap, .agg [.si .u32 a1_0, .si .u32 a1_1, .si .u32 a1_2], .agg [.si .u64 a2_0, .si .u64 a2_1, .si .u64 a2_2], .si .u64 a3, .si .u64 a4] = some [.slice (some ⟨r, off, none⟩) len cap, .agg #[.int .u32 a1_0, .int .u32 a1_1, .int .u32 a1_2], .agg #[.int .u64 a2_0, .int .u64 a2_1, .int .u64 a2_2], .int .u64 a3, .int .u64 a4] := by
      have h1 : m.f 0 = some r := hm0
      unfold Rx.dens Rx.den
      rw [h1]; rfl
    refine (drawBox_some (w := W) hM hvs hlc hb (u32_w (w1 a1_0 (by simp))) (u32_w (w1 a1_1 (by simp))) (u32_w (w1 a1_2 (by simp))) (u64_w (w2 a2_0 (by simp))) (u64_w (w2 a2_1 (by simp))) (u64_w (w2 a2_2 (by simp))) (u64_w w3) (u64_w w4)).mono fun e W' ⟨he, hg⟩ => ?_
    subst he
    exact ⟨_, rfl, fin W' hg⟩

theorem drawBox_over : Rows.drawBoxRow.holds Tryz.pinned (OpenSpec.ofChange Rows.drawBoxSpec) :=
  OpenClaim.holds_of_wide 6 Tryz.f6 rfl rfl rfl rfl rfl rfl rfl ⟨rfl, rfl, rfl, rfl, rfl⟩ rfl rfl rfl rfl rfl (by kernel_rfl) Tryz.func6 (by kernel_rfl)
    (of_decide_eq_true (by kernel_rfl)) (by unfold Func.isWrapper; first | (rw [if_pos (by decide +kernel)]; kernel_rfl) | (rw [if_neg (by decide +kernel)]; exact ⟨rfl, rfl⟩))
    (fun os started H enc _ => drawBox_lifted os started H enc)

theorem drawBox_holds : Rows.DrawBoxSaid := drawBox_over
#print axioms drawBox_holds
end Go.Proofs.YtgjohjgmlleebaaGreat
