/- DensWithin: what is told of intervals has what is told of those within them, and no error where there is none. -/
import Derived.Test.YthclipfgcgoofaaGreatRows
import Derived.Test.YthclipfgcgoofaaGreatP01
import Derived.Test.YthclipfgcgoofaaGreatP14
import Derived.Test.YthclipfgcgoofaaGreatP16
namespace Go.Proofs.YthclipfgcgoofaaGreat
set_option linter.all false
open Go.ChangeShapes Go.WideShapes Go.ChangeAt Go.RowKit
set_option linter.unusedVariables false
theorem arrT_u32x6 : ArrT Tryz.prog 46 45 6 .u32 := ⟨Tryz.underlying46, Tryz.underlying45, by kernel_rfl, by kernel_rfl⟩
theorem lst_6 {l : List Int} (h : l.length = 6) : ∃ y0 y1 y2 y3 y4 y5, l = [y0, y1, y2, y3, y4, y5] := by match l, h with | [y0, y1, y2, y3, y4, y5], _ => exact ⟨y0, y1, y2, y3, y4, y5, rfl⟩
theorem arrT_u32x8 : ArrT Tryz.prog 107 45 8 .u32 := ⟨Tryz.underlying107, Tryz.underlying45, by kernel_rfl, by kernel_rfl⟩
theorem laid : Go.laidOutB Tryz.prog = true := by kernel_rfl
theorem rd_all : ∀ t ∈ [22, 46, 5, 46, 46], Tryz.prog.readableRec t = true ∧ t < Tryz.prog.types.size := by
  intro t ht
  simp only [List.mem_cons, List.not_mem_nil, or_false] at ht
  rcases ht with rfl | rfl | rfl | rfl | rfl <;> exact ⟨by kernel_rfl, by first | decide +kernel | kernel_rfl⟩
set_option maxRecDepth 100000 in
theorem densWithin_lifted (os : Os) (started : os.Started) (H : Type) (enc : TypeId × Value → H) :
    ReturnsInHanded {} Tryz.checked os 5 .any (Rows.densWithinSpec.pre6 enc Tryz.prog Tryz.f5 Rows.densWithinRow.domain false) (Rows.densWithinSpec.post enc Tryz.prog Tryz.f5 false true false false) := by
  refine returnsInHanded_of_change (C := Tryz.checked) Tryz.own started (by kernel_rfl) Tryz.func5
    (ChangeSpec.witness6 (enc := enc) (C := Tryz.checked) false ⟨#[], #[.slice none 0 0, .agg #[.int .u32 0, .int .u32 0, .int .u32 0, .int .u32 0, .int .u32 0, .int .u32 0], .int .u8 0, .agg #[.int .u32 0, .int .u32 0, .int .u32 0, .int .u32 0, .int .u32 0, .int .u32 0], .agg #[.int .u32 0, .int .u32 0, .int .u32 0, .int .u32 0, .int .u32 0, .int .u32 0]], []⟩ 8 (by kernel_rfl) (by kernel_rfl) (by kernel_rfl) (by kernel_rfl)) ?_
  intro W base args ds gs before hval0 hW hcnd _
  have hval : ∀ (j : Nat) t v, Tryz.f5.params[j]? = some t → args[j]? = some v → Value.okWide Tryz.prog W .any base t v := hval0
  have hW' := hW
  obtain ⟨p, q, hA0, hV, rfl, hfz, hnd⟩ := hW
  have hA : DataW.TrodAll enc Tryz.prog W 0 (fun _ => true) true Tryz.f5.params.toList args.toList ds p := hA0
  rw [Tryz.params5] at hA hval
  obtain ⟨v0, vs0, d0, ds0, p0, q0, hargs, rfl, rfl, h0, r0⟩ := trodAll_cons hA
  obtain ⟨v1, vs1, d1, ds1, p1, q1, rfl, rfl, rfl, h1, r1⟩ := trodAll_cons r0
  obtain ⟨v2, vs2, d2, ds2, p2, q2, rfl, rfl, rfl, h2, r2⟩ := trodAll_cons r1
  obtain ⟨v3, vs3, d3, ds3, p3, q3, rfl, rfl, rfl, h3, r3⟩ := trodAll_cons r2
  obtain ⟨v4, vs4, d4, ds4, p4, q4, rfl, rfl, rfl, h4, r4⟩ := trodAll_cons r3
  obtain ⟨rfl, rfl, rfl⟩ := trodAll_nil r4
  obtain rfl : args = #[v0, v1, v2, v3, v4] := by cases args; simp_all
  obtain ⟨rfl, rfl⟩ := trodVars_none hV
  obtain ⟨ns1, l1, rfl, rfl, rfl, w1⟩ := open_arr arrT_u32x6 (hval 1 46 v1 rfl rfl) h1
  obtain ⟨a1_0, a1_1, a1_2, a1_3, a1_4, a1_5, rfl⟩ := lst_6 l1
  obtain ⟨a2, rfl, rfl, rfl, w2⟩ := open_int Tryz.underlying5 (hval 2 5 v2 rfl rfl) h2
  obtain ⟨ns3, l3, rfl, rfl, rfl, w3⟩ := open_arr arrT_u32x6 (hval 3 46 v3 rfl rfl) h3
  obtain ⟨a3_0, a3_1, a3_2, a3_3, a3_4, a3_5, rfl⟩ := lst_6 l3
  obtain ⟨ns4, l4, rfl, rfl, rfl, w4⟩ := open_arr arrT_u32x6 (hval 4 46 v4 rfl rfl) h4
  obtain ⟨a4_0, a4_1, a4_2, a4_3, a4_4, a4_5, rfl⟩ := lst_6 l4
  clear hA0 hval0
  simp only [List.append_nil] at hW'
  have hR := open_rows Tryz.underlying22 arrT_u32x8 (hval 0 22 v0 rfl rfl) h0
  have fin : ∀ W' : World, Below W.heap.size W W' → (Rows.densWithinSpec.post enc Tryz.prog Tryz.f5 false true false false) W #[v0, .agg #[.int .u32 a1_0, .int .u32 a1_1, .int .u32 a1_2, .int .u32 a1_3, .int .u32 a1_4, .int .u32 a1_5], .int .u8 a2, .agg #[.int .u32 a3_0, .int .u32 a3_1, .int .u32 a3_2, .int .u32 a3_3, .int .u32 a3_4, .int .u32 a3_5], .agg #[.int .u32 a4_0, .int .u32 a4_1, .int .u32 a4_2, .int .u32 a4_3, .int .u32 a4_4, .int .u32 a4_5]] (.bool true) W' := fun W' hg =>
    post_kept laid (by simp only [Tryz.params5]; exact rd_all) rfl hW' (fun _ _ _ => (trodAll_cons_mk (shut_bool Tryz.underlying4 _) trodAll_mk0)) rfl rfl hg (ok_one (by kernel_rfl) rfl (okWide_bool_mk Tryz.underlying4 _))
  rcases hR with rfl | ⟨r, off, len, cap, cv, el, z, rfl, hlc, hh, hcs⟩
  · refine (densWithin_none (w := W) (vs := [.slice none 0 0, .agg #[.int .u32 a1_0, .int .u32 a1_1, .int .u32 a1_2, .int .u32 a1_3, .int .u32 a1_4, .int .u32 a1_5], .int .u8 a2, .agg #[.int .u32 a3_0, .int .u32 a3_1, .int .u32 a3_2, .int .u32 a3_3, .int .u32 a3_4, .int .u32 a3_5], .agg #[.int .u32 a4_0, .int .u32 a4_1, .int .u32 a4_2, .int .u32 a4_3, .int .u32 a4_4, .int .u32 a4_5]]) (by rfl) (u6_mk (w1 a1_0 (by simp)) (w1 a1_1 (by simp)) (w1 a1_2 (by simp)) (w1 a1_3 (by simp)) (w1 a1_4 (by simp)) (w1 a1_5 (by simp))) w2 (u6_mk (w3 a3_0 (by simp)) (w3 a3_1 (by simp)) (w3 a3_2 (by simp)) (w3 a3_3 (by simp)) (w3 a3_4 (by simp)) (w3 a3_5 (by simp))) (u6_mk (w4 a4_0 (by simp)) (w4 a4_1 (by simp)) (w4 a4_2 (by simp)) (w4 a4_3 (by simp)) (w4 a4_4 (by simp)) (w4 a4_5 (by simp)))).mono fun e W' ⟨he, hg⟩ => ?_
    subst he
    exact ⟨_, rfl, fin W' hg⟩
  · obtain ⟨m, cells, hM, hm0, hb⟩ := rows_mem (cap := cap) hh hcs
    have hvs : Rx.dens m [.ssl 0 off len cap, Bu.U6.sv (Bu.U6.mk a1_0 a1_1 a1_2 a1_3 a1_4 a1_5), .si .u8 a2, Bu.U6.sv (Bu.U6.mk a3_0 a3_1 a3_2 a3_3 a3_4 a3_5), Bu.U6.sv (Bu.U6.mk a4_0 a4_1 a4_2 a4_3 a4_4 a4_5)] = some [.slice (some ⟨r, off, none⟩) len cap, .agg #[.int .u32 a1_0, .int .u32 a1_1, .int .u32 a1_2, .int .u32 a1_3, .int .u32 a1_4, .int .u32 a1_5], .int .u8 a2, .agg #[.int .u32 a3_0, .int .u32 a3_1, .int .u32 a3_2, .int .u32 a3_3, .int .u32 a3_4, .int .u32 a3_5], .agg #[.int .u32 a4_0, .int .u32 a4_1, .int .u32 a4_2, .int .u32 a4_3, .int .u32 a4_4, .int .u32 a4_5]] := by
      have h1 : m.f 0 = some r := hm0
      unfold Rx.dens Rx.den
      rw [h1]; rfl
    refine (densWithin_some (w := W) hM hvs hlc hb (u6_mk (w1 a1_0 (by simp)) (w1 a1_1 (by simp)) (w1 a1_2 (by simp)) (w1 a1_3 (by simp)) (w1 a1_4 (by simp)) (w1 a1_5 (by simp))) w2 (u6_mk (w3 a3_0 (by simp)) (w3 a3_1 (by simp)) (w3 a3_2 (by simp)) (w3 a3_3 (by simp)) (w3 a3_4 (by simp)) (w3 a3_5 (by simp))) (u6_mk (w4 a4_0 (by simp)) (w4 a4_1 (by simp)) (w4 a4_2 (by simp)) (w4 a4_3 (by simp)) (w4 a4_4 (by simp)) (w4 a4_5 (by simp)))).mono fun e W' ⟨he, hg⟩ => ?_
    subst he
    exact ⟨_, rfl, fin W' hg⟩
theorem densWithin_inPlace : (Rows.densWithinRow.inPlace == Tryz.prog.inPlace 5) = true := by kernel_rfl
theorem densWithin_unfollowed : (Rows.densWithinRow.unfollowed == Tryz.prog.unfollowed 5) = true := by kernel_rfl
theorem densWithin_recurses : (Rows.densWithinRow.recurses == Tryz.prog.recurses 5) = true := by kernel_rfl
theorem densWithin_varsNamed : (Rows.densWithinRow.named == Tryz.prog.varsNamed 5) = true := by kernel_rfl
theorem densWithin_closed : joinedFacts Tryz.pinned.checked.prog 5 Tryz.f5 Rows.densWithinSpec Rows.densWithinRow = true := by
  have e : Tryz.pinned.checked.prog = Tryz.prog := rfl
  rw [e]
  unfold joinedFacts
  rw [laid, densWithin_inPlace, densWithin_unfollowed, densWithin_recurses, densWithin_varsNamed]
  change _ = true
  kernel_rfl
theorem densWithin_over : Rows.densWithinRow.holds Tryz.pinned (OpenSpec.ofChange Rows.densWithinSpec) :=
  OpenClaim.holds_of_wide 5 Tryz.f5 rfl rfl rfl rfl rfl rfl rfl ⟨rfl, rfl, rfl, rfl, rfl⟩ rfl rfl rfl rfl rfl (by kernel_rfl) Tryz.func5 densWithin_closed
    (of_decide_eq_true (by kernel_rfl)) (by unfold Func.isWrapper; first | (rw [if_pos (by decide +kernel)]; kernel_rfl) | (rw [if_neg (by decide +kernel)]; exact ⟨rfl, rfl⟩))
    (fun os started H enc _ => densWithin_lifted os started H enc)
theorem densWithin_holds : Rows.DensWithinSaid := densWithin_over
#print axioms densWithin_holds
end Go.Proofs.YthclipfgcgoofaaGreat
