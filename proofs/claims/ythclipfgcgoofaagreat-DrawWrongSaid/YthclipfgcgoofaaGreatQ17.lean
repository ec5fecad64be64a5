/- What is no program, or no direction, is told; from at or below the horizon nothing is drawn; cosines that may not be are refused: any rows, any triple, any interval, any draws. -/
import Derived.Test.YthclipfgcgoofaaGreatRows
import Derived.Test.YthclipfgcgoofaaGreatQ01
import Derived.Test.YthclipfgcgoofaaGreatQ14
import Derived.Test.YthclipfgcgoofaaGreatQ16
namespace Go.Proofs.YthclipfgcgoofaaGreat
set_option linter.all false
open Go.ChangeShapes Go.WideShapes Go.ChangeAt Go.RowKit
set_option linter.unusedVariables false
theorem ivT : IvT Tryz.prog 27 23 := ⟨⟨_, _, Tryz.underlying27, rfl, rfl, rfl, rfl⟩, Tryz.underlying23, by kernel_rfl, by kernel_rfl⟩
theorem f3T : F3T Tryz.prog 25 23 := ⟨⟨_, _, _, Tryz.underlying25, rfl, rfl, rfl, rfl, rfl, rfl⟩, Tryz.underlying23, by kernel_rfl, by kernel_rfl⟩
theorem arrT_u64x3 : ArrT Tryz.prog 29 28 3 .u64 := ⟨Tryz.underlying29, Tryz.underlying28, by kernel_rfl, by kernel_rfl⟩
theorem lst_3 {l : List Int} (h : l.length = 3) : ∃ y0 y1 y2, l = [y0, y1, y2] := by match l, h with | [y0, y1, y2], _ => exact ⟨y0, y1, y2, rfl⟩
theorem arrT_u32x8 : ArrT Tryz.prog 107 45 8 .u32 := ⟨Tryz.underlying107, Tryz.underlying45, by kernel_rfl, by kernel_rfl⟩
theorem laid : Go.laidOutB Tryz.prog = true := by kernel_rfl
theorem rd_all : ∀ t ∈ [22, 25, 27, 29], Tryz.prog.readableRec t = true ∧ t < Tryz.prog.types.size := by
  intro t ht
  simp only [List.mem_cons, List.not_mem_nil, or_false] at ht
  rcases ht with rfl | rfl | rfl | rfl <;> exact ⟨by kernel_rfl, by first | decide +kernel | kernel_rfl⟩
set_option maxRecDepth 100000 in
theorem drawWrong_lifted (os : Os) (started : os.Started) (H : Type) (enc : TypeId × Value → H) :
    ReturnsInHanded {} Tryz.checked os 3 .any (Rows.drawWrongSpec.pre6 enc Tryz.prog Tryz.f3 Rows.drawWrongRow.domain false) (Rows.drawWrongSpec.post enc Tryz.prog Tryz.f3 false true false false) := by
  refine returnsInHanded_of_change (C := Tryz.checked) Tryz.own started (by kernel_rfl) Tryz.func3
    (ChangeSpec.witness6 (enc := enc) (C := Tryz.checked) false ⟨#[], #[.slice none 0 0, .agg #[.float .f64 0, .float .f64 0, .float .f64 0], .agg #[.float .f64 0, .float .f64 0], .agg #[.int .u64 0, .int .u64 0, .int .u64 0]], []⟩ 8 (by kernel_rfl) (by kernel_rfl) (by kernel_rfl) (by kernel_rfl)) ?_
  intro W base args ds gs before hval0 hW hcnd _
  have hval : ∀ (j : Nat) t v, Tryz.f3.params[j]? = some t → args[j]? = some v → Value.okWide Tryz.prog W .any base t v := hval0
  have hW' := hW
  obtain ⟨p, q, hA0, hV, rfl, hfz, hnd⟩ := hW
  have hA : DataW.TrodAll enc Tryz.prog W 0 (fun _ => true) true Tryz.f3.params.toList args.toList ds p := hA0
  rw [Tryz.params3] at hA hval
  obtain ⟨v0, vs0, d0, ds0, p0, q0, hargs, rfl, rfl, h0, r0⟩ := trodAll_cons hA
  obtain ⟨v1, vs1, d1, ds1, p1, q1, rfl, rfl, rfl, h1, r1⟩ := trodAll_cons r0
  obtain ⟨v2, vs2, d2, ds2, p2, q2, rfl, rfl, rfl, h2, r2⟩ := trodAll_cons r1
  obtain ⟨v3, vs3, d3, ds3, p3, q3, rfl, rfl, rfl, h3, r3⟩ := trodAll_cons r2
  obtain ⟨rfl, rfl, rfl⟩ := trodAll_nil r3
  obtain rfl : args = #[v0, v1, v2, v3] := by cases args; simp_all
  obtain ⟨rfl, rfl⟩ := trodVars_none hV
  obtain ⟨a1, b1, c1, rfl, rfl, rfl, w1, x1, y1⟩ := open_f3 f3T (hval 1 25 v1 rfl rfl) h1
  obtain ⟨a2, b2, rfl, rfl, rfl, w2, x2⟩ := open_iv ivT (hval 2 27 v2 rfl rfl) h2
  obtain ⟨ns3, l3, rfl, rfl, rfl, w3⟩ := open_arr arrT_u64x3 (hval 3 29 v3 rfl rfl) h3
  obtain ⟨a3_0, a3_1, a3_2, rfl⟩ := lst_3 l3
  clear hA0 hval0
  simp only [List.append_nil] at hW'
  have hR := open_rows Tryz.underlying22 arrT_u32x8 (hval 0 22 v0 rfl rfl) h0
  have fin : ∀ W' : World, Below W.heap.size W W' → (Rows.drawWrongSpec.post enc Tryz.prog Tryz.f3 false true false false) W #[v0, .agg #[.float .f64 a1, .float .f64 b1, .float .f64 c1], .agg #[.float .f64 a2, .float .f64 b2], .agg #[.int .u64 a3_0, .int .u64 a3_1, .int .u64 a3_2]] (.bool true) W' := fun W' hg =>
    post_kept laid (by simp only [Tryz.params3]; exact rd_all) rfl hW' (fun _ _ _ => (trodAll_cons_mk (shut_bool Tryz.underlying4 _) trodAll_mk0)) rfl rfl hg (ok_one (by kernel_rfl) rfl (okWide_bool_mk Tryz.underlying4 _))
  rcases hR with rfl | ⟨r, off, len, cap, cv, el, z, rfl, hlc, hh, hcs⟩
  · refine (drawWrong_none (w := W) (vs := [.slice none 0 0, .agg #[.float .f64 a1, .float .f64 b1, .float .f64 c1], .agg #[.float .f64 a2, .float .f64 b2], .agg #[.int .u64 a3_0, .int .u64 a3_1, .int .u64 a3_2]]) (by rfl) (f64_in w1) (f64_in x1) (f64_in y1) (f64_in w2) (f64_in x2) (u64_w (w3 a3_0 (by simp))) (u64_w (w3 a3_1 (by simp))) (u64_w (w3 a3_2 (by simp)))).mono fun e W' ⟨he, hg⟩ => ?_
    subst he
    exact ⟨_, rfl, fin W' hg⟩
  · obtain ⟨m, cells, hM, hm0, hb⟩ := rows_mem (cap := cap) hh hcs
    have hvs : Rx.dens m [.ssl 0 off len cap, .agg [.f a1, .f b1, .f c1], .agg [.f a2, .f b2], .agg [.si .u64 a3_0, .si .u64 a3_1, .si .u64 a3_2]] = some [.slice (some ⟨r, off, none⟩) len cap, .agg #[.float .f64 a1, .float .f64 b1, .float .f64 c1], .agg #[.float .f64 a2, .float .f64 b2], .agg #[.int .u64 a3_0, .int .u64 a3_1, .int .u64 a3_2]] := by
      have h1 : m.f 0 = some r := hm0
      unfold Rx.dens Rx.den
      rw [h1]; rfl
    refine (drawWrong_some (w := W) hM hvs hlc hb (f64_in w1) (f64_in x1) (f64_in y1) (f64_in w2) (f64_in x2) (u64_w (w3 a3_0 (by simp))) (u64_w (w3 a3_1 (by simp))) (u64_w (w3 a3_2 (by simp)))).mono fun e W' ⟨he, hg⟩ => ?_
    subst he
    exact ⟨_, rfl, fin W' hg⟩
theorem drawWrong_inPlace : (Rows.drawWrongRow.inPlace == Tryz.prog.inPlace 3) = true := by kernel_rfl
theorem drawWrong_unfollowed : (Rows.drawWrongRow.unfollowed == Tryz.prog.unfollowed 3) = true := by kernel_rfl
theorem drawWrong_recurses : (Rows.drawWrongRow.recurses == Tryz.prog.recurses 3) = true := by kernel_rfl
theorem drawWrong_varsNamed : (Rows.drawWrongRow.named == Tryz.prog.varsNamed 3) = true := by kernel_rfl
theorem drawWrong_closed : joinedFacts Tryz.pinned.checked.prog 3 Tryz.f3 Rows.drawWrongSpec Rows.drawWrongRow = true := by
  have e : Tryz.pinned.checked.prog = Tryz.prog := rfl
  rw [e]
  unfold joinedFacts
  rw [laid, drawWrong_inPlace, drawWrong_unfollowed, drawWrong_recurses, drawWrong_varsNamed]
  change _ = true
  kernel_rfl
theorem drawWrong_over : Rows.drawWrongRow.holds Tryz.pinned (OpenSpec.ofChange Rows.drawWrongSpec) :=
  OpenClaim.holds_of_wide 3 Tryz.f3 rfl rfl rfl rfl rfl rfl rfl ⟨rfl, rfl, rfl, rfl, rfl⟩ rfl rfl rfl rfl rfl (by kernel_rfl) Tryz.func3 drawWrong_closed
    (of_decide_eq_true (by kernel_rfl)) (by unfold Func.isWrapper; first | (rw [if_pos (by decide +kernel)]; kernel_rfl) | (rw [if_neg (by decide +kernel)]; exact ⟨rfl, rfl⟩))
    (fun os started H enc _ => drawWrong_lifted os started H enc)
theorem drawWrong_holds : Rows.DrawWrongSaid := drawWrong_over
#print axioms drawWrong_holds
end Go.Proofs.YthclipfgcgoofaaGreat
