/- Package trig by the reckoner: row, within, at. Package trig by the reckoner: SinCos; and what its laws ask. micro.look: two directions that may be. -/
import Derived.Test.YtlhlcefkmhhmjaaGreatZ13
import Derived.Test.YtlhlcefkmhhmjaaGreatZ12
import Derived.Test.YtlhlcefkmhhmjaaGreatZ14
import Derived.Test.YtlhlcefkmhhmjaaGreatZ08
namespace Go.Proofs.YtlhlcefkmhhmjaaGreat
set_option linter.all false
open Go.RowKit Bu Rx

theorem pdivG : PlainOk Tryz.prog 42 (kTwo pDiv) := two_ok div_F_w
theorem nextG : PlainOk Tryz.prog 46 (kNx nextF) := by
  intro args ds x ds' ob h1 ho
  unfold kNx at h1
  split at h1
  · rename_i x up
    simp only [Option.some.injEq, Prod.mk.injEq] at h1
    obtain ⟨rfl, _, _⟩ := h1
    exact ⟨[.float .f64 x.b, .bool up], _, rfl, rfl, fun w => next_F x up w⟩
  · cases h1
theorem addC : OfOk Tryz.prog 95 (kC (aII KTR.add)) := cadd_I (two_ok add_F_w)
theorem subC : OfOk Tryz.prog 98 (kC (aII KTR.sub)) := csub_I (two_ok sub_F_w)
theorem mulC : OfOk Tryz.prog 21 (kC (aII KTR.mul)) := cmul_I (two_ok mul_F_w)
theorem divC : OfOk Tryz.prog 17 (kC (aII KTR.div)) := cdiv_I pdivG
theorem sqrC : OfOk Tryz.prog 85 (kC (aI KTR.sqr)) := csqr_I (two_ok mul_F_w)
theorem numC : OfOk Tryz.prog 18 (kC (aF KTR.num)) := cnum_I
def OIM : OracleF := lookO []
theorem oracleIM : OracleOk Tryz.prog OIM := .nil _
end Go.Proofs.YtlhlcefkmhhmjaaGreat
namespace Go.Proofs.YtlhlcefkmhhmjaaGreat
set_option linter.all false
open Go.RowKit Bu Rx

theorem constG {P : Program} {g : FuncId} {x : SV} {v : Value} (hx : plain x = some v) (h : ∀ w, Calls P g #[] w fun e w' => e = .returned v ∧ Below w.heap.size w w') : PlainOk P g (oConst x) := by
  intro args ds y ds' ob hk ho
  unfold oConst at hk
  split at hk
  · simp only [Option.some.injEq, Prod.mk.injEq] at hk
    obtain ⟨rfl, _, _⟩ := hk
    exact ⟨[], v, rfl, hx, h⟩
  · cases hk
theorem irtK : PlainOk Tryz.prog 55 (kBI rt) := irightG
end Go.Proofs.YtlhlcefkmhhmjaaGreat
namespace Go.Proofs.YtlhlcefkmhhmjaaGreat
set_option linter.all false
open Go Go.RowKit Go.Shelf Bu Rx

attribute [local go_sem] Oper.semAt_some
@[local go_sem] theorem run_store_float_n {P : Program} {w : World} {a : Addr} {m : Mode} (k : FloatKind) (b : Nat) : (store a (.float k b) m).run P w = stored P w a (.float k b) m := run_store P w a _ m rfl

set_option maxRecDepth 100000 in
set_option maxHeartbeats 1000000 in
theorem parts_in (F : Fence) (n : Nat) (h : F.fn 102) (hro : F.round = none) (a : Option Addr) (len cap : Nat) (w : World) :
    CallsIn F n Tryz.prog 102 #[.slice a len cap] w fun e w' => e = .returned (.func (.func 123) #[] #[.pointer (some ⟨w.heap.size, 0, none⟩)]) ∧ w' = w.alloc (.cells #[.slice a len cap] 91) := by
  refine callsIn_of_wp Tryz.func102 rfl h ?_ hro
  simp only [Tryz.ntmps102, List.size_toArray, List.length_cons, List.length_nil, Nat.reduceAdd, Nat.reduceSub, Array.replicate_succ, Array.replicate_zero, List.push_toArray, List.append_toArray, List.nil_append, List.cons_append]
  gi_wp2
  go_ret
  exact ⟨rfl, rfl⟩
/-- a part that may be -/
def okP (q : Pt3) : Prop := ∃ a b c : F, q.1 = a.b ∧ q.2.1 = b.b ∧ q.2.2 = c.b ∧ rt ⟨a, b⟩ = true ∧ c.k ≤ a.k ∧ b.k ≤ one64.k
theorem right_pt {q : Pt3} (h : okP q) (w : World) : Calls Tryz.prog 55 #[.agg #[.float .f64 q.1, .float .f64 q.2.1]] w fun e w' => e = .returned (.bool true) ∧ Below w.heap.size w w' := by
  obtain ⟨a, b, c, h1, h2, _, hr, _⟩ := h
  obtain ⟨vs, v, e1, e2, k⟩ := irtK [.agg [.fl a, .fl b]] (some [true]) (.b true) (some []) [(rt ⟨a, b⟩, true)] rfl (fun p hp => by rw [List.mem_singleton.1 hp]; exact hr)
  have e1' : vs = [.agg #[.float .f64 a.b, .float .f64 b.b]] := (Option.some.inj e1).symm
  have e2' : v = .bool true := (Option.some.inj e2).symm
  subst e1'; subst e2'
  rw [h1, h2]
  exact k w
theorem KpL.alloc {b1 b2 : Nat} (W : World) (o : Obj) : KpL b1 b2 W (W.alloc o) := ⟨by rw [World.size_alloc]; omega, fun r q _ _ hr _ => (Below.heap_alloc W _ r (Array.getElem?_eq_some_iff.1 hr).1).trans hr⟩
theorem grown_of_below {W W1 : World} (h : Below W.heap.size W W1) : W.grownBy W1 none := ⟨h.os, h.tape, h.output, h.size, fun k hk _ => h.block k hk⟩
/-- twelve words of two directions, in memory -/
structure Dirs (W : World) (b : Nat) (e : Nat → {q : Pt3 // okP q}) : Prop where
  c : ∀ j, j < 6 → W.cell? ⟨b, 2 * j, none⟩ = some (.float .f64 (e j).1.1) ∧ W.cell? ⟨b, 2 * j + 1, none⟩ = some (.float .f64 (e j).1.2.1)
  g0 : (e 0).1.2.2 = 13830554455654793216
  g1 : (e 1).1.2.2 = 13830554455654793216
  g2 : (e 2).1.2.2 = 0
  g3 : (e 3).1.2.2 = 13830554455654793216
  g4 : (e 4).1.2.2 = 13830554455654793216
  g5 : (e 5).1.2.2 = 0
theorem Dirs.below {n₀ : Nat} {A B : World} {b : Nat} {e : Nat → {q : Pt3 // okP q}} (h : Dirs A b e) (hb : b < n₀) (k : Below n₀ A B) : Dirs B b e :=
  ⟨fun j hj => ⟨(k.cell (p := ⟨b, 2 * j, none⟩) hb).trans (h.c j hj).1, (k.cell (p := ⟨b, 2 * j + 1, none⟩) hb).trans (h.c j hj).2⟩, h.g0, h.g1, h.g2, h.g3, h.g4, h.g5⟩
theorem parts_stops (F : Fence) (n : Nat) (hf : F.fn 123) (hro : F.round = none) (hn : 1 ≤ n) (Bs b cap b1 b2 : Nat) (e : Nat → {q : Pt3 // okP q}) (w : World) (hb1 : b ≠ b1) (hb2 : b ≠ b2) (h1 : b1 < w.heap.size) (h2 : b2 < w.heap.size) (hB : Bs < w.heap.size) (hb : b < w.heap.size)
    (hBs : w.cell? ⟨Bs, 0, none⟩ = some (.slice (some ⟨b, 0, none⟩) 2 cap)) (hD : Dirs w b e) :
    SeqStopsK F n Tryz.prog 123 #[.pointer (some ⟨Bs, 0, none⟩)] (fun x : {q : Pt3 // okP q} => ptE x) (KpL b1 b2) (fun _ => True) (fun _ => True) 6 w := fun l J Jx W hW hJ _ hY h0 => by
  have hD' := hD.below hb hW
  exact parts1_in F n hf hro hn l Bs b cap b1 b2 e hD'.g0 hD'.g1 hD'.g2 hD'.g3 hD'.g4 hD'.g5 J Jx W hJ hY hb1 hb2 (Nat.lt_of_lt_of_le h1 hW.size) (Nat.lt_of_lt_of_le h2 hW.size) ((hW.cell (p := ⟨Bs, 0, none⟩) hB).trans hBs) hD'.c h0
theorem after_right {W W1 : World} {B1 B2 Bx : Nat} {t t' : TypeId} {u v x y : Value} (h1 : Boxed W B1 t u) (h2 : Boxed W B2 t v) (h3 : W.heap[Bx]? = some (.cells #[x, y] t' (0, 0))) (hb : Below W.heap.size W W1) :
    Boxed W1 B1 t u ∧ Boxed W1 B2 t v ∧ W1.heap[Bx]? = some (.cells #[x, y] t' (0, 0)) ∧ W1.cell? ⟨B1, 0, none⟩ = some u ∧ W1.frozen? ⟨B1, 0, none⟩ = false ∧ W1.cell? ⟨B2, 0, none⟩ = some v ∧ W1.frozen? ⟨B2, 0, none⟩ = false ∧ W1.cell? ⟨Bx, 0, none⟩ = some x ∧ W1.cell? ⟨Bx, 1, none⟩ = some y := by
  have a := h1.kept (grown_of_below hb) (by simp)
  have b := h2.kept (grown_of_below hb) (by simp)
  have c := (hb.block Bx (Array.getElem?_eq_some_iff.1 h3).1).trans h3
  exact ⟨a, b, c, a.cell, a.frozen, b.cell, b.frozen, by simp [World.cell?, c], by simp [World.cell?, c]⟩
theorem body_end {w W W1 : World} {n₀ B B1 B2 : Nat} {t : TypeId} {u v : Value} (h1 : Boxed W1 B1 t u) (h2 : Boxed W1 B2 t v) (hne : B1 ≠ B2) (hb : Below W.heap.size W W1) (hw : Below n₀ w W) (hn : n₀ ≤ W.heap.size) (l1 : n₀ ≤ B1) (l2 : n₀ ≤ B2) (u' v' : Value) :
    KeepsFrom B W ((W1.setCell ⟨B1, 0, none⟩ u').setCell ⟨B2, 0, none⟩ v') ∧ KpL B1 B2 W ((W1.setCell ⟨B1, 0, none⟩ u').setCell ⟨B2, 0, none⟩ v') ∧ (Boxed ((W1.setCell ⟨B1, 0, none⟩ u').setCell ⟨B2, 0, none⟩ v') B1 t u' ∧ Boxed ((W1.setCell ⟨B1, 0, none⟩ u').setCell ⟨B2, 0, none⟩ v') B2 t v') ∧ Below n₀ w ((W1.setCell ⟨B1, 0, none⟩ u').setCell ⟨B2, 0, none⟩ v') := by
  have k1 : KeepsOthers W W1 := KeepsOthers.of_grownBy (grown_of_below hb) (fun j o h => by cases h)
  refine ⟨((k1.trans (KeepsOthers.setCell _ _ _)).trans (KeepsOthers.setCell _ _ _)).from _, ⟨?_, fun r o q1 q2 hr ho => ?_⟩, ⟨(h1.set u').other hne v', (h2.other (Ne.symm hne) u').set v'⟩, ?_⟩
  · have a := (grownBy_setCell' W1 B1 u').size
    have b := (grownBy_setCell' (W1.setCell ⟨B1, 0, none⟩ u') B2 v').size
    have c := hb.size
    omega
  · have g0 := Array.getElem?_eq_some_iff.1 hr
    have a := (hb.block r g0.1).trans hr
    have b := ((grownBy_setCell' W1 B1 u').block r (Nat.lt_of_lt_of_le g0.1 hb.size) (by simp [q1])).trans a
    exact ((grownBy_setCell' (W1.setCell ⟨B1, 0, none⟩ u') B2 v').block r (Array.getElem?_eq_some_iff.1 b).1 (by simp [q2])).trans b
  · exact ((hw.trans (hb.mono hn)).setCell (p := ⟨B1, 0, none⟩) l1 _).setCell (p := ⟨B2, 0, none⟩) l2 _
theorem ge_pt {q : Pt3} (h : okP q) : (FloatKind.f64.format.order q.1 q.2.2 == some .gt || FloatKind.f64.format.order q.1 q.2.2 == some .eq) = true ∧ (FloatKind.f64.format.order q.2.1 4607182418800017408 == some .lt || FloatKind.f64.format.order q.2.1 4607182418800017408 == some .eq) = true := by
  obtain ⟨a, b, c, h1, h2, h3, _, h4, h5⟩ := h
  have e4 : FloatKind.f64.format = Ieee.double := rfl
  have e1 : (4607182418800017408 : Nat) = one64.b := by decide +kernel
  rw [h1, h2, h3, e4, e1, Bu.order_gt, Bu.order_eq, Bu.order_lt, Bu.order_eq]
  constructor <;> (simp; omega)
set_option maxRecDepth 100000 in
set_option maxHeartbeats 4000000 in
theorem look_in (F : Fence) (n : Nat) (h1f : F.fn 64) (h2f : F.fn 102) (h3f : F.fn 123) (h4f : F.fn 55) (hro : F.round = none) (hn : 6 ≤ n)
    (hR : ∀ (m : Nat) (q : Pt3) (w : World), okP q → CallsIn F m Tryz.prog 55 #[.agg #[.float .f64 q.1, .float .f64 q.2.1]] w fun e w' => e = .returned (.bool true) ∧ Below w.heap.size w w')
    (b cap : Nat) (e : Nat → {q : Pt3 // okP q}) (w : World) (hb : b < w.heap.size) (hD : Dirs w b e) :
    CallsIn F n Tryz.prog 64 #[.slice (some ⟨b, 0, none⟩) 2 cap] w fun e W' => e = .returned (.int .i64 0) ∧ Below w.heap.size w W' := by
  have h1 : 1 ≤ n := by omega
  refine callsIn_of_wp_marks Tryz.func64 rfl h1f ?_ hro
  simp only [Tryz.ntmps64, List.size_toArray, List.length_cons, List.length_nil, Nat.reduceAdd, Nat.reduceSub, Array.replicate_succ, Array.replicate_zero, List.push_toArray, List.append_toArray, List.nil_append, List.cons_append]
  gi_wp2_with (gi_at_call 102; refine (parts_in F (n - 1) h2f hro _ _ _ _).mono ?_; rintro e w' ⟨rfl, rfl⟩)
  have bR := ((Boxed.new w 4 (.bool true)).alloc (.cells #[.bool true] 4)).alloc (.cells #[.slice (some ⟨b, 0, none⟩) 2 cap] 91)
  have bM := (Boxed.new (w.alloc (.cells #[.bool true] 4)) 4 (.bool true)).alloc (.cells #[.slice (some ⟨b, 0, none⟩) 2 cap] 91)
  have bL := Boxed.new ((w.alloc (.cells #[.bool true] 4)).alloc (.cells #[.bool true] 4)) 91 (.slice (some ⟨b, 0, none⟩) 2 cap)
  simp only [World.size_alloc] at bM bL
  have hB0 : Below w.heap.size w (((w.alloc (.cells #[.bool true] 4)).alloc (.cells #[.bool true] 4)).alloc (.cells #[.slice (some ⟨b, 0, none⟩) 2 cap] 91)) := (((Below.refl _ w).alloc (Nat.le_refl _) _).alloc (by simp) _).alloc (by simp; omega) _
  have hsz : (((w.alloc (.cells #[.bool true] 4)).alloc (.cells #[.bool true] 4)).alloc (.cells #[.slice (some ⟨b, 0, none⟩) 2 cap] 91)).heap.size = w.heap.size + 3 := by simp
  obtain ⟨W0, hW0⟩ : ∃ W0, ((w.alloc (.cells #[.bool true] 4)).alloc (.cells #[.bool true] 4)).alloc (.cells #[.slice (some ⟨b, 0, none⟩) 2 cap] 91) = W0 := ⟨_, rfl⟩
  rw [hW0] at bR bM bL hB0 hsz ⊢
  clear hW0
  refine wpIn_rangeFunc_ownH hro h1 (gf := 123) (lb := #[.pointer (some ⟨w.heap.size + 1 + 1, 0, none⟩)]) rfl h3f (enters_of Tryz.func123 (by kernel_rfl) rfl)
    (parts_stops F (n - 1) h3f hro (by omega) (w.heap.size + 1 + 1) b cap w.heap.size (w.heap.size + 1) e W0 (by omega) (by omega) (by omega) (by omega) (by omega) (by omega) bL.cell (hD.below hb hB0)) (fun h k => h.trans k) (fun W l o o' _ h hc _ => KpL.put W l o o' h hc) (Below.refl _ _) (fun _ => rfl)
    (fun pre W => (Boxed W w.heap.size 4 (.bool true) ∧ Boxed W (w.heap.size + 1) 4 (.bool true)) ∧ Below w.heap.size w W)
    (fun _ _ _ => False)
    (OwnFrom.and (OwnFrom.and (Own.from (boxed_own _ _ _) _) (Own.from (boxed_own _ _ _) _)) (ownFrom_below (Nat.le_refl _) (by omega)))
    (fun _ _ _ _ _ hs _ _ => hs)
    ⟨⟨bR, bM⟩, hB0⟩
    (fun x a' W => ∃ Bx, w.heap.size + 1 < Bx ∧ W.heap[Bx]? = some (.cells #[.float .f64 x.1.1, .float .f64 x.1.2.1] 31 (0, 0)) ∧ a' = { tmps := #[.slice (some ⟨b, 0, none⟩) 2 cap, undef, .int .i64 0, .pointer (some ⟨w.heap.size, 0, none⟩), .pointer (some ⟨w.heap.size + 1, 0, none⟩), .pointer (some ⟨Bx, 0, none⟩), .float .f64 x.1.2.2, .slice (some ⟨b, 0, none⟩) 2 cap, .func (.func 123) #[] #[.pointer (some ⟨w.heap.size + 1 + 1, 0, none⟩)], .agg #[.float .f64 x.1.1, .float .f64 x.1.2.1], .float .f64 x.1.2.2, undef, undef, undef, undef, undef, undef, undef, undef, undef, undef, undef, undef, undef, undef, undef, undef, undef, undef, undef, undef, undef, undef, undef], defers := [] })
    (fun x a' _ X Y row hs hg hr => by
      obtain ⟨Bx, q1, q2, q3⟩ := hs
      refine ⟨Bx, q1, (hg.block Bx (Array.getElem?_eq_some_iff.1 q2).1 (fun h => ?_)).trans q2, q3⟩
      obtain ⟨_, o, ho, hc⟩ := hr Bx h.symm
      rw [q2] at ho; cases ho; cases hc)
    ?assign ?body ?done ?stop
  case assign =>
    rintro l pre x W K ⟨⟨bR1, bM1⟩, hB1⟩ hK
    gi_wp2
    exact hK _ _ ((KeepsOthers.alloc _ _).from _) (KpL.alloc _ _) ⟨⟨bR1.alloc _, bM1.alloc _⟩, hB1.alloc hB1.size _⟩ ⟨W.heap.size, bM1.lt, World.alloc_heap_new W _, rfl⟩
  case body =>
    rintro l pre x a' W hl ⟨r, hr⟩ ⟨⟨bR1, bM1⟩, hB1⟩ ⟨Bx, hBx, bX, rfl⟩ hlt
    have cR := bR1.cell
    have cM := bM1.cell
    have cX0 : W.cell? ⟨Bx, 0, none⟩ = some (.float .f64 x.1.1) := by simp [World.cell?, bX]
    have cX1 : W.cell? ⟨Bx, 1, none⟩ = some (.float .f64 x.1.2.1) := by simp [World.cell?, bX]
    have h1' : 1 ≤ n - 1 - 1 := by omega
    have n1 : ¬ Bx = w.heap.size := by omega
    have n2 : ¬ Bx = w.heap.size + 1 := by omega
    gi_wp2_with (gi_at_call 55; refine (CallsIn.inRound l (hR (n - 1 - 1 - 1) x.1 _ x.2)).mono ?_; rintro e w' ⟨rfl, hw'⟩; obtain ⟨bR2, bM2, bX2, cR2, fR2, cM2, fM2, dX0, dX1⟩ := after_right bR1 bM1 bX hw')
    all_goals (have hg := ge_pt x.2)
    all_goals (have hle := bM1.lt)
    all_goals first
      | (exfalso; simp_all; done)
      | (rw [hg.1, hg.2]; exact body_end bR2 bM2 (by omega) hw' hB1 (by omega) (by omega) (by omega) _ _)
      | exact body_end bR2 bM2 (by omega) hw' hB1 (by omega) (by omega) (by omega) _ _
  case done =>
    rintro D xs W hD2 _ ⟨⟨bR1, bM1⟩, hB1⟩ hK
    have cR := bR1.cell
    have cM := bM1.cell
    gi_wp2
    refine ⟨by simp, .inl ⟨_, _, rfl, run_takeDeferred hK, ?_⟩⟩
    exact ⟨_, results_tmp rfl _ _ _, rfl, hB1.trans (belowK_b (w := w) (Nat.le_refl _) W D _ _ (by omega) hK rfl rfl)⟩
  case stop =>
    rintro D c pre W _ _ h _
    exact h.elim
end Go.Proofs.YtlhlcefkmhhmjaaGreat
