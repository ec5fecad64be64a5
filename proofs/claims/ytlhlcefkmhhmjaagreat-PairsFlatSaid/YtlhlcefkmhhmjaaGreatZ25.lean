/- Layer 11: PairsFlat. PairsFlat: albedos, mirrors. -/
import Derived.Test.YtlhlcefkmhhmjaaGreatZ24
import Derived.Test.YtlhlcefkmhhmjaaGreatRows
import Derived.Test.YtlhlcefkmhhmjaaGreatZ01
namespace Go.Proofs.YtlhlcefkmhhmjaaGreat
set_option linter.all false
open Go.RowKit Bu Rx

theorem num_0 (x : F) : KkR.num 0 x = (pF x, 0) := rfl
set_option maxRecDepth 100000 in
theorem pi_1 : one64.k ≤ PIc.lo.k ∧ PIc.lo.k ≤ PIc.hi.k := by decide +kernel
set_option maxRecDepth 100000 in
theorem lb_eq (a : I) : lbK KkR a = ([(KkR.div 0 a PIc).1, PIc, a], (KkR.div 0 a PIc).2) := rfl
theorem lb_div {a : I} (h : Uz1 a) : ∃ r, lnR (lbK KkR a) 0 = (r, 0) ∧ KkR.div 0 a PIc = (r, 0) ∧ rt r = true ∧ ∀ x, Mem a x → Mem r (x / PIc.lo.q) := by
  obtain ⟨m, e, l, _⟩ := box_lb
  have b := box (v := [a]) (w := [bz1]) m ⟨h.box, trivial⟩ e
  have b1 : (lbK KkR a).2 = 0 := b.1
  have d : (KkR.div 0 a PIc).2 = 0 := by rw [lb_eq] at b1; exact b1
  have e1 : gt (lbK KkR a).1 0 = (KkR.div 0 a PIc).1 := by rw [lb_eq]; rfl
  refine ⟨(KkR.div 0 a PIc).1, by rw [lnR_0 b1, e1], pr_eq d, by rw [← e1]; exact (b.2 0).rt, fun x hx => ?_⟩
  obtain ⟨_, _, f⟩ := step_fact (o := .div 0 1) (v := [a, PIc]) (e := 0) d
  have f2 : Fact (.div 0 1) [a, PIc] (KkR.div 0 a PIc).1 := f
  exact p_div f2 hx ⟨Rat.le_refl, q_le.2 pi_1.2⟩
theorem fl_get {x : F} {c : Nat} (h : c < 3) : flF x c = x := lt3 (P := fun c => flF x c = x) h rfl rfl rfl
theorem fl_12 (x : F) : flF x 12 = z64 := rfl
theorem fl_rt1 {x : F} (h : Rn z64 one64 x) : ObsOk (rtOb 1 (flF x)) := by
  have r : ∀ {o : Obs}, ObsOk o → ObsOk (rngO x z64 one64 o) := fun k => ob_c (decide_eq_false (by have := h.2; omega)) (ob_c (decide_eq_false (by have := h.1; omega)) k)
  refine ob_c ?_ (r (r (r ob_n)))
  simp [eqNd, q3E, bare1, flF, ndF]
  exact ⟨rfl, rfl, rfl⟩
theorem fl_rt2 {x : F} (h : Rn z64 one64 x) : ObsOk (rtOb 2 (flF x)) := by
  have r : ∀ {o : Obs}, ObsOk o → ObsOk (rngO x z64 one64 o) := fun k => ob_c (decide_eq_false (by have := h.2; omega)) (ob_c (decide_eq_false (by have := h.1; omega)) k)
  have s : ∀ {o : Obs}, ObsOk o → ObsOk (rngO z64 z64 one64 o) := fun k => ob_c (decide_eq_false (by have := rk_le.1; omega)) (ob_c (decide_eq_false (by omega)) k)
  refine ob_c ?_ (s (r (r (r ob_n))))
  simp [eqNd, q3E, bare2, flF, ndF]
  exact ⟨rfl, rfl, rfl⟩
theorem q2E_refl (a : I) : q2E a a = true := by simp [q2E]
/-- what PairsFlat says of albedos -/
theorem flat_a {x : F} {c : Int} {v u : V3} (hx : Rn z64 one64 x) (hv : OneP v) (hu : OneP u) (c0 : 0 ≤ c) (c3 : c < 3) :
    ∃ a b, vlG GmR KkR ⟨1, flF x, c, v, u⟩ = (a, 0) ∧ vlG GmR KkR ⟨2, flF x, c, v, u⟩ = (b, 0) ∧ KkR.div 0 (pF x) PIc = (a, 0) ∧ meetsB a b = true := by
  have n : c.toNat < 3 := by omega
  have ux := uz_of hx
  have uz : Uz1 (pF z64) := uz_of ⟨Int.le_refl _, rk_le.1⟩
  obtain ⟨a, e1, e2, ra, pa⟩ := lb_div ux
  obtain ⟨sl, hb, e3, _⟩ := or_leaf (f := flF x) (c := c.toNat) hv hu (by rw [fl_get n]; exact ux) (by rw [fl_12]; exact uz)
  rw [fl_get n, fl_12] at e3
  have mx : Mem (pF x) x.q := ⟨Rat.le_refl, Rat.le_refl⟩
  have p1 : 1 ≤ PIc.lo.q := by have := q_le.2 pi_1.1; rwa [one_q] at this
  have x0 := q_le.2 hx.1; have x1 := q_le.2 hx.2
  rw [z_q0] at x0; rw [one_q] at x1
  have k := or_flat ux uz hb (p := PIc.lo.q) ⟨Rat.le_refl, q_le.2 pi_1.2⟩ p1 (by show Mem (pF z64) 0; exact ⟨by show z64.q ≤ 0; rw [z_q0]; exact Rat.le_refl, by show 0 ≤ z64.q; rw [z_q0]; exact Rat.le_refl⟩) mx x0 x1
  refine ⟨a, _, ?_, e3, e2, mem_meets (pa _ mx) k⟩
  show lnR (lbK KkR (pF (flF x c.toNat))) 0 = _
  rw [fl_get n]; exact e1
/-- what it says of mirrors -/
theorem flat_g {l : Lf} (h : LfP l) (hk : l.k = 3 ∨ l.k = 4) : ∃ g d r, vlG GmR KkR l = (g, 0) ∧ dnG4 GmR l.c0 = (d, 0) ∧ KkR.mul 0 g l.v.z = (r, 0) ∧ r.lo.k ≤ d.hi.k := by
  obtain ⟨ha, f, hf, e1, _⟩ := gl_leaf h hk
  obtain ⟨g, k1, _, _, p, bx⟩ := gloss_ok h.v h.u ha hf
  obtain ⟨_, _, v3⟩ := one_box h.v
  obtain ⟨r, e2, hr⟩ := mul_inn bx.inn v3.inn box_vf
  obtain ⟨x, z, d, mx, mz, md, d0, le, x0⟩ := gi_flat h.v h.u ha
  have hd : dnG4 GmR l.c0 = (giD l.v l.u (pF (l.f 13)), 0) := by
    obtain ⟨k, ff, c, v, u⟩ := l
    have e := gl_val h.v h.u ha
    simp only at hk
    rcases hk with rfl | rfl
    · show ((glR KkR GlR v u (pF (ff 13))).1.d, (glR KkR GlR v u (pF (ff 13))).2) = _
      rw [e]
    · show ((glR KkR GlR v u (pF (ff 13))).1.d, (glR KkR GlR v u (pF (ff 13))).2) = _
      rw [e]
  refine ⟨g, _, r, e1.trans k1, hd, e2, q_le.1 ?_⟩
  have hy : Mem f f.lo.q := ⟨Rat.le_refl, rt_le hf.rt⟩
  have y0 := q_le.2 hf.lo
  have y1 := q_le.2 hf.hi
  have yr := rt_le hf.rt
  rw [z_q0] at y0; rw [one_q] at y1
  obtain ⟨_, _, fc⟩ := step_fact (o := .mul 0 1) (v := [g, l.v.z]) (e := 0) (congrArg Prod.snd e2)
  have fc2 : Fact (.mul 0 1) [g, l.v.z] r := by
    have e3 : (KkR.mul 0 g l.v.z).1 = r := congrArg Prod.fst e2
    rw [← e3]; exact fc
  have m := p_mul fc2 (p x _ mx hy) mz
  have t : x * f.lo.q * z ≤ x * z := by
    have := Rat.mul_nonneg x0 (show 0 ≤ 1 - f.lo.q by grind)
    grind
  have a := m.1
  have b := md.2
  grind
theorem pairsFlat_rw (u : U8) (v : U6) (c w : Int) (hu : u.ok = true) (hv : v.ok = true) (hc : (Lit.int .u8 c).wf = true) (hw : wN32 w = true) (W : World) :
    Calls Tryz.prog 5 #[u8v u, u6v v, .int .u8 c, .int .u32 w] W fun e w' => e = .returned (.bool true) ∧ Below W.heap.size W w' := by
  have L := lw_ok (u := u) (v := v) hc
  have k := ch_in3 hc
  obtain ⟨t, et, t0, t1, _⟩ := frT_ok hw
  obtain ⟨_, et2⟩ := so_ok et
  have ht : frT w = t := et2
  have hx : Rn z64 one64 (frT w) := by
    rw [ht]
    exact ⟨by have := z64_0; omega, t1⟩
  obtain ⟨a, b, e1, e2, e3, m⟩ := flat_a hx (twP v.a0 v.a1 v.a2) (twP v.a3 v.a4 v.a5) k.1 k.2
  have f1 : LfP (flL NlR 1 v c w) := ⟨fl_rt1 hx, twP _ _ _, twP _ _ _, k.1, k.2⟩
  have f2 : LfP (flL NlR 2 v c w) := ⟨fl_rt2 hx, twP _ _ _, twP _ _ _, k.1, k.2⟩
  have g1 : NlR.vg (flL NlR 1 v c w) = (a, 0) := e1
  have g2 : NlR.vg (flL NlR 2 v c w) = (b, 0) := e2
  have g3 : pfW NlR w = (a, 0) := e3
  by_cases q : NlR.lk u < 3
  · have o := pf1_ok (N := NlR) (u := u) (decide_eq_true q) g1 g2 g3 (q2E_refl a) m f1.o.val f2.o.val hw hv hu
    exact calls_of_val goodG oracle11 80 (pfRun1 NlR u v c w) o rfl rfl W
  · have o := pf1_ok (N := NlR) (u := u) (decide_eq_false q) g1 g2 g3 (q2E_refl a) m f1.o.val f2.o.val hw hv hu
    have hk : (lwL NlR u v c).k = 3 ∨ (lwL NlR u v c).k = 4 := by
      have e : NlR.lk u = leK u := rfl
      have e' : (lwL NlR u v c).k = leK u := rfl
      rw [e] at q; rw [e']
      rcases le_kind u with h | h | h | h <;> omega
    obtain ⟨g, d, r, h1, h2, h3, le⟩ := flat_g L hk
    have h3' : pfM NlR u v c w = (r, 0) := by
      unfold pfM
      rw [show NlR.vg (lwL NlR u v c) = (g, 0) from h1, g3]
      exact h3
    have o2 := pf0_ok (N := NlR) h1 h2 h3' le L.o.z.den L.o.val o
    exact calls_of_val goodG oracle11 80 (pfRun0 NlR u v c w) o2 rfl rfl W
theorem pairsFlat_row (x0 x1 x2 x3 x4 x5 x6 x7 y0 y1 y2 y3 y4 y5 c n : Int) (h0 : (Lit.int .u32 x0).wf = true) (h1 : (Lit.int .u32 x1).wf = true) (h2 : (Lit.int .u32 x2).wf = true) (h3 : (Lit.int .u32 x3).wf = true) (h4 : (Lit.int .u32 x4).wf = true) (h5 : (Lit.int .u32 x5).wf = true) (h6 : (Lit.int .u32 x6).wf = true) (h7 : (Lit.int .u32 x7).wf = true) (k0 : (Lit.int .u32 y0).wf = true) (k1 : (Lit.int .u32 y1).wf = true) (k2 : (Lit.int .u32 y2).wf = true) (k3 : (Lit.int .u32 y3).wf = true) (k4 : (Lit.int .u32 y4).wf = true) (k5 : (Lit.int .u32 y5).wf = true) (hc : (Lit.int .u8 c).wf = true) (hn : (Lit.int .u32 n).wf = true) (w : World) :
    Calls Tryz.prog 5 #[.agg #[.int .u32 x0, .int .u32 x1, .int .u32 x2, .int .u32 x3, .int .u32 x4, .int .u32 x5, .int .u32 x6, .int .u32 x7], .agg #[.int .u32 y0, .int .u32 y1, .int .u32 y2, .int .u32 y3, .int .u32 y4, .int .u32 y5], .int .u8 c, .int .u32 n] w fun e w' => e = .returned (.bool true) ∧ Below w.heap.size w w' :=
  pairsFlat_rw ⟨x0, x1, x2, x3, x4, x5, x6, x7⟩ ⟨y0, y1, y2, y3, y4, y5⟩ c n (u8_ok h0 h1 h2 h3 h4 h5 h6 h7) (u6_ok k0 k1 k2 k3 k4 k5) hc (u32_B hn) w
end Go.Proofs.YtlhlcefkmhhmjaaGreat
namespace Go.Proofs.YtlhlcefkmhhmjaaGreat
set_option linter.all false
open Go.ChangeShapes Go.WideShapes Go.ChangeAt Go.RowKit
set_option linter.unusedVariables false

theorem arrT_u32x6 : ArrT Tryz.prog 24 22 6 .u32 := ⟨Tryz.underlying24, Tryz.underlying22, by kernel_rfl, by kernel_rfl⟩
theorem arrT_u32x8 : ArrT Tryz.prog 23 22 8 .u32 := ⟨Tryz.underlying23, Tryz.underlying22, by kernel_rfl, by kernel_rfl⟩
theorem lst_6 {l : List Int} (h : l.length = 6) : ∃ y0 y1 y2 y3 y4 y5, l = [y0, y1, y2, y3, y4, y5] := by match l, h with | [y0, y1, y2, y3, y4, y5], _ => exact ⟨y0, y1, y2, y3, y4, y5, rfl⟩
theorem lst_8 {l : List Int} (h : l.length = 8) : ∃ y0 y1 y2 y3 y4 y5 y6 y7, l = [y0, y1, y2, y3, y4, y5, y6, y7] := by match l, h with | [y0, y1, y2, y3, y4, y5, y6, y7], _ => exact ⟨y0, y1, y2, y3, y4, y5, y6, y7, rfl⟩
set_option maxRecDepth 100000 in
theorem pairsFlat_lifted (os : Os) (started : os.Started) (H : Type) (enc : TypeId × Value → H) :
    ReturnsInHanded {} Tryz.checked os 5 .any (Rows.pairsFlatSpec.pre6 enc Tryz.prog Tryz.f5 Rows.pairsFlatRow.domain false) (Rows.pairsFlatSpec.post enc Tryz.prog Tryz.f5 false true false false) := by
  refine returnsInHanded_of_change (C := Tryz.checked) Tryz.own started (by kernel_rfl) Tryz.func5
    (ChangeSpec.witness6 (enc := enc) (C := Tryz.checked) false ⟨#[], #[.agg #[.int .u32 0, .int .u32 0, .int .u32 0, .int .u32 0, .int .u32 0, .int .u32 0, .int .u32 0, .int .u32 0], .agg #[.int .u32 0, .int .u32 0, .int .u32 0, .int .u32 0, .int .u32 0, .int .u32 0], .int .u8 0, .int .u32 0], []⟩ 8 (by kernel_rfl) (by kernel_rfl) (by kernel_rfl) (by kernel_rfl)) ?_
  intro W base args ds gs before hval0 hW hcnd _
  have hval : ∀ (j : Nat) t v, Tryz.f5.params[j]? = some t → args[j]? = some v → Value.okWide Tryz.prog W .any base t v := hval0
  have hW' := hW
  obtain ⟨p, q, hA0, hV, rfl, hfz, hnd⟩ := hW
  have hA : DataW.TrodAll enc Tryz.prog W 0 (fun _ => true) true Tryz.f5.params.toList args.toList ds p := hA0
  rw [Tryz.params5] at hA hval
  obtain ⟨v0, vs0, d0, ds0, p0, q0, hargs, rfl, rfl, h0, r0⟩ := trodAll_cons hA
  obtain ⟨v1, vs1, d1, ds1, p1, q1, rfl, rfl, rfl, h1, r1⟩ := trodAll_cons r0
  obtain ⟨v2, vs2, d2, ds2, p2, q2, rfl, rfl, rfl, h2, r2⟩ := trodAll_cons r1
  obtain ⟨v3, vs3, d3, ds3, p3, q3, rfl, rfl, rfl, h3, r3⟩ := trodAll_cons r2
  obtain ⟨rfl, rfl, rfl⟩ := trodAll_nil r3
  obtain rfl : args = #[v0, v1, v2, v3] := by cases args; simp_all
  obtain ⟨rfl, rfl⟩ := trodVars_none hV
  obtain ⟨ns0, l0, rfl, rfl, rfl, w0⟩ := open_arr arrT_u32x8 (hval 0 23 v0 rfl rfl) h0
  obtain ⟨a0_0, a0_1, a0_2, a0_3, a0_4, a0_5, a0_6, a0_7, rfl⟩ := lst_8 l0
  obtain ⟨ns1, l1, rfl, rfl, rfl, w1⟩ := open_arr arrT_u32x6 (hval 1 24 v1 rfl rfl) h1
  obtain ⟨a1_0, a1_1, a1_2, a1_3, a1_4, a1_5, rfl⟩ := lst_6 l1
  obtain ⟨a2, rfl, rfl, rfl, w2⟩ := open_int Tryz.underlying5 (hval 2 5 v2 rfl rfl) h2
  obtain ⟨a3, rfl, rfl, rfl, w3⟩ := open_int Tryz.underlying22 (hval 3 22 v3 rfl rfl) h3
  clear hA0 hval0
  simp only [List.append_nil] at hW'
  refine (pairsFlat_row a0_0 a0_1 a0_2 a0_3 a0_4 a0_5 a0_6 a0_7 a1_0 a1_1 a1_2 a1_3 a1_4 a1_5 a2 a3 (w0 a0_0 (by simp)) (w0 a0_1 (by simp)) (w0 a0_2 (by simp)) (w0 a0_3 (by simp)) (w0 a0_4 (by simp)) (w0 a0_5 (by simp)) (w0 a0_6 (by simp)) (w0 a0_7 (by simp)) (w1 a1_0 (by simp)) (w1 a1_1 (by simp)) (w1 a1_2 (by simp)) (w1 a1_3 (by simp)) (w1 a1_4 (by simp)) (w1 a1_5 (by simp)) w2 w3 W).mono fun e W' ⟨he, hg⟩ => ?_
  subst he
  exact ⟨_, rfl, post_scalar hW' (fun _ _ _ => (trodAll_cons_mk (shut_bool Tryz.underlying4 _) trodAll_mk0)) (fun sp => (trodAll_cons_mk (shut_arr arrT_u32x8 (ns := [a0_0, a0_1, a0_2, a0_3, a0_4, a0_5, a0_6, a0_7]) rfl w0) (trodAll_cons_mk (shut_arr arrT_u32x6 (ns := [a1_0, a1_1, a1_2, a1_3, a1_4, a1_5]) rfl w1) (trodAll_cons_mk (shut_int Tryz.underlying5 w2) (trodAll_cons_mk (shut_int Tryz.underlying22 w3) trodAll_mk0))))) (fun _ => rfl) hg (ok_one (by kernel_rfl) rfl (okWide_bool_mk Tryz.underlying4 _))⟩

theorem pairsFlat_over : Rows.pairsFlatRow.holds Tryz.pinned (OpenSpec.ofChange Rows.pairsFlatSpec) :=
  OpenClaim.holds_of_wide 5 Tryz.f5 rfl rfl rfl rfl rfl rfl rfl ⟨rfl, rfl, rfl, rfl, rfl⟩ rfl rfl rfl rfl rfl (by kernel_rfl) Tryz.func5 (by kernel_rfl)
    (of_decide_eq_true (by kernel_rfl)) (by unfold Func.isWrapper; first | (rw [if_pos (by decide +kernel)]; kernel_rfl) | (rw [if_neg (by decide +kernel)]; exact ⟨rfl, rfl⟩))
    (fun os started H enc _ => pairsFlat_lifted os started H enc)

theorem pairsFlat_holds : Rows.PairsFlatSaid := pairsFlat_over
#print axioms pairsFlat_holds
end Go.Proofs.YtlhlcefkmhhmjaaGreat
