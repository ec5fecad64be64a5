/- burnishref01: far, Add, Sub: they round to the side. -/
import Derived.Test.YtmhhopfffeijnaaGreatNl
namespace Go.Proofs.YtmhhopfffeijnaaGreat
set_option linter.all false
open Go.RowKit Bu Rx

theorem nst_of {A : Int} {s : F} (h : wrd A 1 = s.b) : Nst s.z A := by
  have hr := right_F s
  rcases sum_out A with ⟨D, e, n⟩ | ⟨e, _⟩ | ⟨e, _⟩
  · rw [e] at h
    rw [F.b_inj h] at n
    exact n
  · rw [← h, e] at hr
    exact absurd hr (by decide)
  · rw [← h, e] at hr
    exact absurd hr (by decide)
theorem tw_ok {a b s c a' p q d : F} (h : Two a b s c a' p q d) : tw a b s = d := by
  have e1 := (sN_eq h.e1).1
  have e2 := (sN_eq h.e2).1
  have e3 := (sN_eq h.e3).1
  have e4 := (sN_eq h.e4).1
  have e5 := (aN_eq h.e5).1
  unfold tw
  rw [e1, e2, e3, e4, e5]
theorem ob2w_ok {o : Option Nat} {D : F} {r : Obs} (h : o = some D.b) (k : obsB r = true) : obsB (ob2w o r) = true := by
  rw [h]
  exact obsB_yes rfl (obsB_yes (right_F D) k)
theorem otw_ok {a b s c a' p q d : F} (h : Two a b s c a' p q d) {r : Obs} (k : obsB r = true) : obsB (otw a b s r) = true := by
  have e1 := (sN_eq h.e1).1
  have e2 := (sN_eq h.e2).1
  have e3 := (sN_eq h.e3).1
  have e4 := (sN_eq h.e4).1
  unfold otw
  rw [e1, e2, e3, e4]
  refine ob2w_ok (by rw [add_wrd, h.e5]) (ob2w_ok (by rw [sub_wrd, h.e4]) (ob2w_ok (by rw [sub_wrd, h.e3]) (ob2w_ok (by rw [sub_wrd, h.e2]) (ob2w_ok (by rw [sub_wrd, h.e1]) k))))
theorem sdR_plain (c d : F) (up : Bool) {p : F × Int} (h : sideF c (decide (0 < d.k)) (decide (d.k < 0)) up = p) : plain (sdR c d up) = some (.tuple #[.float .f64 p.1.b, .int .i64 p.2]) := by
  unfold sdR; rw [h]; rfl
theorem far_fact : F.max.z < G0.z * (Q60 : Int) ∧ K60.z ≤ G0.z := by decide +kernel
theorem q60_pos : 0 < Q60 := Q60_eq ▸ Nat.two_pow_pos 60
theorem one_eq : one_ = toF 4607182418800017408 := rfl
structure L60 (L : F → Int → Nat) (a : F) : Prop where
  small : (a.z.natAbs : Int) < K60.z → (∃ D : F, L a (-60) = D.b ∧ D.abs.k < one_.k) ∨ L a (-60) = NEG0
  big : K60.z ≤ (a.z.natAbs : Int) → ∃ x : F, L a (-60) = x.b ∧ a.z = x.z * (Q60 : Int) ∧ ¬ x.abs.k < one_.k
theorem farK_of {L : F → Int → Nat} (hO : OracleOk Tryz.prog (OFa L)) (h60 : ∀ a, L60 L a) : PlainOk Tryz.prog 196 kFar := by
  intro args ds x ds' ob h ho
  unfold kFar at h
  split at h
  · rename_i a b s up
    simp only [Option.some.injEq, Prod.mk.injEq] at h; obtain ⟨rfl, _, rfl⟩ := h
    obtain ⟨hw, hb⟩ := of_decide_eq_true (obs1 ho)
    have hs := nst_of hw
    have hs' : Nst s.z (b.z + a.z) := by rwa [Int.add_comm]
    obtain ⟨ff1, ff2⟩ := far_fact
    obtain ⟨t, t1, t2, t3⟩ := (h60 s).big (by omega)
    have big : G0.z ≤ s.z ∨ s.z ≤ -G0.z := by omega
    refine ⟨[.float .f64 a.b, .float .f64 b.b, .float .f64 s.b, .bool up], _, rfl, rfl, fun w => ?_⟩
    have rt : ∀ {x y : F}, L x (-60) = y.b → rightB (L x (-60)) = true ∧ toF (L x (-60)) = y := fun {x y} h => by rw [h]; exact ⟨right_F y, toF_F y⟩
    obtain ⟨s1, s2⟩ := rt t1
    have no : ∀ {x : F}, L x (-60) = NEG0 → rightB (L x (-60)) = false ∧ Nat.beq (L x (-60)) NEG0 = true := fun {x} h => by rw [h]; exact ⟨by decide, rfl⟩
    rcases (show (a.z.natAbs : Int) < K60.z ∨ K60.z ≤ (a.z.natAbs : Int) by omega) with ca | ca
    · obtain ⟨k1, k2⟩ := far_small hs big (by omega) (by omega)
      have e := add_side hs k1 k2 up
      have bw : (∃ y : F, L b (-60) = y.b) ∨ L b (-60) = NEG0 := by
        rcases (show (b.z.natAbs : Int) < K60.z ∨ K60.z ≤ (b.z.natAbs : Int) by omega) with cb | cb
        · rcases (h60 b).small cb with ⟨D, e, _⟩ | e
          · exact .inl ⟨D, e⟩
          · exact .inr e
        · obtain ⟨y, e, _⟩ := (h60 b).big cb
          exact .inl ⟨y, e⟩
      rcases (h60 a).small ca with ⟨D, d1, d2⟩ | d1
      · obtain ⟨a1, a2⟩ := rt d1
        have h1 : decide ((toF (L a (-60))).abs.k < one_.k) = true := by rw [a2]; exact decide_eq_true d2
        rcases bw with ⟨y, hy⟩ | hy
        · obtain ⟨b1, b2⟩ := rt hy
          exact calls_of_val goodH hO 80 (faRun1 L a b s up) (ObsOk.of_B (obsB_yes h1 (obsB_yes rfl (obsB_yes s1 (obsB_yes rfl (obsB_yes b1 (obsB_yes rfl (obsB_yes a1 obsB_nil)))))))) rfl (sdR_plain s a up e) w
        · obtain ⟨b1, b2⟩ := no hy
          exact calls_of_val goodH hO 80 (faRun4'' L a b s up) (ObsOk.of_B (obsB_yes h1 (obsB_yes rfl (obsB_yes s1 (obsB_yes rfl (obsB_yes b1 (obsB_yes rfl (obsB_yes a1 obsB_nil)))))))) rfl (sdR_plain s a up e) w
      · obtain ⟨a1, a2⟩ := no d1
        rcases bw with ⟨y, hy⟩ | hy
        · obtain ⟨b1, b2⟩ := rt hy
          exact calls_of_val goodH hO 80 (faRun3 L a b s up) (ObsOk.of_B (obsB_yes rfl (obsB_yes a2 (obsB_yes rfl (obsB_yes s1 (obsB_yes rfl (obsB_yes b1 (obsB_yes rfl (obsB_yes a1 obsB_nil))))))))) rfl (sdR_plain s a up e) w
        · obtain ⟨b1, b2⟩ := no hy
          exact calls_of_val goodH hO 80 (faRun4' L a b s up) (ObsOk.of_B (obsB_yes rfl (obsB_yes a2 (obsB_yes rfl (obsB_yes s1 (obsB_yes rfl (obsB_yes b1 (obsB_yes rfl (obsB_yes a1 obsB_nil))))))))) rfl (sdR_plain s a up e) w
    · obtain ⟨x, x1, x2, x3⟩ := (h60 a).big ca
      obtain ⟨a1, a2⟩ := rt x1
      have h1 : decide ((toF (L a (-60))).abs.k < one_.k) = false := by rw [a2]; exact decide_eq_false x3
      rcases (show (b.z.natAbs : Int) < K60.z ∨ K60.z ≤ (b.z.natAbs : Int) by omega) with cb | cb
      · obtain ⟨k1, k2⟩ := far_small hs' big (by omega) (by omega)
        rw [Int.add_comm] at k1 k2
        have e := add_side hs k1 k2 up
        rcases (h60 b).small cb with ⟨D, d1, d2⟩ | d1
        · obtain ⟨b1, b2⟩ := rt d1
          have h2 : decide ((toF (L b (-60))).abs.k < one_.k) = true := by rw [b2]; exact decide_eq_true d2
          exact calls_of_val goodH hO 80 (faRun2 L a b s up) (ObsOk.of_B (obsB_yes h2 (obsB_yes h1 (obsB_yes rfl (obsB_yes s1 (obsB_yes rfl (obsB_yes b1 (obsB_yes rfl (obsB_yes a1 obsB_nil))))))))) rfl (sdR_plain s b up e) w
        · obtain ⟨b1, b2⟩ := no d1
          exact calls_of_val goodH hO 80 (faRun4 L a b s up) (ObsOk.of_B (obsB_yes rfl (obsB_yes b2 (obsB_yes h1 (obsB_yes rfl (obsB_yes s1 (obsB_yes rfl (obsB_yes b1 (obsB_yes rfl (obsB_yes a1 obsB_nil)))))))))) rfl (sdR_plain s b up e) w
      · obtain ⟨y, y1, y2, y3⟩ := (h60 b).big cb
        obtain ⟨b1, b2⟩ := rt y1
        have h2 : decide ((toF (L b (-60))).abs.k < one_.k) = false := by rw [b2]; exact decide_eq_false y3
        have ht := far_scale hs x2 y2 t2
        have hq := q60_pos
        have tl : t.z < G0.z ∧ -t.z < G0.z := by
          have m1 : s.z ≤ F.max.z := F.z_le.2 (by have := s.hk; show s.k ≤ (T : Int) - 1; omega)
          have m2 : -s.z ≤ F.max.z := by rw [← F.neg_z]; exact F.z_le.2 (by have := s.neg.hk; show s.neg.k ≤ (T : Int) - 1; omega)
          constructor
          · apply (lt_scale hq).1; omega
          · apply (lt_scale hq).1; rw [Int.neg_mul]; omega
        obtain ⟨c, a', p, q, d, hT⟩ := two_near ht tl.1 tl.2
        have k1 : 0 < d.z ↔ s.z < a.z + b.z := by
          rw [hT.pos, t2, x2, y2, ← Int.add_mul, lt_scale hq]
        have k2 : d.z < 0 ↔ a.z + b.z < s.z := by
          rw [hT.neg, t2, x2, y2, ← Int.add_mul, lt_scale hq]
        have e := add_side hs k1 k2 up
        have hr := faRun5 L a b s up
        rw [a2, b2, s2, tw_ok hT] at hr
        refine calls_of_val goodH hO 80 hr (ObsOk.of_B (otw_ok hT ?_)) rfl (sdR_plain s d up e) w
        rw [a2] at h1
        rw [b2] at h2
        exact obsB_yes h2 (obsB_yes h1 (obsB_yes rfl (obsB_yes s1 (obsB_yes rfl (obsB_yes b1 (obsB_yes rfl (obsB_yes a1 obsB_nil)))))))
  · cases h
theorem farK : PlainOk Tryz.prog 196 kFar := farK_of oracleFa fun a => ⟨small_60, big_60⟩
/-! ## Add -/
def OAd (L : F → Int → Nat) : OracleF := lookO [(97, plainO oRight), (166, plainO kInf), (188, plainO kSide), (136, plainO kAbsG), (105, plainO (kLg L)), (196, plainO kFar)]
theorem oracleAd : OracleOk Tryz.prog (OAd ldW) := .cons rRightP.of (.cons infK.of (.cons sideK.of (.cons absK.of (.cons lgK.of (.cons farK.of (.nil _))))))
def a1k (L : F → Int → Nat) (a b : F) (d : Bool) : Obs := [(decide ((toF (L one_ 1000)).k ≤ (aN a b).abs.k), d), (true, true), (rightB (L one_ 1000), true), (true, true), ((Ieee.double.add a.b b.b).isSome, true), (rightB ((Ieee.double.add a.b b.b).getD 0), true)]
theorem adRun1 (L : F → Int → Nat) (a b : F) (up : Bool) : valR ((run Tryz.prog EH (OAd L) 80).1 135 [.fl a, .fl b, .b up] [] (some [true, false])) = some (sdR (aN a b) (tw a b (aN a b)) up, some [], otw a b (aN a b) (a1k L a b false)) := by kernel_rfl
theorem adRun2 (L : F → Int → Nat) (a b : F) (up : Bool) : valR ((run Tryz.prog EH (OAd L) 80).1 135 [.fl a, .fl b, .b up] [] (some [true, true])) = some (.tup [.fl (dAdd up a b).1, .si .i64 (dAdd up a b).2], some [], (decide (farC a b (aN a b)), true) :: a1k L a b true) := by kernel_rfl
theorem adRun3 (L : F → Int → Nat) (a b : Nat) (up : Bool) : valR ((run Tryz.prog EH (OAd L) 80).1 135 [.f a, .f b, .b up] [] (some [true, true, true])) = some (.tup [.fl (sideW ((Ieee.double.add a b).getD 0) (decide (0 < (toF 0).k)) (decide ((toF 0).k < 0)) up).1, .si .i64 (sideW ((Ieee.double.add a b).getD 0) (decide (0 < (toF 0).k)) (decide ((toF 0).k < 0)) up).2], some [],
    [(badB ((Ieee.double.add a b).getD 0), true), (badB ((Ieee.double.add a b).getD 0), true), (Nat.beq ((Ieee.double.add a b).getD 0) INF || Nat.beq ((Ieee.double.add a b).getD 0) NINF, true), ((Ieee.double.add a b).isSome, true), (rightB b, true), (rightB a, true)]) := by kernel_rfl
theorem G0_ld : ldW one_ 1000 = G0.b := by decide +kernel
theorem radd_w (a b : F) (up : Bool) (w : World) : Calls Tryz.prog 135 #[.float .f64 a.b, .float .f64 b.b, .bool up] w fun e w' => e = .returned (.tuple #[.float .f64 (dAdd up a b).1.b, .int .i64 (dAdd up a b).2]) ∧ Below w.heap.size w w' := by
  have g1 : rightB (ldW one_ 1000) = true := by rw [G0_ld]; exact right_F _
  have g2 : toF (ldW one_ 1000) = G0 := by rw [G0_ld]; exact toF_F _
  have hadd := add_wrd a b
  have hB : (0 : Nat) < 1 := by decide
  rcases sum_out (a.z + b.z) with ⟨s, e, hs⟩ | ⟨e, h⟩ | ⟨e, h⟩
  · obtain ⟨es, os⟩ := aN_eq e
    have o1 : (Ieee.double.add a.b b.b).isSome = true := by rw [hadd]; rfl
    have o2 : rightB ((Ieee.double.add a.b b.b).getD 0) = true := by rw [hadd, e]; exact right_F s
    rcases (show (s.z.natAbs : Int) < G0.z ∨ G0.z ≤ (s.z.natAbs : Int) by omega) with c | c
    · obtain ⟨c', a', p, q, d, hT⟩ := two_near hs (by omega) (by omega)
      have hr := adRun1 ldW a b up
      unfold a1k at hr
      rw [es, g2, tw_ok hT] at hr
      refine calls_of_val goodH oracleAd 80 hr (ObsOk.of_B (otw_ok hT ?_)) rfl (sdR_plain s d up (add_side hs hT.pos hT.neg up)) w
      exact obsB_yes (decide_eq_false (by rw [abs_le]; omega)) (obsB_yes rfl (obsB_yes g1 (obsB_yes rfl (obsB_yes o1 (obsB_yes o2 obsB_nil)))))
    · have hr := adRun2 ldW a b up
      unfold a1k at hr
      rw [es, g2] at hr
      refine calls_of_val goodH oracleAd 80 hr (ObsOk.of_B ?_) rfl rfl w
      exact obsB_yes (decide_eq_true ⟨e, c⟩) (obsB_yes (decide_eq_true (by rw [abs_le]; omega)) (obsB_yes rfl (obsB_yes g1 (obsB_yes rfl (obsB_yes o1 (obsB_yes o2 obsB_nil))))))
  · have hr := adRun3 ldW a.b b.b up
    rw [hadd, e] at hr
    have ee : dAdd up a b = bif up then (F.zero, 10) else (F.max, 0) := over_ok hB (fun c => by have := h c; omega) up
    rw [ee]
    exact calls_of_val goodH oracleAd 80 hr (ObsOk.of_B (obsB_yes rfl (obsB_yes rfl (obsB_yes rfl (obsB_yes rfl (obsB_yes (right_F b) (obsB_yes (right_F a) obsB_nil))))))) rfl (by cases up <;> rfl) w
  · have hr := adRun3 ldW a.b b.b up
    rw [hadd, e] at hr
    have ee : dAdd up a b = bif up then (F.min, 0) else (F.zero, 10) := under_ok hB (fun c => by have := h c; omega) up
    rw [ee]
    exact calls_of_val goodH oracleAd 80 hr (ObsOk.of_B (obsB_yes rfl (obsB_yes rfl (obsB_yes rfl (obsB_yes rfl (obsB_yes (right_F b) (obsB_yes (right_F a) obsB_nil))))))) rfl (by cases up <;> rfl) w
theorem raddG : PlainOk Tryz.prog 135 (kTwo dAdd) := two_ok radd_w
/-! ## Sub -/
def OSb (f : Bool → F → F → F × Int) : OracleF := lookO [(97, plainO oRight), (184, plainO kPlain), (135, plainO (kTwo f))]
theorem oracleSb : OracleOk Tryz.prog (OSb dAdd) := .cons rRightP.of (.cons plainK.of (.cons raddG.of (.nil _)))
theorem sbRun1 (f : Bool → F → F → F × Int) (a b : F) (up : Bool) : valR ((run Tryz.prog EH (OSb f) 80).1 124 [.fl a, .fl b, .b up] [] (some [])) = some (.tup [.fl (f up a b.neg).1, .si .i64 (f up a b.neg).2], some [], [(!decide (b.k = 0), true)]) := by kernel_rfl
theorem sbRun2 (f : Bool → F → F → F × Int) (a : F) (up : Bool) : valR ((run Tryz.prog EH (OSb f) 80).1 124 [.fl a, .f 0, .b up] [] (some [true, false])) = some (.tup [.fl (f up a F.zero).1, .si .i64 (f up a F.zero).2], some [], [(true, true), (false, false), (true, true)]) := by kernel_rfl
theorem dsub_add (up : Bool) (a b : F) : dAdd up a b.neg = dSub up a b := by
  unfold dAdd dSub
  rw [F.neg_z, Int.sub_eq_add_neg]
theorem rsub_w (a b : F) (up : Bool) (w : World) : Calls Tryz.prog 124 #[.float .f64 a.b, .float .f64 b.b, .bool up] w fun e w' => e = .returned (.tuple #[.float .f64 (dSub up a b).1.b, .int .i64 (dSub up a b).2]) ∧ Below w.heap.size w w' := by
  rw [← dsub_add]
  by_cases h : b.k = 0
  · have e : b = F.zero := F.ext' h
    subst e
    have en : F.zero.neg = F.zero := F.ext' (by decide)
    rw [en]
    exact calls_of_val goodH oracleSb 80 (sbRun2 dAdd a up) (ObsOk.of_B (obsB_yes rfl (obsB_yes rfl (obsB_yes rfl obsB_nil)))) rfl rfl w
  · exact calls_of_val goodH oracleSb 80 (sbRun1 dAdd a b up) (ObsOk.of_B (obsB_yes (by rw [decide_eq_false h]; rfl) obsB_nil)) rfl rfl w
theorem rsubG : PlainOk Tryz.prog 124 (kTwo dSub) := two_ok rsub_w
end Go.Proofs.YtmhhopfffeijnaaGreat
