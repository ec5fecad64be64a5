/- VndfTurned, plain: both draws, side by side; the law's obligations. VndfTurned, plain: without an error, all that the law asks. -/
import Derived.Test.YtccmfddnbofgkaaGreatKz
import Derived.Test.YtccmfddnbofgkaaGreatLa
import Derived.Test.YtccmfddnbofgkaaGreatKu
import Derived.Test.YtccmfddnbofgkaaGreatKq
namespace Bu
set_option linter.all false
open Rx Go

def trM : List Sg := [(87, false), (88, false), (89, false), (90, false), (91, false), (93, false), (92, true)]
def trK : List Sg := (twin drB.reverse drB trM).getD []
theorem trK_some : (twin drB.reverse drB trM).isSome = true := by decide +kernel
theorem trK_has : (decide (2 < trK.length) && eqS (trK.getD 2 (0, false)) (1, true) && eqS (trK.getD 1 (0, false)) (2, false) && eqS (trK.getD 0 (0, false)) (0, false)) = true := by decide +kernel
theorem drB_turned {X Y Z al sin cos A : I} (h : (evalK KkR drB [A, cos, sin, al, Z, Y, X] 0).2 = 0) (h' : (evalK KkR drB [A, cos, sin, al, Z, X, turnI Y] 0).2 = 0) :
    drV KkR drB [A, cos, sin, al, Z, X, turnI Y] = ⟨turnI (drV KkR drB [A, cos, sin, al, Z, Y, X]).y, (drV KkR drB [A, cos, sin, al, Z, Y, X]).x, (drV KkR drB [A, cos, sin, al, Z, Y, X]).z⟩ := by
  have c := eval_chainR h
  have c' := eval_chainR h'
  have hk : twin drB.reverse drB trM = some trK := by
    unfold trK
    have := trK_some
    cases k : twin drB.reverse drB trM with
    | none => rw [k] at this; cases this
    | some x => rfl
  have d := chain_drop c
  have g0 : ∀ i, gt (evalK KkR drB [A, cos, sin, al, Z, Y, X] 0).1 (drB.length + i) = gt [A, cos, sin, al, Z, Y, X] i := fun i => by rw [← gt_drop, d]
  have hr : Rel trM [A, cos, sin, al, Z, X, turnI Y] (evalK KkR drB [A, cos, sin, al, Z, Y, X] 0).1 := by
    intro i hi
    match i, hi with
    | 0, _ => exact (g0 0).symm
    | 1, _ => exact (g0 1).symm
    | 2, _ => exact (g0 2).symm
    | 3, _ => exact (g0 3).symm
    | 4, _ => exact (g0 4).symm
    | 5, _ => exact (g0 6).symm
    | 6, _ => exact congrArg turnI (g0 5).symm
  have hf := twin_ok c c' hr hk
  obtain ⟨h123, h4⟩ := both trK_has
  obtain ⟨h12, h3⟩ := both h123
  obtain ⟨h1, h2⟩ := both h12
  have hl := of_decide_eq_true h1
  unfold drV
  generalize (evalK KkR drB [A, cos, sin, al, Z, X, turnI Y] 0).1 = u' at *
  generalize (evalK KkR drB [A, cos, sin, al, Z, Y, X] 0).1 = u at *
  have ix1 : 2 = 2 := rfl
  have e1 : gt u' 2 = turnI (gt u 1) := by rw [hf _ hl, eqS_ok h2]; rfl
  have e2 : gt u' 1 = gt u 2 := by rw [hf _ (Nat.lt_of_le_of_lt (by decide) hl), eqS_ok h3]; rfl
  have e3 : gt u' 0 = gt u 0 := by rw [hf _ (Nat.lt_of_le_of_lt (by decide) hl), eqS_ok h4]; rfl
  show (⟨gt u' 2, gt u' 1, gt u' 0⟩ : V3) = ⟨turnI (gt u 1), gt u 2, gt u 0⟩
  rw [e1, e2, e3]
/-- the density -/
def dnM : List Sg := [(9, false), (10, false), (11, false), (13, false), (12, true), (14, false), (16, false), (15, true)]
def dnK : List Sg := (twin dnP.reverse dnP dnM).getD []
theorem dnK_some : (twin dnP.reverse dnP dnM).isSome = true := by decide +kernel
theorem dnK_has : (decide (0 < dnK.length) && eqS (dnK.getD 0 (0, false)) (0, false)) = true := by decide +kernel
theorem dn_turned {v n : V3} {g d : I} (h : (dnE KkR v n g d).2 = 0) (h' : (dnE KkR ⟨turnI v.y, v.x, v.z⟩ ⟨turnI n.y, n.x, n.z⟩ g d).2 = 0) :
    gt (dnE KkR ⟨turnI v.y, v.x, v.z⟩ ⟨turnI n.y, n.x, n.z⟩ g d).1 0 = gt (dnE KkR v n g d).1 0 := by
  unfold dnE at *
  simp only at *
  have c := eval_chainR h
  have c' := eval_chainR h'
  have hk : twin dnP.reverse dnP dnM = some dnK := by
    unfold dnK
    have := dnK_some
    cases k : twin dnP.reverse dnP dnM with
    | none => rw [k] at this; cases this
    | some x => rfl
  have dd := chain_drop c
  have g0 : ∀ i, gt (evalK KkR dnP [d, g, n.z, n.y, n.x, v.z, v.y, v.x] 0).1 (dnP.length + i) = gt [d, g, n.z, n.y, n.x, v.z, v.y, v.x] i := fun i => by rw [← gt_drop, dd]
  have hr : Rel dnM [d, g, n.z, n.x, turnI n.y, v.z, v.x, turnI v.y] (evalK KkR dnP [d, g, n.z, n.y, n.x, v.z, v.y, v.x] 0).1 := by
    intro i hi
    match i, hi with
    | 0, _ => exact (g0 0).symm
    | 1, _ => exact (g0 1).symm
    | 2, _ => exact (g0 2).symm
    | 3, _ => exact (g0 4).symm
    | 4, _ => exact congrArg turnI (g0 3).symm
    | 5, _ => exact (g0 5).symm
    | 6, _ => exact (g0 7).symm
    | 7, _ => exact congrArg turnI (g0 6).symm
  have hf := twin_ok c c' hr hk
  obtain ⟨h1, h2⟩ := both dnK_has
  rw [hf _ (of_decide_eq_true h1), eqS_ok h2]; rfl
theorem neg_mk {a : I} (h : rt a = true) : KkR.neg 0 a = (turnI a, 0) := ask_mk h rfl
theorem turn_in1 {a : I} (h : In1 a) : In1 (turnI a) := by
  have l : mone64.k = -one64.k := by decide +kernel
  have h1 := h.lo; have h2 := h.hi; have h3 := h.rt
  refine ⟨?_, ?_, ?_⟩ <;> simp only [turnI, F.neg_k] <;> omega
theorem turn_P {v : V3} (h : OneP v) : OneP ⟨turnI v.y, v.x, v.z⟩ := ⟨turn_in1 h.y, h.x, h.z, h.up⟩
theorem turn_N {v : V3} (h : NrP v) : NrP ⟨turnI v.y, v.x, v.z⟩ := ⟨turn_in1 h.y, h.x, h.z, h.up⟩
theorem trV_eq {v : V3} (h : OneP v) : trV WR v = ⟨turnI v.y, v.x, v.z⟩ := by
  unfold trV
  rw [show WR.K.neg 0 v.y = (turnI v.y, 0) from neg_mk (in1_rt h.y)]
/-- what a line's last rows leave is a normal -/
theorem kept0_in {a : I} (h : a.lo.q ≤ a.hi.q) : In1 (keptI a z64 one64) ∧ 0 ≤ (keptI a z64 one64).lo.k := by
  have k := q_le.1 h
  have zk := z64_k
  have ok := one64_k
  have mk := mone64_k
  refine ⟨⟨?_, ?_, ?_⟩, ?_⟩ <;> simp only [keptI, mnF_k, mxF_k] <;> omega
theorem drV_nr {l : List Bu.Op} {v : List I} (h : (evalK KkR l v 0).2 = 0) (h1 : l.reverse[2]? = some (.kept mone64 one64 2)) (h2 : l.reverse[1]? = some (.kept mone64 one64 2)) (h3 : l.reverse[0]? = some (.kept z64 one64 2)) 
    (m1 : ∃ i j, l.reverse[5]? = some (.mul i j)) (m2 : ∃ i j, l.reverse[4]? = some (.mul i j)) (m3 : ∃ i j, l.reverse[3]? = some (.mul i j)) : NrP (drV KkR l v) := by
  have c := eval_chainR h
  obtain ⟨i1, j1, m1⟩ := m1
  obtain ⟨i2, j2, m2⟩ := m2
  obtain ⟨i3, j3, m3⟩ := m3
  have a1 := (chain_at c m1).1
  have a2 := (chain_at c m2).1
  have a3 := (chain_at c m3).1
  have b1 : gt (evalK KkR l v 0).1 2 = keptI (gt (List.drop _ (evalK KkR l v 0).1) 2) mone64 one64 := (chain_at c h1).1
  have b2 : gt (evalK KkR l v 0).1 1 = keptI (gt (List.drop _ (evalK KkR l v 0).1) 2) mone64 one64 := (chain_at c h2).1
  have b3 : gt (evalK KkR l v 0).1 0 = keptI (gt (List.drop _ (evalK KkR l v 0).1) 2) z64 one64 := (chain_at c h3).1
  rw [gt_drop] at b1 b2 b3
  have r1 : rt (gt (evalK KkR l v 0).1 5) = true := AllR.rt a1
  have r2 : rt (gt (evalK KkR l v 0).1 4) = true := AllR.rt a2
  have r3 : rt (gt (evalK KkR l v 0).1 3) = true := AllR.rt a3
  refine ⟨?_, ?_, ?_, ?_⟩
  · show In1 (gt (evalK KkR l v 0).1 2)
    rw [b1]; exact kept_in1 (rt_le r1)
  · show In1 (gt (evalK KkR l v 0).1 1)
    rw [b2]; exact kept_in1 (rt_le r2)
  · show In1 (gt (evalK KkR l v 0).1 0)
    rw [b3]; exact (kept0_in (rt_le r3)).1
  · show 0 ≤ (gt (evalK KkR l v 0).1 0).lo.k
    rw [b3]; exact (kept0_in (rt_le r3)).2
theorem drA_nr {v : List I} (h : (evalK KkR drA v 0).2 = 0) : NrP (drV KkR drA v) := drV_nr h rfl rfl rfl ⟨_, _, rfl⟩ ⟨_, _, rfl⟩ ⟨_, _, rfl⟩
theorem drB_nr {v : List I} (h : (evalK KkR drB v 0).2 = 0) : NrP (drV KkR drB v) := drV_nr h rfl rfl rfl ⟨_, _, rfl⟩ ⟨_, _, rfl⟩ ⟨_, _, rfl⟩
theorem dr_nr {v : List I} (h : (drR KkR v).2 = 0) : NrP (drR KkR v).1 := by
  rcases drR_0 h with ⟨_, k, e⟩ | ⟨k, e⟩
  · rw [e]; exact drA_nr k
  · rw [e]; exact drB_nr k
theorem alF_ok (v : Int) : AlP (alF WR v) := ⟨bw3.1, Rat.le_refl, bw3.2⟩
/-- a direction that leans is drawn by case B -/
theorem dr_B {v : V3} {al : I} {d e : Int} (hv : OneP v) (ha : AlP al) (hn : ¬ ((v.x.lo.k = 0 ∧ v.x.hi.k = 0) ∧ v.y.lo.k = 0 ∧ v.y.hi.k = 0)) (h : (drR KkR (envR v al d e)).2 = 0) :
    (evalK KkR drB (envR v al d e) 0).2 = 0 ∧ (drR KkR (envR v al d e)).1 = drV KkR drB (envR v al d e) := by
  rcases drR_0 h with ⟨k1, k2, _⟩ | k
  · exfalso
    have zq : z64.q = 0 := zero0_q
    have kz : ∀ x : F, x.q = 0 → x.k = 0 := fun x h => by
      have a := q_le.1 (show x.q ≤ F.zero.q by rw [q_zero, h]; exact Rat.le_refl)
      have b := q_le.1 (show F.zero.q ≤ x.q by rw [q_zero, h]; exact Rat.le_refl)
      exact Int.le_antisymm a b
    have rx := q_le.2 hv.x.rt; have ry := q_le.2 hv.y.rt
    have ex : ∃ x y, Mem v.x x ∧ Mem v.y y ∧ 0 < x * x + y * y := by
      have nz : ∀ {x : Rat}, x ≠ 0 → 0 < x * x := fun {x} h => by
        rcases (Rat.le_total : 0 ≤ x ∨ x ≤ 0) with g | g
        · have g' : 0 < x := by grind
          exact Rat.mul_pos g' g'
        · have := Rat.mul_pos (show 0 < -x by grind) (show 0 < -x by grind); grind
      have m1 : Mem v.x v.x.lo.q := ⟨Rat.le_refl, rx⟩
      have m2 : Mem v.x v.x.hi.q := ⟨rx, Rat.le_refl⟩
      have m3 : Mem v.y v.y.lo.q := ⟨Rat.le_refl, ry⟩
      have m4 : Mem v.y v.y.hi.q := ⟨ry, Rat.le_refl⟩
      by_cases c1 : v.x.lo.q = 0
      · by_cases c2 : v.x.hi.q = 0
        · by_cases c3 : v.y.lo.q = 0
          · by_cases c4 : v.y.hi.q = 0
            · exact absurd ⟨⟨kz _ c1, kz _ c2⟩, kz _ c3, kz _ c4⟩ hn
            · exact ⟨_, _, m1, m4, by have := nz c4; have := sq_nn v.x.lo.q; grind⟩
          · exact ⟨_, _, m1, m3, by have := nz c3; have := sq_nn v.x.lo.q; grind⟩
        · exact ⟨_, _, m2, m3, by have := nz c2; have := sq_nn v.y.lo.q; grind⟩
      · exact ⟨_, _, m1, m3, by have := nz c1; have := sq_nn v.y.lo.q; grind⟩
    obtain ⟨x, y, mx, my, pos⟩ := ex
    have hc := (eval_chain (drA_p1 k2)).2
    have al0 := ha.lo
    have pp := Rat.mul_pos (Rat.mul_pos (show 0 < al.lo.q by grind) (show 0 < al.lo.q by grind)) pos
    have := p1_q (rt_q ha.rt) (in1_rt hv.x) (in1_rt hv.y) (in1_rt hv.z) (by have := hv.up; grind) hc (a := al.lo.q) ⟨Rat.le_refl, ha.rt⟩ mx my (by generalize al.lo.q = w at *; grind)
    have z := q_le.2 (Int.le_of_eq (of_decide_eq_true k1))
    rw [zq] at z
    have z' : (gt (evalK KkR drP1 (envR v al d e) 0).1 0).hi.q ≤ 0 := z
    grind
  · exact k
theorem meets_self {a : I} (h : rt a = true) : meetsB a a = true := by
  unfold meetsB
  unfold rt at h
  rw [h]; rfl
end Bu
namespace Bu
set_option linter.all false
open Rx Go

structure VtP (v n m : V3) (al : I) : Prop where
  pn : NrP n
  pm : NrP m
  z : m.z = n.z
  e : (dnR KkR v n al).2 = 0
  e' : (dnR KkR ⟨turnI v.y, v.x, v.z⟩ m al).2 = 0
  d : (dnR KkR ⟨turnI v.y, v.x, v.z⟩ m al).1 = (dnR KkR v n al).1
  r : rt (dnR KkR v n al).1 = true
  t : ¬ ((v.x.lo.k = 0 ∧ v.x.hi.k = 0) ∧ v.y.lo.k = 0 ∧ v.y.hi.k = 0) → m.x = turnI n.y ∧ m.y = n.x
theorem vt_dn {v n : V3} {al : I} (hv : OneP v) (hn : NrP n) (ha : AlP al) :
    (dnR KkR v n al).2 = 0 ∧ (dnR KkR ⟨turnI v.y, v.x, v.z⟩ ⟨turnI n.y, n.x, n.z⟩ al).2 = 0 ∧ (dnR KkR ⟨turnI v.y, v.x, v.z⟩ ⟨turnI n.y, n.x, n.z⟩ al).1 = (dnR KkR v n al).1 ∧ rt (dnR KkR v n al).1 = true := by
  obtain ⟨_, _, _, _, a5, a6, a7, _⟩ := dn_ok hv hn ha
  obtain ⟨_, _, _, _, b5, b6, _, _⟩ := dn_ok (turn_P hv) (turn_N hn) ha
  simp only at b5
  have k := dn_turned a5 b5
  refine ⟨by rw [a6], by rw [b6], ?_, a7⟩
  rw [a6, b6]
  exact k
theorem vt_ok {v : V3} {al : I} {d e : Int} (hv : OneP v) (ha : AlP al) (h : (drR KkR (envR v al d e)).2 = 0) (h' : (drR KkR (envR ⟨turnI v.y, v.x, v.z⟩ al d e)).2 = 0) :
    VtP v (drR KkR (envR v al d e)).1 (drR KkR (envR ⟨turnI v.y, v.x, v.z⟩ al d e)).1 al := by
  have nr := dr_nr h
  have nr' := dr_nr h'
  by_cases st : (v.x.lo.k = 0 ∧ v.x.hi.k = 0) ∧ v.y.lo.k = 0 ∧ v.y.hi.k = 0
  · obtain ⟨⟨s1, s2⟩, s3, s4⟩ := st
    have ex : v.x = I.zero := I.one (F.ext' s1) (F.ext' s2)
    have ey : v.y = I.zero := I.one (F.ext' s3) (F.ext' s4)
    have tz : turnI I.zero = I.zero := I.one (F.ext' (by decide)) (F.ext' (by decide))
    have ev : (⟨turnI v.y, v.x, v.z⟩ : V3) = v := by
      cases v
      simp only at ex ey
      subst ex; subst ey
      rw [tz]
    rw [ev]
    obtain ⟨a1, _, _, a4⟩ := vt_dn hv nr ha
    exact ⟨nr, nr, rfl, a1, by rw [ev]; exact a1, by rw [ev], a4, fun k => absurd ⟨⟨s1, s2⟩, s3, s4⟩ k⟩
  · have st' : ¬ (((turnI v.y).lo.k = 0 ∧ (turnI v.y).hi.k = 0) ∧ v.x.lo.k = 0 ∧ v.x.hi.k = 0) := by
      intro k
      have e1 : (turnI v.y).lo.k = -v.y.hi.k := F.neg_k _
      have e2 : (turnI v.y).hi.k = -v.y.lo.k := F.neg_k _
      exact st ⟨k.2, by omega, by omega⟩
    obtain ⟨k1, k2⟩ := dr_B hv ha st h
    obtain ⟨k3, k4⟩ := dr_B (turn_P hv) ha st' h'
    have eq : drV KkR drB (envR ⟨turnI v.y, v.x, v.z⟩ al d e) = ⟨turnI (drV KkR drB (envR v al d e)).y, (drV KkR drB (envR v al d e)).x, (drV KkR drB (envR v al d e)).z⟩ := drB_turned k1 k3
    rw [← k4, ← k2] at eq
    generalize (drR KkR (envR v al d e)).1 = n at *
    generalize (drR KkR (envR ⟨turnI v.y, v.x, v.z⟩ al d e)).1 = m at *
    subst eq
    obtain ⟨a1, a2, a3, a4⟩ := vt_dn hv nr ha
    exact ⟨nr, nr', rfl, a1, a2, a3, a4, fun _ => ⟨rfl, rfl⟩⟩
theorem alFO_ok {v : Int} (h : wN32 v = true) : obsB (alFO WR v) = true := obsB_yes aw13_p.2.2 (obsB_yes h obsB_nil)
theorem vtB_ok {a b c v d e : Int} (ha : wN32 a = true) (hb : wN32 b = true) (hc : wN32 c = true) (hw : wN32 v = true) (hd : u64w d) (he : u64w e) : obsB (vtB WR a b c v d e) = true := by
  have hv := oneV_ok a b c
  refine ob2 ?_ (ob2 (vo_ok hv (alF_ok v) hd he) (ob2 (alFO_ok hw) (oneO_ok ha hb hc)))
  rw [trV_eq hv]
  exact vo_ok (turn_P hv) (alF_ok v) hd he
end Bu
