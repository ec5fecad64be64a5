/- VndfAlong, plain: the law's obligations. -/
import Derived.Test.YtoafllcnnhhebaaGreatKp
import Derived.Test.YtoafllcnnhhebaaGreatKq
namespace Bu
set_option linter.all false
open Rx Go

theorem evalK_app (K : Kk) : ∀ (a b : List Bu.Op) (v : List I) (e : Int), evalK K (a ++ b) v e = evalK K b (evalK K a v e).1 (evalK K a v e).2
  | [], _, _, _ => rfl
  | o :: a, b, v, e => evalK_app K a b _ _
theorem d64_q : d64.q = 1 / 64 := by have : d64.q * 64 = 1 := q_of' (n := 1) (s := 6) (by decide +kernel) rfl; grind
theorem minA_q : minA.q = 1 / 32 := by have : minA.q * 32 = 1 := q_of' (n := 1) (s := 5) (by decide +kernel) rfl; grind
theorem bw1 {n : Int} : N1 (bwF mone64 one64 n) := by
  have h := bwF_in (a := mone64) (b := one64) (n := n) (q_le.1 (by rw [mone_q, one_q]; grind))
  have a := q_le.2 h.1; have b := q_le.2 h.2
  rw [mone_q] at a; rw [one_q] at b
  exact ⟨a, b⟩
theorem bw2 {n : Int} : 1 / 64 ≤ (bwF d64 one64 n).q ∧ (bwF d64 one64 n).q ≤ 1 := by
  have h := bwF_in (a := d64) (b := one64) (n := n) (q_le.1 (by rw [d64_q, one_q]; grind))
  have a := q_le.2 h.1; have b := q_le.2 h.2
  rw [d64_q] at a; rw [one_q] at b
  exact ⟨a, b⟩
theorem bw3 {n : Int} : 1 / 32 ≤ (bwF minA one64 n).q ∧ (bwF minA one64 n).q ≤ 1 := by
  have h := bwF_in (a := minA) (b := one64) (n := n) (q_le.1 (by rw [minA_q, one_q]; grind))
  have a := q_le.2 h.1; have b := q_le.2 h.2
  rw [minA_q] at a; rw [one_q] at b
  exact ⟨a, b⟩
theorem oneV_ok (a b c : Int) : OneP (oneV WR a b c) := un_ok bw1 bw1 bw2.1 bw2.2
theorem oneO_ok {a b c : Int} (ha : wN32 a = true) (hb : wN32 b = true) (hc : wN32 c = true) : obsB (oneO WR a b c) = true := by
  have h := (oneV_ok a b c).up
  obtain ⟨p1, p2, p3⟩ := aw13_p
  have z : z64.q = 0 := zero0_q
  refine obsB_yes (decide_eq_true (q_lt.1 (by rw [z]; grind))) (obsB_yes (un_B bw1 bw1 bw2.1 bw2.2) (obsB_yes p2 (obsB_yes hc (obsB_yes p1 (obsB_yes hb (obsB_yes p1 (obsB_yes ha obsB_nil)))))))
theorem in1_rt {a : I} (h : In1 a) : rt a = true := decide_eq_true h.rt
theorem dirO_ok {v : V3} (h : OneP v) : obsB (dirO v) = true := by
  have z : z64.k ≤ v.z.lo.k := q_le.1 (by rw [show z64.q = 0 from zero0_q]; have := h.up; grind)
  exact obsB_yes (decide_eq_true h.z.hi) (obsB_yes (decide_eq_true z) (obsB_yes (decide_eq_true h.y.hi) (obsB_yes (decide_eq_true h.y.lo) (obsB_yes (decide_eq_true h.x.hi) (obsB_yes (decide_eq_true h.x.lo) (obsB_yes (in1_rt h.z) (obsB_yes (in1_rt h.y) (obsB_yes (in1_rt h.x) obsB_nil))))))))
structure AlP (al : I) : Prop where
  lo : 1 / 32 ≤ al.lo.q
  rt : al.lo.q ≤ al.hi.q
  hi : al.hi.q ≤ 1
theorem alO_ok {al : I} (h : AlP al) : obsB (alO al) = true ∧ decide (al.hi.k ≤ one64.k) = true := by
  have a : al.hi.k ≤ one64.k := q_le.1 (by rw [one_q]; exact h.hi)
  have b : minA.k ≤ al.lo.k := q_le.1 (by rw [minA_q]; exact h.lo)
  exact ⟨obsB_yes (decide_eq_true a) (obsB_yes (decide_eq_true b) (obsB_yes (rt_q h.rt) obsB_nil)), decide_eq_true a⟩
theorem al_one : AlP (pt one64) := ⟨by show _ ≤ one64.q; rw [one_q]; grind, Rat.le_refl, by show one64.q ≤ 1; rw [one_q]; grind⟩
def u64w (n : Int) : Prop := 0 ≤ n ∧ n ≤ 18446744073709551615
theorem vo_ok {v : V3} {al : I} {d e : Int} (hv : OneP v) (ha : AlP al) (hd : u64w d) (he : u64w e) : obsB (vo13 WR v al d e) = true := by
  obtain ⟨a1, a2⟩ := alO_ok ha
  refine ob2 (ob2 (ob2 (obsB_yes (decide_eq_true hd) (obsB_yes (unI_in e he.1 he.2) (obsB_yes (decide_eq_true he) obsB_nil))) (dirO_ok hv)) a1) (obsB_yes a2 obsB_nil)
/-! the draw's errors -/
def drFl : List Bool := [true, false, false, true, true, false, false]
theorem dr_chk : chk drP1 drFl = true ∧ chk drTa drFl = true ∧ chk drTb drFl = true ∧ chk drA drFl = true ∧ chk drB drFl = true := by decide +kernel
def envR (v : V3) (al : I) (d e : Int) : List I := drEnv (KqR atR) v al d e
theorem env_rt {v : V3} {al : I} {d e : Int} (hv : OneP v) (ha : AlP al) (hd : u64w d) (he : u64w e) : ∀ a ∈ envR v al d e, rt a = true := by
  intro a h
  have hu := unI_U d hd.1 hd.2
  have c := cosM_in (unI e).lo (unI e).hi
  have s := sinM_in (unI e).lo (unI e).hi
  simp only [envR, drEnv, List.mem_cons, List.not_mem_nil, or_false] at h
  rcases h with rfl | rfl | rfl | rfl | rfl | rfl | rfl
  · exact rt_q hu.rt
  · exact in1_rt c
  · exact in1_rt s
  · exact rt_q ha.rt
  · exact in1_rt hv.z
  · exact in1_rt hv.y
  · exact in1_rt hv.x
theorem env_fl {v : V3} {al : I} {d e : Int} (hv : OneP v) (ha : AlP al) (hd : u64w d) (he : u64w e) : Flags drFl (envR v al d e) := by
  have hu := unI_U d hd.1 hd.2
  intro i hi
  match i, hi with
  | 0, _ => exact hu.lo
  | 1, h => exact absurd h (by decide)
  | 2, h => exact absurd h (by decide)
  | 3, _ => have := ha.lo; show 0 ≤ al.lo.q; grind
  | 4, _ => have := hv.up; show 0 ≤ v.z.lo.q; grind
  | 5, h => exact absurd h (by decide)
  | 6, h => exact absurd h (by decide)
  | i + 7, h => exact absurd h (by simp [drFl])
theorem neB_t {e : Int} (h : neB e = false) : e = 0 := by unfold neB at h; simpa using h
theorem drX_er {K : Kk} {p1 p2 : List Bu.Op} {v : List I} (h1 : Er (evalK K p1 v 0).2) (h2 : Er (evalK K p2 v 0).2) : Er (drX K p1 p2 v).2 := by
  unfold drX
  cases neB (evalK K p1 v 0).2
  · cases neB (evalK K p2 v 0).2
    · exact .inl rfl
    · exact h2
  · exact h1
theorem drN_er {K : Kk} {v : List I} (h1 : Er (evalK K drP1 v 0).2) : Er (drN K v).2 := by
  unfold drN
  cases neB (evalK K drP1 v 0).2
  · exact .inr (.inr rfl)
  · exact h1
theorem drR_er {K : Kk} {v : List I} (h1 : Er (evalK K drP1 v 0).2) (h2 : Er (evalK K drTa v 0).2) (h3 : Er (evalK K drTb v 0).2) (h4 : Er (evalK K drA v 0).2) (h5 : Er (evalK K drB v 0).2) : Er (drR K v).2 := by
  unfold drR
  cases decide ((drQ K v).hi.k = z64.k)
  · cases decide (z64.k < (drQ K v).lo.k)
    · exact drN_er h1
    · exact drX_er h3 h5
  · exact drX_er h2 h4
theorem dr_er {v : V3} {al : I} {d e : Int} (hv : OneP v) (ha : AlP al) (hd : u64w d) (he : u64w e) : Er (drR KkR (envR v al d e)).2 := by
  have r := env_rt hv ha hd he
  have f := env_fl hv ha hd he
  obtain ⟨c1, c2, c3, c4, c5⟩ := dr_chk
  generalize envR v al d e = w at r f ⊢
  exact drR_er (eval_er' c1 f r) (eval_er' c2 f r) (eval_er' c3 f r) (eval_er' c4 f r) (eval_er' c5 f r)
theorem drX_0 {K : Kk} {p1 p2 : List Bu.Op} {v : List I} (h : (drX K p1 p2 v).2 = 0) : (evalK K p2 v 0).2 = 0 ∧ (drX K p1 p2 v).1 = drV K p2 v := by
  unfold drX at h ⊢
  cases c3 : neB (evalK K p1 v 0).2
  · rw [c3] at h
    cases c4 : neB (evalK K p2 v 0).2
    · exact ⟨neB_t c4, rfl⟩
    · rw [c4] at h
      simp only [cond_false, cond_true] at h
      unfold neB at c4
      rw [h] at c4; exact absurd c4 (by decide)
  · rw [c3, cond_true] at h
    unfold neB at c3
    rw [h] at c3; exact absurd c3 (by decide)
theorem drN_0 {K : Kk} {v : List I} (h : (drN K v).2 = 0) : False := by
  unfold drN at h
  cases c3 : neB (evalK K drP1 v 0).2
  · rw [c3] at h; revert h; exact (by decide : ¬ ((11 : Int) = 0))
  · rw [c3, cond_true] at h
    unfold neB at c3
    rw [h] at c3; exact absurd c3 (by decide)
/-- without an error -/
theorem drR_0 {K : Kk} {v : List I} (h' : (drR K v).2 = 0) :
    (decide ((drQ K v).hi.k = z64.k) = true ∧ (evalK K drA v 0).2 = 0 ∧ (drR K v).1 = drV K drA v) ∨
    ((evalK K drB v 0).2 = 0 ∧ (drR K v).1 = drV K drB v) := by
  unfold drR at h' ⊢
  cases c1 : decide ((drQ K v).hi.k = z64.k)
  · rw [c1, cond_false] at h'
    cases c2 : decide (z64.k < (drQ K v).lo.k)
    · rw [c2, cond_false] at h'
      exact absurd h' (fun h => drN_0 h)
    · rw [c2, cond_true] at h'
      rw [cond_false, cond_true]
      exact .inr (drX_0 h')
  · rw [c1, cond_true] at h'
    rw [cond_true]
    exact .inl ⟨rfl, drX_0 h'⟩
end Bu
