/- Within boxes: a line of interval arithmetic that has no error over wide intervals has none over parts of them. Densities have none. -/
import Derived.Test.YtccmfddnbofgkaaGreatKt
namespace Bu
set_option linter.all false
open Rx Go

/-- within a box, and right -/
def InB (a b : I) : Prop := b.lo.k ≤ a.lo.k ∧ a.hi.k ≤ b.hi.k ∧ a.lo.k ≤ a.hi.k
theorem InB.inn {a b : I} (h : InB a b) : Inn a b := ⟨q_le.2 h.1, q_le.2 h.2.1, decide_eq_true h.2.2⟩
theorem Inn.inB {a b : I} (h : Inn a b) : InB a b := ⟨q_le.1 h.lo, q_le.1 h.hi, of_decide_eq_true h.rt⟩
def monoB : Bu.Op → Bool
  | .lit a => rt a
  | .fn _ _ | .fn2 _ _ _ | .wi _ => false
  | _ => true
theorem mono_all {l : List Bu.Op} (h : l.all monoB = true) : ∀ o ∈ l, MonoO o := by
  intro o ho
  have := List.all_eq_true.1 h o ho
  cases o <;> first | trivial | exact this | cases this
def AllIn : List I → List I → Prop
  | [], [] => True
  | a :: v, b :: w => InB a b ∧ AllIn v w
  | _, _ => False
theorem AllIn.inn : ∀ {v w : List I}, AllIn v w → ∀ i, Inn (gt v i) (gt w i)
  | [], [], _, i => Inn.refl (gt_rt (v := []) (fun _ h => by cases h) i)
  | a :: v, b :: w, h, 0 => h.1.inn
  | a :: v, b :: w, h, i + 1 => AllIn.inn (v := v) (w := w) h.2 i
  | [], _ :: _, h, _ => h.elim
  | _ :: _, [], h, _ => h.elim
theorem box {l : List Bu.Op} {v w : List I} (hm : l.all monoB = true) (hv : AllIn v w) (h : (evalK KkR l w 0).2 = 0) : (evalK KkR l v 0).2 = 0 ∧ ∀ i, Inn (gt (evalK KkR l v 0).1 i) (gt (evalK KkR l w 0).1 i) := eval_inn (mono_all hm) hv.inn h
/-! densities -/
def f7 : F := toF 4575657221408423936
def box1 : I := ⟨mone64, one64⟩
def box0 : I := ⟨z64, one64⟩
def boxZ : I := ⟨f7, one64⟩
def boxA : I := ⟨minA, one64⟩
/-- what G1 comes to, what D -/
def boxG : I := gt (evalK KkR gg1 [boxZ, boxA] 0).1 0
def boxD : I := gt (evalK KkR ggD [box0, boxA] 0).1 0
def boxN : List I := [boxD, boxG, box0, box1, box1, boxZ, box1, box1]
theorem den_mono : gg1.all monoB = true ∧ ggD.all monoB = true ∧ dnP.all monoB = true := by decide +kernel
set_option maxRecDepth 100000 in
theorem den_box : (evalK KkR gg1 [boxZ, boxA] 0).2 = 0 ∧ (evalK KkR ggD [box0, boxA] 0).2 = 0 ∧ (evalK KkR dnP boxN 0).2 = 0 ∧ 0 < boxG.lo.k ∧ 0 < boxD.lo.k ∧ 0 ≤ (gt (evalK KkR dnP boxN 0).1 0).lo.k := by decide +kernel
/-- a normal -/
structure NrP (n : V3) : Prop where
  x : In1 n.x
  y : In1 n.y
  z : In1 n.z
  up : 0 ≤ n.z.lo.k
theorem z64_k : z64.k = 0 := by decide +kernel
theorem f7_q : f7.q = 1 / 128 := by have : f7.q * 128 = 1 := q_of' (n := 1) (s := 7) (by decide +kernel) rfl; grind
theorem OneP.b1 {v : V3} (h : OneP v) : InB v.x box1 ∧ InB v.y box1 ∧ InB v.z boxZ := ⟨⟨h.x.lo, h.x.hi, h.x.rt⟩, ⟨h.y.lo, h.y.hi, h.y.rt⟩, ⟨q_le.1 (by show f7.q ≤ _; rw [f7_q]; exact h.up), h.z.hi, h.z.rt⟩⟩
theorem NrP.b1 {v : V3} (h : NrP v) : InB v.x box1 ∧ InB v.y box1 ∧ InB v.z box0 := ⟨⟨h.x.lo, h.x.hi, h.x.rt⟩, ⟨h.y.lo, h.y.hi, h.y.rt⟩, ⟨by show z64.k ≤ _; rw [z64_k]; exact h.up, h.z.hi, h.z.rt⟩⟩
theorem AlP.b1 {a : I} (h : AlP a) : InB a boxA := ⟨q_le.1 (by show minA.q ≤ _; rw [minA_q]; exact h.lo), q_le.1 (by show _ ≤ one64.q; rw [one_q]; exact h.hi), q_le.1 h.rt⟩
theorem neB_z {e : Int} (h : e = 0) : neB e = false := by subst h; rfl
theorem gg_ok {p : List Bu.Op} {c al bc ba : I} (hm : p.all monoB = true) (hc : InB c bc) (ha : InB al ba) (h : (evalK KkR p [bc, ba] 0).2 = 0) : (ggR KkR p c al).2 = 0 ∧ (ggR KkR p c al).1 = gt (ggE KkR p c al).1 0 ∧ InB (ggR KkR p c al).1 (gt (evalK KkR p [bc, ba] 0).1 0) := by
  have b := box (v := [c, al]) (w := [bc, ba]) hm ⟨hc, ha, trivial⟩ h
  have e : neB (ggE KkR p c al).2 = false := neB_z b.1
  unfold ggR
  rw [e, cond_false]
  exact ⟨rfl, rfl, (b.2 0).inB⟩
theorem dn_ok {v n : V3} {al : I} (hv : OneP v) (hn : NrP n) (ha : AlP al) :
    (ggR KkR gg1 v.z al).2 = 0 ∧ (ggR KkR ggD n.z al).2 = 0 ∧ InB (ggR KkR gg1 v.z al).1 boxG ∧ InB (ggR KkR ggD n.z al).1 boxD ∧
    (dnE KkR v n (ggR KkR gg1 v.z al).1 (ggR KkR ggD n.z al).1).2 = 0 ∧ dnR KkR v n al = (gt (dnE KkR v n (ggR KkR gg1 v.z al).1 (ggR KkR ggD n.z al).1).1 0, 0) ∧
    rt (dnR KkR v n al).1 = true ∧ 0 ≤ (dnR KkR v n al).1.lo.k := by
  obtain ⟨v1, v2, v3⟩ := hv.b1
  obtain ⟨n1, n2, n3⟩ := hn.b1
  obtain ⟨c1, c2, c3, _, _, c6⟩ := den_box
  obtain ⟨m1, m2, m3⟩ := den_mono
  obtain ⟨g1, _, g3⟩ := gg_ok m1 v3 ha.b1 c1
  obtain ⟨d1, _, d3⟩ := gg_ok m2 n3 ha.b1 c2
  have b := box (v := [(ggR KkR ggD n.z al).1, (ggR KkR gg1 v.z al).1, n.z, n.y, n.x, v.z, v.y, v.x]) (w := boxN) m3 ⟨d3, g3, n3, n2, n1, v3, v2, v1, trivial⟩ c3
  have e0 : (dnE KkR v n (ggR KkR gg1 v.z al).1 (ggR KkR ggD n.z al).1).2 = 0 := b.1
  have e : dnR KkR v n al = (gt (dnE KkR v n (ggR KkR gg1 v.z al).1 (ggR KkR ggD n.z al).1).1 0, 0) := by
    unfold dnR
    rw [neB_z g1, neB_z d1, neB_z e0, cond_false, cond_false, cond_false]
  refine ⟨g1, d1, g3, d3, e0, e, ?_, ?_⟩
  · rw [e]; exact (b.2 0).rt
  · rw [e]; exact Int.le_trans c6 (b.2 0).inB.1
theorem dnO_ok {v n : V3} {al : I} (hv : OneP v) (hn : NrP n) (ha : AlP al) : obsB (dnO v n al) = true := by
  have zk := z64_k
  refine ob2 (ob2 ?_ (dirO_ok hv)) (alO_ok ha).1
  exact obsB_yes (decide_eq_true hn.z.hi) (obsB_yes (decide_eq_true (by rw [zk]; exact hn.up)) (obsB_yes (decide_eq_true hn.y.hi) (obsB_yes (decide_eq_true hn.y.lo) (obsB_yes (decide_eq_true hn.x.hi) (obsB_yes (decide_eq_true hn.x.lo) (obsB_yes (in1_rt hn.z) (obsB_yes (in1_rt hn.y) (obsB_yes (in1_rt hn.x) obsB_nil))))))))
end Bu
