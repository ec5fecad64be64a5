/- What the rows of these laws ask behind a call whose arguments are plain words and whose road made only new blocks. Rows whose arguments are structures of numbers. Rows whose arguments are arrays of whole numbers. Numbers as places on a ladder: bits, order. -/
import Derived.Test.YtlhlcefkmhhmjaaGreatRows
import Derived.WalkKit
import Derived.ProofKit
import Derived.OpenShut
import Derived.Laws.Cover2
import Derived.ChangeSame
import Derived.Deep.Strs
import Ieee.Arith
namespace Go.Proofs.YtlhlcefkmhhmjaaGreat
set_option linter.all false
open Go.ChangeShapes Go.WideShapes Go.ChangeAt Go.RowKit

theorem Tryz.own : ownKnob Tryz.prog.godebug = none := by kernel_rfl

section
variable {H : Type} {enc : TypeId × Value → H} {P : Program}
theorem post_scalar {f : Func} {s : ChangeSpec} {apart fresh handsOn again : Bool} {W W' : World} {args : Array Value} {v : Value} {ds gs : List (DataW H)}
    (hW : DataW.Whole enc P f.params.toList s.vars apart W args.toList ds gs [])
    (hres : ∀ (b : Nat) (sp : Nat → Bool) (hd : Bool), DataW.TrodAll enc P W' b sp hd f.resultTypes.toList (v.resultList f.resultTypes.size) (s.fn H (ds ++ gs)).results [])
    (hargs : ∀ sp : Nat → Bool, DataW.TrodAll enc P W' 0 sp true f.params.toList args.toList (s.fn H (ds ++ gs)).args [])
    (hvars : ∀ sp : Nat → Bool, DataW.TrodVars enc P W' sp s.vars (s.fn H (ds ++ gs)).vars [])
    (hb : Below W.heap.size W W')
    (hok : ∀ (j : Nat) (t : TypeId) (r : Value), f.resultTypes[j]? = some t → (v.resultList f.resultTypes.size)[j]? = some r → Value.okWide P W' .any 0 t r) :
    s.post enc P f apart fresh handsOn again W args v W' := by
  refine ⟨ds, gs, [], [], [], [], hW, hres _ _ _, hargs _, hvars _, World.keptBut_mono (fun p hp => ⟨hp, ?_⟩) (hb.frame (· ∈ [])), fun _ => ?_⟩
  · cases hp
  · refine ⟨hok, _, _, ([] ++ []) ++ [], ⟨[] ++ [], [], trodAll_append (hargs _) (hres _ _ _), hvars _, rfl, ?_, ?_⟩, ?_⟩
    · intro b off hp
      cases hp
    · intro ha
      simp
    · intro p hp _
      cases hp
end

end Go.Proofs.YtlhlcefkmhhmjaaGreat
namespace Go.Proofs.YtlhlcefkmhhmjaaGreat
set_option linter.all false
open Go.ChangeShapes Go.WideShapes Go.ChangeAt Go.RowKit Go.Deep
section
variable {H : Type} {enc : TypeId × Value → H} {P : Program} {w : World} {base : Nat} {spare : Nat → Bool} {held : Bool}

end
end Go.Proofs.YtlhlcefkmhhmjaaGreat
namespace Go.Proofs.YtlhlcefkmhhmjaaGreat
set_option linter.all false
open Go.ChangeShapes Go.WideShapes Go.ChangeAt Go.RowKit Go.Deep
section
variable {H : Type} {enc : TypeId × Value → H} {P : Program} {w : World} {base : Nat} {spare : Nat → Bool} {held : Bool}

/-- an array of so many whole numbers of a kind -/
structure ArrT (P : Program) (t e : TypeId) (n : Nat) (k : IntKind) : Prop where
  ar : P.underlying t = some (.array n e)
  el : P.underlying e = some (.int k)
  ct : P.cellsOf t = n
  ce : P.cellsOf e = 1
theorem okWide_array {t e : TypeId} {n : Nat} {r : Reach} {b0 : Nat} {v : Value} (ht : P.underlying t = some (.array n e)) (h : Value.okWide P w r b0 t v) : ∃ cs, v = .agg cs := by
  simp only [Value.okWide, ht] at h
  obtain ⟨cs, h1, _⟩ := h
  exact ⟨cs, h1⟩
theorem ints_of {k : IntKind} {f : DataW H → DataW H} : ∀ {cs : List Value} {xs : List (DataW H × List MemPlace)}, cs.length = xs.length →
    (∀ i : Nat, i < xs.length → ∃ n, (cs.drop i).take 1 = [.int k n] ∧ xs[i]? = some (.lit (.int k n), []) ∧ (Lit.int k n).wf = true) →
    ∃ ns : List Int, ns.length = xs.length ∧ cs = ns.map (.int k) ∧ xs = ns.map (fun a => (DataW.lit (.int k a), [])) ∧ ∀ a ∈ ns, (Lit.int k a).wf = true
  | [], [], _, _ => ⟨[], rfl, rfl, rfl, by simp⟩
  | c :: cs, x :: xs, hl, h => by
    obtain ⟨n, h1, h2, h3⟩ := h 0 (by simp)
    simp at h1 h2
    obtain ⟨ns, g1, g2, g3, g4⟩ := ints_of (f := f) (cs := cs) (xs := xs) (by simpa using hl) fun i hi => by
      obtain ⟨m, k1, k2, k3⟩ := h (i + 1) (by simpa using hi)
      exact ⟨m, by simpa using k1, by simpa using k2, k3⟩
    refine ⟨n :: ns, by simp [g1], by simp [h1, g2], by simp [h2, g3], ?_⟩
    intro a ha
    rcases List.mem_cons.1 ha with rfl | ha
    · exact h3
    · exact g4 a ha
theorem open_arr {t e : TypeId} {n : Nat} {k : IntKind} (hT : ArrT P t e n k) {r : Reach} {b0 : Nat} {v : Value} {d : DataW H} {ps : List MemPlace} (hval : Value.okWide P w r b0 t v) (hd : DataW.Trod enc P w base spare held t v d ps) :
    ∃ ns : List Int, ns.length = n ∧ v = .agg (ns.map (.int k)).toArray ∧ d = .agg (ns.map fun a => .lit (.int k a)) ∧ ps = [] ∧ ∀ a ∈ ns, (Lit.int k a).wf = true := by
  obtain ⟨cs, rfl⟩ := okWide_array hT.ar hval
  obtain ⟨fuel, hf⟩ := hd
  obtain ⟨xs, m, _, hx, hl, hn, he⟩ := DataW.trod_array hT.ar hf
  rw [hT.ct] at hl
  have hcs : (Value.agg cs).cells.toList = cs.toList := rfl
  obtain ⟨ns, g1, g2, g3, g4⟩ := ints_of (k := k) (f := id) (cs := (Value.agg cs).cells.toList) (xs := xs) (by rw [hl, hn]) fun i hi => by
    have h := he i (by omega)
    rw [hT.ce, Nat.mul_one] at h
    obtain ⟨x, hx2⟩ : ∃ x, xs[i]? = some x := ⟨xs[i], List.getElem?_eq_getElem hi⟩
    rw [hx2] at h
    obtain ⟨a, c1, c2, c3⟩ := DataW.trod_int hT.el h
    exact ⟨a, c1, by rw [hx2, c2], c3⟩
  simp only [Prod.mk.injEq] at hx
  refine ⟨ns, by rw [g1, hn], ?_, ?_, ?_, g4⟩
  · congr 1
    apply Array.ext'
    rw [← hcs, g2]
  · rw [hx.1, g3, List.map_map]; rfl
  · rw [hx.2, g3]
    clear g2 g3 g4 g1
    induction ns with
    | nil => rfl
    | cons a l ih => simpa using ih
theorem trod_int_mk {t : TypeId} {k : IntKind} {a : Int} (n : Nat) (ht : P.underlying t = some (.int k)) (hw : (Lit.int k a).wf = true) : DataW.trod enc P w base spare held (n + 1) t [.int k a] = some (.lit (.int k a), []) := by
  simp [DataW.trod, ht, hw]
theorem shut_arr {t e : TypeId} {n : Nat} {k : IntKind} (hT : ArrT P t e n k) {ns : List Int} (hn : ns.length = n) (hw : ∀ a ∈ ns, (Lit.int k a).wf = true) :
    DataW.Trod enc P w base spare held t (.agg (ns.map (.int k)).toArray) (.agg (ns.map fun a => .lit (.int k a))) [] := by
  refine ⟨2, ?_⟩
  have key : ∀ (l : List Nat) (xs : List (DataW H × List MemPlace)), l.mapM (fun i => DataW.trod enc P w base spare held 1 e ((((ns.map (Value.int k)).drop (i * 1)).take 1))) = some xs → True := fun _ _ _ => trivial
  have hm : ∀ (i : Nat), i < n → DataW.trod enc P w base spare held 1 e ((((ns.map (Value.int k)).drop (i * 1)).take 1)) = some ((.lit (.int k (ns.getD i 0)), [])) := by
    intro i hi
    have e1 : ((ns.map (Value.int k)).drop (i * 1)).take 1 = [.int k (ns.getD i 0)] := by
      rw [Nat.mul_one, List.getD_eq_getElem?_getD, List.getElem?_eq_getElem (by omega : i < ns.length)]
      rw [List.drop_eq_getElem_cons (by simpa [hn] using hi)]
      simp
    rw [e1]
    refine trod_int_mk 0 hT.el (hw _ ?_)
    rw [List.getD_eq_getElem?_getD, List.getElem?_eq_getElem (by omega : i < ns.length)]
    exact List.getElem_mem _
  have hM : (List.range n).mapM (fun i => DataW.trod enc P w base spare held 1 e ((((ns.map (Value.int k)).drop (i * 1)).take 1))) = some ((List.range n).map fun i => (.lit (.int k (ns.getD i 0)), [])) := by
    generalize hL : List.range n = L
    have hlt : ∀ i ∈ L, i < n := by intro i hi; rw [← hL] at hi; exact List.mem_range.1 hi
    clear hL
    induction L with
    | nil => rfl
    | cons a l ih =>
      rw [List.mapM_cons, hm a (hlt a (by simp)), ih fun i hi => hlt i (by simp [hi])]
      rfl
  have hD : (List.range n).map (fun i => (DataW.lit (.int k (ns.getD i 0)) : DataW H)) = ns.map fun a => .lit (.int k a) := by
    apply List.ext_getElem
    · simp [hn]
    · intro i h1 h2
      simp at h1
      simp [List.getD_eq_getElem?_getD, List.getElem?_eq_getElem (by omega : i < ns.length)]
  unfold DataW.trod
  rw [hT.ar]
  simp only [hT.ce]
  have hc : (Value.agg (ns.map (Value.int k)).toArray).cells.toList = ns.map (Value.int k) := rfl
  rw [hc, if_pos (by simp [hT.ct, hn]), hM]
  simp only [Option.bind_some, Option.map_some]
  rw [List.map_map]
  simp only [Function.comp_def, hD]
  congr 2
  induction (List.range n) with
  | nil => rfl
  | cons a l ih => simpa using ih
end
end Go.Proofs.YtlhlcefkmhhmjaaGreat
namespace Bu
set_option linter.all false

/-- 2^52: rungs to a binade. -/
def P : Nat := 4503599627370496
/-- the rung of infinity. -/
def T : Nat := 9218868437227405312
/-- what numbers are multiples of: 2^-1074. -/
def S : Nat := 2 ^ 1074

def man (r : Nat) : Nat := if r < P then r else P + r % P
def pl (r : Nat) : Nat := r / P - 1
/-- the number of a rung, times S. -/
def nv (r : Nat) : Nat := man r * 2 ^ pl r

theorem P_pos : 0 < P := by unfold P; omega
theorem P_eq : P = 2 ^ 52 := rfl
theorem S_eq : S = 2 ^ 1074 := by unfold S; rfl
theorem S_pos : 0 < S := by rw [S_eq]; exact Nat.two_pow_pos 1074
attribute [irreducible] S
theorem nv_mk (s m : Nat) (h : m ≤ 2 * P) (h2 : s = 0 ∨ P ≤ m) : nv (s * P + m) = m * 2 ^ s := by
  have hP := P_pos
  unfold nv man pl
  by_cases hm : m = 2 * P
  · subst hm
    have e1 : s * P + 2 * P = (s + 2) * P := by rw [← Nat.add_mul]
    have e2 : ¬ ((s + 2) * P < P) := by
      have : 1 * P ≤ (s + 2) * P := Nat.mul_le_mul_right _ (by omega)
      omega
    rw [e1, if_neg e2, Nat.mul_mod_left, Nat.mul_div_cancel _ hP, show s + 2 - 1 = s + 1 from by omega, Nat.pow_succ]
    simp only [Nat.add_zero]
    rw [Nat.mul_comm 2 P, Nat.mul_assoc, Nat.mul_comm 2]
  · by_cases h3 : m < P
    · have hs : s = 0 := by omega
      subst hs
      simp [h3, Nat.div_eq_of_lt h3]
    · have e0 : s * P + m = (s + 1) * P + (m - P) := by rw [Nat.add_mul]; omega
      have hlt : m - P < P := by omega
      have e2 : ¬ ((s + 1) * P + (m - P) < P) := by
        have : 1 * P ≤ (s + 1) * P := Nat.mul_le_mul_right _ (by omega)
        omega
      rw [e0, if_neg e2, Nat.mul_comm (s+1) P, Nat.mul_add_mod, Nat.mod_eq_of_lt hlt, Nat.mul_add_div hP, Nat.div_eq_of_lt hlt]
      rw [show P + (m - P) = m from by omega, show s + 1 + 0 - 1 = s from by omega]

/-- every rung is so made. -/
theorem rung_mk (r : Nat) : ∃ s m, r = s * P + m ∧ m < 2 * P ∧ (s = 0 ∨ P ≤ m) := by
  have hP := P_pos
  by_cases h : r < P
  · exact ⟨0, r, by omega, by omega, Or.inl rfl⟩
  · refine ⟨r / P - 1, P + r % P, ?_, by have := Nat.mod_lt r hP; omega, Or.inr (by omega)⟩
    have h1 := Nat.div_add_mod r P
    have h2 : 1 ≤ r / P := (Nat.le_div_iff_mul_le hP).2 (by omega)
    obtain ⟨q, hq⟩ : ∃ q, r / P = q + 1 := ⟨r / P - 1, by omega⟩
    rw [hq] at h1 ⊢
    rw [show q + 1 - 1 = q from by omega]
    rw [Nat.mul_comm, Nat.add_mul] at h1
    omega

theorem nv_succ (r : Nat) : nv r < nv (r + 1) := by
  obtain ⟨s, m, rfl, h1, h2⟩ := rung_mk r
  rw [Nat.add_assoc, nv_mk s m (by omega) h2, nv_mk s (m + 1) (by omega) (by omega)]
  exact Nat.mul_lt_mul_of_pos_right (by omega) (Nat.two_pow_pos _)

theorem nv_lt {a b : Nat} (h : a < b) : nv a < nv b := by
  induction b with
  | zero => omega
  | succ n ih =>
    by_cases e : a = n
    · subst e; exact nv_succ _
    · exact Nat.lt_trans (ih (by omega)) (nv_succ n)

theorem nv_le {a b : Nat} (h : a ≤ b) : nv a ≤ nv b := by
  by_cases e : a = b
  · subst e; exact Nat.le_refl _
  · exact Nat.le_of_lt (nv_lt (by omega))

theorem nv_lt_iff {a b : Nat} : nv a < nv b ↔ a < b :=
  ⟨fun h => by
    by_cases e : a < b
    · exact e
    · have := nv_le (show b ≤ a by omega); omega, nv_lt⟩
theorem nv_le_iff {a b : Nat} : nv a ≤ nv b ↔ a ≤ b := by
  have := @nv_lt_iff b a
  omega
theorem nv_inj {a b : Nat} (h : nv a = nv b) : a = b := by
  have h1 := @nv_le_iff a b
  have h2 := @nv_le_iff b a
  omega
theorem nv_zero : nv 0 = 0 := by decide

/-- the greatest rung whose number is no more than x (times S). -/
def fl (x : Nat) : Nat := (x.log2 - 52) * P + x >>> (x.log2 - 52)

theorem fl_parts (x : Nat) : x >>> (x.log2 - 52) < 2 * P ∧ (x.log2 - 52 = 0 ∨ P ≤ x >>> (x.log2 - 52)) := by
  rw [Nat.shiftRight_eq_div_pow]
  by_cases h0 : x = 0
  · subst h0; simp [P]
  have h1 := Nat.lt_log2_self (n := x)
  have h2 := Nat.log2_self_le h0
  constructor
  · rw [Nat.div_lt_iff_lt_mul (Nat.two_pow_pos _)]
    refine Nat.lt_of_lt_of_le h1 ?_
    rw [show 2 * P = 2 ^ 53 from rfl, ← Nat.pow_add]
    exact Nat.pow_le_pow_right (by omega) (by omega)
  · by_cases h : x.log2 - 52 = 0
    · exact Or.inl h
    · right
      rw [Nat.le_div_iff_mul_le (Nat.two_pow_pos _)]
      refine Nat.le_trans ?_ h2
      rw [P_eq, ← Nat.pow_add]
      exact Nat.pow_le_pow_right (by omega) (by omega)

theorem nv_fl_le (x : Nat) : nv (fl x) ≤ x := by
  obtain ⟨h1, h2⟩ := fl_parts x
  unfold fl
  rw [nv_mk _ _ (by omega) h2, Nat.shiftRight_eq_div_pow]
  exact Nat.div_mul_le_self _ _

theorem lt_nv_fl (x : Nat) : x < nv (fl x + 1) := by
  obtain ⟨h1, h2⟩ := fl_parts x
  unfold fl
  rw [Nat.add_assoc, nv_mk _ _ (by omega) (by omega), Nat.shiftRight_eq_div_pow]
  have := Nat.div_add_mod x (2 ^ (x.log2 - 52))
  have h3 := Nat.mod_lt x (Nat.two_pow_pos (x.log2 - 52))
  rw [Nat.add_mul, Nat.mul_comm]
  omega

/-- THE FLOOR: -/
theorem le_fl {r x : Nat} : r ≤ fl x ↔ nv r ≤ x := by
  constructor
  · intro h; exact Nat.le_trans (nv_le h) (nv_fl_le x)
  · intro h
    have := lt_nv_fl x
    have h2 : nv r < nv (fl x + 1) := by omega
    have := nv_lt_iff.1 h2
    omega

theorem fl_nv (r : Nat) : fl (nv r) = r := by
  have h1 := (le_fl (r := r) (x := nv r)).2 (Nat.le_refl _)
  have h2 := nv_fl_le (nv r)
  have := nv_le_iff.1 h2
  omega

/-- the least rung whose number is no less than x. -/
def ce (x : Nat) : Nat := if nv (fl x) = x then fl x else fl x + 1

theorem ce_le {r x : Nat} : ce x ≤ r ↔ x ≤ nv r := by
  unfold ce
  have h0 := nv_fl_le x
  have h1 := lt_nv_fl x
  have hr := @le_fl r x
  split
  · rename_i e
    have := @nv_le_iff (fl x) r
    omega
  · have h2 := @nv_le_iff (fl x + 1) r
    constructor
    · intro h; have := h2.2 h; omega
    · intro h
      by_cases e : r ≤ fl x
      · have := hr.1 e; have := nv_le e; omega
      · omega

theorem fl_mono {x y : Nat} (h : x ≤ y) : fl x ≤ fl y := le_fl.2 (Nat.le_trans (nv_fl_le x) h)
theorem fl_zero : fl 0 = 0 := by have := fl_nv 0; rwa [nv_zero] at this
/-- how the floor is reckoned of a part and a place. -/
theorem fl_mk {s m x : Nat} (hm : m < 2 * P) (h2 : s = 0 ∨ P ≤ m) (h3 : m * 2 ^ s ≤ x) (h4 : x < (m + 1) * 2 ^ s) : fl x = s * P + m := by
  have a := (le_fl (r := s * P + m) (x := x)).2 (by rw [nv_mk _ _ (by omega) h2]; exact h3)
  have b : ¬ (s * P + (m + 1) ≤ fl x) := by
    rw [le_fl, nv_mk _ _ (by omega) (by omega)]; omega
  omega

def nvZ (k : Int) : Int := if 0 ≤ k then (nv k.toNat : Int) else -(nv (-k).toNat : Int)
def flZ (x : Int) : Int := if 0 ≤ x then (fl x.toNat : Int) else -(ce (-x).toNat : Int)
theorem nvZ_neg (k : Int) : nvZ (-k) = -(nvZ k) := by
  unfold nvZ
  by_cases h : k = 0
  · subst h; simp [nv_zero]
  · by_cases h1 : 0 ≤ k
    · rw [if_neg (by omega), if_pos h1]; simp
    · rw [if_pos (by omega), if_neg h1]; simp

theorem nvZ_nonneg {k : Int} (h : 0 ≤ k) : 0 ≤ nvZ k := by unfold nvZ; rw [if_pos h]; omega
theorem nvZ_natCast (k : Nat) : nvZ (k : Int) = nv k := by unfold nvZ; simp

theorem nvZ_lt {a b : Int} (h : a < b) : nvZ a < nvZ b := by
  unfold nvZ
  by_cases h1 : 0 ≤ a
  · rw [if_pos h1, if_pos (by omega)]
    have := @nv_lt a.toNat b.toNat (by omega)
    omega
  · rw [if_neg h1]
    by_cases h2 : 0 ≤ b
    · rw [if_pos h2]
      have := @nv_lt 0 (-a).toNat (by omega)
      rw [nv_zero] at this
      omega
    · rw [if_neg h2]
      have := @nv_lt (-b).toNat (-a).toNat (by omega)
      omega

theorem nvZ_lt_iff {a b : Int} : nvZ a < nvZ b ↔ a < b :=
  ⟨fun h => by
    by_cases e : a < b
    · exact e
    · by_cases e2 : a = b
      · subst e2; omega
      · have := @nvZ_lt b a (by omega); omega, nvZ_lt⟩
theorem nvZ_le_iff {a b : Int} : nvZ a ≤ nvZ b ↔ a ≤ b := by
  have := @nvZ_lt_iff b a
  omega
theorem nvZ_inj {a b : Int} (h : nvZ a = nvZ b) : a = b := by
  have h1 := @nvZ_le_iff a b
  have h2 := @nvZ_le_iff b a
  omega
theorem nvZ_zero : nvZ 0 = 0 := by simp [nvZ, nv_zero]

end Bu
namespace Bu
set_option linter.all false
open Ieee

theorem T_eq : T = 2047 * P := rfl
theorem P_lt_T : P < T := by decide

/-- A number: a float64 that is finite, and not minus 0; by its place on the ladder of all numbers. -/
structure F where
  k : Int
  hk : -(T : Int) < k ∧ k < (T : Int)

theorem F.ext' {a b : F} (h : a.k = b.k) : a = b := by
  cases a; cases b; simp only at h; subst h; rfl
instance : DecidableEq F := fun a b => if h : a.k = b.k then isTrue (F.ext' h) else isFalse (fun e => h (by rw [e]))

def F.zero : F := ⟨0, by decide⟩
def F.max : F := ⟨(T : Int) - 1, by decide⟩
def F.min : F := ⟨1 - (T : Int), by decide⟩
def F.of (k : Int) : F := if h : -(T : Int) < k ∧ k < (T : Int) then ⟨k, h⟩ else F.zero
theorem F.of_k {k : Int} (h : -(T : Int) < k ∧ k < (T : Int)) : (F.of k).k = k := by unfold F.of; rw [dif_pos h]
/-- its bits -/
def F.b (x : F) : Nat := if 0 ≤ x.k then x.k.toNat else 9223372036854775808 + (-x.k).toNat
/-- its number, times S -/
def F.z (x : F) : Int := nvZ x.k

theorem F.z_le {a b : F} : a.z ≤ b.z ↔ a.k ≤ b.k := nvZ_le_iff
theorem F.z_inj {a b : F} (h : a.z = b.z) : a = b := F.ext' (nvZ_inj h)

/-- which words are numbers -/
def rightB (w : Nat) : Bool := decide (w < T) || (decide (9223372036854775808 < w) && decide (w < 9223372036854775808 + T))

theorem T_num : T = 9218868437227405312 := rfl

theorem right_F (x : F) : rightB x.b = true := by
  have := x.hk
  have e := T_num
  unfold rightB F.b
  split <;> simp <;> omega

theorem F_of_right {w : Nat} (h : rightB w = true) : ∃ x : F, x.b = w := by
  have e := T_num
  unfold rightB at h
  simp only [Bool.or_eq_true, Bool.and_eq_true, decide_eq_true_eq] at h
  rcases h with h | ⟨h, h2⟩
  · refine ⟨⟨(w : Int), by omega⟩, ?_⟩
    unfold F.b; simp
  · refine ⟨⟨-((w - 9223372036854775808 : Nat) : Int), by omega⟩, ?_⟩
    unfold F.b; simp only
    rw [if_neg (by omega)]; omega

theorem F.b_lt (x : F) : x.b < 18446744073709551616 := by
  have := x.hk
  have e := T_num
  unfold F.b; split <;> omega

theorem F.b_inj {x y : F} (h : x.b = y.b) : x = y := by
  have h1 := x.hk
  have h2 := y.hk
  have e := T_num
  unfold F.b at h
  apply F.ext'
  split at h <;> split at h <;> omega

def F.abs (x : F) : F := ⟨(x.k.natAbs : Int), by have := x.hk; omega⟩
theorem F.abs_b (x : F) : x.b % 9223372036854775808 = x.abs.b := by
  have h1 := x.hk
  have e := T_num
  have e2 : x.abs.k = (x.k.natAbs : Int) := rfl
  unfold F.b
  rw [e2, if_pos (show (0 : Int) ≤ (x.k.natAbs : Int) from by omega)]
  split <;> omega

theorem dbl_sign : double.signWeight = 9223372036854775808 := by decide
theorem dbl_bin : double.binade = P := by decide
theorem dbl_inf : double.infRung = T := by decide
theorem dbl_least : double.leastPlace = -1074 := by decide

theorem read_parts (w : Nat) (neg : Bool) (r : Nat) (hr : r < 9223372036854775808) (hw : w = if neg then 9223372036854775808 + r else r) :
    double.read w = if r < T then .number neg (man r) (-1074 + (pl r : Int)) else if r = T then .infinity neg else .nan neg (r - T) := by
  unfold Format.read
  rw [dbl_sign, dbl_bin, dbl_inf, dbl_least]
  have e1 : (w / 9223372036854775808 % 2 == 1) = neg := by
    cases neg <;> simp at hw <;> subst hw <;> simp <;> omega
  have e2 : w % 9223372036854775808 = r := by
    cases neg <;> simp at hw <;> subst hw <;> omega
  simp only [e1, e2]
  have hPT := P_lt_T
  by_cases h1 : r < P
  · rw [if_pos h1, if_pos (by omega)]
    unfold man pl
    rw [if_pos h1, Nat.div_eq_of_lt h1]; rfl
  · rw [if_neg h1]
    by_cases h2 : r < T
    · rw [if_pos h2, if_pos h2]
      unfold man pl
      rw [if_neg h1]
    · rw [if_neg h2, if_neg h2]

/-- a word that is no number: minus 0, or infinite, or a NaN -/
theorem bad_parts {w : Nat} (hw : w < 18446744073709551616) (h : rightB w = false) :
    ∃ (neg : Bool) (r : Nat), r < 9223372036854775808 ∧ (w = if neg then 9223372036854775808 + r else r) ∧ ((neg = true ∧ r = 0) ∨ r = T ∨ T < r) := by
  have e := T_num
  unfold rightB at h
  simp only [Bool.or_eq_false_iff, Bool.and_eq_false_iff, decide_eq_false_iff_not] at h
  by_cases h1 : w < 9223372036854775808
  · exact ⟨false, w, h1, rfl, by omega⟩
  · exact ⟨true, w - 9223372036854775808, by omega, by simp; omega, by
      simp only [true_and]; omega⟩

theorem read_F (x : F) : double.read x.b = .number (decide (x.k < 0)) (man x.k.natAbs) (-1074 + (pl x.k.natAbs : Int)) := by
  have h1 := x.hk
  have e := T_num
  have := read_parts x.b (decide (x.k < 0)) x.k.natAbs (by omega) (by
    unfold F.b
    by_cases h : x.k < 0
    · simp [h, Int.not_le.2 h]; omega
    · simp [h, Int.not_lt.1 h]; omega)
  rw [this, if_pos (by omega)]

theorem signed_eq (neg : Bool) (m u : Nat) : signed neg m u = (if neg then -1 else 1) * ((m * 2 ^ u : Nat) : Int) := by
  unfold signed
  rw [Nat.shiftLeft_eq]
  cases neg <;> simp

theorem nvZ_sign (k : Int) : nvZ k = (if decide (k < 0) then -1 else 1) * ((man k.natAbs * 2 ^ pl k.natAbs : Nat) : Int) := by
  unfold nvZ nv
  by_cases h : k < 0
  · rw [if_neg (by omega), show (-k).toNat = k.natAbs from by omega]; simp [h]
  · rw [if_pos (by omega), show k.toNat = k.natAbs from by omega]; simp [h]

theorem compare_mul (a b : Int) (c : Int) (hc : 0 < c) : compare a b = compare (a * c) (b * c) := by
  have h1 : a * c < b * c ↔ a < b := Int.mul_lt_mul_right hc
  have h2 : a * c = b * c ↔ a = b := Int.mul_eq_mul_right_iff (by omega)
  show compareOfLessAndEq a b = compareOfLessAndEq (a * c) (b * c)
  unfold compareOfLessAndEq
  simp only [h1, h2]

theorem nvZ_compare (a b : Int) : compare (nvZ a) (nvZ b) = compare a b := by
  show compareOfLessAndEq (nvZ a) (nvZ b) = compareOfLessAndEq a b
  unfold compareOfLessAndEq
  have h2 : nvZ a = nvZ b ↔ a = b := ⟨nvZ_inj, fun h => by rw [h]⟩
  simp only [nvZ_lt_iff, h2]

theorem signed_base (k : Int) (base : Nat) (h : base ≤ pl k.natAbs) :
    signed (decide (k < 0)) (man k.natAbs) (pl k.natAbs - base) * ((2 ^ base : Nat) : Int) = nvZ k := by
  rw [signed_eq, nvZ_sign, Int.mul_assoc, ← Int.natCast_mul, Nat.mul_assoc, ← Nat.pow_add, Nat.sub_add_cancel h]

/-- two numbers are compared by their places -/
theorem order_F (x y : F) : double.order x.b y.b = some (compare x.k y.k) := by
  unfold Format.order
  rw [read_F, read_F]
  simp only [Datum.order]
  have hb : ∀ p q : Nat, min (-1074 + (p : Int)) (-1074 + (q : Int)) = -1074 + ((min p q : Nat) : Int) := by intro p q; omega
  rw [hb]
  have hs : ∀ p q : Nat, (-1074 + (p : Int) - (-1074 + (q : Int))).toNat = p - q := by intro p q; omega
  rw [hs, hs, compare_mul _ _ ((2 ^ (min (pl x.k.natAbs) (pl y.k.natAbs)) : Nat) : Int) (by have := Nat.two_pow_pos (min (pl x.k.natAbs) (pl y.k.natAbs)); omega)]
  rw [signed_base _ _ (Nat.min_le_left _ _), signed_base _ _ (Nat.min_le_right _ _), nvZ_compare]

theorem order_lt (x y : F) : (double.order x.b y.b == some .lt) = decide (x.k < y.k) := by
  rw [order_F, Bool.eq_iff_iff]
  simp only [beq_iff_eq, Option.some.injEq, decide_eq_true_eq]
  exact Int.compare_eq_lt
theorem order_gt (x y : F) : (double.order x.b y.b == some .gt) = decide (y.k < x.k) := by
  rw [order_F, Bool.eq_iff_iff]
  simp only [beq_iff_eq, Option.some.injEq, decide_eq_true_eq]
  exact Int.compare_eq_gt
theorem order_eq (x y : F) : (double.order x.b y.b == some .eq) = decide (x.k = y.k) := by
  rw [order_F, Bool.eq_iff_iff]
  simp only [beq_iff_eq, Option.some.injEq, decide_eq_true_eq]
  exact Int.compare_eq_eq
attribute [irreducible] F.of
end Bu
