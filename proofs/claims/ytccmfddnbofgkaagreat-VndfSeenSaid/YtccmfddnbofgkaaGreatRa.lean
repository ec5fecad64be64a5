/- Rows whose arguments are arrays of whole numbers. -/
import Derived.Test.YtccmfddnbofgkaaGreatRv
namespace Go.Proofs.YtccmfddnbofgkaaGreat
set_option linter.all false
open Go.ChangeShapes Go.WideShapes Go.ChangeAt Go.RowKit Go.Deep
section
variable {H : Type} {enc : TypeId × Value → H} {P : Program} {w : World} {base : Nat} {spare : Nat → Bool} {held : Bool}

/-- an array of so many whole numbers of a kind -/
structure ArrT (P : Program) (t e : TypeId) (n : Nat) (k : IntKind) : Prop where
  ar : P.underlying t = some (.array n e)
  el : P.underlying e = some (.int k)
  ct : P.cellsOf t = n
  ce : P.cellsOf e = 1
theorem okWide_array {t e : TypeId} {n : Nat} {r : Reach} {b0 : Nat} {v : Value} (ht : P.underlying t = some (.array n e)) (h : Value.okWide P w r b0 t v) : ∃ cs, v = .agg cs := by
  simp only [Value.okWide, ht] at h
  obtain ⟨cs, h1, _⟩ := h
  exact ⟨cs, h1⟩
theorem ints_of {k : IntKind} {f : DataW H → DataW H} : ∀ {cs : List Value} {xs : List (DataW H × List MemPlace)}, cs.length = xs.length →
    (∀ i : Nat, i < xs.length → ∃ n, (cs.drop i).take 1 = [.int k n] ∧ xs[i]? = some (.lit (.int k n), []) ∧ (Lit.int k n).wf = true) →
    ∃ ns : List Int, ns.length = xs.length ∧ cs = ns.map (.int k) ∧ xs = ns.map (fun a => (DataW.lit (.int k a), [])) ∧ ∀ a ∈ ns, (Lit.int k a).wf = true
  | [], [], _, _ => ⟨[], rfl, rfl, rfl, by simp⟩
  | c :: cs, x :: xs, hl, h => by
    obtain ⟨n, h1, h2, h3⟩ := h 0 (by simp)
    simp at h1 h2
    obtain ⟨ns, g1, g2, g3, g4⟩ := ints_of (f := f) (cs := cs) (xs := xs) (by simpa using hl) fun i hi => by
      obtain ⟨m, k1, k2, k3⟩ := h (i + 1) (by simpa using hi)
      exact ⟨m, by simpa using k1, by simpa using k2, k3⟩
    refine ⟨n :: ns, by simp [g1], by simp [h1, g2], by simp [h2, g3], ?_⟩
    intro a ha
    rcases List.mem_cons.1 ha with rfl | ha
    · exact h3
    · exact g4 a ha
theorem open_arr {t e : TypeId} {n : Nat} {k : IntKind} (hT : ArrT P t e n k) {r : Reach} {b0 : Nat} {v : Value} {d : DataW H} {ps : List MemPlace} (hval : Value.okWide P w r b0 t v) (hd : DataW.Trod enc P w base spare held t v d ps) :
    ∃ ns : List Int, ns.length = n ∧ v = .agg (ns.map (.int k)).toArray ∧ d = .agg (ns.map fun a => .lit (.int k a)) ∧ ps = [] ∧ ∀ a ∈ ns, (Lit.int k a).wf = true := by
  obtain ⟨cs, rfl⟩ := okWide_array hT.ar hval
  obtain ⟨fuel, hf⟩ := hd
  obtain ⟨xs, m, _, hx, hl, hn, he⟩ := DataW.trod_array hT.ar hf
  rw [hT.ct] at hl
  have hcs : (Value.agg cs).cells.toList = cs.toList := rfl
  obtain ⟨ns, g1, g2, g3, g4⟩ := ints_of (k := k) (f := id) (cs := (Value.agg cs).cells.toList) (xs := xs) (by rw [hl, hn]) fun i hi => by
    have h := he i (by omega)
    rw [hT.ce, Nat.mul_one] at h
    obtain ⟨x, hx2⟩ : ∃ x, xs[i]? = some x := ⟨xs[i], List.getElem?_eq_getElem hi⟩
    rw [hx2] at h
    obtain ⟨a, c1, c2, c3⟩ := DataW.trod_int hT.el h
    exact ⟨a, c1, by rw [hx2, c2], c3⟩
  simp only [Prod.mk.injEq] at hx
  refine ⟨ns, by rw [g1, hn], ?_, ?_, ?_, g4⟩
  · congr 1
    apply Array.ext'
    rw [← hcs, g2]
  · rw [hx.1, g3, List.map_map]; rfl
  · rw [hx.2, g3]
    clear g2 g3 g4 g1
    induction ns with
    | nil => rfl
    | cons a l ih => simpa using ih
theorem trod_int_mk {t : TypeId} {k : IntKind} {a : Int} (n : Nat) (ht : P.underlying t = some (.int k)) (hw : (Lit.int k a).wf = true) : DataW.trod enc P w base spare held (n + 1) t [.int k a] = some (.lit (.int k a), []) := by
  simp [DataW.trod, ht, hw]
theorem shut_arr {t e : TypeId} {n : Nat} {k : IntKind} (hT : ArrT P t e n k) {ns : List Int} (hn : ns.length = n) (hw : ∀ a ∈ ns, (Lit.int k a).wf = true) :
    DataW.Trod enc P w base spare held t (.agg (ns.map (.int k)).toArray) (.agg (ns.map fun a => .lit (.int k a))) [] := by
  refine ⟨2, ?_⟩
  have key : ∀ (l : List Nat) (xs : List (DataW H × List MemPlace)), l.mapM (fun i => DataW.trod enc P w base spare held 1 e ((((ns.map (Value.int k)).drop (i * 1)).take 1))) = some xs → True := fun _ _ _ => trivial
  have hm : ∀ (i : Nat), i < n → DataW.trod enc P w base spare held 1 e ((((ns.map (Value.int k)).drop (i * 1)).take 1)) = some ((.lit (.int k (ns.getD i 0)), [])) := by
    intro i hi
    have e1 : ((ns.map (Value.int k)).drop (i * 1)).take 1 = [.int k (ns.getD i 0)] := by
      rw [Nat.mul_one, List.getD_eq_getElem?_getD, List.getElem?_eq_getElem (by omega : i < ns.length)]
      rw [List.drop_eq_getElem_cons (by simpa [hn] using hi)]
      simp
    rw [e1]
    refine trod_int_mk 0 hT.el (hw _ ?_)
    rw [List.getD_eq_getElem?_getD, List.getElem?_eq_getElem (by omega : i < ns.length)]
    exact List.getElem_mem _
  have hM : (List.range n).mapM (fun i => DataW.trod enc P w base spare held 1 e ((((ns.map (Value.int k)).drop (i * 1)).take 1))) = some ((List.range n).map fun i => (.lit (.int k (ns.getD i 0)), [])) := by
    generalize hL : List.range n = L
    have hlt : ∀ i ∈ L, i < n := by intro i hi; rw [← hL] at hi; exact List.mem_range.1 hi
    clear hL
    induction L with
    | nil => rfl
    | cons a l ih =>
      rw [List.mapM_cons, hm a (hlt a (by simp)), ih fun i hi => hlt i (by simp [hi])]
      rfl
  have hD : (List.range n).map (fun i => (DataW.lit (.int k (ns.getD i 0)) : DataW H)) = ns.map fun a => .lit (.int k a) := by
    apply List.ext_getElem
    · simp [hn]
    · intro i h1 h2
      simp at h1
      simp [List.getD_eq_getElem?_getD, List.getElem?_eq_getElem (by omega : i < ns.length)]
  unfold DataW.trod
  rw [hT.ar]
  simp only [hT.ce]
  have hc : (Value.agg (ns.map (Value.int k)).toArray).cells.toList = ns.map (Value.int k) := rfl
  rw [hc, if_pos (by simp [hT.ct, hn]), hM]
  simp only [Option.bind_some, Option.map_some]
  rw [List.map_map]
  simp only [Function.comp_def, hD]
  congr 2
  induction (List.range n) with
  | nil => rfl
  | cons a l ih => simpa using ih
end
end Go.Proofs.YtccmfddnbofgkaaGreat
