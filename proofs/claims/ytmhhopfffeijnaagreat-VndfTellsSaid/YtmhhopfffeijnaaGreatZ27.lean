/- What the rows of these laws ask behind a call whose arguments are plain words and whose road made only new blocks. Rows whose arguments are structures of numbers. Rows whose arguments are arrays of whole numbers. -/
import Derived.Test.YtmhhopfffeijnaaGreatRows
import Derived.WalkKit
import Derived.ProofKit
import Derived.OpenShut
import Derived.Laws.Cover2
import Derived.ChangeSame
import Derived.Deep.Strs
namespace Go.Proofs.YtmhhopfffeijnaaGreat
set_option linter.all false
open Go.ChangeShapes Go.WideShapes Go.ChangeAt Go.RowKit

theorem Tryz.own : ownKnob Tryz.prog.godebug = none := by kernel_rfl

section
variable {H : Type} {enc : TypeId × Value → H} {P : Program}
theorem post_scalar {f : Func} {s : ChangeSpec} {apart fresh handsOn again : Bool} {W W' : World} {args : Array Value} {v : Value} {ds gs : List (DataW H)}
    (hW : DataW.Whole enc P f.params.toList s.vars apart W args.toList ds gs [])
    (hres : ∀ (b : Nat) (sp : Nat → Bool) (hd : Bool), DataW.TrodAll enc P W' b sp hd f.resultTypes.toList (v.resultList f.resultTypes.size) (s.fn H (ds ++ gs)).results [])
    (hargs : ∀ sp : Nat → Bool, DataW.TrodAll enc P W' 0 sp true f.params.toList args.toList (s.fn H (ds ++ gs)).args [])
    (hvars : ∀ sp : Nat → Bool, DataW.TrodVars enc P W' sp s.vars (s.fn H (ds ++ gs)).vars [])
    (hb : Below W.heap.size W W')
    (hok : ∀ (j : Nat) (t : TypeId) (r : Value), f.resultTypes[j]? = some t → (v.resultList f.resultTypes.size)[j]? = some r → Value.okWide P W' .any 0 t r) :
    s.post enc P f apart fresh handsOn again W args v W' := by
  refine ⟨ds, gs, [], [], [], [], hW, hres _ _ _, hargs _, hvars _, World.keptBut_mono (fun p hp => ⟨hp, ?_⟩) (hb.frame (· ∈ [])), fun _ => ?_⟩
  · cases hp
  · refine ⟨hok, _, _, ([] ++ []) ++ [], ⟨[] ++ [], [], trodAll_append (hargs _) (hres _ _ _), hvars _, rfl, ?_, ?_⟩, ?_⟩
    · intro b off hp
      cases hp
    · intro ha
      simp
    · intro p hp _
      cases hp
end

theorem u64_in {a : Int} (h : (Lit.int .u64 a).wf = true) : 0 ≤ a ∧ a ≤ 18446744073709551615 := by
  simpa [Lit.wf, IntKind.min, IntKind.max, IntKind.signed, IntKind.bits] using h
theorem f64_in {b : Nat} (h : (Lit.float .f64 b).wf = true) : b < 18446744073709551616 := by
  simpa [Lit.wf] using h
end Go.Proofs.YtmhhopfffeijnaaGreat
namespace Go.Proofs.YtmhhopfffeijnaaGreat
set_option linter.all false
open Go.ChangeShapes Go.WideShapes Go.ChangeAt Go.RowKit Go.Deep
section
variable {H : Type} {enc : TypeId × Value → H} {P : Program} {w : World} {base : Nat} {spare : Nat → Bool} {held : Bool}

theorem trod_f64 {t : TypeId} {fuel : Nat} {cs : List Value} {x : DataW H × List MemPlace} (ht : P.underlying t = some (.float .f64)) (h : DataW.trod enc P w base spare held fuel t cs = some x) :
    ∃ a, cs = [.float .f64 a] ∧ x = (.lit (.float .f64 a), []) ∧ (Lit.float .f64 a).wf = true := by
  cases fuel with
  | zero => simp [DataW.trod] at h
  | succ n =>
    unfold DataW.trod at h
    rw [ht] at h
    split at h <;> simp_all
theorem trod_f64_mk {t : TypeId} {a : Nat} (n : Nat) (ht : P.underlying t = some (.float .f64)) (hw : (Lit.float .f64 a).wf = true) : DataW.trod enc P w base spare held (n + 1) t [.float .f64 a] = some (.lit (.float .f64 a), []) := by
  simp [DataW.trod, ht, hw]

/-- a type of two numbers -/
structure IvT (P : Program) (t e : TypeId) : Prop where
  st : ∃ f0 f1 : Field, P.underlying t = some (.struct #[f0, f1]) ∧ f0.type = e ∧ f0.offset = 0 ∧ f1.type = e ∧ f1.offset = 1
  fl : P.underlying e = some (.float .f64)
  ct : P.cellsOf t = 2
  ce : P.cellsOf e = 1
theorem trod_iv {t e : TypeId} (hT : IvT P t e) {fuel : Nat} {cs : List Value} {x : DataW H × List MemPlace} (h : DataW.trod enc P w base spare held fuel t cs = some x) :
    ∃ a b, cs = [.float .f64 a, .float .f64 b] ∧ x = (.agg [.lit (.float .f64 a), .lit (.float .f64 b)], []) ∧ (Lit.float .f64 a).wf = true ∧ (Lit.float .f64 b).wf = true := by
  obtain ⟨f0, f1, hu, e1, e2, e3, e4⟩ := hT.st
  obtain ⟨y0, y1, n, rfl, hl, h0, h1⟩ := trod_struct2 hu h
  rw [e1, e2, hT.ce] at h0
  rw [e3, e4, hT.ce] at h1
  obtain ⟨a, ha, rfl, wa⟩ := trod_f64 hT.fl h0
  obtain ⟨b, hb, rfl, wb⟩ := trod_f64 hT.fl h1
  rw [hT.ct] at hl
  match cs, hl with
  | [p, q], _ =>
    simp at ha hb
    subst ha; subst hb
    exact ⟨a, b, rfl, rfl, wa, wb⟩
theorem trod_iv_mk {t e : TypeId} (hT : IvT P t e) {a b : Nat} (n : Nat) (ha : (Lit.float .f64 a).wf = true) (hb : (Lit.float .f64 b).wf = true) :
    DataW.trod enc P w base spare held (n + 2) t [.float .f64 a, .float .f64 b] = some (.agg [.lit (.float .f64 a), .lit (.float .f64 b)], []) := by
  obtain ⟨f0, f1, hu, e1, e2, e3, e4⟩ := hT.st
  exact trod_struct2_mk (n := n + 1) (y0 := (.lit (.float .f64 a), [])) (y1 := (.lit (.float .f64 b), [])) hu (by rw [hT.ct]; rfl)
    (by rw [e1, e2, hT.ce]; exact trod_f64_mk n hT.fl ha) (by rw [e3, e4, hT.ce]; exact trod_f64_mk n hT.fl hb)
theorem open_iv {t e : TypeId} (hT : IvT P t e) {r : Reach} {b0 : Nat} {v : Value} {d : DataW H} {ps : List MemPlace} (hval : Value.okWide P w r b0 t v) (hd : DataW.Trod enc P w base spare held t v d ps) :
    ∃ a b, v = .agg #[.float .f64 a, .float .f64 b] ∧ d = .agg [.lit (.float .f64 a), .lit (.float .f64 b)] ∧ ps = [] ∧ (Lit.float .f64 a).wf = true ∧ (Lit.float .f64 b).wf = true := by
  obtain ⟨f0, f1, hu, _⟩ := hT.st
  obtain ⟨cs, rfl, _⟩ := okWide_struct hu hval
  obtain ⟨fuel, hf⟩ := hd
  obtain ⟨a, b, hc, hx, wa, wb⟩ := trod_iv hT hf
  simp only [Prod.mk.injEq] at hx
  have hcs : cs = #[.float .f64 a, .float .f64 b] := by
    apply Array.ext'
    simpa [Value.cells] using hc
  exact ⟨a, b, by rw [hcs], hx.1, hx.2, wa, wb⟩
theorem shut_iv {t e : TypeId} (hT : IvT P t e) {a b : Nat} (ha : (Lit.float .f64 a).wf = true) (hb : (Lit.float .f64 b).wf = true) :
    DataW.Trod enc P w base spare held t (.agg #[.float .f64 a, .float .f64 b]) (.agg [.lit (.float .f64 a), .lit (.float .f64 b)]) [] :=
  ⟨2, trod_iv_mk hT 0 ha hb⟩
/-- a type of three of them -/
structure VecT (P : Program) (t i e : TypeId) : Prop where
  st : ∃ f0 f1 f2 : Field, P.underlying t = some (.struct #[f0, f1, f2]) ∧ f0.type = i ∧ f0.offset = 0 ∧ f1.type = i ∧ f1.offset = 2 ∧ f2.type = i ∧ f2.offset = 4
  iv : IvT P i e
  ct : P.cellsOf t = 6
theorem trod_vec {t i e : TypeId} (hT : VecT P t i e) {fuel : Nat} {cs : List Value} {x : DataW H × List MemPlace} (h : DataW.trod enc P w base spare held fuel t cs = some x) :
    ∃ a b c d f g, cs = [.float .f64 a, .float .f64 b, .float .f64 c, .float .f64 d, .float .f64 f, .float .f64 g] ∧
      x = (.agg [.agg [.lit (.float .f64 a), .lit (.float .f64 b)], .agg [.lit (.float .f64 c), .lit (.float .f64 d)], .agg [.lit (.float .f64 f), .lit (.float .f64 g)]], []) ∧
      ((Lit.float .f64 a).wf = true ∧ (Lit.float .f64 b).wf = true) ∧ ((Lit.float .f64 c).wf = true ∧ (Lit.float .f64 d).wf = true) ∧ (Lit.float .f64 f).wf = true ∧ (Lit.float .f64 g).wf = true := by
  obtain ⟨f0, f1, f2, hu, e1, e2, e3, e4, e5, e6⟩ := hT.st
  obtain ⟨y0, y1, y2, n, rfl, hl, h0, h1, h2⟩ := trod_struct3 hu h
  rw [e1, e2, hT.iv.ct] at h0
  rw [e3, e4, hT.iv.ct] at h1
  rw [e5, e6, hT.iv.ct] at h2
  obtain ⟨a, b, hab, rfl, wa, wb⟩ := trod_iv hT.iv h0
  obtain ⟨c, d, hcd, rfl, wc, wd⟩ := trod_iv hT.iv h1
  obtain ⟨f, g, hfg, rfl, wf, wg⟩ := trod_iv hT.iv h2
  rw [hT.ct] at hl
  match cs, hl with
  | [p1, p2, p3, p4, p5, p6], _ =>
    simp at hab hcd hfg
    obtain ⟨rfl, rfl⟩ := hab
    obtain ⟨rfl, rfl⟩ := hcd
    obtain ⟨rfl, rfl⟩ := hfg
    exact ⟨a, b, c, d, f, g, rfl, rfl, ⟨wa, wb⟩, ⟨wc, wd⟩, wf, wg⟩
theorem open_vec {t i e : TypeId} (hT : VecT P t i e) {r : Reach} {b0 : Nat} {v : Value} {d : DataW H} {ps : List MemPlace} (hval : Value.okWide P w r b0 t v) (hd : DataW.Trod enc P w base spare held t v d ps) :
    ∃ a b c k f g, v = .agg #[.float .f64 a, .float .f64 b, .float .f64 c, .float .f64 k, .float .f64 f, .float .f64 g] ∧
      d = .agg [.agg [.lit (.float .f64 a), .lit (.float .f64 b)], .agg [.lit (.float .f64 c), .lit (.float .f64 k)], .agg [.lit (.float .f64 f), .lit (.float .f64 g)]] ∧ ps = [] ∧
      ((Lit.float .f64 a).wf = true ∧ (Lit.float .f64 b).wf = true) ∧ ((Lit.float .f64 c).wf = true ∧ (Lit.float .f64 k).wf = true) ∧ (Lit.float .f64 f).wf = true ∧ (Lit.float .f64 g).wf = true := by
  obtain ⟨f0, f1, f2, hu, _⟩ := hT.st
  obtain ⟨cs, rfl, _⟩ := okWide_struct hu hval
  obtain ⟨fuel, hf⟩ := hd
  obtain ⟨a, b, c, k, f, g, hc, hx, w1, w2, w3⟩ := trod_vec hT hf
  simp only [Prod.mk.injEq] at hx
  have hcs : cs = #[.float .f64 a, .float .f64 b, .float .f64 c, .float .f64 k, .float .f64 f, .float .f64 g] := by
    apply Array.ext'
    simpa [Value.cells] using hc
  exact ⟨a, b, c, k, f, g, by rw [hcs], hx.1, hx.2, w1, w2, w3⟩
theorem shut_vec {t i e : TypeId} (hT : VecT P t i e) {a b c k f g : Nat} (w1 : (Lit.float .f64 a).wf = true ∧ (Lit.float .f64 b).wf = true) (w2 : (Lit.float .f64 c).wf = true ∧ (Lit.float .f64 k).wf = true) (w3 : (Lit.float .f64 f).wf = true ∧ (Lit.float .f64 g).wf = true) :
    DataW.Trod enc P w base spare held t (.agg #[.float .f64 a, .float .f64 b, .float .f64 c, .float .f64 k, .float .f64 f, .float .f64 g]) (.agg [.agg [.lit (.float .f64 a), .lit (.float .f64 b)], .agg [.lit (.float .f64 c), .lit (.float .f64 k)], .agg [.lit (.float .f64 f), .lit (.float .f64 g)]]) [] := by
  obtain ⟨f0, f1, f2, hu, e1, e2, e3, e4, e5, e6⟩ := hT.st
  refine ⟨3, ?_⟩
  exact trod_struct3_mk (n := 2) (y0 := (.agg [.lit (.float .f64 a), .lit (.float .f64 b)], [])) (y1 := (.agg [.lit (.float .f64 c), .lit (.float .f64 k)], [])) (y2 := (.agg [.lit (.float .f64 f), .lit (.float .f64 g)], [])) hu (by rw [hT.ct]; rfl)
    (by rw [e1, e2, hT.iv.ct]; exact trod_iv_mk hT.iv 0 w1.1 w1.2) (by rw [e3, e4, hT.iv.ct]; exact trod_iv_mk hT.iv 0 w2.1 w2.2) (by rw [e5, e6, hT.iv.ct]; exact trod_iv_mk hT.iv 0 w3.1 w3.2)
end
end Go.Proofs.YtmhhopfffeijnaaGreat
namespace Go.Proofs.YtmhhopfffeijnaaGreat
set_option linter.all false
open Go.ChangeShapes Go.WideShapes Go.ChangeAt Go.RowKit Go.Deep
section
variable {H : Type} {enc : TypeId × Value → H} {P : Program} {w : World} {base : Nat} {spare : Nat → Bool} {held : Bool}

/-- an array of so many whole numbers of a kind -/
structure ArrT (P : Program) (t e : TypeId) (n : Nat) (k : IntKind) : Prop where
  ar : P.underlying t = some (.array n e)
  el : P.underlying e = some (.int k)
  ct : P.cellsOf t = n
  ce : P.cellsOf e = 1
theorem okWide_array {t e : TypeId} {n : Nat} {r : Reach} {b0 : Nat} {v : Value} (ht : P.underlying t = some (.array n e)) (h : Value.okWide P w r b0 t v) : ∃ cs, v = .agg cs := by
  simp only [Value.okWide, ht] at h
  obtain ⟨cs, h1, _⟩ := h
  exact ⟨cs, h1⟩
theorem ints_of {k : IntKind} {f : DataW H → DataW H} : ∀ {cs : List Value} {xs : List (DataW H × List MemPlace)}, cs.length = xs.length →
    (∀ i : Nat, i < xs.length → ∃ n, (cs.drop i).take 1 = [.int k n] ∧ xs[i]? = some (.lit (.int k n), []) ∧ (Lit.int k n).wf = true) →
    ∃ ns : List Int, ns.length = xs.length ∧ cs = ns.map (.int k) ∧ xs = ns.map (fun a => (DataW.lit (.int k a), [])) ∧ ∀ a ∈ ns, (Lit.int k a).wf = true
  | [], [], _, _ => ⟨[], rfl, rfl, rfl, by simp⟩
  | c :: cs, x :: xs, hl, h => by
    obtain ⟨n, h1, h2, h3⟩ := h 0 (by simp)
    simp at h1 h2
    obtain ⟨ns, g1, g2, g3, g4⟩ := ints_of (f := f) (cs := cs) (xs := xs) (by simpa using hl) fun i hi => by
      obtain ⟨m, k1, k2, k3⟩ := h (i + 1) (by simpa using hi)
      exact ⟨m, by simpa using k1, by simpa using k2, k3⟩
    refine ⟨n :: ns, by simp [g1], by simp [h1, g2], by simp [h2, g3], ?_⟩
    intro a ha
    rcases List.mem_cons.1 ha with rfl | ha
    · exact h3
    · exact g4 a ha
theorem open_arr {t e : TypeId} {n : Nat} {k : IntKind} (hT : ArrT P t e n k) {r : Reach} {b0 : Nat} {v : Value} {d : DataW H} {ps : List MemPlace} (hval : Value.okWide P w r b0 t v) (hd : DataW.Trod enc P w base spare held t v d ps) :
    ∃ ns : List Int, ns.length = n ∧ v = .agg (ns.map (.int k)).toArray ∧ d = .agg (ns.map fun a => .lit (.int k a)) ∧ ps = [] ∧ ∀ a ∈ ns, (Lit.int k a).wf = true := by
  obtain ⟨cs, rfl⟩ := okWide_array hT.ar hval
  obtain ⟨fuel, hf⟩ := hd
  obtain ⟨xs, m, _, hx, hl, hn, he⟩ := DataW.trod_array hT.ar hf
  rw [hT.ct] at hl
  have hcs : (Value.agg cs).cells.toList = cs.toList := rfl
  obtain ⟨ns, g1, g2, g3, g4⟩ := ints_of (k := k) (f := id) (cs := (Value.agg cs).cells.toList) (xs := xs) (by rw [hl, hn]) fun i hi => by
    have h := he i (by omega)
    rw [hT.ce, Nat.mul_one] at h
    obtain ⟨x, hx2⟩ : ∃ x, xs[i]? = some x := ⟨xs[i], List.getElem?_eq_getElem hi⟩
    rw [hx2] at h
    obtain ⟨a, c1, c2, c3⟩ := DataW.trod_int hT.el h
    exact ⟨a, c1, by rw [hx2, c2], c3⟩
  simp only [Prod.mk.injEq] at hx
  refine ⟨ns, by rw [g1, hn], ?_, ?_, ?_, g4⟩
  · congr 1
    apply Array.ext'
    rw [← hcs, g2]
  · rw [hx.1, g3, List.map_map]; rfl
  · rw [hx.2, g3]
    clear g2 g3 g4 g1
    induction ns with
    | nil => rfl
    | cons a l ih => simpa using ih
theorem trod_int_mk {t : TypeId} {k : IntKind} {a : Int} (n : Nat) (ht : P.underlying t = some (.int k)) (hw : (Lit.int k a).wf = true) : DataW.trod enc P w base spare held (n + 1) t [.int k a] = some (.lit (.int k a), []) := by
  simp [DataW.trod, ht, hw]
theorem shut_arr {t e : TypeId} {n : Nat} {k : IntKind} (hT : ArrT P t e n k) {ns : List Int} (hn : ns.length = n) (hw : ∀ a ∈ ns, (Lit.int k a).wf = true) :
    DataW.Trod enc P w base spare held t (.agg (ns.map (.int k)).toArray) (.agg (ns.map fun a => .lit (.int k a))) [] := by
  refine ⟨2, ?_⟩
  have key : ∀ (l : List Nat) (xs : List (DataW H × List MemPlace)), l.mapM (fun i => DataW.trod enc P w base spare held 1 e ((((ns.map (Value.int k)).drop (i * 1)).take 1))) = some xs → True := fun _ _ _ => trivial
  have hm : ∀ (i : Nat), i < n → DataW.trod enc P w base spare held 1 e ((((ns.map (Value.int k)).drop (i * 1)).take 1)) = some ((.lit (.int k (ns.getD i 0)), [])) := by
    intro i hi
    have e1 : ((ns.map (Value.int k)).drop (i * 1)).take 1 = [.int k (ns.getD i 0)] := by
      rw [Nat.mul_one, List.getD_eq_getElem?_getD, List.getElem?_eq_getElem (by omega : i < ns.length)]
      rw [List.drop_eq_getElem_cons (by simpa [hn] using hi)]
      simp
    rw [e1]
    refine trod_int_mk 0 hT.el (hw _ ?_)
    rw [List.getD_eq_getElem?_getD, List.getElem?_eq_getElem (by omega : i < ns.length)]
    exact List.getElem_mem _
  have hM : (List.range n).mapM (fun i => DataW.trod enc P w base spare held 1 e ((((ns.map (Value.int k)).drop (i * 1)).take 1))) = some ((List.range n).map fun i => (.lit (.int k (ns.getD i 0)), [])) := by
    generalize hL : List.range n = L
    have hlt : ∀ i ∈ L, i < n := by intro i hi; rw [← hL] at hi; exact List.mem_range.1 hi
    clear hL
    induction L with
    | nil => rfl
    | cons a l ih =>
      rw [List.mapM_cons, hm a (hlt a (by simp)), ih fun i hi => hlt i (by simp [hi])]
      rfl
  have hD : (List.range n).map (fun i => (DataW.lit (.int k (ns.getD i 0)) : DataW H)) = ns.map fun a => .lit (.int k a) := by
    apply List.ext_getElem
    · simp [hn]
    · intro i h1 h2
      simp at h1
      simp [List.getD_eq_getElem?_getD, List.getElem?_eq_getElem (by omega : i < ns.length)]
  unfold DataW.trod
  rw [hT.ar]
  simp only [hT.ce]
  have hc : (Value.agg (ns.map (Value.int k)).toArray).cells.toList = ns.map (Value.int k) := rfl
  rw [hc, if_pos (by simp [hT.ct, hn]), hM]
  simp only [Option.bind_some, Option.map_some]
  rw [List.map_map]
  simp only [Function.comp_def, hD]
  congr 2
  induction (List.range n) with
  | nil => rfl
  | cons a l ih => simpa using ih
end
end Go.Proofs.YtmhhopfffeijnaaGreat
