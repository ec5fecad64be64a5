/- Rows whose arguments are structures of numbers. -/
import Derived.Test.YtiipaicbbmkagaaRw
import Derived.ChangeSame
import Derived.Deep.Strs
namespace Go.Proofs.Ytiipaicbbmkagaa
set_option linter.all false
open Go.ChangeShapes Go.WideShapes Go.ChangeAt Go.RowKit
section
variable {H : Type} {enc : TypeId × Value → H} {P : Program} {w : World} {base : Nat} {spare : Nat → Bool} {held : Bool}

theorem trod_f64 {t : TypeId} {fuel : Nat} {cs : List Value} {x : DataW H × List MemPlace} (ht : P.underlying t = some (.float .f64)) (h : DataW.trod enc P w base spare held fuel t cs = some x) :
    ∃ a, cs = [.float .f64 a] ∧ x = (.lit (.float .f64 a), []) ∧ (Lit.float .f64 a).wf = true := by
  cases fuel with
  | zero => simp [DataW.trod] at h
  | succ n =>
    unfold DataW.trod at h
    rw [ht] at h
    split at h <;> simp_all
theorem trod_f64_mk {t : TypeId} {a : Nat} (n : Nat) (ht : P.underlying t = some (.float .f64)) (hw : (Lit.float .f64 a).wf = true) : DataW.trod enc P w base spare held (n + 1) t [.float .f64 a] = some (.lit (.float .f64 a), []) := by
  simp [DataW.trod, ht, hw]

/-- a type of two numbers -/
structure IvT (P : Program) (t e : TypeId) : Prop where
  st : ∃ f0 f1 : Field, P.underlying t = some (.struct #[f0, f1]) ∧ f0.type = e ∧ f0.offset = 0 ∧ f1.type = e ∧ f1.offset = 1
  fl : P.underlying e = some (.float .f64)
  ct : P.cellsOf t = 2
  ce : P.cellsOf e = 1
theorem trod_iv {t e : TypeId} (hT : IvT P t e) {fuel : Nat} {cs : List Value} {x : DataW H × List MemPlace} (h : DataW.trod enc P w base spare held fuel t cs = some x) :
    ∃ a b, cs = [.float .f64 a, .float .f64 b] ∧ x = (.agg [.lit (.float .f64 a), .lit (.float .f64 b)], []) ∧ (Lit.float .f64 a).wf = true ∧ (Lit.float .f64 b).wf = true := by
  obtain ⟨f0, f1, hu, e1, e2, e3, e4⟩ := hT.st
  obtain ⟨y0, y1, n, rfl, hl, h0, h1⟩ := trod_struct2 hu h
  rw [e1, e2, hT.ce] at h0
  rw [e3, e4, hT.ce] at h1
  obtain ⟨a, ha, rfl, wa⟩ := trod_f64 hT.fl h0
  obtain ⟨b, hb, rfl, wb⟩ := trod_f64 hT.fl h1
  rw [hT.ct] at hl
  match cs, hl with
  | [p, q], _ =>
    simp at ha hb
    subst ha; subst hb
    exact ⟨a, b, rfl, rfl, wa, wb⟩
theorem trod_iv_mk {t e : TypeId} (hT : IvT P t e) {a b : Nat} (n : Nat) (ha : (Lit.float .f64 a).wf = true) (hb : (Lit.float .f64 b).wf = true) :
    DataW.trod enc P w base spare held (n + 2) t [.float .f64 a, .float .f64 b] = some (.agg [.lit (.float .f64 a), .lit (.float .f64 b)], []) := by
  obtain ⟨f0, f1, hu, e1, e2, e3, e4⟩ := hT.st
  exact trod_struct2_mk (n := n + 1) (y0 := (.lit (.float .f64 a), [])) (y1 := (.lit (.float .f64 b), [])) hu (by rw [hT.ct]; rfl)
    (by rw [e1, e2, hT.ce]; exact trod_f64_mk n hT.fl ha) (by rw [e3, e4, hT.ce]; exact trod_f64_mk n hT.fl hb)
theorem open_iv {t e : TypeId} (hT : IvT P t e) {r : Reach} {b0 : Nat} {v : Value} {d : DataW H} {ps : List MemPlace} (hval : Value.okWide P w r b0 t v) (hd : DataW.Trod enc P w base spare held t v d ps) :
    ∃ a b, v = .agg #[.float .f64 a, .float .f64 b] ∧ d = .agg [.lit (.float .f64 a), .lit (.float .f64 b)] ∧ ps = [] ∧ (Lit.float .f64 a).wf = true ∧ (Lit.float .f64 b).wf = true := by
  obtain ⟨f0, f1, hu, _⟩ := hT.st
  obtain ⟨cs, rfl, _⟩ := okWide_struct hu hval
  obtain ⟨fuel, hf⟩ := hd
  obtain ⟨a, b, hc, hx, wa, wb⟩ := trod_iv hT hf
  simp only [Prod.mk.injEq] at hx
  have hcs : cs = #[.float .f64 a, .float .f64 b] := by
    apply Array.ext'
    simpa [Value.cells] using hc
  exact ⟨a, b, by rw [hcs], hx.1, hx.2, wa, wb⟩
theorem shut_iv {t e : TypeId} (hT : IvT P t e) {a b : Nat} (ha : (Lit.float .f64 a).wf = true) (hb : (Lit.float .f64 b).wf = true) :
    DataW.Trod enc P w base spare held t (.agg #[.float .f64 a, .float .f64 b]) (.agg [.lit (.float .f64 a), .lit (.float .f64 b)]) [] :=
  ⟨2, trod_iv_mk hT 0 ha hb⟩
end
end Go.Proofs.Ytiipaicbbmkagaa
