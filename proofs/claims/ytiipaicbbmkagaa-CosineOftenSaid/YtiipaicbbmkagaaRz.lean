/- The reckoner, piece by piece: for loops whose rounds are not known beforehand. -/
import Derived.Test.YtiipaicbbmkagaaRy
namespace Rx
set_option linter.all false
open Go Go.RowKit
section
variable {P : Program} {E : ExtF} {O : OracleF} {n : Nat}
theorem seq_ok {a b : Code} {s s' : St} {r : Ex × St} (h1 : (run P E O n).2 a s = some (.normal, s')) (h2 : (run P E O n).2 b s' = some r) : (run P E O (n + 1)).2 (.seq a b) s = some r := by
  rw [run_succ]; simp only [codeStep]; rw [h1]; exact h2
theorem block_exit {id : Nat} {body : Code} {s s' : St} (h : (run P E O n).2 body s = some (.exit id, s')) : (run P E O (n + 1)).2 (.block id body) s = some (.normal, s') := by
  rw [run_succ]; simp only [codeStep]; rw [h]; simp
theorem loop_next {body : Code} {s s' : St} {r : Ex × St} (h1 : (run P E O n).2 body s = some (.normal, s')) (h2 : (run P E O n).2 (.loop body) s' = some r) : (run P E O (n + 1)).2 (.loop body) s = some r := by
  rw [run_succ]; simp only [codeStep]; rw [h1]; exact h2
theorem loop_end {body : Code} {s s' : St} {x : Ex} (h1 : (run P E O n).2 body s = some (x, s')) (hx : x ≠ .normal) : (run P E O (n + 1)).2 (.loop body) s = some (x, s') := by
  rw [run_succ]; simp only [codeStep]; rw [h1]
  cases x <;> first | rfl | exact absurd rfl hx
theorem run_cond_true {c : Operand} {a b : Code} {s : St} {r : Ex × St} (hc : oper s.T c = .b true) (h : (run P E O n).2 a s = some r) : (run P E O (n + 1)).2 (.cond c a b) s = some r := by
  rw [run_succ]; simp only [codeStep]; rw [hc]; exact h
theorem run_cond_false {c : Operand} {a b : Code} {s : St} {r : Ex × St} (hc : oper s.T c = .b false) (h : (run P E O n).2 b s = some r) : (run P E O (n + 1)).2 (.cond c a b) s = some r := by
  rw [run_succ]; simp only [codeStep]; rw [hc]; exact h
theorem call_ok {g : FuncId} {fn : Func} {c : Code} {args : List SV} {M : List Blk} {ds : Dec} {s : St} {x : SV} (hO : O g = none) (hg : P.funcs[g]? = some fn) (hb : fn.body = some c)
    (h : (run P E O n).2 c ⟨args ++ List.replicate (fn.ntmps - args.length) (.tup []), M, ds, []⟩ = some (.ret, s)) (hx : resultS P fn s = some x) : (run P E O (n + 1)).1 g args M ds = some (x, s.M, s.ds, s.ob) := by
  rw [run_succ]; simp only [callStep]; rw [hO]; simp only [hg, hb, h, hx]
end
/-- parts of a code -/
def seqL : Code → Code | .seq a _ => a | c => c
def seqR : Code → Code | .seq _ b => b | c => c
def inner : Code → Code | .block _ a => a | .loop a => a | .scope a => a | c => c
def bodyOf (P : Program) (g : FuncId) : Code := match P.funcs[g]? with | some fn => fn.body.getD .skip | none => .skip

/-! the same, of what the model does: so a state may be told anew between two pieces -/
section
variable {P : Program}
def RunsTo (P : Program) (c : Code) (s : St) (ex : Ex) (s' : St) : Prop :=
  ∀ m a w (Q : Exit → Act → World → Prop), StAt m s a w → (∀ m' a' w', StAt m' s' a' w' → Goes m w m' w' → Q (exOf ex) a' w') → c.wp P Q a w
def RoundsTo (P : Program) (body : Code) (n : Nat) (s : St) (ex : Ex) (s' : St) : Prop :=
  ∀ m a w (Q : Exit → Act → World → Prop), StAt m s a w → (∀ m' a' w', StAt m' s' a' w' → Goes m w m' w' → Q (exOf ex) a' w') → Code.rounds P body Q n a w
theorem RunsTo.of {E : ExtF} {O : OracleF} (hP : Good P E) (hO : OracleOk P O) {n : Nat} {c : Code} {s s' : St} {ex : Ex} (h : (run P E O n).2 c s = some (ex, s')) (ho : ObsOk s'.ob) : RunsTo P c s ex s' :=
  fun m a w Q hs hq => (run_ok hP hO n).2.2.1 c s ex s' h ho m a w Q hs hq
theorem RunsTo.seq {c d : Code} {s s1 s2 : St} {ex : Ex} (h : RunsTo P c s .normal s1) (k : RunsTo P d s1 ex s2) : RunsTo P (.seq c d) s ex s2 := by
  intro m a w Q hs hq
  refine wp_seq (h m a w _ hs fun m' a' w' hs' hg => ?_)
  exact k m' a' w' Q hs' fun m2 a2 w2 h2 hg2 => hq m2 a2 w2 h2 (hg.trans hg2)
theorem RunsTo.block {id : Nat} {c : Code} {s s' : St} (h : RunsTo P c s (.exit id) s') : RunsTo P (.block id c) s .normal s' := by
  intro m a w Q hs hq
  refine wp_block (h m a w _ hs fun m' a' w' hs' hg => ?_)
  have := hq m' a' w' hs' hg
  simpa [exOf, Exit.inBlock] using this
theorem RunsTo.loop {n : Nat} {c : Code} {s s' : St} {ex : Ex} (h : RoundsTo P c n s ex s') : RunsTo P (.loop c) s ex s' :=
  fun m a w Q hs hq => wp_loop_rounds n (h m a w Q hs hq)
theorem RoundsTo.next {n : Nat} {c : Code} {s s1 s2 : St} {ex : Ex} (h : RunsTo P c s .normal s1) (k : RoundsTo P c n s1 ex s2) : RoundsTo P c (n + 1) s ex s2 := by
  intro m a w Q hs hq
  rw [rounds_succ]
  refine h m a w _ hs fun m' a' w' hs' hg => ?_
  exact k m' a' w' Q hs' fun m2 a2 w2 h2 hg2 => hq m2 a2 w2 h2 (hg.trans hg2)
theorem RoundsTo.out {n id : Nat} {c : Code} {s s1 : St} (h : RunsTo P c s (.exit id) s1) : RoundsTo P c (n + 1) s (.exit id) s1 := by
  intro m a w Q hs hq
  rw [rounds_succ]
  exact h m a w _ hs fun m' a' w' hs' hg => hq m' a' w' hs' hg
/-- two states that tell the same -/
structure SameSt (s t : St) : Prop where
  T : ∀ m, dens m s.T = dens m t.T
  M : s.M.length = t.M.length ∧ ∀ (i : Nat) (b : Blk), s.M[i]? = some b → ∃ c, t.M[i]? = some c ∧ c.elem = b.elem ∧ ∀ m, dens m b.cells = dens m c.cells
theorem SameSt.at {s t : St} (h : SameSt s t) {m : Nat → Option Nat} {a : Act} {w : World} (hs : StAt m t a w) : StAt m s a w := by
  refine ⟨by rw [h.T]; exact hs.tm, hs.df, ⟨hs.mem.ok, ?_, ?_⟩⟩
  · intro n b hb
    obtain ⟨c, hc, he, hd⟩ := h.M.2 n b hb
    obtain ⟨r, hr, cv, h1, h2⟩ := hs.mem.blk n c hc
    exact ⟨r, hr, cv, by rw [hd]; exact h1, by rw [h2, he]⟩
  · intro n r hr
    rw [h.M.1]; exact hs.mem.dom n r hr
theorem RunsTo.retell {c : Code} {s t s' : St} {ex : Ex} (h : SameSt s t) (k : RunsTo P c s ex s') : RunsTo P c t ex s' :=
  fun m a w Q hs hq => k m a w Q (h.at hs) hq
theorem RunsTo.fin {c : Code} {s s' t : St} {ex : Ex} (h : SameSt t s') (k : RunsTo P c s ex s') : RunsTo P c s ex t :=
  fun m a w Q hs hq => k m a w Q hs fun m' a' w' h1 hg => hq m' a' w' (h.at h1) hg
theorem SameSt.same (T : List SV) (M : List Blk) (d e : Dec) (o p : Obs) : SameSt ⟨T, M, d, o⟩ ⟨T, M, e, p⟩ := ⟨fun _ => rfl, rfl, fun _ b h => ⟨b, h, rfl, fun _ => rfl⟩⟩
/-- a contract out of what a body runs to -/
theorem calls_of_runs {g : FuncId} {fn : Func} {c : Code} {args : List SV} {s : St} {x : SV} {vs : List Value} {v : Value} (hg : P.funcs[g]? = some fn) (hb : fn.body = some c)
    (h : RunsTo P c ⟨args ++ List.replicate (fn.ntmps - args.length) (.tup []), [], none, []⟩ .ret s) (hx : resultS P fn s = some x) (hvs : plains args = some vs) (hv : plain x = some v) (w : World) :
    Calls P g vs.toArray w fun e w' => e = .returned v ∧ Below w.heap.size w w' := by
  have hvs' := dens_plains (m := fun _ => none) hvs
  have hl := dens_length hvs'
  refine calls_of_wp hg hb ?_
  have htm : dens (fun _ => none) (args ++ List.replicate (fn.ntmps - args.length) (.tup [])) = some (vs.toArray ++ Array.replicate (fn.ntmps - vs.toArray.size) undef).toList := by
    have := dens_append hvs' (dens_replicate (undef_den (fun _ => none)) (fn.ntmps - args.length))
    rw [this]; simp [hl]
  refine h _ _ w _ ⟨htm, rfl, ⟨⟨by simp, by simp⟩, by simp, by simp⟩⟩ fun m' a' w' hst hgo => ?_
  obtain ⟨u, hu, hr⟩ := resultS_ok hst hx
  have := den_plain (m := m') hv
  rw [hu] at this
  simp only [Option.some.injEq] at this; subst this
  exact ⟨hst.df, u, hr, rfl, hgo.fr.os, hgo.fr.tape, hgo.fr.output, hgo.fr.size, fun k hk => hgo.fr.block k hk (by simp)⟩
end
end Rx
