/- The reckoner: code, functions, and that what is reckoned is what the model does. -/
import Derived.Test.YtiipaicbbmkagaaRx10
import Derived.Scope
namespace Rx
set_option linter.all false
open Go

inductive Ex where
  | normal
  | exit (id : Nat)
  | ret

abbrev RunF := Code → St → Option (Ex × St)

def codeStep (P : Program) (E : ExtF) (call : CallF) (self : RunF) : RunF
  | .skip, s => some (.normal, s)
  | .region _ ops draw, s =>
    if draw then (match runDraw P E call ops s with | some s' => some (.normal, s') | none => none)
    else (match runOps P E call ops ops.toList s with | some s' => some (.normal, s') | none => none)
  | .seq a b, s => match self a s with
    | some (.normal, s') => self b s'
    | r => r
  | .cond c x y, s => match oper s.T c with
    | .b true => self x s
    | .b false => self y s
    | _ => none
  | .block id body, s => match self body s with
    | some (.exit i, s') => if Nat.beq i id then some (.normal, s') else some (.exit i, s')
    | r => r
  | .loop body, s => match self body s with
    | some (.normal, s') => self (.loop body) s'
    | r => r
  | .exit id, s => some (.exit id, s)
  | .scope body, s => self body s
  | .label _, s => some (.normal, s)
  | .ret, s => some (.ret, s)
  | _, _ => none

def resultOf (P : Program) (s : St) : ResultVar → Option SV
  | .tmp t => some (s.T.getD t (.tup []))
  | .cell a t => match s.T.getD a (.tup []) with
    | .p n off => match s.M[n]? with
      | some b => loadS P t b off
      | none => none
    | _ => none
def resultS (P : Program) (fn : Func) (s : St) : Option SV :=
  match fn.results.toList.mapM (resultOf P s) with
  | some [x] => some x
  | some l => some (.tup l)
  | none => none

abbrev OracleF := FuncId → Option (List SV → List Blk → Dec → Option (SV × List Blk × Dec × Obs))

def callStep (P : Program) (O : OracleF) (code : RunF) : CallF := fun g args M ds =>
  match O g with
  | some f => f args M ds
  | none => match P.funcs[g]? with
    | some fn => match fn.body with
      | some c => match code c ⟨args ++ List.replicate (fn.ntmps - args.length) (.tup []), M, ds, []⟩ with
        | some (.normal, s) => match resultS P fn s with
          | some x => some (x, s.M, s.ds, s.ob)
          | none => none
        | some (.ret, s) => match resultS P fn s with
          | some x => some (x, s.M, s.ds, s.ob)
          | none => none
        | _ => none
      | none => none
    | none => none

def run (P : Program) (E : ExtF) (O : OracleF) (n : Nat) : CallF × RunF :=
  Nat.rec (motive := fun _ => CallF × RunF) (fun _ _ _ _ => none, fun _ _ => none) (fun _ ih => (callStep P O ih.2, codeStep P E ih.1 ih.2)) n

theorem run_succ (P : Program) (E : ExtF) (O : OracleF) (n : Nat) : run P E O (n + 1) = (callStep P O (run P E O n).2, codeStep P E (run P E O n).1 (run P E O n).2) := rfl

def OracleOk (P : Program) (O : OracleF) : Prop :=
  ∀ g f, O g = some f → ∀ args M ds x M' ds' ob, f args M ds = some (x, M', ds', ob) → ObsOk ob → ∀ m w vs, dens m args = some vs → MemAt m w M →
    Calls P g vs.toArray w fun e w' => ∃ m' v, e = .returned v ∧ CallPost m w M x M' m' v w'

def exOf : Ex → Exit
  | .normal => .normal
  | .exit id => .exit id
  | .ret => .ret

def SufOk (code : RunF) : Prop := ∀ c s ex s', code c s = some (ex, s') → Suf s.ob s'.ob ∧ s.M.length ≤ s'.M.length
def CodeOk (P : Program) (code : RunF) : Prop :=
  ∀ c s ex s', code c s = some (ex, s') → ObsOk s'.ob → ∀ m a w (Q : Exit → Act → World → Prop), StAt m s a w →
    (∀ m' a' w', StAt m' s' a' w' → Goes m w m' w' → Q (exOf ex) a' w') → c.wp P Q a w
def LoopOk (P : Program) (code : RunF) (n : Nat) : Prop :=
  ∀ body s ex s', code (.loop body) s = some (ex, s') → ObsOk s'.ob → ∀ m a w (Q : Exit → Act → World → Prop), StAt m s a w →
    (∀ m' a' w', StAt m' s' a' w' → Goes m w m' w' → Q (exOf ex) a' w') → Code.rounds P body Q n a w

theorem stepOp_len {P : Program} {E : ExtF} {call : CallF} {ops : Array Oper} {o : Oper} {s s' : St} {e : Option Eff} (h : stepOp P E call ops o s = some (s', e)) : s.M.length ≤ s'.M.length := by
  unfold stepOp at h
  split at h
  · split at h
    · split at h
      · rename_i M' hM
        simp only [Option.some.injEq, Prod.mk.injEq] at h
        obtain ⟨rfl, _⟩ := h
        exact (puts_ok hM).1
      · cases h
    · cases h
  · simp only [Option.some.injEq, Prod.mk.injEq] at h
    obtain ⟨rfl, _⟩ := h
    exact Nat.le_refl _
theorem runOps_len {P : Program} {E : ExtF} {call : CallF} {ops : Array Oper} : ∀ {l : List Oper} {s s' : St}, runOps P E call ops l s = some s' → s.M.length ≤ s'.M.length
  | [], s, s', h => by simp only [runOps, Option.some.injEq] at h; subst h; exact Nat.le_refl _
  | o :: r, s, s', h => by
    unfold runOps at h
    split at h
    · rename_i hs; exact Nat.le_trans (stepOp_len hs) (runOps_len h)
    · cases h
theorem runRec_runOps {P : Program} {E : ExtF} {call : CallF} {ops : Array Oper} : ∀ {l : List Oper} {s s' : St} {crs : List CR}, runRec P E call ops l s = some (s', crs) → runOps P E call ops l s = some s'
  | [], s, s', crs, h => by simp only [runRec, Option.some.injEq, Prod.mk.injEq] at h; obtain ⟨rfl, _⟩ := h; rfl
  | o :: r, s, s', crs, h => by
    unfold runRec at h
    split at h
    · rename_i s1 e hs
      split at h
      · rename_i hr
        simp only [Option.some.injEq, Prod.mk.injEq] at h
        obtain ⟨rfl, _⟩ := h
        unfold runOps
        rw [hs]
        exact runRec_runOps hr
      · cases h
    · cases h
theorem runDraw_runOps {P : Program} {E : ExtF} {call : CallF} {ops : Array Oper} {s s' : St} (h : runDraw P E call ops s = some s') : runOps P E call ops ops.toList s = some s' := by
  unfold runDraw at h
  split at h
  · rename_i hr
    split at h
    · simp only [Option.some.injEq] at h; subst h; exact runRec_runOps hr
    · cases h
  · cases h

section
variable {P : Program} {E : ExtF} {O : OracleF}

theorem codeStep_suf {call : CallF} {self : RunF} (hs : SufOk self) : SufOk (codeStep P E call self) := by
  intro c s ex s' h
  unfold codeStep at h
  split at h
  · simp only [Option.some.injEq, Prod.mk.injEq] at h; obtain ⟨_, rfl⟩ := h; exact ⟨Suf.refl _, Nat.le_refl _⟩
  · split at h
    · split at h
      · rename_i hd
        simp only [Option.some.injEq, Prod.mk.injEq] at h; obtain ⟨_, rfl⟩ := h
        exact ⟨runOps_suf (runDraw_runOps hd), runOps_len (runDraw_runOps hd)⟩
      · cases h
    · split at h
      · rename_i hd
        simp only [Option.some.injEq, Prod.mk.injEq] at h; obtain ⟨_, rfl⟩ := h
        exact ⟨runOps_suf hd, runOps_len hd⟩
      · cases h
  · split at h
    · rename_i h1
      have a := hs _ _ _ _ h1
      have b := hs _ _ _ _ h
      exact ⟨a.1.trans b.1, Nat.le_trans a.2 b.2⟩
    · exact hs _ _ _ _ h
  · split at h
    · exact hs _ _ _ _ h
    · exact hs _ _ _ _ h
    · cases h
  · split at h
    · rename_i h1
      have a := hs _ _ _ _ h1
      split at h <;> (simp only [Option.some.injEq, Prod.mk.injEq] at h; obtain ⟨_, rfl⟩ := h; exact a)
    · exact hs _ _ _ _ h
  · split at h
    · rename_i h1
      have a := hs _ _ _ _ h1
      have b := hs _ _ _ _ h
      exact ⟨a.1.trans b.1, Nat.le_trans a.2 b.2⟩
    · exact hs _ _ _ _ h
  · simp only [Option.some.injEq, Prod.mk.injEq] at h; obtain ⟨_, rfl⟩ := h; exact ⟨Suf.refl _, Nat.le_refl _⟩
  · exact hs _ _ _ _ h
  · simp only [Option.some.injEq, Prod.mk.injEq] at h; obtain ⟨_, rfl⟩ := h; exact ⟨Suf.refl _, Nat.le_refl _⟩
  · simp only [Option.some.injEq, Prod.mk.injEq] at h; obtain ⟨_, rfl⟩ := h; exact ⟨Suf.refl _, Nat.le_refl _⟩
  · cases h

theorem codeStep_ok (hP : Good P E) {call : CallF} (hcall : CallOk P call) {self : RunF} {n : Nat} (hs : SufOk self) (hc : CodeOk P self) (hl : LoopOk P self n) :
    CodeOk P (codeStep P E call self) ∧ LoopOk P (codeStep P E call self) (n + 1) := by
  have loop : LoopOk P (codeStep P E call self) (n + 1) := by
    intro body s ex s' h ho m a w Q hst hq
    rw [rounds_succ]
    simp only [codeStep] at h
    split at h
    · rename_i s1 h1
      refine hc _ _ _ _ h1 ((hs _ _ _ _ h).1.ok ho) m a w _ hst fun m' a' w' hst' hg => ?_
      exact hl _ _ _ _ h ho m' a' w' Q hst' fun m2 a2 w2 h2 hg2 => hq m2 a2 w2 h2 (hg.trans hg2)
    · rename_i r hr
      refine hc _ _ _ _ h ho m a w _ hst fun m' a' w' hst' hg => ?_
      have := hq m' a' w' hst' hg
      cases ex with
      | normal => exact absurd h (hr s')
      | exit id => exact this
      | ret => exact this
  refine ⟨?_, loop⟩
  intro c s ex s' h ho m a w Q hst hq
  cases c with
  | loop body => exact wp_loop_rounds (n + 1) (loop body s ex s' h ho m a w Q hst hq)
  | skip =>
    simp only [codeStep, Option.some.injEq, Prod.mk.injEq] at h; obtain ⟨rfl, rfl⟩ := h
    exact wp_skip (hq m a w hst (Goes.refl m w))
  | label l =>
    simp only [codeStep, Option.some.injEq, Prod.mk.injEq] at h; obtain ⟨rfl, rfl⟩ := h
    exact wp_label (hq m a w hst (Goes.refl m w))
  | exit id =>
    simp only [codeStep, Option.some.injEq, Prod.mk.injEq] at h; obtain ⟨rfl, rfl⟩ := h
    exact wp_exit (hq m a w hst (Goes.refl m w))
  | ret =>
    simp only [codeStep, Option.some.injEq, Prod.mk.injEq] at h; obtain ⟨rfl, rfl⟩ := h
    exact wp_ret (hq m a w hst (Goes.refl m w))
  | goto l => simp [codeStep] at h
  | refuse y => simp [codeStep] at h
  | rangeFunc f p x b => simp [codeStep] at h
  | region id ops draw =>
    simp only [codeStep] at h
    split at h
    · rename_i hd
      subst hd
      split at h
      · rename_i s1 h1
        simp only [Option.some.injEq, Prod.mk.injEq] at h; obtain ⟨rfl, rfl⟩ := h
        exact runDraw_ok hP hcall h1 ho hst hq
      · cases h
    · rename_i hd
      have hd' : draw = false := by simpa using hd
      subst hd'
      split at h
      · rename_i s1 h1
        simp only [Option.some.injEq, Prod.mk.injEq] at h; obtain ⟨rfl, rfl⟩ := h
        exact wp_region_list (runOps_ok hP hcall h1 ho hst hq)
      · cases h
  | seq x y =>
    simp only [codeStep] at h
    split at h
    · rename_i s1 h1
      refine wp_seq (hc _ _ _ _ h1 ((hs _ _ _ _ h).1.ok ho) m a w _ hst fun m' a' w' hst' hg => ?_)
      exact hc _ _ _ _ h ho m' a' w' Q hst' fun m2 a2 w2 h2 hg2 => hq m2 a2 w2 h2 (hg.trans hg2)
    · rename_i r hr
      refine wp_seq (hc _ _ _ _ h ho m a w _ hst fun m' a' w' hst' hg => ?_)
      have := hq m' a' w' hst' hg
      cases ex with
      | normal => exact absurd h (hr s')
      | exit id => exact this
      | ret => exact this
  | cond c x y =>
    simp only [codeStep] at h
    have hv := oper_ok hst.tm c
    split at h
    · rename_i hb
      rw [hb] at hv
      simp only [den, Option.some.injEq] at hv
      exact wp_cond_true hv.symm (hc _ _ _ _ h ho m a w Q hst hq)
    · rename_i hb
      rw [hb] at hv
      simp only [den, Option.some.injEq] at hv
      exact wp_cond_false hv.symm (hc _ _ _ _ h ho m a w Q hst hq)
    · cases h
  | block id body =>
    simp only [codeStep] at h
    split at h
    · rename_i i s1 h1
      split at h
      · rename_i he
        simp only [Option.some.injEq, Prod.mk.injEq] at h; obtain ⟨rfl, rfl⟩ := h
        have he' := Nat.eq_of_beq_eq_true he
        refine wp_block (hc _ _ _ _ h1 ho m a w _ hst fun m' a' w' hst' hg => ?_)
        show (if i = id then _ else _)
        rw [if_pos he']; exact hq m' a' w' hst' hg
      · rename_i he
        simp only [Option.some.injEq, Prod.mk.injEq] at h; obtain ⟨rfl, rfl⟩ := h
        refine wp_block (hc _ _ _ _ h1 ho m a w _ hst fun m' a' w' hst' hg => ?_)
        show (if i = id then _ else _)
        rw [if_neg (fun e => he (by rw [e]; exact Nat.beq_refl id))]; exact hq m' a' w' hst' hg
    · rename_i r hr
      refine wp_block (hc _ _ _ _ h ho m a w _ hst fun m' a' w' hst' hg => ?_)
      have := hq m' a' w' hst' hg
      cases ex with
      | normal => exact this
      | exit i => exact absurd h (hr i s')
      | ret => exact this
  | scope body =>
    simp only [codeStep] at h
    refine wp_scope_straight (hc _ _ _ _ h ho m a w _ hst fun m' a' w' hst' hg => ?_)
    have := hq m' a' w' hst' hg
    cases ex <;> exact this

def resM (a : Act) : ResultVar → Sem Value
  | .tmp t => pure (a.tmps.getD t undef)
  | .cell c t => do loadVar t (← asAddr (a.tmps.getD c undef))
theorem resultOf_ok {s : St} {m : Nat → Option Nat} {a : Act} {w : World} (hst : StAt m s a w) {r : ResultVar} {x : SV} (h : resultOf P s r = some x) :
    ∃ v, den m x = some v ∧ (resM a r).run P w = .ok v w := by
  cases r with
  | tmp t =>
    simp only [resultOf, Option.some.injEq] at h; subst h
    exact ⟨_, oper_ok hst.tm (.tmp t), rfl⟩
  | cell c t =>
    simp only [resultOf] at h
    have hv := oper_ok hst.tm (.tmp c)
    simp only [oper] at hv
    split at h
    · rename_i n off hp
      rw [hp] at hv
      split at h
      · rename_i b hb
        obtain ⟨r, hr, hat⟩ := hst.mem.blk n b hb
        obtain ⟨v, hd, hrun⟩ := loadS_ok h hat
        refine ⟨v, hd, ?_⟩
        simp only [den, hr, Option.map_some, Option.some.injEq] at hv
        simp only [Act.eval] at hv
        simp only [resM, ← hv, asAddr, Sem.run_bind, Sem.run_pure, Result.andThen_ok, hrun]
      · cases h
    · cases h

theorem run_mapM_results {f : ResultVar → Sem Value} {s : St} {m : Nat → Option Nat} {w : World} (hf : ∀ r x, resultOf P s r = some x → ∃ v, den m x = some v ∧ (f r).run P w = .ok v w) :
    ∀ {l : List ResultVar} {xs : List SV}, l.mapM (resultOf P s) = some xs → ∃ vs, dens m xs = some vs ∧ (l.mapM f).run P w = .ok vs w
  | [], xs, h => by simp at h; subst h; exact ⟨[], by simp [dens], by simp⟩
  | r :: l, xs, h => by
    simp only [List.mapM_cons, Option.bind_eq_bind, Option.bind_eq_some_iff, pure, Option.some.injEq] at h
    obtain ⟨x, hx, ys, hys, rfl⟩ := h
    obtain ⟨v, hv, hr⟩ := hf r x hx
    obtain ⟨us, hus, hl⟩ := run_mapM_results hf hys
    refine ⟨v :: us, dens_cons hv hus, ?_⟩
    simp [List.mapM_cons, hr, hl]

theorem resultS_ok {s : St} {m : Nat → Option Nat} {a : Act} {w : World} (hst : StAt m s a w) {fn : Func} {x : SV} (h : resultS P fn s = some x) :
    ∃ v, den m x = some v ∧ (results fn a.tmps).run P w = .ok v w := by
  unfold resultS at h
  have key : ∀ xs, fn.results.toList.mapM (resultOf P s) = some xs → ∃ vs, dens m xs = some vs ∧ (results fn a.tmps).run P w = .ok (if h : vs.toArray.size = 1 then vs.toArray[0] else .tuple vs.toArray) w := by
    intro xs hxs
    obtain ⟨vs, h1, h2⟩ := run_mapM_results (f := resM a) (w := w) (m := m) (fun r x hr => resultOf_ok hst hr) hxs
    refine ⟨vs, h1, ?_⟩
    unfold results
    rw [Sem.run_bind]
    have e : (fn.results.mapM (resM a)).run P w = .ok vs.toArray w := by
      rw [← Array.toArray_toList (xs := fn.results), List.mapM_toArray, Sem.run_map, h2]
      rfl
    erw [e]
    rfl
  split at h
  · rename_i y hy
    simp only [Option.some.injEq] at h; subst h
    obtain ⟨vs, h1, h2⟩ := key _ hy
    obtain ⟨v, us, h3, h4, rfl⟩ := dens_cons_some.1 h1
    simp only [dens, Option.some.injEq] at h4; subst h4
    exact ⟨v, h3, by simpa using h2⟩
  · rename_i l hne hy
    simp only [Option.some.injEq] at h; subst h
    obtain ⟨vs, h1, h2⟩ := key _ hy
    refine ⟨.tuple vs.toArray, by simp [den, h1], ?_⟩
    rw [h2]
    have hl := dens_length h1
    rw [dif_neg]
    intro h1'
    simp only [List.size_toArray] at h1'
    match l, hl with
    | [x], _ => exact hne x rfl
    | [], hl => rw [List.length_nil] at hl; omega
    | _ :: _ :: _, hl => rw [List.length_cons, List.length_cons] at hl; omega
  · cases h

theorem callStep_ok {code : RunF} (hO : OracleOk P O) (hs : SufOk code) (hc : CodeOk P code) : CallOk P (callStep P O code) := by
  intro g args M ds x M' ds' ob h ho m w vs hvs hM
  unfold callStep at h
  split at h
  · rename_i f hf
    exact hO g f hf args M ds x M' ds' ob h ho m w vs hvs hM
  · split at h
    · rename_i fn hfn
      split at h
      · rename_i c hb
        have fin : ∀ ex s, (ex = .normal ∨ ex = .ret) → code c ⟨args ++ List.replicate (fn.ntmps - args.length) (.tup []), M, ds, []⟩ = some (ex, s) → resultS P fn s = some x → s.M = M' → s.ob = ob →
            Calls P g vs.toArray w fun e w' => ∃ m' v, e = .returned v ∧ CallPost m w M x M' m' v w' := by
          intro ex s hex hrun hres e1 e2
          subst e1 e2
          have hl := dens_length hvs
          refine calls_of_wp hfn hb ?_
          have htm : dens m (args ++ List.replicate (fn.ntmps - args.length) (.tup [])) = some (vs.toArray ++ Array.replicate (fn.ntmps - vs.toArray.size) undef).toList := by
            have := dens_append hvs (dens_replicate (undef_den m) (fn.ntmps - args.length))
            rw [this]; simp [hl]
          refine hc _ _ _ _ hrun ho m _ w _ ⟨htm, rfl, hM⟩ fun m' a' w' hst hg => ?_
          obtain ⟨v, hv, hr⟩ := resultS_ok hst hres
          have hpost : CallPost m w M x s.M m' v w' := ⟨hg.ext, hv, hst.mem, (hs _ _ _ _ hrun).2, hg.fr, hg.new⟩
          rcases hex with rfl | rfl
          · exact ⟨hst.df, v, hr, m', v, rfl, hpost⟩
          · exact ⟨hst.df, v, hr, m', v, rfl, hpost⟩
        split at h
        · rename_i s hrun
          split at h
          · rename_i y hres
            simp only [Option.some.injEq, Prod.mk.injEq] at h
            obtain ⟨rfl, h1, _, h2⟩ := h
            exact fin _ s (.inl rfl) hrun hres h1 h2
          · cases h
        · rename_i s hrun
          split at h
          · rename_i y hres
            simp only [Option.some.injEq, Prod.mk.injEq] at h
            obtain ⟨rfl, h1, _, h2⟩ := h
            exact fin _ s (.inr rfl) hrun hres h1 h2
          · cases h
        · cases h
      · cases h
    · cases h

/-- WHAT IS RECKONED IS WHAT THE MODEL DOES -/
theorem run_ok (hP : Good P E) (hO : OracleOk P O) : ∀ n, CallOk P (run P E O n).1 ∧ SufOk (run P E O n).2 ∧ CodeOk P (run P E O n).2 ∧ LoopOk P (run P E O n).2 n
  | 0 => by
    refine ⟨?_, ?_, ?_, ?_⟩
    · intro g args M ds x M' ds' ob h; cases h
    · intro c s ex s' h; cases h
    · intro c s ex s' h; cases h
    · intro c s ex s' h; cases h
  | n + 1 => by
    obtain ⟨h1, h2, h3, h4⟩ := run_ok hP hO n
    rw [run_succ]
    have := codeStep_ok hP h1 h2 h3 h4
    exact ⟨callStep_ok hO h2 h3, codeStep_suf h2, this.1, this.2⟩
end
end Rx
