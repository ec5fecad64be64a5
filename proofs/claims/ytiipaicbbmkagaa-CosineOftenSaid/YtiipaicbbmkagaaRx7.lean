/- The reckoner: one operation, and operations one after another. -/
import Derived.Test.YtiipaicbbmkagaaRx6
import Derived.Tactics
namespace Rx
set_option linter.all false
open Go

/-- functions of Go that the model has without a text -/
abbrev ExtF := FuncId → Option (List SV → Option (SV × Obs))
def ExtOk (P : Program) (E : ExtF) : Prop :=
  ∀ g f, E g = some f → ∀ args x ob, f args = some (x, ob) → ObsOk ob → ∀ (m : Nat → Option Nat) vs, dens m args = some vs → ∃ v, den m x = some v ∧ ∀ w, (callFunc g vs.toArray).run P w = .ok (.value v) w

/-- what a program must be for the reckoner -/
structure Good (P : Program) (E : ExtF) : Prop where
  ext : ExtOk P E
  mixed : P.follows .mixedOrders = true
  names : ∀ (g : Nat) (fn : Func), P.funcs[g]? = some fn → fn.body.isSome = true → (fn.name == "runtime.NumGoroutine") = false

structure Eff where
  x : SV
  wr : List (Nat × Blk)
  rd : List Nat
  ds : Dec
  ob : Obs

def isMem (o : Oper) : Bool :=
  match o.op with
  | .alloc _ | .box _ _ | .buildSlice _ _ _ | .load _ _ | .store _ _ _ => true
  | _ => false
def hasBody (P : Program) (g : FuncId) : Bool :=
  match P.funcs[g]? with
  | some fn => fn.body.isSome
  | none => false
def calleeOf (ρ : Operand → SV) (o : Oper) : Option (FuncId × List SV) :=
  match o.op with
  | .call c => match c.callee with
    | .value f => match ρ f with
      | .fn (.func g) first cap => some (g, first ++ c.args.toList.map ρ ++ cap)
      | _ => none
    | _ => none
  | _ => none
def evOp (P : Program) (E : ExtF) (call : CallF) (ρ : Operand → SV) (get : Nat → Option Blk) (fresh : Nat) (ds : Dec) (o : Oper) : Option Eff :=
  if isMem o then (evMem P ρ get fresh o).map fun q => ⟨q.1, q.2.1, q.2.2, ds, []⟩
  else match calleeOf ρ o with
    | some (g, args) => match E g with
      | some f => (f args).map fun q => ⟨q.1, [], [], ds, q.2⟩
      | none => if hasBody P g then (evCall call get fresh ds g args).map fun q => ⟨q.1, q.2.1, q.2.2.1, q.2.2.2.1, q.2.2.2.2⟩ else none
    | none => (evPure P ρ ds o).map fun q => ⟨q.1, [], [], q.2.1, q.2.2⟩

theorem evOp_ok {P : Program} {E : ExtF} {call : CallF} {ρ : Operand → SV} {get : Nat → Option Blk} {fresh : Nat} {ds : Dec} {o : Oper} {e : Eff} (hP : Good P E) (hcall : CallOk P call)
    (h : evOp P E call ρ get fresh ds o = some e) (ho : ObsOk e.ob) {m : Nat → Option Nat} {w : World} (hm : NameOk m w)
    (hnew : ∀ p ∈ e.wr, fresh ≤ p.1 → m p.1 = none) (hold : ∀ n ∈ e.rd, ∀ b, get n = some b → ∃ r, m n = some r ∧ BlkAt m w r b)
    {ρv : Operand → Value} (hρ : ∀ y ∈ o.op.operands, den m (ρ y) = some (ρv y)) :
    OpGoes P o ρv w fun v w' => ∃ m', OpPost m w e.x e.wr m' v w' := by
  unfold evOp at h
  split at h
  · simp only [Option.map_eq_some_iff] at h
    obtain ⟨⟨x, wr, rd⟩, hq, rfl⟩ := h
    exact evMem_ok hq hm hnew hold hρ
  · split at h
    · rename_i g args hc
      unfold calleeOf at hc
      split at hc
      · rename_i c hop
        split at hc
        · rename_i f hcal
          split at hc
          · rename_i g' first cap hf
            simp only [Option.some.injEq, Prod.mk.injEq] at hc
            obtain ⟨rfl, rfl⟩ := hc
            have hfv := hρ f (by rw [hop]; simp [Op.operands, Call.operands, hcal])
            rw [hf] at hfv
            simp only [den, Option.bind_eq_some_iff, Option.map_eq_some_iff] at hfv
            obtain ⟨fv, hfirst, cv, hcap, hfe⟩ := hfv
            have hargs := args_ok (m := m) (ρ := ρ) (ρv := ρv) c.args.toList fun q hq => hρ q (by
              rw [hop]; simp only [Op.operands, Call.operands, Array.mem_append]; right; simpa using hq)
            have hall := dens_append (dens_append hfirst hargs) hcap
            have hexec : execOp ρv o = callFunc g' (fv ++ c.args.toList.map ρv ++ cv).toArray := by
              have e : (fv ++ c.args.toList.map ρv ++ cv).toArray = fv.toArray ++ c.args.map ρv ++ cv.toArray := by
                apply Array.ext'; simp
              simp only [execOp, hop, resolve, hcal, Deferred.ofValue, ← hfe, e]
              rfl
            split at h
            · rename_i f' hE
              simp only [Option.map_eq_some_iff] at h
              obtain ⟨⟨x, ob⟩, hx, rfl⟩ := h
              obtain ⟨v, hv, hrun⟩ := hP.ext g' f' hE _ x ob hx ho m _ hall
              exact OpGoes.value (w' := w) (by rw [hexec]; exact hrun w) ⟨m, OpPost.pure hm hv⟩
            · split at h
              · rename_i hbody
                simp only [Option.map_eq_some_iff] at h
                obtain ⟨⟨x, wr, rd, ds', ob⟩, hq, rfl⟩ := h
                unfold hasBody at hbody
                split at hbody
                · rename_i fn hfn
                  refine OpGoes.enter (f := g') (args := (fv ++ c.args.toList.map ρv ++ cv).toArray) (w' := w) ?_ (evCall_ok hcall hq ho hm hnew hold hall)
                  have hnone : ¬ fn.body = none := by
                    intro hb; rw [hb] at hbody; cases hbody
                  have hname : ¬ fn.name = "runtime.NumGoroutine" := by
                    have := hP.names g' fn hfn hbody
                    simpa using this
                  rw [hexec]
                  simp [callFunc, hfn, hname, hnone]
                · cases hbody
              · cases h
          · cases hc
        · cases hc
      · cases hc
    · simp only [Option.map_eq_some_iff] at h
      obtain ⟨⟨x, ds', ob⟩, hq, rfl⟩ := h
      obtain ⟨v, hv, hrun⟩ := (evPure_ok (m := m) hq ho hρ).out
      exact OpGoes.value (hrun w) ⟨m, OpPost.pure hm hv⟩

structure St where
  T : List SV
  M : List Blk
  ds : Dec
  ob : Obs

def oper (T : List SV) : Operand → SV
  | .tmp t => T.getD t (.tup [])
  | .const v => ofV v
  | .global g => .o (.pointer (some ⟨g, 0, none⟩))
  | .func f => .fn (.func f) [] []
theorem oper_ok {m : Nat → Option Nat} {T : List SV} {a : Act} (h : dens m T = some a.tmps.toList) (x : Operand) : den m (oper T x) = some (a.eval x) := by
  cases x with
  | tmp t =>
    simp only [oper, Act.eval, List.getD]
    cases ht : T[t]? with
    | some y =>
      obtain ⟨v, hv, hd⟩ := dens_get h ht
      have : a.tmps[t]? = some v := by simpa using hv
      simp [this, hd]
    | none =>
      have hl := dens_length h
      have : T.length ≤ t := by simpa using ht
      have h2 : a.tmps[t]? = none := by
        apply Array.getElem?_eq_none
        simp only [Array.length_toList] at hl
        omega
      simp [h2, den, dens, undef]
  | const v => exact den_ofV v
  | global g => simp [oper, den, Act.eval]
  | func f => simp [oper, den, dens, Act.eval]

def yS (ops : Array Oper) (T : List SV) (j : Nat) : Option Bool :=
  match (ops[j]?).bind (·.dst) with
  | some d => match T[d]? with
    | some (.b c) => some c
    | some (.o (.bool c)) => some c
    | _ => none
  | none => none
theorem den_bool {m : Nat → Option Nat} {x : SV} {c : Bool} (h : den m x = some (.bool c)) : x = .b c ∨ x = .o (.bool c) := by
  cases x <;> simp only [den, Option.some.injEq, Option.map_eq_some_iff, Option.bind_eq_some_iff] at h
  case b => left; cases h; rfl
  case o => right; rw [h]
  all_goals first
    | (cases h; done)
    | (obtain ⟨_, _, h⟩ := h; cases h; done)
    | (obtain ⟨_, _, _, _, h⟩ := h; cases h; done)
theorem yS_ok {m : Nat → Option Nat} {ops : Array Oper} {T : List SV} {a : Act} (h : dens m T = some a.tmps.toList) (j : Nat) : yielded ops a.tmps j = yS ops T j := by
  unfold yielded yS
  cases hd : (ops[j]?).bind (·.dst) with
  | none => simp
  | some d =>
    simp only [Option.bind_some]
    cases ht : T[d]? with
    | none =>
      have hl := dens_length h
      have h1 : T.length ≤ d := by simpa using ht
      have h2 : a.tmps[d]? = none := by
        apply Array.getElem?_eq_none
        simp only [Array.length_toList] at hl
        omega
      rw [h2]
    | some x =>
      obtain ⟨v, hv, hx⟩ := dens_get h ht
      have h2 : a.tmps[d]? = some v := by simpa using hv
      rw [h2]
      split
      · rename_i b hb
        simp only [Option.some.injEq] at hb; subst hb
        rcases den_bool hx with rfl | rfl <;> rfl
      · rename_i hnb
        split
        · rename_i c hc
          simp only [Option.some.injEq] at hc; subst hc
          simp only [den, Option.some.injEq] at hx; subst hx
          exact absurd rfl (hnb c)
        · rename_i c hc
          simp only [Option.some.injEq] at hc; subst hc
          simp only [den, Option.some.injEq] at hx; subst hx
          exact absurd rfl (hnb c)
        · rfl

def wantedS (ops : Array Oper) (T : List SV) (o : Oper) : Bool :=
  match o.guard with
  | none => true
  | some (j, want) => match yS ops T j with
    | some c => c == want
    | none => false
theorem wantedS_ok {m : Nat → Option Nat} {ops : Array Oper} {T : List SV} {a : Act} (h : dens m T = some a.tmps.toList) (o : Oper) : Region.wanted o (yielded ops a.tmps) = wantedS ops T o := by
  unfold Region.wanted wantedS
  cases o.guard with
  | none => rfl
  | some p =>
    obtain ⟨j, want⟩ := p
    simp only [yS_ok h]
    cases yS ops T j with
    | none => rfl
    | some c => cases c <;> cases want <;> rfl

def putT (dst : Option Tmp) (x : SV) (T : List SV) : List SV :=
  match dst with
  | some d => T.set d x
  | none => T
theorem putT_ok {m : Nat → Option Nat} {T : List SV} {a : Act} (h : dens m T = some a.tmps.toList) {x : SV} {v : Value} (hx : den m x = some v) (dst : Option Tmp) :
    dens m (putT dst x T) = some (a.put dst v).tmps.toList := by
  cases dst with
  | none => exact h
  | some d =>
    simp only [putT, Act.put]
    have := dens_set h hx d
    rw [this]
    simp

def puts (M : List Blk) : List (Nat × Blk) → Option (List Blk)
  | [] => some M
  | (n, b) :: r => if Nat.blt n M.length then puts (M.set n b) r else if Nat.beq n M.length then puts (M ++ [b]) r else none
theorem puts_ok : ∀ {wr : List (Nat × Blk)} {M M' : List Blk}, puts M wr = some M' →
    M.length ≤ M'.length ∧ (∀ p ∈ wr, p.1 < M'.length) ∧ ∀ (n : Nat) (b : Blk), M'[n]? = some b → (∃ p ∈ wr, p.1 = n ∧ p.2 = b) ∨ (M[n]? = some b ∧ ∀ p ∈ wr, p.1 ≠ n)
  | [], M, M', h => by simp only [puts, Option.some.injEq] at h; subst h; exact ⟨Nat.le_refl _, by simp, fun n b hb => .inr ⟨hb, by simp⟩⟩
  | (n0, b0) :: r, M, M', h => by
    unfold puts at h
    split at h
    · rename_i hlt
      have hlt' := Nat.blt_eq.mp hlt
      obtain ⟨h1, h2, h3⟩ := puts_ok h
      rw [List.length_set] at h1
      refine ⟨h1, ?_, ?_⟩
      · intro p hp
        rcases List.mem_cons.1 hp with rfl | hp
        · exact Nat.lt_of_lt_of_le hlt' h1
        · exact h2 p hp
      · intro n b hb
        rcases h3 n b hb with ⟨p, hp, e1, e2⟩ | ⟨h4, h5⟩
        · exact .inl ⟨p, by simp [hp], e1, e2⟩
        · by_cases e : n0 = n
          · subst e
            rw [List.getElem?_set_self hlt'] at h4
            simp only [Option.some.injEq] at h4
            exact .inl ⟨(n0, b0), by simp, rfl, h4⟩
          · rw [List.getElem?_set_ne e] at h4
            refine .inr ⟨h4, fun p hp => ?_⟩
            rcases List.mem_cons.1 hp with rfl | hp
            · exact e
            · exact h5 p hp
    · split at h
      · rename_i heq
        have heq' := Nat.eq_of_beq_eq_true heq
        obtain ⟨h1, h2, h3⟩ := puts_ok h
        simp only [List.length_append, List.length_cons, List.length_nil] at h1
        refine ⟨by omega, ?_, ?_⟩
        · intro p hp
          rcases List.mem_cons.1 hp with rfl | hp
          · simp only; omega
          · exact h2 p hp
        · intro n b hb
          rcases h3 n b hb with ⟨p, hp, e1, e2⟩ | ⟨h4, h5⟩
          · exact .inl ⟨p, by simp [hp], e1, e2⟩
          · by_cases e : n0 = n
            · subst e
              rw [heq', List.getElem?_append_right (Nat.le_refl _)] at h4
              simp at h4
              exact .inl ⟨(n0, b0), by simp, rfl, h4⟩
            · have hl : n < M.length := by
                rcases Nat.lt_or_ge n M.length with h' | h'
                · exact h'
                · rw [List.getElem?_eq_none (by simp; omega)] at h4; cases h4
              rw [List.getElem?_append_left hl] at h4
              refine .inr ⟨h4, fun p hp => ?_⟩
              rcases List.mem_cons.1 hp with rfl | hp
              · exact e
              · exact h5 p hp
      · cases h

structure StAt (m : Nat → Option Nat) (s : St) (a : Act) (w : World) : Prop where
  tm : dens m s.T = some a.tmps.toList
  df : a.defers = []
  mem : MemAt m w s.M

structure Goes (m : Nat → Option Nat) (w : World) (m' : Nat → Option Nat) (w' : World) : Prop where
  ext : Ext m m'
  fr : Fr (fun r => ∃ n, m n = some r) w w'
  new : ∀ n r, m' n = some r → m n = some r ∨ w.heap.size ≤ r
theorem Goes.refl (m : Nat → Option Nat) (w : World) : Goes m w m w := ⟨Ext.refl m, Fr.refl _ _, fun _ _ h => .inl h⟩
theorem Goes.trans {a b c : Nat → Option Nat} {u v w : World} (h : Goes a u b v) (k : Goes b v c w) : Goes a u c w := by
  refine ⟨h.ext.trans k.ext, h.fr.trans k.fr ?_, ?_⟩
  · rintro r hr ⟨n, hn⟩
    rcases h.new n r hn with h1 | h1
    · exact ⟨n, h1⟩
    · omega
  · intro n r hn
    rcases k.new n r hn with h1 | h1
    · exact h.new n r h1
    · exact .inr (Nat.le_trans h.fr.size h1)

theorem BlkAt.ext {m m' : Nat → Option Nat} {w w' : World} {r : Nat} {b : Blk} (h : BlkAt m w r b) (he : Ext m m') (hw : w'.heap[r]? = w.heap[r]?) : BlkAt m' w' r b := by
  obtain ⟨cv, h1, h2⟩ := h
  exact ⟨cv, dens_ext he h1, by rw [hw]; exact h2⟩

/-- the blocks behind an operation -/
theorem mem_after {m m' : Nat → Option Nat} {w w' : World} {M M' : List Blk} {x : SV} {wr : List (Nat × Blk)} {v : Value} (hm : MemAt m w M) (hp : OpPost m w x wr m' v w') (hM : puts M wr = some M') :
    MemAt m' w' M' ∧ Goes m w m' w' := by
  obtain ⟨h1, h2, h3⟩ := puts_ok hM
  refine ⟨⟨hp.ok, ?_, ?_⟩, hp.ext, hp.fr.mono fun r _ ⟨p, _, hr⟩ => ⟨p.1, hr⟩, fun n r hr => (hp.new n r hr).imp id fun h => h.1⟩
  · intro n b hb
    rcases h3 n b hb with ⟨p, hp', rfl, rfl⟩ | ⟨h4, h5⟩
    · exact hp.blk p hp'
    · obtain ⟨r, hr, hat⟩ := hm.blk n b h4
      refine ⟨r, hp.ext n r hr, hat.ext hp.ext (hp.fr.block r (hm.ok.lt n r hr) ?_)⟩
      rintro ⟨p, hp', hpr⟩
      exact h5 p hp' (hm.ok.inj _ _ _ hpr hr)
  · intro n r hr
    rcases hp.new n r hr with h4 | ⟨_, p, hp', rfl⟩
    · exact Nat.lt_of_lt_of_le (hm.dom n r h4) h1
    · exact h2 p hp'

def stepOp (P : Program) (E : ExtF) (call : CallF) (ops : Array Oper) (o : Oper) (s : St) : Option (St × Option Eff) :=
  if wantedS ops s.T o then
    match evOp P E call (oper s.T) (s.M[·]?) s.M.length s.ds o with
    | some e => match puts s.M e.wr with
      | some M' => some (⟨putT o.dst e.x s.T, M', e.ds, e.ob ++ s.ob⟩, some e)
      | none => none
    | none => none
  else some (⟨putT o.dst (.tup []) s.T, s.M, s.ds, s.ob⟩, none)

def runOps (P : Program) (E : ExtF) (call : CallF) (ops : Array Oper) : List Oper → St → Option St
  | [], s => some s
  | o :: r, s => match stepOp P E call ops o s with
    | some (s', _) => runOps P E call ops r s'
    | none => none

def Suf (a b : Obs) : Prop := ∃ l, b = l ++ a
theorem Suf.refl (a : Obs) : Suf a a := ⟨[], rfl⟩
theorem Suf.trans {a b c : Obs} (h : Suf a b) (k : Suf b c) : Suf a c := by
  obtain ⟨l, rfl⟩ := h; obtain ⟨r, rfl⟩ := k; exact ⟨r ++ l, by simp⟩
theorem Suf.ok {a b : Obs} (h : Suf a b) (hb : ObsOk b) : ObsOk a := by
  obtain ⟨l, rfl⟩ := h; exact hb.right

theorem stepOp_suf {P : Program} {E : ExtF} {call : CallF} {ops : Array Oper} {o : Oper} {s s' : St} {e : Option Eff} (h : stepOp P E call ops o s = some (s', e)) : Suf s.ob s'.ob := by
  unfold stepOp at h
  split at h
  · split at h
    · split at h
      · simp only [Option.some.injEq, Prod.mk.injEq] at h
        obtain ⟨rfl, _⟩ := h
        exact ⟨_, rfl⟩
      · cases h
    · cases h
  · simp only [Option.some.injEq, Prod.mk.injEq] at h
    obtain ⟨rfl, _⟩ := h
    exact Suf.refl _
theorem runOps_suf {P : Program} {E : ExtF} {call : CallF} {ops : Array Oper} : ∀ {l : List Oper} {s s' : St}, runOps P E call ops l s = some s' → Suf s.ob s'.ob
  | [], s, s', h => by simp only [runOps, Option.some.injEq] at h; subst h; exact Suf.refl _
  | o :: r, s, s', h => by
    unfold runOps at h
    split at h
    · rename_i s1 e hs
      exact (stepOp_suf hs).trans (runOps_suf h)
    · cases h

theorem undef_den (m : Nat → Option Nat) : den m (.tup []) = some undef := by simp [den, dens, undef]

theorem runOps_ok {P : Program} {E : ExtF} {call : CallF} (hP : Good P E) (hcall : CallOk P call) {ops : Array Oper} {Q : Exit → Act → World → Prop} : ∀ {l : List Oper} {s s' : St}, runOps P E call ops l s = some s' → ObsOk s'.ob →
    ∀ {m : Nat → Option Nat} {a : Act} {w : World}, StAt m s a w → (∀ m' a' w', StAt m' s' a' w' → Goes m w m' w' → Q .normal a' w') → wpList P ops Q l a w
  | [], s, s', h, ho, m, a, w, hs, hq => by
    simp only [runOps, Option.some.injEq] at h; subst h
    exact hq m a w hs (Goes.refl m w)
  | o :: r, s, s', h, ho, m, a, w, hs, hq => by
    unfold runOps at h
    split at h
    · rename_i s1 e hst
      have ho1 := (runOps_suf h).ok ho
      have hput : ∀ (x : Value), (a.put o.dst x).defers = [] := fun x => by cases o.dst <;> exact hs.df
      unfold wpList
      unfold stepOp at hst
      split at hst
      · rename_i hw
        rw [if_pos (by rw [wantedS_ok hs.tm]; exact hw)]
        split at hst
        · rename_i e0 he
          split at hst
          · rename_i M' hM
            simp only [Option.some.injEq, Prod.mk.injEq] at hst
            obtain ⟨rfl, _⟩ := hst
            left
            have hgo := evOp_ok hP hcall he (ObsOk.left (b := s.ob) ho1) (m := m) (w := w) (ρv := a.eval) hs.mem.ok
              (fun p hp hle => by
                cases hmp : m p.1 with
                | none => rfl
                | some r0 => have := hs.mem.dom _ _ hmp; omega)
              (fun n hn b hb => hs.mem.blk n b hb) (fun y _ => oper_ok hs.tm y)
            refine hgo a _ Q rfl fun v w' hpost => ?_
            obtain ⟨m', hp⟩ := hpost
            obtain ⟨hmem, hgoes⟩ := mem_after hs.mem hp hM
            refine runOps_ok hP hcall h ho (m := m') ⟨putT_ok (dens_ext hp.ext hs.tm) hp.val o.dst, hput v, hmem⟩ fun m'' a'' w'' hst' hg' => hq m'' a'' w'' hst' (hgoes.trans hg')
          · cases hst
        · cases hst
      · rename_i hw
        simp only [Option.some.injEq, Prod.mk.injEq] at hst
        obtain ⟨rfl, _⟩ := hst
        rw [if_neg (by rw [wantedS_ok hs.tm]; exact hw)]
        exact runOps_ok hP hcall h ho (m := m) ⟨putT_ok hs.tm (undef_den m) o.dst, hput undef, hs.mem⟩ hq
    · cases h
end Rx
