/- The reckoner: operations whose order is open. -/
import Derived.Test.YtiipaicbbmkagaaRx7
namespace Rx
set_option linter.all false
open Go

inductive Val where
  | s (x : SV)
  | k (b : Blk)
def kt (n : Nat) : Nat := 2 * n
def kb (n : Nat) : Nat := 2 * n + 1

def upd : List (Nat × Val) → (Nat → Option Val) → Nat → Option Val
  | [], F => F
  | (k, v) :: r, F => upd r fun x => if x = k then some v else F x

theorem upd_other : ∀ {ws : List (Nat × Val)} {F : Nat → Option Val} {k : Nat}, k ∉ ws.map (·.1) → upd ws F k = F k
  | [], F, k, _ => rfl
  | (j, v) :: r, F, k, h => by
    simp only [List.map_cons, List.mem_cons, not_or] at h
    rw [upd, upd_other h.2, if_neg h.1]
theorem upd_same : ∀ {ws : List (Nat × Val)} {F G : Nat → Option Val} {k : Nat}, k ∈ ws.map (·.1) → upd ws F k = upd ws G k
  | [], F, G, k, h => by simp at h
  | (j, v) :: r, F, G, k, h => by
    rw [upd, upd]
    by_cases h2 : k ∈ r.map (·.1)
    · exact upd_same h2
    · simp only [List.map_cons, List.mem_cons] at h
      have e : k = j := h.resolve_right h2
      rw [upd_other h2, upd_other h2, if_pos e, if_pos e]
theorem upd_mem : ∀ {ws : List (Nat × Val)} {F : Nat → Option Val} {k : Nat}, k ∈ ws.map (·.1) → ∃ v, upd ws F k = some v ∧ (k, v) ∈ ws
  | [], F, k, h => by simp at h
  | (j, u) :: r, F, k, h => by
    rw [upd]
    by_cases h2 : k ∈ r.map (·.1)
    · obtain ⟨v, h3, h4⟩ := upd_mem (F := fun x => if x = j then some u else F x) h2
      exact ⟨v, h3, by simp [h4]⟩
    · simp only [List.map_cons, List.mem_cons] at h
      have e : k = j := h.resolve_right h2
      exact ⟨u, by rw [upd_other h2, if_pos e], by simp [e]⟩
theorem upd_get {ws : List (Nat × Val)} {F : Nat → Option Val} {k : Nat} {v : Val} (h : upd ws F k = some v) : (k, v) ∈ ws ∨ (F k = some v ∧ k ∉ ws.map (·.1)) := by
  by_cases h2 : k ∈ ws.map (·.1)
  · obtain ⟨u, h3, h4⟩ := upd_mem (F := F) h2
    rw [h] at h3; simp only [Option.some.injEq] at h3; subst h3
    exact .inl h4
  · rw [upd_other h2] at h
    exact .inr ⟨h, h2⟩
theorem upd_congr {ws : List (Nat × Val)} {F G : Nat → Option Val} {k : Nat} (h : F k = G k) : upd ws F k = upd ws G k := by
  by_cases h2 : k ∈ ws.map (·.1)
  · exact upd_same h2
  · rw [upd_other h2, upd_other h2, h]
theorem upd_append (a b : List (Nat × Val)) (F : Nat → Option Val) : upd (a ++ b) F = upd b (upd a F) := by
  induction a generalizing F with
  | nil => rfl
  | cons p a ih => obtain ⟨k, v⟩ := p; simp only [List.cons_append, upd]; exact ih _

/-- an operation as it went: before it, and what came -/
structure CR where
  o : Oper
  s : St
  e : Option Eff

def runRec (P : Program) (E : ExtF) (call : CallF) (ops : Array Oper) : List Oper → St → Option (St × List CR)
  | [], s => some (s, [])
  | o :: r, s => match stepOp P E call ops o s with
    | some (s', e) => match runRec P E call ops r s' with
      | some (s2, crs) => some (s2, ⟨o, s, e⟩ :: crs)
      | none => none
    | none => none

def usesOf (ops : Array Oper) (c : CR) : List Nat :=
  (c.o.op.operands.toList.filterMap fun | .tmp t => some (kt t) | _ => none) ++
  (match c.o.guard with
   | some (g, _) => match (ops[g]?).bind (·.dst) with
     | some d => [kt d]
     | none => []
   | none => []) ++
  (match c.e with
   | some e => e.rd.map kb
   | none => [])
def outOf (c : CR) : SV := match c.e with | some e => e.x | none => .tup []
def wrOf (c : CR) : List (Nat × Blk) := match c.e with | some e => e.wr | none => []
def dstW (dst : Option Tmp) (x : SV) : List (Nat × Val) :=
  match dst with
  | some d => [(kt d, .s x)]
  | none => []
def writes (c : CR) : List (Nat × Val) :=
  dstW c.o.dst (outOf c) ++ (wrOf c).map fun p => (kb p.1, .k p.2)
def wKeys (c : CR) : List Nat :=
  (match c.o.dst with | some d => [kt d] | none => []) ++ (wrOf c).map fun p => kb p.1
theorem wKeys_eq (c : CR) : (writes c).map (·.1) = wKeys c := by
  unfold writes wKeys dstW
  cases c.o.dst <;> simp

def storeOf (s : St) (k : Nat) : Option Val :=
  if k % 2 = 0 then (s.T[k / 2]?).map .s else (s.M[k / 2]?).map .k
theorem storeOf_t (s : St) (t : Nat) : storeOf s (kt t) = (s.T[t]?).map .s := by
  unfold storeOf kt
  rw [if_pos (by omega), show 2 * t / 2 = t from by omega]
theorem storeOf_b (s : St) (n : Nat) : storeOf s (kb n) = (s.M[n]?).map .k := by
  unfold storeOf kb
  rw [if_neg (by omega), show (2 * n + 1) / 2 = n from by omega]
theorem key_cases (k : Nat) : (∃ t, k = kt t) ∨ ∃ n, k = kb n := by
  unfold kt kb
  rcases Nat.mod_two_eq_zero_or_one k with h | h
  · exact .inl ⟨k / 2, by omega⟩
  · exact .inr ⟨k / 2, by omega⟩

theorem puts_store : ∀ {wr : List (Nat × Blk)} {M M' : List Blk} {T : List SV} {ds : Dec} {ob : Obs}, puts M wr = some M' →
    storeOf ⟨T, M', ds, ob⟩ = upd (wr.map fun p => (kb p.1, .k p.2)) (storeOf ⟨T, M, ds, ob⟩)
  | [], M, M', T, ds, ob, h => by simp only [puts, Option.some.injEq] at h; subst h; rfl
  | (n, b) :: r, M, M', T, ds, ob, h => by
    unfold puts at h
    simp only [List.map_cons, upd]
    split at h
    · rename_i hlt
      have hlt' := Nat.blt_eq.mp hlt
      rw [puts_store h]
      congr 1
      funext k
      rcases key_cases k with ⟨t, rfl⟩ | ⟨j, rfl⟩
      · rw [if_neg (by unfold kt kb; omega), storeOf_t, storeOf_t]
      · rw [storeOf_b, storeOf_b]
        by_cases e : j = n
        · subst e; simp [hlt']
        · rw [if_neg (by unfold kb; omega)]
          simp only
          rw [List.getElem?_set_ne (fun h => e h.symm)]
    · split at h
      · rename_i heq
        have heq' := Nat.eq_of_beq_eq_true heq
        rw [puts_store h]
        congr 1
        funext k
        rcases key_cases k with ⟨t, rfl⟩ | ⟨j, rfl⟩
        · rw [if_neg (by unfold kt kb; omega), storeOf_t, storeOf_t]
        · rw [storeOf_b, storeOf_b]
          simp only
          by_cases e : j = n
          · subst e; subst heq'; simp
          · rw [if_neg (by unfold kb; omega)]
            by_cases hl : j < M.length
            · rw [List.getElem?_append_left hl]
            · rw [List.getElem?_eq_none (by simp; omega), List.getElem?_eq_none (by omega)]
      · cases h

theorem putT_store {dst : Option Tmp} {x : SV} {T : List SV} {M : List Blk} {ds ds' : Dec} {ob ob' : Obs} (hd : ∀ d, dst = some d → d < T.length) :
    storeOf ⟨putT dst x T, M, ds, ob⟩ = upd (dstW dst x) (storeOf ⟨T, M, ds', ob'⟩) := by
  cases dst with
  | none => funext k; rcases key_cases k with ⟨t, rfl⟩ | ⟨j, rfl⟩ <;> simp [putT, dstW, upd, storeOf_t, storeOf_b]
  | some d =>
    have hd' := hd d rfl
    funext k
    simp only [putT, dstW, upd]
    rcases key_cases k with ⟨t, rfl⟩ | ⟨j, rfl⟩
    · rw [storeOf_t, storeOf_t]
      simp only
      by_cases e : t = d
      · subst e; simp [hd']
      · rw [if_neg (by unfold kt; omega), List.getElem?_set_ne (fun h => e h.symm)]
    · rw [if_neg (by unfold kt kb; omega), storeOf_b, storeOf_b]

theorem stepOp_store {P : Program} {E : ExtF} {call : CallF} {ops : Array Oper} {o : Oper} {s s' : St} {e : Option Eff} (h : stepOp P E call ops o s = some (s', e)) (hd : ∀ d, o.dst = some d → d < s.T.length) :
    storeOf s' = upd (writes ⟨o, s, e⟩) (storeOf s) ∧ s'.T.length = s.T.length := by
  have hl : ∀ x, (putT o.dst x s.T).length = s.T.length := fun x => by cases o.dst <;> simp [putT]
  unfold stepOp at h
  split at h
  · split at h
    · rename_i e0 he
      split at h
      · rename_i M' hM
        simp only [Option.some.injEq, Prod.mk.injEq] at h
        obtain ⟨rfl, rfl⟩ := h
        refine ⟨?_, hl _⟩
        rw [puts_store hM, putT_store (ds' := s.ds) (ob' := s.ob) hd]
        unfold writes outOf wrOf
        rw [upd_append]
      · cases h
    · cases h
  · simp only [Option.some.injEq, Prod.mk.injEq] at h
    obtain ⟨rfl, rfl⟩ := h
    refine ⟨?_, hl _⟩
    rw [putT_store (ds' := s.ds) (ob' := s.ob) hd]
    unfold writes outOf wrOf
    simp

def FD : List CR → (Nat → Bool) → (Nat → Option Val) → Nat → Option Val
  | [], _, F => F
  | c :: r, D, F => FD r (fun i => D (i + 1)) (if D 0 then upd (writes c) F else F)

theorem FD_congr : ∀ {crs : List CR} {D D' : Nat → Bool} {F F' : Nat → Option Val} {k : Nat}, (∀ i c, crs[i]? = some c → k ∈ wKeys c → D i = D' i) → F k = F' k → FD crs D F k = FD crs D' F' k
  | [], D, D', F, F', k, _, hF => hF
  | c :: r, D, D', F, F', k, h, hF => by
    unfold FD
    refine FD_congr (fun i c' hc hk => h (i + 1) c' (by simpa using hc) hk) ?_
    by_cases hk : k ∈ wKeys c
    · have := h 0 c (by simp) hk
      rw [this]
      split
      · exact upd_congr hF
      · exact hF
    · have hn : k ∉ (writes c).map (·.1) := by rw [wKeys_eq]; exact hk
      split <;> split <;> (try simp only [upd_other hn]) <;> exact hF

theorem runRec_ok {P : Program} {E : ExtF} {call : CallF} {ops : Array Oper} : ∀ {l : List Oper} {s s' : St} {crs : List CR}, runRec P E call ops l s = some (s', crs) →
    (∀ o ∈ l, ∀ d, o.dst = some d → d < s.T.length) →
    crs.length = l.length ∧ s'.T.length = s.T.length ∧ Suf s.ob s'.ob ∧ storeOf s' = FD crs (fun _ => true) (storeOf s) ∧
    ∀ (i : Nat) (c : CR), crs[i]? = some c → l[i]? = some c.o ∧ c.s.T.length = s.T.length ∧ storeOf c.s = FD crs (fun j => decide (j < i)) (storeOf s) ∧
      ∃ s1, stepOp P E call ops c.o c.s = some (s1, c.e) ∧ storeOf s1 = FD crs (fun j => decide (j ≤ i)) (storeOf s) ∧ Suf s1.ob s'.ob
  | [], s, s', crs, h, hd => by
    simp only [runRec, Option.some.injEq, Prod.mk.injEq] at h
    obtain ⟨rfl, rfl⟩ := h
    exact ⟨rfl, rfl, Suf.refl _, rfl, by simp⟩
  | o :: r, s, s', crs, h, hd => by
    unfold runRec at h
    split at h
    · rename_i s1 e hst
      split at h
      · rename_i s2 crs2 hr
        simp only [Option.some.injEq, Prod.mk.injEq] at h
        obtain ⟨rfl, rfl⟩ := h
        obtain ⟨hs1, hl1⟩ := stepOp_store hst (hd o (by simp))
        obtain ⟨h1, h2, h3, h4, h5⟩ := runRec_ok hr (fun o' ho' d hd' => by rw [hl1]; exact hd o' (by simp [ho']) d hd')
        have hsuf := stepOp_suf hst
        have hnone : ∀ (crs : List CR) (D : Nat → Bool) (F : Nat → Option Val), (∀ i, D i = false) → FD crs D F = F := by
          intro crs
          induction crs with
          | nil => intro D F _; rfl
          | cons c r ih => intro D F hD; unfold FD; rw [hD 0]; exact ih _ _ fun i => hD (i + 1)
        refine ⟨by simp [h1], by rw [h2, hl1], hsuf.trans h3, ?_, ?_⟩
        · rw [h4, hs1]; rfl
        · intro i c hc
          cases i with
          | zero =>
            simp only [List.getElem?_cons_zero, Option.some.injEq] at hc
            subst hc
            refine ⟨by simp, rfl, ?_, s1, hst, ?_, h3⟩
            · rw [hnone _ _ _ (by simp)]
            · unfold FD
              simp only [Nat.le_refl, decide_true, if_true]
              rw [hnone _ _ _ (by simp)]
              exact hs1
          | succ i =>
            simp only [List.getElem?_cons_succ] at hc
            obtain ⟨g1, g2, g3, s3, g4, g5, g6⟩ := h5 i c hc
            refine ⟨by simpa using g1, by rw [g2, hl1], ?_, s3, g4, ?_, g6⟩
            · rw [g3, hs1]
              conv => rhs; unfold FD
              simp
            · rw [g5, hs1]
              conv => rhs; unfold FD
              simp
      · cases h
    · cases h
end Rx
