/- The reckoner: whatever order is drawn, the same comes. -/
import Derived.Test.YtiipaicbbmkagaaRx9
namespace Rx
set_option linter.all false
open Go

theorem runRec_os {P : Program} {E : ExtF} {call : CallF} {ops : Array Oper} : ∀ {l : List Oper} {s s' : St} {crs : List CR}, runRec P E call ops l s = some (s', crs) → crs.map (·.o) = l
  | [], s, s', crs, h => by simp only [runRec, Option.some.injEq, Prod.mk.injEq] at h; obtain ⟨_, rfl⟩ := h; rfl
  | o :: r, s, s', crs, h => by
    unfold runRec at h
    split at h
    · split at h
      · rename_i hr
        simp only [Option.some.injEq, Prod.mk.injEq] at h
        obtain ⟨_, rfl⟩ := h
        simp [runRec_os hr]
      · cases h
    · cases h

/-- a temporary, as the reckoner sees it and as the frame has it -/
def Same (m : Nat → Option Nat) (T : List SV) (tmps : Array Value) (d : Nat) : Prop :=
  match T[d]? with
  | some x => ∃ v, tmps[d]? = some v ∧ den m x = some v
  | none => tmps[d]? = none

theorem yS_same {m : Nat → Option Nat} {ops : Array Oper} {T : List SV} {tmps : Array Value} {j : Nat} (h : ∀ d, (ops[j]?).bind (·.dst) = some d → Same m T tmps d) : yielded ops tmps j = yS ops T j := by
  unfold yielded yS
  cases hd : (ops[j]?).bind (·.dst) with
  | none => simp
  | some d =>
    have h1 := h d hd
    unfold Same at h1
    simp only [Option.bind_some]
    cases ht : T[d]? with
    | none => rw [ht] at h1; rw [h1]
    | some x =>
      rw [ht] at h1
      obtain ⟨v, hv, hx⟩ := h1
      rw [hv]
      split
      · rename_i b hb
        simp only [Option.some.injEq] at hb; subst hb
        rcases den_bool hx with rfl | rfl <;> rfl
      · rename_i hnb
        split
        · rename_i c hc
          simp only [Option.some.injEq] at hc; subst hc
          simp only [den, Option.some.injEq] at hx; subst hx
          exact absurd rfl (hnb c)
        · rename_i c hc
          simp only [Option.some.injEq] at hc; subst hc
          simp only [den, Option.some.injEq] at hx; subst hx
          exact absurd rfl (hnb c)
        · rfl
theorem wantedS_same {m : Nat → Option Nat} {ops : Array Oper} {T : List SV} {tmps : Array Value} {o : Oper} (h : ∀ j want, o.guard = some (j, want) → ∀ d, (ops[j]?).bind (·.dst) = some d → Same m T tmps d) :
    Region.wanted o (yielded ops tmps) = wantedS ops T o := by
  unfold Region.wanted wantedS
  cases hg : o.guard with
  | none => rfl
  | some p =>
    obtain ⟨j, want⟩ := p
    simp only [yS_same (h j want hg)]
    cases yS ops T j with
    | none => rfl
    | some c => cases c <;> cases want <;> rfl

section
variable {P : Program} {E : ExtF} {call : CallF} {ops : Array Oper} {Q : Exit → Act → World → Prop}

theorem ancs_in {A : List Nat} {D : Nat → Bool} {listed : Array Bool} (hA : okAnc A ops.toList 0 = true) (hD : ∀ i, D i = listed.getD i false) (hsz : listed.size = ops.size)
    (hcl : ∀ (j : Nat) (o : Oper), ops[j]? = some o → D j = true → ∀ e ∈ o.after, Region.binds .any e = true → D e.on = true) :
    ∀ (j : Nat) (o : Oper), ops[j]? = some o → (∀ e ∈ o.after, Region.binds .any e = true → D e.on = true) → ∀ k, (A.getD j 0).testBit k = true → D k = true := by
  intro j
  induction j using Nat.strongRecOn with
  | _ j ih =>
    intro o ho hdir k hk
    have h1 := okAnc_ok hA j o (by simpa using ho)
    rw [Nat.zero_add] at h1
    obtain ⟨e, he, hb, hc⟩ := h1.1 k hk
    rcases hc with rfl | hc
    · exact hdir e he hb
    · have hlt := h1.2 e he hb
      have hDe := hdir e he hb
      have hin : e.on < ops.size := by
        rw [hD] at hDe
        rcases Nat.lt_or_ge e.on listed.size with h' | h'
        · omega
        · simp [Array.getElem?_eq_none h'] at hDe
      have ho' : ops[e.on]? = some ops[e.on] := by simp [hin]
      exact ih e.on hlt _ ho' (hcl e.on _ ho' hDe) k hc

theorem draw_step (hP : Good P E) (hcall : CallOk P call) {c : CR} {s1 : St} {D : Nat → Option Val} {N : Nat} {m : Nat → Option Nat} {a : Act} {w : World} {i : Nat}
    (hi : ops[i]? = some c.o) (hst : stepOp P E call ops c.o c.s = some (s1, c.e)) (ho : ObsOk s1.ob) (hT : c.s.T.length = N) (hd : ∀ d, c.o.dst = some d → d < N)
    (hS : StoreAt m D N a w) (hag : ∀ k, k ∈ usesOf ops c ∨ k ∈ wKeys c → D k = storeOf c.s k) {K : Act → World → Prop}
    (hk : ∀ m' a' w', StoreAt m' (upd (writes c) D) N a' w' → Goes m w m' w' → K a' w') : wpOp P ops Q i K a w := by
  have hsame : ∀ t, kt t ∈ usesOf ops c → Same m c.s.T a.tmps t := by
    intro t ht
    have h1 := hag _ (.inl ht)
    rw [storeOf_t] at h1
    unfold Same
    cases hx : c.s.T[t]? with
    | some x =>
      rw [hx] at h1
      exact hS.tm t x h1
    | none =>
      have : N ≤ t := by rw [← hT]; simpa using hx
      apply Array.getElem?_eq_none
      rw [hS.sz]; exact this
  have hwant : Region.wanted c.o (yielded ops a.tmps) = wantedS ops c.s.T c.o := wantedS_same fun j want hg d hdd => hsame d (by
    unfold usesOf
    rw [hg]
    simp [hdd])
  unfold wpOp
  simp only [hi]
  unfold stepOp at hst
  split at hst
  · rename_i hw
    rw [if_pos (by rw [hwant]; exact hw)]
    split at hst
    · rename_i e0 he
      split at hst
      · rename_i M' hM
        simp only [Option.some.injEq, Prod.mk.injEq] at hst
        obtain ⟨rfl, he0⟩ := hst
        left
        have hout : outOf c = e0.x := by unfold outOf; rw [← he0]
        have hwr : wrOf c = e0.wr := by unfold wrOf; rw [← he0]
        have hgo := evOp_ok hP hcall he (ObsOk.left (b := c.s.ob) ho) (m := m) (w := w) (ρv := a.eval) hS.ok
          (fun p hp hle => by
            have h1 := hag (kb p.1) (.inr (by unfold wKeys; rw [hwr]; simp only [List.mem_append, List.mem_map]; exact .inr ⟨p, hp, rfl⟩))
            rw [storeOf_b, List.getElem?_eq_none hle] at h1
            cases hmp : m p.1 with
            | none => rfl
            | some r0 => obtain ⟨b, hb⟩ := hS.md _ _ hmp; rw [h1] at hb; cases hb)
          (fun n hn b hb => by
            have h1 := hag (kb n) (.inl (by unfold usesOf; rw [← he0]; simp only [List.mem_append, List.mem_map]; exact .inr ⟨n, hn, rfl⟩))
            rw [storeOf_b, hb] at h1
            exact hS.bl n b h1)
          (fun y hy => by
            cases y with
            | tmp t =>
              have h1 := hsame t (by unfold usesOf; simp only [List.mem_append, List.mem_filterMap]; exact .inl (.inl ⟨.tmp t, by simpa using hy, rfl⟩))
              unfold Same at h1
              simp only [oper, Act.eval, List.getD]
              cases hx : c.s.T[t]? with
              | some x => rw [hx] at h1; obtain ⟨v, hv, hd'⟩ := h1; simp [hv, hd']
              | none => rw [hx] at h1; simp only at h1; simp [h1, den, dens, undef]
            | const v => exact den_ofV v
            | global g => simp [oper, den, Act.eval]
            | func f => simp [oper, den, dens, Act.eval])
        refine hgo a _ Q rfl fun v w' hpost => ?_
        obtain ⟨m', hp⟩ := hpost
        rw [← hout] at hp
        obtain ⟨h1, h2⟩ := hS.put hp hwr hd
        exact hk m' _ w' h1 h2
      · cases hst
    · cases hst
  · rename_i hw
    simp only [Option.some.injEq, Prod.mk.injEq] at hst
    obtain ⟨rfl, he0⟩ := hst
    rw [if_neg (by rw [hwant]; exact hw)]
    have hout : outOf c = .tup [] := by unfold outOf; rw [← he0]
    have hwr : wrOf c = [] := by unfold wrOf; rw [← he0]
    obtain ⟨h1, h2⟩ := hS.put (OpPost.pure hS.ok (by rw [hout]; exact undef_den m)) hwr hd
    exact hk m _ w h1 h2

theorem runDraw_ok (hP : Good P E) (hcall : CallOk P call) {s s' : St} (h : runDraw P E call ops s = some s') (ho : ObsOk s'.ob) {m : Nat → Option Nat} {a : Act} {w : World} (hs : StAt m s a w) {id : Nat}
    (hq : ∀ m' a' w', StAt m' s' a' w' → Goes m w m' w' → Q .normal a' w') : (Code.region id ops true).wp P Q a w := by
  unfold runDraw at h
  split at h
  · rename_i s2 crs hrec
    split at h
    · rename_i hok
      simp only [Option.some.injEq] at h; subst h
      unfold okDraw at hok
      simp only [Bool.and_eq_true] at hok
      obtain ⟨hA, hpairs⟩ := hok
      generalize ancs ops.toList [] = A at hA hpairs
      obtain ⟨p1, _, p3⟩ := okPairs_ok hpairs
      have hos := runRec_os hrec
      have hdst : ∀ o ∈ ops.toList, ∀ d, o.dst = some d → d < s.T.length := by
        intro o ho d hd
        rw [← hos] at ho
        obtain ⟨c, hc, rfl⟩ := List.mem_map.1 ho
        obtain ⟨i, hi⟩ := List.getElem?_of_mem hc
        exact p1 i c hi d hd
      obtain ⟨hlen, hTl, _, hfin, hcr⟩ := runRec_ok hrec hdst
      have hlen' : crs.length = ops.size := by rw [hlen]; simp
      have hex : ∀ i, i < ops.size → ∃ c, crs[i]? = some c := fun i hi => ⟨crs[i]'(by omega), by simp [hlen', hi]⟩
      refine wp_region_any hP.mixed ?_
      have getIn : ∀ (listed : Array Bool) (j : Nat), listed.getD j false = true → j < listed.size := by
        intro listed j hj
        rcases Nat.lt_or_ge j listed.size with h' | h'
        · exact h'
        · simp [Array.getElem?_eq_none h'] at hj
      have done : ∀ (listed : Array Bool) (m1 : Nat → Option Nat) (a1 : Act) (w1 : World), (∀ j, j < ops.size → listed.getD j false = true) →
          StoreAt m1 (FD crs (fun i => listed.getD i false) (storeOf s)) s.T.length a1 w1 → Goes m w m1 w1 → Q .normal a1 w1 := by
        intro listed m1 a1 w1 hall hS hg
        have hF : FD crs (fun i => listed.getD i false) (storeOf s) = storeOf s2 := by
          rw [hfin]
          funext k
          refine FD_congr (fun i c hc _ => ?_) rfl
          refine hall i ?_
          rcases Nat.lt_or_ge i crs.length with h' | h'
          · omega
          · rw [List.getElem?_eq_none h'] at hc; cases hc
        rw [hF, ← hTl] at hS
        exact hq m1 a1 w1 hS.to hg
      have allIn : ∀ (listed : Array Bool), listed.size = ops.size → Region.ready .any ops listed = [] → ∀ j, j < ops.size → listed.getD j false = true := by
        intro listed hsz hr j
        induction j using Nat.strongRecOn with
        | _ j ihj =>
          intro hj
          cases hD : listed.getD j false with
          | true => rfl
          | false =>
            exfalso
            have hmem : j ∈ Region.ready .any ops listed := by
              refine mem_ready.2 ⟨?_, ops[j], by simp [hj], fun e he hb => ?_⟩
              · have : j < listed.size := by omega
                simp [this] at hD ⊢
                exact hD
              · have h1 := okAnc_ok hA j ops[j] (by simp [hj])
                rw [Nat.zero_add] at h1
                have hlt := h1.2 e he hb
                exact ihj e.on hlt (by omega)
            rw [hr] at hmem; cases hmem
      have main : ∀ (fuel : Nat) (listed : Array Bool) (R : List Nat) (m1 : Nat → Option Nat) (a1 : Act) (w1 : World), listed.size = ops.size →
          (∀ (j : Nat) (o : Oper), ops[j]? = some o → listed.getD j false = true → ∀ e ∈ o.after, Region.binds .any e = true → listed.getD e.on false = true) →
          (∀ j, j < ops.size → listed.getD j false = true ∨ j ∈ R) → R.length ≤ fuel →
          StoreAt m1 (FD crs (fun i => listed.getD i false) (storeOf s)) s.T.length a1 w1 → Goes m w m1 w1 → wpAny P .any ops Q fuel listed a1 w1 := by
        intro fuel
        induction fuel with
        | zero =>
          intro listed R m1 a1 w1 hsz hcl hrem hR hS hg
          have hR0 : R = [] := by cases R with | nil => rfl | cons x l => simp at hR
          have hall : ∀ j, j < ops.size → listed.getD j false = true := fun j hj => (hrem j hj).resolve_right (by rw [hR0]; simp)
          refine ⟨?_, done listed m1 a1 w1 hall hS hg⟩
          cases hr : Region.ready .any ops listed with
          | nil => rfl
          | cons x l =>
            exfalso
            have hx : x ∈ Region.ready .any ops listed := by rw [hr]; simp
            obtain ⟨h1, o, ho, _⟩ := mem_ready.1 hx
            have hlt : x < ops.size := (Array.getElem?_eq_some_iff.1 ho).1
            have h2 := hall x hlt
            have hlt2 := getIn listed x h2
            simp [hlt2] at h1 h2
            rw [h1] at h2; cases h2
        | succ fuel ih =>
          intro listed R m1 a1 w1 hsz hcl hrem hR hS hg
          refine ⟨fun hr => done listed m1 a1 w1 (allIn listed hsz hr) hS hg, fun i hi => ?_⟩
          obtain ⟨hun, o, hio, hpre⟩ := mem_ready.1 hi
          have hlt : i < ops.size := (Array.getElem?_eq_some_iff.1 hio).1
          have hltl : i < listed.size := by omega
          have hDi : listed.getD i false = false := by simp [hltl] at hun ⊢; exact hun
          obtain ⟨c, hc⟩ := hex i hlt
          obtain ⟨g1, g2, g3, s1, g4, g5, g6⟩ := hcr i c hc
          have hco : ops[i]? = some c.o := by simpa using g1
          have hoc : o = c.o := by rw [hio] at hco; exact Option.some.inj hco
          subst hoc
          have hanc := ancs_in (D := fun i => listed.getD i false) (listed := listed) hA (fun _ => rfl) hsz hcl
          have order : ∀ k, (k ∈ usesOf ops c ∨ k ∈ wKeys c) → ∀ (i' : Nat) (c' : CR), crs[i']? = some c' → k ∈ wKeys c' → i' ≠ i → listed.getD i' false = decide (i' < i) := by
            intro k hk i' c' hc' hk' hne
            have hlt' : i' < ops.size := by
              rcases Nat.lt_or_ge i' crs.length with h' | h'
              · omega
              · rw [List.getElem?_eq_none h'] at hc'; cases hc'
            rcases Nat.lt_or_gt_of_ne hne with hl | hl
            · rw [decide_eq_true hl]
              rcases p3 i' i c' c hl hc' hc with h1 | h1
              · rw [Nat.zero_add, Nat.zero_add] at h1
                exact hanc i _ hio hpre i' h1
              · exact ((h1 k).1 hk' hk).elim
            · rw [decide_eq_false (by omega)]
              cases hD' : listed.getD i' false with
              | false => rfl
              | true =>
                exfalso
                have hio' : ops[i']? = some ops[i'] := by simp [hlt']
                rcases p3 i i' c c' hl hc hc' with h1 | h1
                · rw [Nat.zero_add, Nat.zero_add] at h1
                  have := hanc i' _ hio' (hcl i' _ hio' hD') i h1
                  exact absurd (hDi.symm.trans this) (by decide)
                · rcases hk with hk | hk
                  · exact (h1 k).2 hk hk'
                  · exact (h1 k).1 hk (.inr hk')
          have hag : ∀ k, k ∈ usesOf ops c ∨ k ∈ wKeys c → FD crs (fun i => listed.getD i false) (storeOf s) k = storeOf c.s k := by
            intro k hk
            rw [g3]
            refine FD_congr (fun i' c' hc' hk' => ?_) rfl
            by_cases hne : i' = i
            · subst hne; rw [hDi]; simp
            · exact order k hk i' c' hc' hk' hne
          have hds : ∀ d, c.o.dst = some d → d < s.T.length := fun d hd => p1 i c hc d hd
          obtain ⟨hs1, _⟩ := stepOp_store g4 (by rw [g2]; exact hds)
          have hset : ∀ j, (listed.setIfInBounds i true).getD j false = if j = i then true else listed.getD j false := by
            intro j
            by_cases e : j = i
            · subst e; simp [hltl]
            · rw [if_neg e, getD_set_ne false (fun h => e h.symm)]
          have hFD : FD crs (fun j => (listed.setIfInBounds i true).getD j false) (storeOf s) = upd (writes c) (FD crs (fun i => listed.getD i false) (storeOf s)) := by
            funext k
            by_cases hk : k ∈ wKeys c
            · have h1 : k ∈ (writes c).map (·.1) := by rw [wKeys_eq]; exact hk
              have h2 : upd (writes c) (FD crs (fun i => listed.getD i false) (storeOf s)) k = storeOf s1 k := by
                rw [hs1]; exact upd_same h1
              rw [h2, g5]
              refine FD_congr (fun i' c' hc' hk' => ?_) rfl
              rw [hset]
              by_cases hne : i' = i
              · subst hne; simp
              · rw [if_neg hne, order k (.inr hk) i' c' hc' hk' hne]
                by_cases hl : i' < i
                · simp [hl, Nat.le_of_lt hl]
                · have : ¬ i' ≤ i := by omega
                  simp [hl, this]
            · have h1 : k ∉ (writes c).map (·.1) := by rw [wKeys_eq]; exact hk
              rw [upd_other h1]
              refine FD_congr (fun i' c' hc' hk' => ?_) rfl
              rw [hset]
              by_cases hne : i' = i
              · subst hne
                rw [hc] at hc'
                simp only [Option.some.injEq] at hc'; subst hc'
                exact absurd hk' hk
              · rw [if_neg hne]
          have ho1 : ObsOk s1.ob := g6.ok ho
          refine draw_step hP hcall hco g4 ho1 g2 hds hS hag fun m' a' w' hS' hg' => ?_
          rw [← hFD] at hS'
          refine ih (listed.setIfInBounds i true) (R.erase i) m' a' w' (by simpa using hsz) ?_ ?_ ?_ hS' (hg.trans hg')
          · intro j oj hj hDj e he hb
            rw [hset]
            by_cases e1 : e.on = i
            · rw [if_pos e1]
            · rw [if_neg e1]
              rw [hset] at hDj
              by_cases e2 : j = i
              · subst e2
                rw [hio] at hj
                simp only [Option.some.injEq] at hj; subst hj
                exact hpre e he hb
              · rw [if_neg e2] at hDj
                exact hcl j oj hj hDj e he hb
          · intro j hj
            rw [hset]
            by_cases e2 : j = i
            · left; rw [if_pos e2]
            · rw [if_neg e2]
              rcases hrem j hj with h1 | h1
              · exact .inl h1
              · exact .inr ((List.mem_erase_of_ne e2).2 h1)
          · have hin : i ∈ R := (hrem i hlt).resolve_left (by rw [hDi]; simp)
            rw [List.length_erase_of_mem hin]; omega
      have hnone : ∀ (crs : List CR) (D : Nat → Bool) (F : Nat → Option Val), (∀ i, D i = false) → FD crs D F = F := by
        intro crs
        induction crs with
        | nil => intro D F _; rfl
        | cons c r ih => intro D F hD; unfold FD; rw [hD 0]; exact ih _ _ fun i => hD (i + 1)
      have hfalse : ∀ j, (Array.replicate ops.size false).getD j false = false := by
        intro j
        rcases Nat.lt_or_ge j ops.size with h' | h' <;> simp [h']
      have hs' : StAt m s a { w with drawn := w.drawn + 1 } := ⟨hs.tm, hs.df, ⟨⟨hs.mem.ok.inj, hs.mem.ok.lt⟩, hs.mem.blk, hs.mem.dom⟩⟩
      refine main ops.size _ (List.range ops.size) m a _ (by simp) ?_ ?_ (by simp) ?_ ?_
      · intro j o _ hD
        rw [hfalse] at hD; cases hD
      · intro j hj; right; simpa using hj
      · rw [hnone _ _ _ hfalse]
        exact StoreAt.of hs'
      · exact ⟨Ext.refl m, Fr.drew _ w, fun n r h => .inl h⟩
    · cases h
  · cases h
end
end Rx
