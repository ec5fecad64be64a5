/- The reckoner: calls. -/
import Derived.Test.YtiipaicbbmkagaaRx5
namespace Rx
set_option linter.all false
open Go

mutual
def ren (ρ : Nat → Option Nat) : SV → Option SV
  | .p n off => (ρ n).map fun k => .p k off
  | .sl n off len cap => (ρ n).map fun k => .sl k off len cap
  | .fn f first cap => (rens ρ first).bind fun x => (rens ρ cap).map fun y => .fn f x y
  | .agg l => (rens ρ l).map .agg
  | .tup l => (rens ρ l).map .tup
  | .b c => some (.b c)
  | .i k n => some (.i k n)
  | .si k n => some (.si k n)
  | .f x => some (.f x)
  | .fl x => some (.fl x)
  | .np => some .np
  | .o v => some (.o v)
def rens (ρ : Nat → Option Nat) : List SV → Option (List SV)
  | [] => some []
  | x :: l => (ren ρ x).bind fun y => (rens ρ l).map fun r => y :: r
end
mutual
def idsOf : SV → List Nat
  | .p n _ => [n]
  | .sl n _ _ _ => [n]
  | .fn _ first cap => idsOfs first ++ idsOfs cap
  | .agg l => idsOfs l
  | .tup l => idsOfs l
  | _ => []
def idsOfs : List SV → List Nat
  | [] => []
  | x :: l => idsOf x ++ idsOfs l
end

section
variable {m m' : Nat → Option Nat} {ρ : Nat → Option Nat}
mutual
theorem ren_ok (h : ∀ n k, ρ n = some k → ∀ r, m n = some r → m' k = some r) : ∀ {x y : SV} {v : Value}, ren ρ x = some y → den m x = some v → den m' y = some v
  | .p n off, y, v, h1, h2 => by
    simp only [ren, Option.map_eq_some_iff] at h1
    obtain ⟨k, hk, rfl⟩ := h1
    simp only [den, Option.map_eq_some_iff] at h2 ⊢
    obtain ⟨r, hr, e⟩ := h2
    exact ⟨r, h n k hk r hr, e⟩
  | .sl n off len cap, y, v, h1, h2 => by
    simp only [ren, Option.map_eq_some_iff] at h1
    obtain ⟨k, hk, rfl⟩ := h1
    simp only [den, Option.map_eq_some_iff] at h2 ⊢
    obtain ⟨r, hr, e⟩ := h2
    exact ⟨r, h n k hk r hr, e⟩
  | .fn f first cap, y, v, h1, h2 => by
    simp only [ren, Option.bind_eq_some_iff, Option.map_eq_some_iff] at h1
    obtain ⟨a, ha, b, hb, rfl⟩ := h1
    simp only [den, Option.bind_eq_some_iff, Option.map_eq_some_iff] at h2 ⊢
    obtain ⟨x, hx, z, hz, e⟩ := h2
    exact ⟨x, rens_ok h ha hx, z, rens_ok h hb hz, e⟩
  | .agg l, y, v, h1, h2 => by
    simp only [ren, Option.map_eq_some_iff] at h1
    obtain ⟨a, ha, rfl⟩ := h1
    simp only [den, Option.map_eq_some_iff] at h2 ⊢
    obtain ⟨x, hx, e⟩ := h2
    exact ⟨x, rens_ok h ha hx, e⟩
  | .tup l, y, v, h1, h2 => by
    simp only [ren, Option.map_eq_some_iff] at h1
    obtain ⟨a, ha, rfl⟩ := h1
    simp only [den, Option.map_eq_some_iff] at h2 ⊢
    obtain ⟨x, hx, e⟩ := h2
    exact ⟨x, rens_ok h ha hx, e⟩
  | .b c, y, v, h1, h2 => by simp only [ren, Option.some.injEq] at h1; subst h1; simpa [den] using h2
  | .i k n, y, v, h1, h2 => by simp only [ren, Option.some.injEq] at h1; subst h1; simpa [den] using h2
  | .si k n, y, v, h1, h2 => by simp only [ren, Option.some.injEq] at h1; subst h1; simpa [den] using h2
  | .f x, y, v, h1, h2 => by simp only [ren, Option.some.injEq] at h1; subst h1; simpa [den] using h2
  | .fl x, y, v, h1, h2 => by simp only [ren, Option.some.injEq] at h1; subst h1; simpa [den] using h2
  | .np, y, v, h1, h2 => by simp only [ren, Option.some.injEq] at h1; subst h1; simpa [den] using h2
  | .o u, y, v, h1, h2 => by simp only [ren, Option.some.injEq] at h1; subst h1; simpa [den] using h2
theorem rens_ok (h : ∀ n k, ρ n = some k → ∀ r, m n = some r → m' k = some r) : ∀ {l y : List SV} {vs : List Value}, rens ρ l = some y → dens m l = some vs → dens m' y = some vs
  | [], y, vs, h1, h2 => by simp only [rens, Option.some.injEq] at h1; subst h1; simpa [dens] using h2
  | x :: l, y, vs, h1, h2 => by
    simp only [rens, Option.bind_eq_some_iff, Option.map_eq_some_iff] at h1
    obtain ⟨a, ha, b, hb, rfl⟩ := h1
    obtain ⟨v, us, c, d, rfl⟩ := dens_cons_some.1 h2
    exact dens_cons (ren_ok h ha c) (rens_ok h hb d)
end
end

def reach (get : Nat → Option Blk) : Nat → List Nat → List Nat → List Nat
  | 0, _, acc => acc
  | _ + 1, [], acc => acc
  | f + 1, n :: todo, acc =>
    if acc.contains n then reach get f todo acc
    else match get n with
      | some b => reach get f (idsOfs b.cells ++ todo) (acc ++ [n])
      | none => reach get f todo acc
def posFrom : List Nat → Nat → Nat → Option Nat
  | [], _, _ => none
  | a :: l, j, n => if a = n then some j else posFrom l (j + 1) n
def posOf (ids : List Nat) (n : Nat) : Option Nat := posFrom ids 0 n
theorem posFrom_ok : ∀ {ids : List Nat} {j n k : Nat}, posFrom ids j n = some k → j ≤ k ∧ ids[k - j]? = some n
  | [], j, n, k, h => by simp [posFrom] at h
  | a :: l, j, n, k, h => by
    unfold posFrom at h
    split at h
    · rename_i e
      simp only [Option.some.injEq] at h; subst h
      simp [e]
    · obtain ⟨h1, h2⟩ := posFrom_ok h
      refine ⟨by omega, ?_⟩
      rw [show k - j = (k - (j + 1)) + 1 from by omega]
      simpa using h2
theorem posOf_ok {ids : List Nat} {n k : Nat} (h : posOf ids n = some k) : ids[k]? = some n := by
  have := (posFrom_ok h).2
  simpa using this

def nodupB : List Nat → Bool
  | [] => true
  | a :: l => !l.contains a && nodupB l
theorem nodupB_ok : ∀ {l : List Nat}, nodupB l = true → ∀ {i j n : Nat}, l[i]? = some n → l[j]? = some n → i = j
  | [], _, i, j, n, h1, _ => by simp at h1
  | a :: l, h, i, j, n, h1, h2 => by
    simp only [nodupB, Bool.and_eq_true, Bool.not_eq_true', List.contains_eq_mem, decide_eq_false_iff_not] at h
    cases i with
    | zero =>
      cases j with
      | zero => rfl
      | succ j =>
        simp at h1 h2
        subst h1
        exact absurd (List.mem_of_getElem? h2) h.1
    | succ i =>
      cases j with
      | zero =>
        simp at h1 h2
        subst h2
        exact absurd (List.mem_of_getElem? h1) h.1
      | succ j =>
        simp at h1 h2
        rw [nodupB_ok h.2 h1 h2]

abbrev CallF := FuncId → List SV → List Blk → Dec → Option (SV × List Blk × Dec × Obs)

structure MemAt (m : Nat → Option Nat) (w : World) (M : List Blk) : Prop where
  ok : NameOk m w
  blk : ∀ n b, M[n]? = some b → ∃ r, m n = some r ∧ BlkAt m w r b
  dom : ∀ n r, m n = some r → n < M.length

structure CallPost (m : Nat → Option Nat) (w : World) (M : List Blk) (x : SV) (M' : List Blk) (m' : Nat → Option Nat) (v : Value) (w' : World) : Prop where
  ext : Ext m m'
  val : den m' x = some v
  mem : MemAt m' w' M'
  len : M.length ≤ M'.length
  fr : Fr (fun r => ∃ n, m n = some r) w w'
  new : ∀ n r, m' n = some r → m n = some r ∨ w.heap.size ≤ r

def CallOk (P : Program) (call : CallF) : Prop :=
  ∀ g args M ds x M' ds' ob, call g args M ds = some (x, M', ds', ob) → ObsOk ob → ∀ m w vs, dens m args = some vs → MemAt m w M →
    Calls P g vs.toArray w fun e w' => ∃ m' v, e = .returned v ∧ CallPost m w M x M' m' v w'

def backOf (ids : List Nat) (fresh n' : Nat) (j : Nat) : Option Nat :=
  if j < ids.length then ids[j]? else if j < n' then some (fresh + (j - ids.length)) else none

def backAll (ids : List Nat) (fresh n' : Nat) (x : SV) (M' : List Blk) : Option (SV × List (Nat × Blk)) :=
  (ren (backOf ids fresh n') x).bind fun y =>
    ((List.range n').mapM fun j => (M'[j]?).bind fun b => (rens (backOf ids fresh n') b.cells).bind fun cs => (backOf ids fresh n' j).map fun id => (id, (⟨b.elem, cs⟩ : Blk))).map fun wr => (y, wr)

def sameS : SV → SV → Bool
  | .p a b, .p c d => Nat.beq a c && Nat.beq b d
  | .np, .np => true
  | _, _ => false
def sameL : List SV → List SV → Bool
  | [], [] => true
  | x :: l, y :: r => sameS x y && sameL l r
  | _, _ => false
theorem sameS_ok {x y : SV} (h : sameS x y = true) : x = y := by
  unfold sameS at h
  split at h
  · simp only [Bool.and_eq_true] at h
    rw [Nat.eq_of_beq_eq_true h.1, Nat.eq_of_beq_eq_true h.2]
  · rfl
  · cases h
theorem sameL_ok : ∀ {x y : List SV}, sameL x y = true → x = y
  | [], [], _ => rfl
  | x :: l, y :: r, h => by
    simp only [sameL, Bool.and_eq_true] at h
    rw [sameS_ok h.1, sameL_ok h.2]
  | [], _ :: _, h => by cases h
  | _ :: _, [], h => by cases h
def sameBlk (a b : Blk) : Bool := sameL a.cells b.cells && Nat.beq a.elem b.elem
theorem sameBlk_ok {a b : Blk} (h : sameBlk a b = true) : a = b := by
  simp only [sameBlk, Bool.and_eq_true] at h
  cases a; cases b
  simp only at h
  rw [Nat.eq_of_beq_eq_true h.2, sameL_ok h.1]
def sameW (ids : List Nat) (get : Nat → Option Blk) (p : Nat × Blk) : Bool :=
  ids.any (Nat.beq p.1) && match get p.1 with
    | some b => sameBlk b p.2
    | none => false
/-- what is written, but for what stands there already -/
def keepW (ids : List Nat) (get : Nat → Option Blk) (wr : List (Nat × Blk)) : List (Nat × Blk) := wr.filter fun p => !sameW ids get p
theorem sameW_ok {ids : List Nat} {get : Nat → Option Blk} {p : Nat × Blk} (h : sameW ids get p = true) : p.1 ∈ ids ∧ get p.1 = some p.2 := by
  simp only [sameW, Bool.and_eq_true] at h
  obtain ⟨h1, h2⟩ := h
  refine ⟨?_, ?_⟩
  · obtain ⟨n, hn, he⟩ := List.any_eq_true.1 h1
    rw [Nat.eq_of_beq_eq_true he]; exact hn
  · split at h2
    · rename_i b hb
      rw [hb, sameBlk_ok h2]
    · cases h2
theorem OpPost.keep {m m' : Nat → Option Nat} {w w' : World} {y : SV} {wr : List (Nat × Blk)} {v : Value} {ids : List Nat} {get : Nat → Option Blk} (h : OpPost m w y wr m' v w')
    (hold : ∀ n ∈ ids, ∀ b, get n = some b → ∃ r, m n = some r ∧ BlkAt m w r b) : OpPost m w y (keepW ids get wr) m' v w' := by
  have hs : ∀ p ∈ wr, p ∈ keepW ids get wr ∨ sameW ids get p = true := by
    intro p hp
    cases hc : sameW ids get p
    · exact .inl (List.mem_filter.2 ⟨hp, by rw [hc]; rfl⟩)
    · exact .inr rfl
  refine ⟨h.ext, h.val, fun p hp => h.blk p (List.mem_filter.1 hp).1, ⟨h.fr.os, h.fr.tape, h.fr.output, h.fr.size, fun r hr hx => ?_⟩, fun n r hr => ?_, h.ok⟩
  · by_cases hk : ∃ p ∈ wr, m p.1 = some r
    · obtain ⟨p, hp, hm⟩ := hk
      rcases hs p hp with h1 | h1
      · exact absurd ⟨p, h1, hm⟩ hx
      · obtain ⟨h2, h3⟩ := sameW_ok h1
        obtain ⟨q, hq, cv, h4, h5⟩ := hold p.1 h2 p.2 h3
        obtain ⟨q', hq', cv', h6, h7⟩ := h.blk p hp
        rw [h.ext p.1 q hq] at hq'
        rw [hm] at hq
        simp only [Option.some.injEq] at hq hq'
        subst hq'; subst hq
        rw [dens_ext h.ext h4] at h6
        rw [h5, h7, Option.some.inj h6]
    · exact h.fr.block r hr hk
  · rcases h.new n r hr with h1 | ⟨h1, p, hp, he⟩
    · exact .inl h1
    · rcases hs p hp with h2 | h2
      · exact .inr ⟨h1, p, h2, he⟩
      · obtain ⟨h3, h4⟩ := sameW_ok h2
        obtain ⟨q, hq, _⟩ := hold p.1 h3 p.2 h4
        have h5 := h.ext p.1 q hq
        rw [he] at hq h5
        rw [hr] at h5
        left
        rw [hq, ← h5]

def evCall (call : CallF) (get : Nat → Option Blk) (fresh : Nat) (ds : Dec) (g : FuncId) (args : List SV) : Option (SV × List (Nat × Blk) × List Nat × Dec × Obs) :=
  let ids := reach get 1000 (idsOfs args) []
  if nodupB ids && ids.all fun n => Nat.blt n fresh then
    match rens (posOf ids) args, (ids.mapM fun n => (get n).bind fun b => (rens (posOf ids) b.cells).map fun cs => (⟨b.elem, cs⟩ : Blk)) with
    | some args', some blks =>
      match call g args' blks ds with
      | some (x, M', ds', ob) =>
        match backAll ids fresh ids.length x M' with
        | some (y, wr) => some (y, keepW ids get wr, ids, ds', ob)
        | none => if Nat.ble ids.length M'.length then (backAll ids fresh M'.length x M').map fun q => (q.1, keepW ids get q.2, ids, ds', ob) else none
      | none => none
    | _, _ => none
  else none

theorem mapM_get {α β : Type} {f : α → Option β} : ∀ {l : List α} {r : List β}, l.mapM f = some r → r.length = l.length ∧ ∀ (j : Nat) (a : α), l[j]? = some a → ∃ b, f a = some b ∧ r[j]? = some b
  | [], r, h => by simp at h; subst h; simp
  | x :: l, r, h => by
    simp only [List.mapM_cons, Option.bind_eq_bind, Option.bind_eq_some_iff, pure, Option.some.injEq] at h
    obtain ⟨b, hb, bs, hbs, rfl⟩ := h
    obtain ⟨h1, h2⟩ := mapM_get hbs
    refine ⟨by simp [h1], ?_⟩
    intro j a ha
    cases j with
    | zero => simp at ha; subst ha; exact ⟨b, hb, by simp⟩
    | succ j => simp at ha; obtain ⟨c, hc, hr⟩ := h2 _ _ ha; exact ⟨c, hc, by simpa using hr⟩
theorem mapM_mem {α β : Type} {f : α → Option β} : ∀ {l : List α} {r : List β}, l.mapM f = some r → ∀ {b : β}, b ∈ r → ∃ a ∈ l, f a = some b
  | [], r, h, b, hb => by simp at h; subst h; simp at hb
  | x :: l, r, h, b, hb => by
    simp only [List.mapM_cons, Option.bind_eq_bind, Option.bind_eq_some_iff, pure, Option.some.injEq] at h
    obtain ⟨c, hc, bs, hbs, rfl⟩ := h
    rcases List.mem_cons.1 hb with rfl | hb
    · exact ⟨x, by simp, hc⟩
    · obtain ⟨a, ha, hf⟩ := mapM_mem hbs hb
      exact ⟨a, by simp [ha], hf⟩

section
variable {P : Program} {m : Nat → Option Nat} {w : World}

/-- the names behind a call -/
def backName (m msub' : Nat → Option Nat) (k fresh n' : Nat) (n : Nat) : Option Nat :=
  match m n with
  | some r => some r
  | none => if fresh ≤ n ∧ n - fresh + k < n' then msub' (n - fresh + k) else none

theorem backAll_ok {ids : List Nat} {fresh n' : Nat} {x y : SV} {M M' : List Blk} {wr : List (Nat × Blk)} {msub' : Nat → Option Nat} {v : Value} {w' : World}
    (hb : backAll ids fresh n' x M' = some (y, wr)) (hm : NameOk m w) (hk : ids.length ≤ n')
    (hids : ∀ n ∈ ids, ∃ r, m n = some r)
    (hc : CallPost (fun k => (ids[k]?).bind m) w M x M' msub' v w') (hnew : ∀ p ∈ wr, fresh ≤ p.1 → m p.1 = none) :
    ∃ m', OpPost m w y wr m' v w' := by
  unfold backAll at hb
  simp only [Option.bind_eq_some_iff, Option.map_eq_some_iff, Prod.mk.injEq] at hb
  obtain ⟨y', hy, wr', hwr, rfl, rfl⟩ := hb
  have hwr2 : ∀ p ∈ wr', ∃ j b cs id, j < n' ∧ M'[j]? = some b ∧ rens (backOf ids fresh n') b.cells = some cs ∧ backOf ids fresh n' j = some id ∧ p = (id, ⟨b.elem, cs⟩) := by
    intro p hp
    obtain ⟨j, hj, hf⟩ := mapM_mem hwr hp
    simp only [Option.bind_eq_some_iff, Option.map_eq_some_iff] at hf
    obtain ⟨b, hb, cs, hcs, id, hid, he⟩ := hf
    exact ⟨j, b, cs, id, by simpa using hj, hb, hcs, hid, he.symm⟩
  have hwr3 : ∀ j, j < n' → ∃ p ∈ wr', backOf ids fresh n' j = some p.1 := by
    intro j hj
    obtain ⟨p, hf, hp⟩ := (mapM_get hwr).2 j j (by simp [hj])
    simp only [Option.bind_eq_some_iff, Option.map_eq_some_iff] at hf
    obtain ⟨b, hb, cs, hcs, id, hid, he⟩ := hf
    exact ⟨p, List.mem_of_getElem? hp, by rw [hid, ← he]⟩
  have hnone : ∀ j, ids.length ≤ j → j < n' → m (fresh + (j - ids.length)) = none := by
    intro j h1 h2
    obtain ⟨p, hp, he⟩ := hwr3 j h2
    unfold backOf at he
    rw [if_neg (by omega), if_pos h2] at he
    simp only [Option.some.injEq] at he
    rw [he]
    exact hnew p hp (by omega)
  have hback : ∀ j k, backOf ids fresh n' j = some k → ∀ r, msub' j = some r → backName m msub' ids.length fresh n' k = some r := by
    intro j k hj r hr
    unfold backOf at hj
    split at hj
    · rename_i hlt
      have := hids k (List.mem_of_getElem? hj)
      obtain ⟨q, hq⟩ := this
      have h1 : (fun k => (ids[k]?).bind m) j = some q := by simp only [hj, Option.bind_some, hq]
      have h2 := hc.ext j q h1
      rw [hr] at h2
      simp only [Option.some.injEq] at h2
      unfold backName
      rw [hq, h2]
    · split at hj
      · rename_i h1 h2
        simp only [Option.some.injEq] at hj; subst hj
        unfold backName
        rw [hnone j (by omega) h2]
        simp only []
        rw [if_pos (by omega), show fresh + (j - ids.length) - fresh + ids.length = j from by omega]
        exact hr
      · cases hj
  refine ⟨backName m msub' ids.length fresh n', ?_, ren_ok hback hy hc.val, ?_, ?_, ?_, ?_, ?_⟩
  · intro n r hr; unfold backName; rw [hr]
  · intro p hp
    obtain ⟨j, b, cs, id, hj, hb, hcs, hid, rfl⟩ := hwr2 p hp
    obtain ⟨r, hr, cv, hcv, hh⟩ := hc.mem.blk j b hb
    exact ⟨r, hback j id hid r hr, cv, rens_ok hback hcs hcv, hh⟩
  · refine hc.fr.mono fun r hr ⟨n, hn⟩ => ?_
    simp only [Option.bind_eq_some_iff] at hn
    obtain ⟨k, hk', hmk⟩ := hn
    have hlt' : n < ids.length := by
      rcases Nat.lt_or_ge n ids.length with h' | h'
      · exact h'
      · rw [List.getElem?_eq_none h'] at hk'; cases hk'
    obtain ⟨p, hp, he⟩ := hwr3 n (by omega)
    unfold backOf at he
    rw [if_pos hlt', hk'] at he
    simp only [Option.some.injEq] at he
    exact ⟨p, hp, by rw [← he]; exact hmk⟩
  · intro n r hr
    unfold backName at hr
    split at hr
    · rename_i q hq; exact .inl (by rw [hq]; exact hr)
    · split at hr
      · rename_i hcond
        rcases hc.new _ _ hr with h1 | h1
        · simp only [Option.bind_eq_some_iff] at h1
          obtain ⟨k, hk', _⟩ := h1
          rw [List.getElem?_eq_none (by omega)] at hk'; cases hk'
        · refine .inr ⟨h1, ?_⟩
          obtain ⟨p, hp, he⟩ := hwr3 (n - fresh + ids.length) (by omega)
          unfold backOf at he
          rw [if_neg (by omega), if_pos (by omega)] at he
          simp only [Option.some.injEq] at he
          exact ⟨p, hp, by omega⟩
      · cases hr
  · have hnewr : ∀ n r, (m n = none) → backName m msub' ids.length fresh n' n = some r → w.heap.size ≤ r ∧ fresh ≤ n ∧ msub' (n - fresh + ids.length) = some r := by
      intro n r hn hr
      unfold backName at hr
      rw [hn] at hr
      simp only [] at hr
      split at hr
      · rename_i hcond
        refine ⟨?_, hcond.1, hr⟩
        rcases hc.new _ _ hr with h1 | h1
        · simp only [Option.bind_eq_some_iff] at h1
          obtain ⟨k, hk', _⟩ := h1
          rw [List.getElem?_eq_none (by omega)] at hk'; cases hk'
        · exact h1
      · cases hr
    have hold : ∀ n q r, m n = some q → backName m msub' ids.length fresh n' n = some r → r = q := by
      intro n q r hn hr; unfold backName at hr; rw [hn] at hr; simp only [Option.some.injEq] at hr; exact hr.symm
    intro n n2 r h1 h2
    cases hn : m n with
    | some q =>
      have e1 := hold n q r hn h1
      cases hn2 : m n2 with
      | some q2 =>
        have e2 := hold n2 q2 r hn2 h2
        exact hm.inj n n2 r (by rw [hn, e1]) (by rw [hn2, e2])
      | none =>
        have := (hnewr n2 r hn2 h2).1
        have := hm.lt n q hn
        omega
    | none =>
      have a1 := hnewr n r hn h1
      cases hn2 : m n2 with
      | some q2 =>
        have e2 := hold n2 q2 r hn2 h2
        have := hm.lt n2 q2 hn2
        omega
      | none =>
        have a2 := hnewr n2 r hn2 h2
        have := hc.mem.ok.inj _ _ _ a1.2.2 a2.2.2
        omega
  · intro n r hr
    unfold backName at hr
    split at hr
    · rename_i q hq
      simp only [Option.some.injEq] at hr; subst hr
      exact Nat.lt_of_lt_of_le (hm.lt _ _ hq) hc.fr.size
    · split at hr
      · exact hc.mem.ok.lt _ _ hr
      · cases hr

theorem evCall_ok {call : CallF} {get : Nat → Option Blk} {fresh : Nat} {ds ds' : Dec} {g : FuncId} {args : List SV} {y : SV} {wr : List (Nat × Blk)} {rd : List Nat} {ob : Obs}
    (hcall : CallOk P call) (h : evCall call get fresh ds g args = some (y, wr, rd, ds', ob)) (ho : ObsOk ob) (hm : NameOk m w)
    (hnew : ∀ p ∈ wr, fresh ≤ p.1 → m p.1 = none) (hold : ∀ n ∈ rd, ∀ b, get n = some b → ∃ r, m n = some r ∧ BlkAt m w r b) {vs : List Value} (ha : dens m args = some vs) :
    Calls P g vs.toArray w fun e w' => ∃ v, e = .returned v ∧ ∃ m', OpPost m w y wr m' v w' := by
  unfold evCall at h
  simp only [] at h
  generalize hids : reach get 1000 (idsOfs args) [] = ids at h
  split at h
  · rename_i hchk
    simp only [Bool.and_eq_true, List.all_eq_true] at hchk
    split at h
    · rename_i args' blks hargs hblks
      split at h
      · rename_i x M' ds2 ob2 hcl
        have hmem := mapM_get hblks
        have key : ∀ n' wr0 y0, ids.length ≤ n' → backAll ids fresh n' x M' = some (y0, wr0) → keepW ids get wr0 = wr → y0 = y → rd = ids → ob2 = ob →
            Calls P g vs.toArray w fun e w' => ∃ v, e = .returned v ∧ ∃ m', OpPost m w y wr m' v w' := by
          intro n' wr0 y0 hk hback e1 e2 e3 e4
          subst e1 e2 e3 e4
          have hids' : ∀ n ∈ rd, ∃ r, m n = some r := by
            intro n hn
            obtain ⟨j, hj⟩ := List.getElem?_of_mem hn
            obtain ⟨b, hb, _⟩ := hmem.2 _ _ hj
            simp only [Option.bind_eq_some_iff] at hb
            obtain ⟨c, hc, _⟩ := hb
            obtain ⟨r, hr, _⟩ := hold n hn c hc
            exact ⟨r, hr⟩
          have hpos : ∀ n k, posOf rd n = some k → ∀ r, m n = some r → (fun k => (rd[k]?).bind m) k = some r := by
            intro n k hk r hr
            simp only [posOf_ok hk, Option.bind_some, hr]
          have hMA : MemAt (fun k => (rd[k]?).bind m) w blks := by
            refine ⟨⟨?_, ?_⟩, ?_, ?_⟩
            · intro i j r h1 h2
              simp only [Option.bind_eq_some_iff] at h1 h2
              obtain ⟨n1, a1, b1⟩ := h1
              obtain ⟨n2, a2, b2⟩ := h2
              have := hm.inj _ _ _ b1 b2
              subst this
              exact nodupB_ok hchk.1 a1 a2
            · intro i r h1
              simp only [Option.bind_eq_some_iff] at h1
              obtain ⟨n1, a1, b1⟩ := h1
              exact hm.lt _ _ b1
            · intro j b hb
              have hjl : j < rd.length := by
                rcases Nat.lt_or_ge j blks.length with h' | h'
                · rw [hmem.1] at h'; exact h'
                · rw [List.getElem?_eq_none h'] at hb; cases hb
              have hj : rd[j]? = some rd[j] := by simp [hjl]
              obtain ⟨b', hb', hget⟩ := hmem.2 _ _ hj
              rw [hb] at hget
              simp only [Option.some.injEq] at hget; subst hget
              simp only [Option.bind_eq_some_iff, Option.map_eq_some_iff] at hb'
              obtain ⟨c, hc, cs, hcs, rfl⟩ := hb'
              obtain ⟨r, hr, cv, hcv, hh⟩ := hold rd[j] (by simp) c hc
              exact ⟨r, by simp only [hj, Option.bind_some, hr], cv, rens_ok hpos hcs hcv, hh⟩
            · intro j r h1
              simp only [Option.bind_eq_some_iff] at h1
              obtain ⟨n1, a1, b1⟩ := h1
              rw [hmem.1]
              rcases Nat.lt_or_ge j rd.length with h' | h'
              · exact h'
              · rw [List.getElem?_eq_none h'] at a1; cases a1
          refine Calls.mono (hcall g args' blks ds x M' ds2 ob2 hcl ho _ w vs (rens_ok hpos hargs ha) hMA) fun e w' hh => ?_
          obtain ⟨m', v, rfl, hpost⟩ := hh
          have hnew2 : ∀ p ∈ wr0, fresh ≤ p.1 → m p.1 = none := by
            intro p hp hf
            cases hc : sameW rd get p
            · exact hnew p (List.mem_filter.2 ⟨hp, by rw [hc]; rfl⟩) hf
            · have h2 := (sameW_ok hc).1
              have := Nat.blt_eq.mp (hchk.2 p.1 h2)
              omega
          obtain ⟨m2, hp2⟩ := backAll_ok hback hm hk hids' hpost hnew2
          exact ⟨v, rfl, m2, hp2.keep hold⟩
        split at h
        · rename_i y1 wr1 hb1
          simp only [Option.some.injEq, Prod.mk.injEq] at h
          obtain ⟨rfl, rfl, rfl, _, rfl⟩ := h
          exact key _ _ _ (Nat.le_refl _) hb1 rfl rfl rfl rfl
        · split at h
          · rename_i hle
            simp only [Option.map_eq_some_iff, Prod.mk.injEq] at h
            obtain ⟨⟨y1, wr1⟩, hb1, rfl, rfl, rfl, _, rfl⟩ := h
            exact key _ _ _ (Nat.ble_eq.mp hle) hb1 rfl rfl rfl rfl
          · cases h
      · cases h
    · cases h
  · cases h
end
end Rx
