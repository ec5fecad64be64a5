/- The reckoner: operations on memory. The reckoner: calls. The reckoner: one operation, and operations one after another. -/
import Derived.Test.YtlhlcefkmhhmjaaGreatZ04
import Derived.Tactics
namespace Rx
set_option linter.all false
open Go

structure Blk where
  elem : TypeId
  cells : List SV

/-- a block of the model, by its cells -/
def BlkAt (m : Nat → Option Nat) (w : World) (r : Nat) (b : Blk) : Prop :=
  ∃ cv, dens m b.cells = some cv ∧ w.heap[r]? = some (.cells cv.toArray b.elem (0, 0))

/-- but for some blocks the world stays as it was -/
structure Fr (X : Nat → Prop) (w w' : World) : Prop where
  os : w'.os = w.os
  tape : w'.tape = w.tape
  output : w'.output = w.output
  size : w.heap.size ≤ w'.heap.size
  block : ∀ r, r < w.heap.size → ¬ X r → w'.heap[r]? = w.heap[r]?
theorem Fr.refl (X : Nat → Prop) (w : World) : Fr X w w := ⟨rfl, rfl, rfl, Nat.le_refl _, fun _ _ _ => rfl⟩
theorem Fr.trans {X Y : Nat → Prop} {a b c : World} (h : Fr X a b) (k : Fr Y b c) (hy : ∀ r, r < a.heap.size → Y r → X r) : Fr X a c :=
  ⟨k.os.trans h.os, k.tape.trans h.tape, k.output.trans h.output, Nat.le_trans h.size k.size,
    fun r hr hx => (k.block r (Nat.lt_of_lt_of_le hr h.size) fun y => hx (hy r hr y)).trans (h.block r hr hx)⟩
theorem Fr.mono {X Y : Nat → Prop} {a b : World} (h : Fr X a b) (hy : ∀ r, r < a.heap.size → X r → Y r) : Fr Y a b :=
  ⟨h.os, h.tape, h.output, h.size, fun r hr hn => h.block r hr fun x => hn (hy r hr x)⟩
theorem Fr.drew (X : Nat → Prop) (w : World) : Fr X w { w with drawn := w.drawn + 1 } := ⟨rfl, rfl, rfl, Nat.le_refl _, fun _ _ _ => rfl⟩

structure NameOk (m : Nat → Option Nat) (w : World) : Prop where
  inj : ∀ n n' r, m n = some r → m n' = some r → n = n'
  lt : ∀ n r, m n = some r → r < w.heap.size

/-- what an operation leaves -/
structure OpPost (m : Nat → Option Nat) (w : World) (x : SV) (wr : List (Nat × Blk)) (m' : Nat → Option Nat) (v : Value) (w' : World) : Prop where
  ext : Ext m m'
  val : den m' x = some v
  blk : ∀ p ∈ wr, ∃ r, m' p.1 = some r ∧ BlkAt m' w' r p.2
  fr : Fr (fun r => ∃ p ∈ wr, m p.1 = some r) w w'
  new : ∀ n r, m' n = some r → m n = some r ∨ (w.heap.size ≤ r ∧ ∃ p ∈ wr, p.1 = n)
  ok : NameOk m' w'

theorem OpPost.pure {m : Nat → Option Nat} {w : World} {x : SV} {v : Value} (hm : NameOk m w) (h : den m x = some v) : OpPost m w x [] m v w :=
  ⟨Ext.refl m, h, by simp, Fr.refl _ _, fun n r hr => .inl hr, hm⟩

/-- the operation goes, and then what is asked holds -/
def OpGoes (P : Program) (o : Oper) (ρv : Operand → Value) (w : World) (Φ : Value → World → Prop) : Prop :=
  ∀ (a : Act) (K : Act → World → Prop) (Q : Exit → Act → World → Prop), execOp a.eval o = execOp ρv o → (∀ v w', Φ v w' → K (a.put o.dst v) w') → o.wp P a w K Q
theorem OpGoes.value {P : Program} {o : Oper} {ρv : Operand → Value} {w w' : World} {v : Value} {Φ : Value → World → Prop} (h : (execOp ρv o).run P w = .ok (.value v) w') (hp : Φ v w') : OpGoes P o ρv w Φ := by
  intro a K Q he hk
  unfold Oper.wp
  rw [he, h]
  exact hk _ _ hp
theorem OpGoes.skip {P : Program} {o : Oper} {ρv : Operand → Value} {w w' : World} {Φ : Value → World → Prop} (h : (execOp ρv o).run P w = .ok .skip w') (hp : Φ undef w') : OpGoes P o ρv w Φ := by
  intro a K Q he hk
  unfold Oper.wp
  rw [he, h]
  exact hk _ _ hp
theorem OpGoes.enter {P : Program} {o : Oper} {ρv : Operand → Value} {w w' : World} {f : FuncId} {args : Array Value} {Φ : Value → World → Prop} (h : (execOp ρv o).run P w = .ok (.enter f args) w')
    (hp : Calls P f args w' fun e w'' => ∃ v, e = .returned v ∧ Φ v w'') : OpGoes P o ρv w Φ := by
  intro a K Q he hk
  unfold Oper.wp
  rw [he, h]
  refine Calls.mono hp fun e w'' hh => ?_
  obtain ⟨v, rfl, hv⟩ := hh
  exact hk _ _ hv
theorem OpGoes.mono {P : Program} {o : Oper} {ρv : Operand → Value} {w : World} {Φ Ψ : Value → World → Prop} (h : OpGoes P o ρv w Φ) (hp : ∀ v w', Φ v w' → Ψ v w') : OpGoes P o ρv w Ψ :=
  fun a K Q he hk => h a K Q he fun v w' x => hk v w' (hp v w' x)

def loadS (P : Program) (t : TypeId) (b : Blk) (off : Nat) : Option SV :=
  match isAggT P t with
  | some true => match sizeT P t with
    | some s => if off + s ≤ b.cells.length then some (.agg ((b.cells.drop off).take s)) else none
    | none => none
  | some false => b.cells[off]?
  | none => none

section
variable {P : Program} {m : Nat → Option Nat} {w : World}
theorem blk_cell {r : Nat} {cv : List Value} {e : TypeId} {z : Nat × Nat} (h : w.heap[r]? = some (.cells cv.toArray e z)) (j : Nat) : w.cell? ⟨r, j, none⟩ = cv[j]? := by
  simp [World.cell?, h]
theorem loadS_ok {t : TypeId} {b : Blk} {off : Nat} {x : SV} {r : Nat} (h : loadS P t b off = some x) (hb : BlkAt m w r b) :
    ∃ v, den m x = some v ∧ (loadVar t ⟨r, off, none⟩).run P w = .ok v w := by
  obtain ⟨cv, hc, hh⟩ := hb
  have hl := dens_length hc
  unfold loadS at h
  split at h
  · rename_i ha
    split at h
    · rename_i s hs
      split at h
      · rename_i hle
        simp only [Option.some.injEq] at h; subst h
        refine ⟨.agg ((cv.drop off).take s).toArray, by simp [den, dens_take (dens_drop hc off) s], ?_⟩
        have hr := run_loadCells_list (P := P) w ⟨r, off, none⟩ ((cv.drop off).take s) (fun j v hj => by
          rw [Addr_add, blk_cell hh]
          by_cases hjs : j < s
          · rw [List.getElem?_take_of_lt hjs, List.getElem?_drop] at hj; exact hj
          · rw [List.getElem?_eq_none (by simp; omega)] at hj; cases hj)
        have hlen : ((cv.drop off).take s).length = s := by simp; omega
        rw [hlen] at hr
        simp only [loadVar, Sem.run_bind, run_isAgg ha, Result.andThen_ok, if_true, run_sizeOf hs, hr, Sem.run_pure]
      · cases h
    · cases h
  · rename_i ha
    obtain ⟨v, hv, hd⟩ := dens_get hc h
    refine ⟨v, hd, ?_⟩
    simp only [loadVar, Sem.run_bind, run_isAgg ha, Result.andThen_ok, Bool.false_eq_true, if_false, run_load, blk_cell hh, hv]
  · cases h

def SV.scalar : SV → Bool
  | .agg _ | .tup _ => false
  | .o v => v.oneCell'
  | _ => true
theorem scalar_ok {x : SV} {v : Value} (h : x.scalar = true) (hx : den m x = some v) : v.oneCell' = true := by
  cases x with
  | agg l => simp [SV.scalar] at h
  | tup l => simp [SV.scalar] at h
  | o u => simp only [den, Option.some.injEq] at hx; subst hx; exact h
  | _ =>
    simp only [den, Option.some.injEq, Option.map_eq_some_iff, Option.bind_eq_some_iff] at hx
    first
      | (subst hx; rfl)
      | (obtain ⟨_, _, rfl⟩ := hx; rfl)
      | (obtain ⟨_, _, _, _, rfl⟩ := hx; rfl)

theorem run_storeCells {r : Nat} {e : TypeId} {off : Nat} : ∀ {l : List SV} {vs : List Value} {i : Nat} {cv : List Value} {w : World}, dens m l = some vs → (l.all SV.scalar) = true → w.heap[r]? = some (.cells cv.toArray e (0, 0)) → off + i + vs.length ≤ cv.length →
    ∃ w', (storeCells ⟨r, off, none⟩ vs i).run P w = .ok () w' ∧ w'.heap[r]? = some (.cells (putRowV cv (off + i) vs).toArray e (0, 0)) ∧ (∀ k, k ≠ r → w'.heap[k]? = w.heap[k]?) ∧ w'.heap.size = w.heap.size ∧ w'.os = w.os ∧ w'.tape = w.tape ∧ w'.output = w.output
  | [], vs, i, cv, w, h1, h2, h3, h4 => by
    simp [dens] at h1; subst h1
    exact ⟨w, by simp [storeCells], by simpa [putRowV] using h3, fun _ _ => rfl, rfl, rfl, rfl, rfl⟩
  | x :: l, vs, i, cv, w, h1, h2, h3, h4 => by
    obtain ⟨v, us, a, b, rfl⟩ := dens_cons_some.1 h1
    simp only [List.all_cons, Bool.and_eq_true] at h2
    simp only [List.length_cons] at h4
    have hone := scalar_ok h2.1 a
    have hcell : w.cell? ⟨r, off + i, none⟩ = some (cv[off + i]'(by omega)) := by rw [blk_cell h3]; simp
    have hfz : w.frozen? ⟨r, off + i, none⟩ = false := by simp [World.frozen?, h3]
    have hrun : (store ((⟨r, off, none⟩ : Addr).add i) v).run P w = .ok () (w.setCell ⟨r, off + i, none⟩ v) := by
      rw [Addr_add, run_store P w _ v .plain hone, hcell]
      simp [hfz]
    have hh : (w.setCell ⟨r, off + i, none⟩ v).heap[r]? = some (.cells (cv.set (off + i) v).toArray e (0, 0)) := by
      simp only [World.setCell, Array.getElem?_modify, if_true, h3, Option.map_some]
      simp
    have hlen : off + (i + 1) + us.length ≤ (cv.set (off + i) v).length := by rw [List.length_set]; omega
    obtain ⟨w', g1, g2, g3, g4, g5, g6, g7⟩ := run_storeCells (vs := us) (cv := cv.set (off + i) v) (i := i + 1) (w := w.setCell ⟨r, off + i, none⟩ v) b h2.2 hh hlen
    refine ⟨w', ?_, ?_, ?_, ?_, g5, g6, g7⟩
    · simp only [storeCells, Sem.run_bind]
      rw [hrun]
      exact g1
    · simpa [putRowV, Nat.add_assoc] using g2
    · intro k hk
      rw [g3 k hk]
      simp only [World.setCell, Array.getElem?_modify]
      rw [if_neg (fun e => hk e.symm)]
    · rw [g4]; simp
end

/-- an operation on memory: what it leaves, which blocks it writes, which it reads -/
def evMem (P : Program) (ρ : Operand → SV) (get : Nat → Option Blk) (fresh : Nat) (o : Oper) : Option (SV × List (Nat × Blk) × List Nat) :=
  match o.op with
  | .alloc elem => match P.info? elem with
    | some ti => match ti.zero with
      | some z => some (.p fresh 0, [(fresh, ⟨elem, ofA z.cells⟩)], [])
      | none => none
    | none => none
  | .box elem x => some (.p fresh 0, [(fresh, ⟨elem, (ρ x).cells⟩)], [])
  | .buildSlice t len parts => match P.underlying t with
    | some (.slice elem) => match P.info? elem with
      | some ti => match ti.zero with
        | some z =>
          if len * ti.size ≤ 16777216 ∧ len * ti.size ≠ 0 then
            (fillS (fun i => some (i * ti.size, ti.size)) (ofA ((Array.range (len * ti.size)).map (z.cells[· % z.cells.size]!))) (parts.toList.map fun q => (q.1, ρ q.2))).map fun cells =>
              (.sl fresh 0 len len, [(fresh, ⟨elem, cells⟩)], [])
          else none
        | none => none
      | none => none
    | _ => none
  | .load t a => match ρ a with
    | .p n off => match get n with
      | some b => (loadS P t b off).map fun x => (x, [], [n])
      | none => none
    | _ => none
  | .store t a x => match ρ a with
    | .p n off => match get n with
      | some b =>
        if sizeT P t = some (ρ x).cells.length ∧ off + (ρ x).cells.length ≤ b.cells.length ∧ ((ρ x).cells.all SV.scalar) = true then
          some (.tup [], [(n, ⟨b.elem, putRow b.cells off (ρ x).cells⟩)], [n])
        else none
      | none => none
    | _ => none
  | _ => none

section
variable {P : Program} {m : Nat → Option Nat} {w : World}

def addName (m : Nat → Option Nat) (n r : Nat) : Nat → Option Nat := fun k => if k = n then some r else m k
theorem addName_ext {n r : Nat} (h : m n = none) : Ext m (addName m n r) := by
  intro k q hk
  unfold addName
  by_cases e : k = n
  · subst e; rw [h] at hk; cases hk
  · rw [if_neg e]; exact hk

theorem new_post {fresh : Nat} {e : TypeId} {cells : List SV} {cv : List Value} {x : SV} {v : Value} (hm : NameOk m w) (hf : m fresh = none) (hc : dens m cells = some cv)
    (hx : den (addName m fresh w.heap.size) x = some v) :
    OpPost m w x [(fresh, ⟨e, cells⟩)] (addName m fresh w.heap.size) v (w.alloc (.cells cv.toArray e)) := by
  have hext := addName_ext (r := w.heap.size) hf
  refine ⟨hext, hx, ?_, ?_, ?_, ?_, ?_⟩
  · intro p hp
    simp only [List.mem_singleton] at hp; subst hp
    refine ⟨w.heap.size, by simp [addName], cv, dens_ext hext hc, ?_⟩
    show (w.heap.push _)[w.heap.size]? = _
    simp
  · refine ⟨rfl, rfl, rfl, by simp, fun r hr _ => ?_⟩
    show (w.heap.push _)[r]? = _
    rw [Array.getElem?_push, if_neg (by omega)]
  · intro n r hr
    unfold addName at hr
    split at hr
    · rename_i e; simp only [Option.some.injEq] at hr; exact .inr ⟨by omega, _, List.mem_singleton.2 rfl, e.symm⟩
    · exact .inl hr
  · intro n n' r h1 h2
    unfold addName at h1 h2
    split at h1 <;> split at h2
    · rename_i a b; rw [a, b]
    · simp only [Option.some.injEq] at h1; have := hm.lt _ _ h2; omega
    · simp only [Option.some.injEq] at h2; have := hm.lt _ _ h1; omega
    · exact hm.inj _ _ _ h1 h2
  · intro n r hr
    unfold addName at hr
    simp only [World.size_alloc]
    split at hr
    · simp only [Option.some.injEq] at hr; omega
    · have := hm.lt _ _ hr; omega

theorem evMem_ok {ρ : Operand → SV} {get : Nat → Option Blk} {fresh : Nat} {o : Oper} {x : SV} {wr : List (Nat × Blk)} {rd : List Nat} (h : evMem P ρ get fresh o = some (x, wr, rd)) (hm : NameOk m w)
    (hnew : ∀ p ∈ wr, fresh ≤ p.1 → m p.1 = none) (hold : ∀ n ∈ rd, ∀ b, get n = some b → ∃ r, m n = some r ∧ BlkAt m w r b)
    {ρv : Operand → Value} (hρ : ∀ y ∈ o.op.operands, den m (ρ y) = some (ρv y)) :
    OpGoes P o ρv w fun v w' => ∃ m', OpPost m w x wr m' v w' := by
  unfold evMem at h
  split at h
  · rename_i elem hop
    split at h
    · rename_i ti hti
      split at h
      · rename_i z hz
        simp only [Option.some.injEq, Prod.mk.injEq] at h
        obtain ⟨rfl, rfl, rfl⟩ := h
        have hf : m fresh = none := hnew _ (List.mem_singleton.2 rfl) (Nat.le_refl _)
        refine OpGoes.value (v := .pointer (some ⟨w.heap.size, 0, none⟩)) (w' := w.alloc (.cells z.cells elem)) ?_ ⟨addName m fresh w.heap.size, ?_⟩
        · simp [execOp, hop, Instr.alloc, zeroValue, typeInfo, hti, hz, newVar, newRow]
        · have := new_post (e := elem) (x := .p fresh 0) (v := .pointer (some ⟨w.heap.size, 0, none⟩)) hm hf (dens_ofA (m := m) z.cells) (by simp [den, addName])
          simpa using this
      · cases h
    · cases h
  · rename_i elem y hop
    simp only [Option.some.injEq, Prod.mk.injEq] at h
    obtain ⟨rfl, rfl, rfl⟩ := h
    have hf : m fresh = none := hnew _ (List.mem_singleton.2 rfl) (Nat.le_refl _)
    have hy := hρ y (by rw [hop]; simp [Op.operands])
    refine OpGoes.value (v := .pointer (some ⟨w.heap.size, 0, none⟩)) (w' := w.alloc (.cells (ρv y).cells elem)) ?_ ⟨addName m fresh w.heap.size, ?_⟩
    · simp [execOp, hop, Instr.box, newVar, newRow]
    · have := new_post (e := elem) (x := .p fresh 0) (v := .pointer (some ⟨w.heap.size, 0, none⟩)) hm hf (cells_ok hy) (by simp [den, addName])
      simpa using this
  · rename_i t len parts hop
    split at h
    · rename_i elem hd
      split at h
      · rename_i ti hti
        split at h
        · rename_i z hz
          split at h
          · rename_i hle
            simp only [Option.map_eq_some_iff, Prod.mk.injEq] at h
            obtain ⟨cells, hcells, rfl, rfl, rfl⟩ := h
            have hf : m fresh = none := hnew _ (List.mem_singleton.2 rfl) (Nat.le_refl _)
            have h1 := pairs_ok (m := m) (ρ := ρ) (ρv := ρv) parts.toList fun q hq => hρ q.2 (by
              rw [hop]; simp only [Op.operands, List.mem_toArray, List.mem_map]; exact ⟨q, hq, rfl⟩)
            obtain ⟨ov, h2, h3⟩ := fillS_ok (vparts := parts.toList.map fun q => (q.1, ρv q.2)) (by simp) h1 hcells (dens_ofA _)
            refine OpGoes.value (v := .slice (some ⟨w.heap.size, 0, none⟩) len len) (w' := w.alloc (.cells ov.toArray elem)) ?_ ⟨addName m fresh w.heap.size, ?_⟩
            · have hsz : sizeT P elem = some ti.size := by simp [sizeT, hti]
              have h3' : Instr.fill (fun i => some (i * ti.size, ti.size)) ((Array.range (len * ti.size)).map (z.cells[· % z.cells.size]!)) (parts.toList.map fun q => (q.1, ρv q.2)) = some ov.toArray := by rw [Array.toArray_toList] at h3; exact h3
              simp only [execOp, hop, Instr.buildSlice, Sem.run_bind, run_underlying hd, Result.andThen_ok, run_sizeOf hsz]
              rw [if_neg (by omega)]
              rw [if_neg hle.2]
              simp [h3', newRow, zeroValue, typeInfo, hti, hz]
            · exact new_post (e := elem) (x := .sl fresh 0 len len) hm hf h2 (by simp [den, addName])
          · cases h
        · cases h
      · cases h
    · cases h
  · rename_i t a hop
    have ha := hρ a (by rw [hop]; simp [Op.operands])
    split at h
    · rename_i n off hn
      split at h
      · rename_i b hb
        simp only [Option.map_eq_some_iff, Prod.mk.injEq] at h
        obtain ⟨y, hy, rfl, rfl, rfl⟩ := h
        obtain ⟨r, hr, hat⟩ := hold n (by simp) b hb
        obtain ⟨v, hv, hrun⟩ := loadS_ok hy hat
        rw [hn] at ha
        simp only [den, hr, Option.map_some, Option.some.injEq] at ha
        refine OpGoes.value (v := v) (w' := w) ?_ ⟨m, OpPost.pure hm hv⟩
        simp only [execOp, hop, ← ha, Instr.loadAt, Sem.run_bind, run_sureAddr, Result.andThen_ok, hrun]; rfl
      · cases h
    · cases h
  · rename_i t a y hop
    have ha := hρ a (by rw [hop]; simp [Op.operands])
    have hy := hρ y (by rw [hop]; simp [Op.operands])
    split at h
    · rename_i n off hn
      split at h
      · rename_i b hb
        split at h
        · rename_i hc
          obtain ⟨c1, c2, c3⟩ := hc
          simp only [Option.some.injEq, Prod.mk.injEq] at h
          obtain ⟨rfl, rfl, rfl⟩ := h
          obtain ⟨r, hr, cv, hcv, hh⟩ := hold n (by simp) b hb
          rw [hn] at ha
          simp only [den, hr, Option.map_some, Option.some.injEq] at ha
          have hcy := cells_ok hy
          have hl1 := dens_length hcy
          have hl2 := dens_length hcv
          obtain ⟨w', g1, g2, g3, g4, g5, g6, g7⟩ := run_storeCells (P := P) (off := off) (i := 0) (w := w) hcy c3 hh (by omega)
          refine OpGoes.skip (w' := w') ?_ ⟨m, ?_⟩
          · simp only [execOp, hop, ← ha, Instr.storeAt, Sem.run_bind, run_sureAddr, Result.andThen_ok, storeVar, run_sizeOf c1]
            rw [if_neg (by simp at hl1; omega)]
            simp only [Sem.run_pure]
            first | (rw [g1]; rfl) | simp [g1]
          · refine ⟨Ext.refl m, by simp [den, dens, undef], ?_, ?_, fun n r hr => .inl hr, hm.inj, fun n r hr => by rw [g4]; exact hm.lt n r hr⟩
            · intro p hp
              simp only [List.mem_singleton] at hp; subst hp
              exact ⟨r, hr, _, putRow_ok (off := off) hcv hcy, by simpa using g2⟩
            · refine ⟨g5, g6, g7, by omega, fun k hk hx => g3 k fun e => hx ⟨_, List.mem_singleton.2 rfl, by rw [e]; exact hr⟩⟩
        · cases h
      · cases h
    · cases h
  · cases h
end
end Rx
namespace Rx
set_option linter.all false
open Go

mutual
def ren (ρ : Nat → Option Nat) : SV → Option SV
  | .p n off => (ρ n).map fun k => .p k off
  | .sl n off len cap => (ρ n).map fun k => .sl k off len cap
  | .fn f first cap => (rens ρ first).bind fun x => (rens ρ cap).map fun y => .fn f x y
  | .agg l => (rens ρ l).map .agg
  | .tup l => (rens ρ l).map .tup
  | .b c => some (.b c)
  | .i k n => some (.i k n)
  | .si k n => some (.si k n)
  | .f x => some (.f x)
  | .fl x => some (.fl x)
  | .np => some .np
  | .o v => some (.o v)
def rens (ρ : Nat → Option Nat) : List SV → Option (List SV)
  | [] => some []
  | x :: l => (ren ρ x).bind fun y => (rens ρ l).map fun r => y :: r
end
mutual
def idsOf : SV → List Nat
  | .p n _ => [n]
  | .sl n _ _ _ => [n]
  | .fn _ first cap => idsOfs first ++ idsOfs cap
  | .agg l => idsOfs l
  | .tup l => idsOfs l
  | _ => []
def idsOfs : List SV → List Nat
  | [] => []
  | x :: l => idsOf x ++ idsOfs l
end

section
variable {m m' : Nat → Option Nat} {ρ : Nat → Option Nat}
mutual
theorem ren_ok (h : ∀ n k, ρ n = some k → ∀ r, m n = some r → m' k = some r) : ∀ {x y : SV} {v : Value}, ren ρ x = some y → den m x = some v → den m' y = some v
  | .p n off, y, v, h1, h2 => by
    simp only [ren, Option.map_eq_some_iff] at h1
    obtain ⟨k, hk, rfl⟩ := h1
    simp only [den, Option.map_eq_some_iff] at h2 ⊢
    obtain ⟨r, hr, e⟩ := h2
    exact ⟨r, h n k hk r hr, e⟩
  | .sl n off len cap, y, v, h1, h2 => by
    simp only [ren, Option.map_eq_some_iff] at h1
    obtain ⟨k, hk, rfl⟩ := h1
    simp only [den, Option.map_eq_some_iff] at h2 ⊢
    obtain ⟨r, hr, e⟩ := h2
    exact ⟨r, h n k hk r hr, e⟩
  | .fn f first cap, y, v, h1, h2 => by
    simp only [ren, Option.bind_eq_some_iff, Option.map_eq_some_iff] at h1
    obtain ⟨a, ha, b, hb, rfl⟩ := h1
    simp only [den, Option.bind_eq_some_iff, Option.map_eq_some_iff] at h2 ⊢
    obtain ⟨x, hx, z, hz, e⟩ := h2
    exact ⟨x, rens_ok h ha hx, z, rens_ok h hb hz, e⟩
  | .agg l, y, v, h1, h2 => by
    simp only [ren, Option.map_eq_some_iff] at h1
    obtain ⟨a, ha, rfl⟩ := h1
    simp only [den, Option.map_eq_some_iff] at h2 ⊢
    obtain ⟨x, hx, e⟩ := h2
    exact ⟨x, rens_ok h ha hx, e⟩
  | .tup l, y, v, h1, h2 => by
    simp only [ren, Option.map_eq_some_iff] at h1
    obtain ⟨a, ha, rfl⟩ := h1
    simp only [den, Option.map_eq_some_iff] at h2 ⊢
    obtain ⟨x, hx, e⟩ := h2
    exact ⟨x, rens_ok h ha hx, e⟩
  | .b c, y, v, h1, h2 => by simp only [ren, Option.some.injEq] at h1; subst h1; simpa [den] using h2
  | .i k n, y, v, h1, h2 => by simp only [ren, Option.some.injEq] at h1; subst h1; simpa [den] using h2
  | .si k n, y, v, h1, h2 => by simp only [ren, Option.some.injEq] at h1; subst h1; simpa [den] using h2
  | .f x, y, v, h1, h2 => by simp only [ren, Option.some.injEq] at h1; subst h1; simpa [den] using h2
  | .fl x, y, v, h1, h2 => by simp only [ren, Option.some.injEq] at h1; subst h1; simpa [den] using h2
  | .np, y, v, h1, h2 => by simp only [ren, Option.some.injEq] at h1; subst h1; simpa [den] using h2
  | .o u, y, v, h1, h2 => by simp only [ren, Option.some.injEq] at h1; subst h1; simpa [den] using h2
theorem rens_ok (h : ∀ n k, ρ n = some k → ∀ r, m n = some r → m' k = some r) : ∀ {l y : List SV} {vs : List Value}, rens ρ l = some y → dens m l = some vs → dens m' y = some vs
  | [], y, vs, h1, h2 => by simp only [rens, Option.some.injEq] at h1; subst h1; simpa [dens] using h2
  | x :: l, y, vs, h1, h2 => by
    simp only [rens, Option.bind_eq_some_iff, Option.map_eq_some_iff] at h1
    obtain ⟨a, ha, b, hb, rfl⟩ := h1
    obtain ⟨v, us, c, d, rfl⟩ := dens_cons_some.1 h2
    exact dens_cons (ren_ok h ha c) (rens_ok h hb d)
end
end

def reach (get : Nat → Option Blk) : Nat → List Nat → List Nat → List Nat
  | 0, _, acc => acc
  | _ + 1, [], acc => acc
  | f + 1, n :: todo, acc =>
    if acc.contains n then reach get f todo acc
    else match get n with
      | some b => reach get f (idsOfs b.cells ++ todo) (acc ++ [n])
      | none => reach get f todo acc
def posFrom : List Nat → Nat → Nat → Option Nat
  | [], _, _ => none
  | a :: l, j, n => if a = n then some j else posFrom l (j + 1) n
def posOf (ids : List Nat) (n : Nat) : Option Nat := posFrom ids 0 n
theorem posFrom_ok : ∀ {ids : List Nat} {j n k : Nat}, posFrom ids j n = some k → j ≤ k ∧ ids[k - j]? = some n
  | [], j, n, k, h => by simp [posFrom] at h
  | a :: l, j, n, k, h => by
    unfold posFrom at h
    split at h
    · rename_i e
      simp only [Option.some.injEq] at h; subst h
      simp [e]
    · obtain ⟨h1, h2⟩ := posFrom_ok h
      refine ⟨by omega, ?_⟩
      rw [show k - j = (k - (j + 1)) + 1 from by omega]
      simpa using h2
theorem posOf_ok {ids : List Nat} {n k : Nat} (h : posOf ids n = some k) : ids[k]? = some n := by
  have := (posFrom_ok h).2
  simpa using this

def nodupB : List Nat → Bool
  | [] => true
  | a :: l => !l.contains a && nodupB l
theorem nodupB_ok : ∀ {l : List Nat}, nodupB l = true → ∀ {i j n : Nat}, l[i]? = some n → l[j]? = some n → i = j
  | [], _, i, j, n, h1, _ => by simp at h1
  | a :: l, h, i, j, n, h1, h2 => by
    simp only [nodupB, Bool.and_eq_true, Bool.not_eq_true', List.contains_eq_mem, decide_eq_false_iff_not] at h
    cases i with
    | zero =>
      cases j with
      | zero => rfl
      | succ j =>
        simp at h1 h2
        subst h1
        exact absurd (List.mem_of_getElem? h2) h.1
    | succ i =>
      cases j with
      | zero =>
        simp at h1 h2
        subst h2
        exact absurd (List.mem_of_getElem? h1) h.1
      | succ j =>
        simp at h1 h2
        rw [nodupB_ok h.2 h1 h2]

abbrev CallF := FuncId → List SV → List Blk → Dec → Option (SV × List Blk × Dec × Obs)

structure MemAt (m : Nat → Option Nat) (w : World) (M : List Blk) : Prop where
  ok : NameOk m w
  blk : ∀ n b, M[n]? = some b → ∃ r, m n = some r ∧ BlkAt m w r b
  dom : ∀ n r, m n = some r → n < M.length

structure CallPost (m : Nat → Option Nat) (w : World) (M : List Blk) (x : SV) (M' : List Blk) (m' : Nat → Option Nat) (v : Value) (w' : World) : Prop where
  ext : Ext m m'
  val : den m' x = some v
  mem : MemAt m' w' M'
  len : M.length ≤ M'.length
  fr : Fr (fun r => ∃ n, m n = some r) w w'
  new : ∀ n r, m' n = some r → m n = some r ∨ w.heap.size ≤ r

def CallOk (P : Program) (call : CallF) : Prop :=
  ∀ g args M ds x M' ds' ob, call g args M ds = some (x, M', ds', ob) → ObsOk ob → ∀ m w vs, dens m args = some vs → MemAt m w M →
    Calls P g vs.toArray w fun e w' => ∃ m' v, e = .returned v ∧ CallPost m w M x M' m' v w'

def backOf (ids : List Nat) (fresh n' : Nat) (j : Nat) : Option Nat :=
  if j < ids.length then ids[j]? else if j < n' then some (fresh + (j - ids.length)) else none

def backAll (ids : List Nat) (fresh n' : Nat) (x : SV) (M' : List Blk) : Option (SV × List (Nat × Blk)) :=
  (ren (backOf ids fresh n') x).bind fun y =>
    ((List.range n').mapM fun j => (M'[j]?).bind fun b => (rens (backOf ids fresh n') b.cells).bind fun cs => (backOf ids fresh n' j).map fun id => (id, (⟨b.elem, cs⟩ : Blk))).map fun wr => (y, wr)

/-- the same cell; numbers of 32 bits (what laws take): by an obligation -/
def sameS : SV → SV → Bool
  | .p a b, .p c d => Nat.beq a c && Nat.beq b d
  | .np, .np => true
  | .si .u32 _, .si .u32 _ => true
  | _, _ => false
def sameO : SV → SV → Obs
  | .si .u32 n, .si .u32 m => [(decide (n = m), true)]
  | _, _ => []
def sameL : List SV → List SV → Bool
  | [], [] => true
  | x :: l, y :: r => sameS x y && sameL l r
  | _, _ => false
def sameLO : List SV → List SV → Obs
  | x :: l, y :: r => sameO x y ++ sameLO l r
  | _, _ => []
theorem sameS_ok {x y : SV} (h : sameS x y = true) (ho : ObsOk (sameO x y)) : x = y := by
  unfold sameS at h
  split at h
  · simp only [Bool.and_eq_true] at h
    rw [Nat.eq_of_beq_eq_true h.1, Nat.eq_of_beq_eq_true h.2]
  · rfl
  · rename_i n m
    have := ho (decide (n = m), true) (List.mem_cons_self ..)
    rw [of_decide_eq_true this]
  · cases h
theorem sameL_ok : ∀ {x y : List SV}, sameL x y = true → ObsOk (sameLO x y) → x = y
  | [], [], _, _ => rfl
  | x :: l, y :: r, h, ho => by
    simp only [sameL, Bool.and_eq_true] at h
    unfold sameLO at ho
    rw [sameS_ok h.1 ho.left, sameL_ok h.2 ho.right]
  | [], _ :: _, h, _ => by cases h
  | _ :: _, [], h, _ => by cases h
def sameBlk (a b : Blk) : Bool := sameL a.cells b.cells && Nat.beq a.elem b.elem
theorem sameBlk_ok {a b : Blk} (h : sameBlk a b = true) (ho : ObsOk (sameLO a.cells b.cells)) : a = b := by
  simp only [sameBlk, Bool.and_eq_true] at h
  cases a; cases b
  simp only at h ho
  rw [Nat.eq_of_beq_eq_true h.2, sameL_ok h.1 ho]
def sameW (ids : List Nat) (get : Nat → Option Blk) (p : Nat × Blk) : Bool :=
  ids.any (Nat.beq p.1) && match get p.1 with
    | some b => sameBlk b p.2
    | none => false
/-- what is written, but for what stands there already -/
def keepW (ids : List Nat) (get : Nat → Option Blk) (wr : List (Nat × Blk)) : List (Nat × Blk) := wr.filter fun p => !sameW ids get p
def sameWO (ids : List Nat) (get : Nat → Option Blk) (p : Nat × Blk) : Obs := bif sameW ids get p then match get p.1 with
  | some b => sameLO b.cells p.2.cells
  | none => [] else []
/-- what must be the same for it -/
def keepO (ids : List Nat) (get : Nat → Option Blk) : List (Nat × Blk) → Obs
  | [] => []
  | p :: l => sameWO ids get p ++ keepO ids get l
theorem keepO_in {ids : List Nat} {get : Nat → Option Blk} : ∀ {wr : List (Nat × Blk)} {p : Nat × Blk}, p ∈ wr → ObsOk (keepO ids get wr) → ObsOk (sameWO ids get p)
  | q :: l, p, h, ho => by
    unfold keepO at ho
    rcases List.mem_cons.1 h with rfl | h
    · exact ho.left
    · exact keepO_in h ho.right
theorem sameW_ok {ids : List Nat} {get : Nat → Option Blk} {p : Nat × Blk} (h : sameW ids get p = true) (ho : ObsOk (sameWO ids get p)) : p.1 ∈ ids ∧ get p.1 = some p.2 := by
  unfold sameWO at ho
  rw [h, cond_true] at ho
  simp only [sameW, Bool.and_eq_true] at h
  obtain ⟨h1, h2⟩ := h
  refine ⟨?_, ?_⟩
  · obtain ⟨n, hn, he⟩ := List.any_eq_true.1 h1
    rw [Nat.eq_of_beq_eq_true he]; exact hn
  · split at h2
    · rename_i b hb
      rw [hb] at ho
      rw [hb, sameBlk_ok h2 ho]
    · cases h2
theorem OpPost.keep {m m' : Nat → Option Nat} {w w' : World} {y : SV} {wr : List (Nat × Blk)} {v : Value} {ids : List Nat} {get : Nat → Option Blk} (h : OpPost m w y wr m' v w') (ho : ObsOk (keepO ids get wr))
    (hold : ∀ n ∈ ids, ∀ b, get n = some b → ∃ r, m n = some r ∧ BlkAt m w r b) : OpPost m w y (keepW ids get wr) m' v w' := by
  have hs : ∀ p ∈ wr, p ∈ keepW ids get wr ∨ sameW ids get p = true := by
    intro p hp
    cases hc : sameW ids get p
    · exact .inl (List.mem_filter.2 ⟨hp, by rw [hc]; rfl⟩)
    · exact .inr rfl
  refine ⟨h.ext, h.val, fun p hp => h.blk p (List.mem_filter.1 hp).1, ⟨h.fr.os, h.fr.tape, h.fr.output, h.fr.size, fun r hr hx => ?_⟩, fun n r hr => ?_, h.ok⟩
  · by_cases hk : ∃ p ∈ wr, m p.1 = some r
    · obtain ⟨p, hp, hm⟩ := hk
      rcases hs p hp with h1 | h1
      · exact absurd ⟨p, h1, hm⟩ hx
      · obtain ⟨h2, h3⟩ := sameW_ok h1 (keepO_in hp ho)
        obtain ⟨q, hq, cv, h4, h5⟩ := hold p.1 h2 p.2 h3
        obtain ⟨q', hq', cv', h6, h7⟩ := h.blk p hp
        rw [h.ext p.1 q hq] at hq'
        rw [hm] at hq
        simp only [Option.some.injEq] at hq hq'
        subst hq'; subst hq
        rw [dens_ext h.ext h4] at h6
        rw [h5, h7, Option.some.inj h6]
    · exact h.fr.block r hr hk
  · rcases h.new n r hr with h1 | ⟨h1, p, hp, he⟩
    · exact .inl h1
    · rcases hs p hp with h2 | h2
      · exact .inr ⟨h1, p, h2, he⟩
      · obtain ⟨h3, h4⟩ := sameW_ok h2 (keepO_in hp ho)
        obtain ⟨q, hq, _⟩ := hold p.1 h3 p.2 h4
        have h5 := h.ext p.1 q hq
        rw [he] at hq h5
        rw [hr] at h5
        left
        rw [hq, ← h5]

def evCall (call : CallF) (get : Nat → Option Blk) (fresh : Nat) (ds : Dec) (g : FuncId) (args : List SV) : Option (SV × List (Nat × Blk) × List Nat × Dec × Obs) :=
  let ids := reach get 1000 (idsOfs args) []
  if nodupB ids && ids.all fun n => Nat.blt n fresh then
    match rens (posOf ids) args, (ids.mapM fun n => (get n).bind fun b => (rens (posOf ids) b.cells).map fun cs => (⟨b.elem, cs⟩ : Blk)) with
    | some args', some blks =>
      match call g args' blks ds with
      | some (x, M', ds', ob) =>
        match backAll ids fresh ids.length x M' with
        | some (y, wr) => some (y, keepW ids get wr, ids, ds', keepO ids get wr ++ ob)
        | none => if Nat.ble ids.length M'.length then (backAll ids fresh M'.length x M').map fun q => (q.1, keepW ids get q.2, ids, ds', keepO ids get q.2 ++ ob) else none
      | none => none
    | _, _ => none
  else none

theorem mapM_get {α β : Type} {f : α → Option β} : ∀ {l : List α} {r : List β}, l.mapM f = some r → r.length = l.length ∧ ∀ (j : Nat) (a : α), l[j]? = some a → ∃ b, f a = some b ∧ r[j]? = some b
  | [], r, h => by simp at h; subst h; simp
  | x :: l, r, h => by
    simp only [List.mapM_cons, Option.bind_eq_bind, Option.bind_eq_some_iff, pure, Option.some.injEq] at h
    obtain ⟨b, hb, bs, hbs, rfl⟩ := h
    obtain ⟨h1, h2⟩ := mapM_get hbs
    refine ⟨by simp [h1], ?_⟩
    intro j a ha
    cases j with
    | zero => simp at ha; subst ha; exact ⟨b, hb, by simp⟩
    | succ j => simp at ha; obtain ⟨c, hc, hr⟩ := h2 _ _ ha; exact ⟨c, hc, by simpa using hr⟩
theorem mapM_mem {α β : Type} {f : α → Option β} : ∀ {l : List α} {r : List β}, l.mapM f = some r → ∀ {b : β}, b ∈ r → ∃ a ∈ l, f a = some b
  | [], r, h, b, hb => by simp at h; subst h; simp at hb
  | x :: l, r, h, b, hb => by
    simp only [List.mapM_cons, Option.bind_eq_bind, Option.bind_eq_some_iff, pure, Option.some.injEq] at h
    obtain ⟨c, hc, bs, hbs, rfl⟩ := h
    rcases List.mem_cons.1 hb with rfl | hb
    · exact ⟨x, by simp, hc⟩
    · obtain ⟨a, ha, hf⟩ := mapM_mem hbs hb
      exact ⟨a, by simp [ha], hf⟩

section
variable {P : Program} {m : Nat → Option Nat} {w : World}

/-- the names behind a call -/
def backName (m msub' : Nat → Option Nat) (k fresh n' : Nat) (n : Nat) : Option Nat :=
  match m n with
  | some r => some r
  | none => if fresh ≤ n ∧ n - fresh + k < n' then msub' (n - fresh + k) else none

theorem backAll_ok {ids : List Nat} {fresh n' : Nat} {x y : SV} {M M' : List Blk} {wr : List (Nat × Blk)} {msub' : Nat → Option Nat} {v : Value} {w' : World}
    (hb : backAll ids fresh n' x M' = some (y, wr)) (hm : NameOk m w) (hk : ids.length ≤ n')
    (hids : ∀ n ∈ ids, ∃ r, m n = some r)
    (hc : CallPost (fun k => (ids[k]?).bind m) w M x M' msub' v w') (hnew : ∀ p ∈ wr, fresh ≤ p.1 → m p.1 = none) :
    ∃ m', OpPost m w y wr m' v w' := by
  unfold backAll at hb
  simp only [Option.bind_eq_some_iff, Option.map_eq_some_iff, Prod.mk.injEq] at hb
  obtain ⟨y', hy, wr', hwr, rfl, rfl⟩ := hb
  have hwr2 : ∀ p ∈ wr', ∃ j b cs id, j < n' ∧ M'[j]? = some b ∧ rens (backOf ids fresh n') b.cells = some cs ∧ backOf ids fresh n' j = some id ∧ p = (id, ⟨b.elem, cs⟩) := by
    intro p hp
    obtain ⟨j, hj, hf⟩ := mapM_mem hwr hp
    simp only [Option.bind_eq_some_iff, Option.map_eq_some_iff] at hf
    obtain ⟨b, hb, cs, hcs, id, hid, he⟩ := hf
    exact ⟨j, b, cs, id, by simpa using hj, hb, hcs, hid, he.symm⟩
  have hwr3 : ∀ j, j < n' → ∃ p ∈ wr', backOf ids fresh n' j = some p.1 := by
    intro j hj
    obtain ⟨p, hf, hp⟩ := (mapM_get hwr).2 j j (by simp [hj])
    simp only [Option.bind_eq_some_iff, Option.map_eq_some_iff] at hf
    obtain ⟨b, hb, cs, hcs, id, hid, he⟩ := hf
    exact ⟨p, List.mem_of_getElem? hp, by rw [hid, ← he]⟩
  have hnone : ∀ j, ids.length ≤ j → j < n' → m (fresh + (j - ids.length)) = none := by
    intro j h1 h2
    obtain ⟨p, hp, he⟩ := hwr3 j h2
    unfold backOf at he
    rw [if_neg (by omega), if_pos h2] at he
    simp only [Option.some.injEq] at he
    rw [he]
    exact hnew p hp (by omega)
  have hback : ∀ j k, backOf ids fresh n' j = some k → ∀ r, msub' j = some r → backName m msub' ids.length fresh n' k = some r := by
    intro j k hj r hr
    unfold backOf at hj
    split at hj
    · rename_i hlt
      have := hids k (List.mem_of_getElem? hj)
      obtain ⟨q, hq⟩ := this
      have h1 : (fun k => (ids[k]?).bind m) j = some q := by simp only [hj, Option.bind_some, hq]
      have h2 := hc.ext j q h1
      rw [hr] at h2
      simp only [Option.some.injEq] at h2
      unfold backName
      rw [hq, h2]
    · split at hj
      · rename_i h1 h2
        simp only [Option.some.injEq] at hj; subst hj
        unfold backName
        rw [hnone j (by omega) h2]
        simp only []
        rw [if_pos (by omega), show fresh + (j - ids.length) - fresh + ids.length = j from by omega]
        exact hr
      · cases hj
  refine ⟨backName m msub' ids.length fresh n', ?_, ren_ok hback hy hc.val, ?_, ?_, ?_, ?_, ?_⟩
  · intro n r hr; unfold backName; rw [hr]
  · intro p hp
    obtain ⟨j, b, cs, id, hj, hb, hcs, hid, rfl⟩ := hwr2 p hp
    obtain ⟨r, hr, cv, hcv, hh⟩ := hc.mem.blk j b hb
    exact ⟨r, hback j id hid r hr, cv, rens_ok hback hcs hcv, hh⟩
  · refine hc.fr.mono fun r hr ⟨n, hn⟩ => ?_
    simp only [Option.bind_eq_some_iff] at hn
    obtain ⟨k, hk', hmk⟩ := hn
    have hlt' : n < ids.length := by
      rcases Nat.lt_or_ge n ids.length with h' | h'
      · exact h'
      · rw [List.getElem?_eq_none h'] at hk'; cases hk'
    obtain ⟨p, hp, he⟩ := hwr3 n (by omega)
    unfold backOf at he
    rw [if_pos hlt', hk'] at he
    simp only [Option.some.injEq] at he
    exact ⟨p, hp, by rw [← he]; exact hmk⟩
  · intro n r hr
    unfold backName at hr
    split at hr
    · rename_i q hq; exact .inl (by rw [hq]; exact hr)
    · split at hr
      · rename_i hcond
        rcases hc.new _ _ hr with h1 | h1
        · simp only [Option.bind_eq_some_iff] at h1
          obtain ⟨k, hk', _⟩ := h1
          rw [List.getElem?_eq_none (by omega)] at hk'; cases hk'
        · refine .inr ⟨h1, ?_⟩
          obtain ⟨p, hp, he⟩ := hwr3 (n - fresh + ids.length) (by omega)
          unfold backOf at he
          rw [if_neg (by omega), if_pos (by omega)] at he
          simp only [Option.some.injEq] at he
          exact ⟨p, hp, by omega⟩
      · cases hr
  · have hnewr : ∀ n r, (m n = none) → backName m msub' ids.length fresh n' n = some r → w.heap.size ≤ r ∧ fresh ≤ n ∧ msub' (n - fresh + ids.length) = some r := by
      intro n r hn hr
      unfold backName at hr
      rw [hn] at hr
      simp only [] at hr
      split at hr
      · rename_i hcond
        refine ⟨?_, hcond.1, hr⟩
        rcases hc.new _ _ hr with h1 | h1
        · simp only [Option.bind_eq_some_iff] at h1
          obtain ⟨k, hk', _⟩ := h1
          rw [List.getElem?_eq_none (by omega)] at hk'; cases hk'
        · exact h1
      · cases hr
    have hold : ∀ n q r, m n = some q → backName m msub' ids.length fresh n' n = some r → r = q := by
      intro n q r hn hr; unfold backName at hr; rw [hn] at hr; simp only [Option.some.injEq] at hr; exact hr.symm
    intro n n2 r h1 h2
    cases hn : m n with
    | some q =>
      have e1 := hold n q r hn h1
      cases hn2 : m n2 with
      | some q2 =>
        have e2 := hold n2 q2 r hn2 h2
        exact hm.inj n n2 r (by rw [hn, e1]) (by rw [hn2, e2])
      | none =>
        have := (hnewr n2 r hn2 h2).1
        have := hm.lt n q hn
        omega
    | none =>
      have a1 := hnewr n r hn h1
      cases hn2 : m n2 with
      | some q2 =>
        have e2 := hold n2 q2 r hn2 h2
        have := hm.lt n2 q2 hn2
        omega
      | none =>
        have a2 := hnewr n2 r hn2 h2
        have := hc.mem.ok.inj _ _ _ a1.2.2 a2.2.2
        omega
  · intro n r hr
    unfold backName at hr
    split at hr
    · rename_i q hq
      simp only [Option.some.injEq] at hr; subst hr
      exact Nat.lt_of_lt_of_le (hm.lt _ _ hq) hc.fr.size
    · split at hr
      · exact hc.mem.ok.lt _ _ hr
      · cases hr

theorem evCall_ok {call : CallF} {get : Nat → Option Blk} {fresh : Nat} {ds ds' : Dec} {g : FuncId} {args : List SV} {y : SV} {wr : List (Nat × Blk)} {rd : List Nat} {ob : Obs}
    (hcall : CallOk P call) (h : evCall call get fresh ds g args = some (y, wr, rd, ds', ob)) (ho : ObsOk ob) (hm : NameOk m w)
    (hnew : ∀ p ∈ wr, fresh ≤ p.1 → m p.1 = none) (hold : ∀ n ∈ rd, ∀ b, get n = some b → ∃ r, m n = some r ∧ BlkAt m w r b) {vs : List Value} (ha : dens m args = some vs) :
    Calls P g vs.toArray w fun e w' => ∃ v, e = .returned v ∧ ∃ m', OpPost m w y wr m' v w' := by
  unfold evCall at h
  simp only [] at h
  generalize hids : reach get 1000 (idsOfs args) [] = ids at h
  split at h
  · rename_i hchk
    simp only [Bool.and_eq_true, List.all_eq_true] at hchk
    split at h
    · rename_i args' blks hargs hblks
      split at h
      · rename_i x M' ds2 ob2 hcl
        have hmem := mapM_get hblks
        have key : ∀ n' wr0 y0, ids.length ≤ n' → backAll ids fresh n' x M' = some (y0, wr0) → keepW ids get wr0 = wr → y0 = y → rd = ids → keepO ids get wr0 ++ ob2 = ob →
            Calls P g vs.toArray w fun e w' => ∃ v, e = .returned v ∧ ∃ m', OpPost m w y wr m' v w' := by
          intro n' wr0 y0 hk hback e1 e2 e3 e4
          subst e1 e2 e3 e4
          have hids' : ∀ n ∈ rd, ∃ r, m n = some r := by
            intro n hn
            obtain ⟨j, hj⟩ := List.getElem?_of_mem hn
            obtain ⟨b, hb, _⟩ := hmem.2 _ _ hj
            simp only [Option.bind_eq_some_iff] at hb
            obtain ⟨c, hc, _⟩ := hb
            obtain ⟨r, hr, _⟩ := hold n hn c hc
            exact ⟨r, hr⟩
          have hpos : ∀ n k, posOf rd n = some k → ∀ r, m n = some r → (fun k => (rd[k]?).bind m) k = some r := by
            intro n k hk r hr
            simp only [posOf_ok hk, Option.bind_some, hr]
          have hMA : MemAt (fun k => (rd[k]?).bind m) w blks := by
            refine ⟨⟨?_, ?_⟩, ?_, ?_⟩
            · intro i j r h1 h2
              simp only [Option.bind_eq_some_iff] at h1 h2
              obtain ⟨n1, a1, b1⟩ := h1
              obtain ⟨n2, a2, b2⟩ := h2
              have := hm.inj _ _ _ b1 b2
              subst this
              exact nodupB_ok hchk.1 a1 a2
            · intro i r h1
              simp only [Option.bind_eq_some_iff] at h1
              obtain ⟨n1, a1, b1⟩ := h1
              exact hm.lt _ _ b1
            · intro j b hb
              have hjl : j < rd.length := by
                rcases Nat.lt_or_ge j blks.length with h' | h'
                · rw [hmem.1] at h'; exact h'
                · rw [List.getElem?_eq_none h'] at hb; cases hb
              have hj : rd[j]? = some rd[j] := by simp [hjl]
              obtain ⟨b', hb', hget⟩ := hmem.2 _ _ hj
              rw [hb] at hget
              simp only [Option.some.injEq] at hget; subst hget
              simp only [Option.bind_eq_some_iff, Option.map_eq_some_iff] at hb'
              obtain ⟨c, hc, cs, hcs, rfl⟩ := hb'
              obtain ⟨r, hr, cv, hcv, hh⟩ := hold rd[j] (by simp) c hc
              exact ⟨r, by simp only [hj, Option.bind_some, hr], cv, rens_ok hpos hcs hcv, hh⟩
            · intro j r h1
              simp only [Option.bind_eq_some_iff] at h1
              obtain ⟨n1, a1, b1⟩ := h1
              rw [hmem.1]
              rcases Nat.lt_or_ge j rd.length with h' | h'
              · exact h'
              · rw [List.getElem?_eq_none h'] at a1; cases a1
          refine Calls.mono (hcall g args' blks ds x M' ds2 ob2 hcl ho.right _ w vs (rens_ok hpos hargs ha) hMA) fun e w' hh => ?_
          obtain ⟨m', v, rfl, hpost⟩ := hh
          have hnew2 : ∀ p ∈ wr0, fresh ≤ p.1 → m p.1 = none := by
            intro p hp hf
            cases hc : sameW rd get p
            · exact hnew p (List.mem_filter.2 ⟨hp, by rw [hc]; rfl⟩) hf
            · have h2 := (sameW_ok hc (keepO_in hp ho.left)).1
              have := Nat.blt_eq.mp (hchk.2 p.1 h2)
              omega
          obtain ⟨m2, hp2⟩ := backAll_ok hback hm hk hids' hpost hnew2
          exact ⟨v, rfl, m2, hp2.keep ho.left hold⟩
        split at h
        · rename_i y1 wr1 hb1
          simp only [Option.some.injEq, Prod.mk.injEq] at h
          obtain ⟨rfl, rfl, rfl, _, rfl⟩ := h
          exact key _ _ _ (Nat.le_refl _) hb1 rfl rfl rfl rfl
        · split at h
          · rename_i hle
            simp only [Option.map_eq_some_iff, Prod.mk.injEq] at h
            obtain ⟨⟨y1, wr1⟩, hb1, rfl, rfl, rfl, _, rfl⟩ := h
            exact key _ _ _ (Nat.ble_eq.mp hle) hb1 rfl rfl rfl rfl
          · cases h
      · cases h
    · cases h
  · cases h
end
end Rx
namespace Rx
set_option linter.all false
open Go

/-- functions of Go that the model has without a text -/
abbrev ExtF := FuncId → Option (List SV → Option (SV × Obs))
def ExtOk (P : Program) (E : ExtF) : Prop :=
  ∀ g f, E g = some f → ∀ args x ob, f args = some (x, ob) → ObsOk ob → ∀ (m : Nat → Option Nat) vs, dens m args = some vs → ∃ v, den m x = some v ∧ ∀ w, (callFunc g vs.toArray).run P w = .ok (.value v) w

/-- what a program must be for the reckoner -/
structure Good (P : Program) (E : ExtF) : Prop where
  ext : ExtOk P E
  mixed : P.follows .mixedOrders = true
  names : ∀ (g : Nat) (fn : Func), P.funcs[g]? = some fn → fn.body.isSome = true → (fn.name == "runtime.NumGoroutine") = false

structure Eff where
  x : SV
  wr : List (Nat × Blk)
  rd : List Nat
  ds : Dec
  ob : Obs

def isMem (o : Oper) : Bool :=
  match o.op with
  | .alloc _ | .box _ _ | .buildSlice _ _ _ | .load _ _ | .store _ _ _ => true
  | _ => false
def hasBody (P : Program) (g : FuncId) : Bool :=
  match P.funcs[g]? with
  | some fn => fn.body.isSome
  | none => false
def calleeOf (ρ : Operand → SV) (o : Oper) : Option (FuncId × List SV) :=
  match o.op with
  | .call c => match c.callee with
    | .value f => match ρ f with
      | .fn (.func g) first cap => some (g, first ++ c.args.toList.map ρ ++ cap)
      | _ => none
    | _ => none
  | _ => none
def evOp (P : Program) (E : ExtF) (call : CallF) (ρ : Operand → SV) (get : Nat → Option Blk) (fresh : Nat) (ds : Dec) (o : Oper) : Option Eff :=
  if isMem o then (evMem P ρ get fresh o).map fun q => ⟨q.1, q.2.1, q.2.2, ds, []⟩
  else match calleeOf ρ o with
    | some (g, args) => match E g with
      | some f => (f args).map fun q => ⟨q.1, [], [], ds, q.2⟩
      | none => if hasBody P g then (evCall call get fresh ds g args).map fun q => ⟨q.1, q.2.1, q.2.2.1, q.2.2.2.1, q.2.2.2.2⟩ else none
    | none => (evPure P ρ ds o).map fun q => ⟨q.1, [], [], q.2.1, q.2.2⟩

theorem evOp_ok {P : Program} {E : ExtF} {call : CallF} {ρ : Operand → SV} {get : Nat → Option Blk} {fresh : Nat} {ds : Dec} {o : Oper} {e : Eff} (hP : Good P E) (hcall : CallOk P call)
    (h : evOp P E call ρ get fresh ds o = some e) (ho : ObsOk e.ob) {m : Nat → Option Nat} {w : World} (hm : NameOk m w)
    (hnew : ∀ p ∈ e.wr, fresh ≤ p.1 → m p.1 = none) (hold : ∀ n ∈ e.rd, ∀ b, get n = some b → ∃ r, m n = some r ∧ BlkAt m w r b)
    {ρv : Operand → Value} (hρ : ∀ y ∈ o.op.operands, den m (ρ y) = some (ρv y)) :
    OpGoes P o ρv w fun v w' => ∃ m', OpPost m w e.x e.wr m' v w' := by
  unfold evOp at h
  split at h
  · simp only [Option.map_eq_some_iff] at h
    obtain ⟨⟨x, wr, rd⟩, hq, rfl⟩ := h
    exact evMem_ok hq hm hnew hold hρ
  · split at h
    · rename_i g args hc
      unfold calleeOf at hc
      split at hc
      · rename_i c hop
        split at hc
        · rename_i f hcal
          split at hc
          · rename_i g' first cap hf
            simp only [Option.some.injEq, Prod.mk.injEq] at hc
            obtain ⟨rfl, rfl⟩ := hc
            have hfv := hρ f (by rw [hop]; simp [Op.operands, Call.operands, hcal])
            rw [hf] at hfv
            simp only [den, Option.bind_eq_some_iff, Option.map_eq_some_iff] at hfv
            obtain ⟨fv, hfirst, cv, hcap, hfe⟩ := hfv
            have hargs := args_ok (m := m) (ρ := ρ) (ρv := ρv) c.args.toList fun q hq => hρ q (by
              rw [hop]; simp only [Op.operands, Call.operands, Array.mem_append]; right; simpa using hq)
            have hall := dens_append (dens_append hfirst hargs) hcap
            have hexec : execOp ρv o = callFunc g' (fv ++ c.args.toList.map ρv ++ cv).toArray := by
              have e : (fv ++ c.args.toList.map ρv ++ cv).toArray = fv.toArray ++ c.args.map ρv ++ cv.toArray := by
                apply Array.ext'; simp
              simp only [execOp, hop, resolve, hcal, Deferred.ofValue, ← hfe, e]
              rfl
            split at h
            · rename_i f' hE
              simp only [Option.map_eq_some_iff] at h
              obtain ⟨⟨x, ob⟩, hx, rfl⟩ := h
              obtain ⟨v, hv, hrun⟩ := hP.ext g' f' hE _ x ob hx ho m _ hall
              exact OpGoes.value (w' := w) (by rw [hexec]; exact hrun w) ⟨m, OpPost.pure hm hv⟩
            · split at h
              · rename_i hbody
                simp only [Option.map_eq_some_iff] at h
                obtain ⟨⟨x, wr, rd, ds', ob⟩, hq, rfl⟩ := h
                unfold hasBody at hbody
                split at hbody
                · rename_i fn hfn
                  refine OpGoes.enter (f := g') (args := (fv ++ c.args.toList.map ρv ++ cv).toArray) (w' := w) ?_ (evCall_ok hcall hq ho hm hnew hold hall)
                  have hnone : ¬ fn.body = none := by
                    intro hb; rw [hb] at hbody; cases hbody
                  have hname : ¬ fn.name = "runtime.NumGoroutine" := by
                    have := hP.names g' fn hfn hbody
                    simpa using this
                  rw [hexec]
                  simp [callFunc, hfn, hname, hnone]
                · cases hbody
              · cases h
          · cases hc
        · cases hc
      · cases hc
    · simp only [Option.map_eq_some_iff] at h
      obtain ⟨⟨x, ds', ob⟩, hq, rfl⟩ := h
      obtain ⟨v, hv, hrun⟩ := (evPure_ok (m := m) hq ho hρ).out
      exact OpGoes.value (hrun w) ⟨m, OpPost.pure hm hv⟩

structure St where
  T : List SV
  M : List Blk
  ds : Dec
  ob : Obs

def oper (T : List SV) : Operand → SV
  | .tmp t => T.getD t (.tup [])
  | .const v => ofV v
  | .global g => .o (.pointer (some ⟨g, 0, none⟩))
  | .func f => .fn (.func f) [] []
theorem oper_ok {m : Nat → Option Nat} {T : List SV} {a : Act} (h : dens m T = some a.tmps.toList) (x : Operand) : den m (oper T x) = some (a.eval x) := by
  cases x with
  | tmp t =>
    simp only [oper, Act.eval, List.getD]
    cases ht : T[t]? with
    | some y =>
      obtain ⟨v, hv, hd⟩ := dens_get h ht
      have : a.tmps[t]? = some v := by simpa using hv
      simp [this, hd]
    | none =>
      have hl := dens_length h
      have : T.length ≤ t := by simpa using ht
      have h2 : a.tmps[t]? = none := by
        apply Array.getElem?_eq_none
        simp only [Array.length_toList] at hl
        omega
      simp [h2, den, dens, undef]
  | const v => exact den_ofV v
  | global g => simp [oper, den, Act.eval]
  | func f => simp [oper, den, dens, Act.eval]

def yS (ops : Array Oper) (T : List SV) (j : Nat) : Option Bool :=
  match (ops[j]?).bind (·.dst) with
  | some d => match T[d]? with
    | some (.b c) => some c
    | some (.o (.bool c)) => some c
    | _ => none
  | none => none
theorem den_bool {m : Nat → Option Nat} {x : SV} {c : Bool} (h : den m x = some (.bool c)) : x = .b c ∨ x = .o (.bool c) := by
  cases x <;> simp only [den, Option.some.injEq, Option.map_eq_some_iff, Option.bind_eq_some_iff] at h
  case b => left; cases h; rfl
  case o => right; rw [h]
  all_goals first
    | (cases h; done)
    | (obtain ⟨_, _, h⟩ := h; cases h; done)
    | (obtain ⟨_, _, _, _, h⟩ := h; cases h; done)
theorem yS_ok {m : Nat → Option Nat} {ops : Array Oper} {T : List SV} {a : Act} (h : dens m T = some a.tmps.toList) (j : Nat) : yielded ops a.tmps j = yS ops T j := by
  unfold yielded yS
  cases hd : (ops[j]?).bind (·.dst) with
  | none => simp
  | some d =>
    simp only [Option.bind_some]
    cases ht : T[d]? with
    | none =>
      have hl := dens_length h
      have h1 : T.length ≤ d := by simpa using ht
      have h2 : a.tmps[d]? = none := by
        apply Array.getElem?_eq_none
        simp only [Array.length_toList] at hl
        omega
      rw [h2]
    | some x =>
      obtain ⟨v, hv, hx⟩ := dens_get h ht
      have h2 : a.tmps[d]? = some v := by simpa using hv
      rw [h2]
      split
      · rename_i b hb
        simp only [Option.some.injEq] at hb; subst hb
        rcases den_bool hx with rfl | rfl <;> rfl
      · rename_i hnb
        split
        · rename_i c hc
          simp only [Option.some.injEq] at hc; subst hc
          simp only [den, Option.some.injEq] at hx; subst hx
          exact absurd rfl (hnb c)
        · rename_i c hc
          simp only [Option.some.injEq] at hc; subst hc
          simp only [den, Option.some.injEq] at hx; subst hx
          exact absurd rfl (hnb c)
        · rfl

def wantedS (ops : Array Oper) (T : List SV) (o : Oper) : Bool :=
  match o.guard with
  | none => true
  | some (j, want) => match yS ops T j with
    | some c => c == want
    | none => false
theorem wantedS_ok {m : Nat → Option Nat} {ops : Array Oper} {T : List SV} {a : Act} (h : dens m T = some a.tmps.toList) (o : Oper) : Region.wanted o (yielded ops a.tmps) = wantedS ops T o := by
  unfold Region.wanted wantedS
  cases o.guard with
  | none => rfl
  | some p =>
    obtain ⟨j, want⟩ := p
    simp only [yS_ok h]
    cases yS ops T j with
    | none => rfl
    | some c => cases c <;> cases want <;> rfl

def putT (dst : Option Tmp) (x : SV) (T : List SV) : List SV :=
  match dst with
  | some d => T.set d x
  | none => T
theorem putT_ok {m : Nat → Option Nat} {T : List SV} {a : Act} (h : dens m T = some a.tmps.toList) {x : SV} {v : Value} (hx : den m x = some v) (dst : Option Tmp) :
    dens m (putT dst x T) = some (a.put dst v).tmps.toList := by
  cases dst with
  | none => exact h
  | some d =>
    simp only [putT, Act.put]
    have := dens_set h hx d
    rw [this]
    simp

def puts (M : List Blk) : List (Nat × Blk) → Option (List Blk)
  | [] => some M
  | (n, b) :: r => if Nat.blt n M.length then puts (M.set n b) r else if Nat.beq n M.length then puts (M ++ [b]) r else none
theorem puts_ok : ∀ {wr : List (Nat × Blk)} {M M' : List Blk}, puts M wr = some M' →
    M.length ≤ M'.length ∧ (∀ p ∈ wr, p.1 < M'.length) ∧ ∀ (n : Nat) (b : Blk), M'[n]? = some b → (∃ p ∈ wr, p.1 = n ∧ p.2 = b) ∨ (M[n]? = some b ∧ ∀ p ∈ wr, p.1 ≠ n)
  | [], M, M', h => by simp only [puts, Option.some.injEq] at h; subst h; exact ⟨Nat.le_refl _, by simp, fun n b hb => .inr ⟨hb, by simp⟩⟩
  | (n0, b0) :: r, M, M', h => by
    unfold puts at h
    split at h
    · rename_i hlt
      have hlt' := Nat.blt_eq.mp hlt
      obtain ⟨h1, h2, h3⟩ := puts_ok h
      rw [List.length_set] at h1
      refine ⟨h1, ?_, ?_⟩
      · intro p hp
        rcases List.mem_cons.1 hp with rfl | hp
        · exact Nat.lt_of_lt_of_le hlt' h1
        · exact h2 p hp
      · intro n b hb
        rcases h3 n b hb with ⟨p, hp, e1, e2⟩ | ⟨h4, h5⟩
        · exact .inl ⟨p, by simp [hp], e1, e2⟩
        · by_cases e : n0 = n
          · subst e
            rw [List.getElem?_set_self hlt'] at h4
            simp only [Option.some.injEq] at h4
            exact .inl ⟨(n0, b0), by simp, rfl, h4⟩
          · rw [List.getElem?_set_ne e] at h4
            refine .inr ⟨h4, fun p hp => ?_⟩
            rcases List.mem_cons.1 hp with rfl | hp
            · exact e
            · exact h5 p hp
    · split at h
      · rename_i heq
        have heq' := Nat.eq_of_beq_eq_true heq
        obtain ⟨h1, h2, h3⟩ := puts_ok h
        simp only [List.length_append, List.length_cons, List.length_nil] at h1
        refine ⟨by omega, ?_, ?_⟩
        · intro p hp
          rcases List.mem_cons.1 hp with rfl | hp
          · simp only; omega
          · exact h2 p hp
        · intro n b hb
          rcases h3 n b hb with ⟨p, hp, e1, e2⟩ | ⟨h4, h5⟩
          · exact .inl ⟨p, by simp [hp], e1, e2⟩
          · by_cases e : n0 = n
            · subst e
              rw [heq', List.getElem?_append_right (Nat.le_refl _)] at h4
              simp at h4
              exact .inl ⟨(n0, b0), by simp, rfl, h4⟩
            · have hl : n < M.length := by
                rcases Nat.lt_or_ge n M.length with h' | h'
                · exact h'
                · rw [List.getElem?_eq_none (by simp; omega)] at h4; cases h4
              rw [List.getElem?_append_left hl] at h4
              refine .inr ⟨h4, fun p hp => ?_⟩
              rcases List.mem_cons.1 hp with rfl | hp
              · exact e
              · exact h5 p hp
      · cases h

structure StAt (m : Nat → Option Nat) (s : St) (a : Act) (w : World) : Prop where
  tm : dens m s.T = some a.tmps.toList
  df : a.defers = []
  mem : MemAt m w s.M

structure Goes (m : Nat → Option Nat) (w : World) (m' : Nat → Option Nat) (w' : World) : Prop where
  ext : Ext m m'
  fr : Fr (fun r => ∃ n, m n = some r) w w'
  new : ∀ n r, m' n = some r → m n = some r ∨ w.heap.size ≤ r
theorem Goes.refl (m : Nat → Option Nat) (w : World) : Goes m w m w := ⟨Ext.refl m, Fr.refl _ _, fun _ _ h => .inl h⟩
theorem Goes.trans {a b c : Nat → Option Nat} {u v w : World} (h : Goes a u b v) (k : Goes b v c w) : Goes a u c w := by
  refine ⟨h.ext.trans k.ext, h.fr.trans k.fr ?_, ?_⟩
  · rintro r hr ⟨n, hn⟩
    rcases h.new n r hn with h1 | h1
    · exact ⟨n, h1⟩
    · omega
  · intro n r hn
    rcases k.new n r hn with h1 | h1
    · exact h.new n r h1
    · exact .inr (Nat.le_trans h.fr.size h1)

theorem BlkAt.ext {m m' : Nat → Option Nat} {w w' : World} {r : Nat} {b : Blk} (h : BlkAt m w r b) (he : Ext m m') (hw : w'.heap[r]? = w.heap[r]?) : BlkAt m' w' r b := by
  obtain ⟨cv, h1, h2⟩ := h
  exact ⟨cv, dens_ext he h1, by rw [hw]; exact h2⟩

/-- the blocks behind an operation -/
theorem mem_after {m m' : Nat → Option Nat} {w w' : World} {M M' : List Blk} {x : SV} {wr : List (Nat × Blk)} {v : Value} (hm : MemAt m w M) (hp : OpPost m w x wr m' v w') (hM : puts M wr = some M') :
    MemAt m' w' M' ∧ Goes m w m' w' := by
  obtain ⟨h1, h2, h3⟩ := puts_ok hM
  refine ⟨⟨hp.ok, ?_, ?_⟩, hp.ext, hp.fr.mono fun r _ ⟨p, _, hr⟩ => ⟨p.1, hr⟩, fun n r hr => (hp.new n r hr).imp id fun h => h.1⟩
  · intro n b hb
    rcases h3 n b hb with ⟨p, hp', rfl, rfl⟩ | ⟨h4, h5⟩
    · exact hp.blk p hp'
    · obtain ⟨r, hr, hat⟩ := hm.blk n b h4
      refine ⟨r, hp.ext n r hr, hat.ext hp.ext (hp.fr.block r (hm.ok.lt n r hr) ?_)⟩
      rintro ⟨p, hp', hpr⟩
      exact h5 p hp' (hm.ok.inj _ _ _ hpr hr)
  · intro n r hr
    rcases hp.new n r hr with h4 | ⟨_, p, hp', rfl⟩
    · exact Nat.lt_of_lt_of_le (hm.dom n r h4) h1
    · exact h2 p hp'

def stepOp (P : Program) (E : ExtF) (call : CallF) (ops : Array Oper) (o : Oper) (s : St) : Option (St × Option Eff) :=
  if wantedS ops s.T o then
    match evOp P E call (oper s.T) (s.M[·]?) s.M.length s.ds o with
    | some e => match puts s.M e.wr with
      | some M' => some (⟨putT o.dst e.x s.T, M', e.ds, e.ob ++ s.ob⟩, some e)
      | none => none
    | none => none
  else some (⟨putT o.dst (.tup []) s.T, s.M, s.ds, s.ob⟩, none)

def runOps (P : Program) (E : ExtF) (call : CallF) (ops : Array Oper) : List Oper → St → Option St
  | [], s => some s
  | o :: r, s => match stepOp P E call ops o s with
    | some (s', _) => runOps P E call ops r s'
    | none => none

def Suf (a b : Obs) : Prop := ∃ l, b = l ++ a
theorem Suf.refl (a : Obs) : Suf a a := ⟨[], rfl⟩
theorem Suf.trans {a b c : Obs} (h : Suf a b) (k : Suf b c) : Suf a c := by
  obtain ⟨l, rfl⟩ := h; obtain ⟨r, rfl⟩ := k; exact ⟨r ++ l, by simp⟩
theorem Suf.ok {a b : Obs} (h : Suf a b) (hb : ObsOk b) : ObsOk a := by
  obtain ⟨l, rfl⟩ := h; exact hb.right

theorem stepOp_suf {P : Program} {E : ExtF} {call : CallF} {ops : Array Oper} {o : Oper} {s s' : St} {e : Option Eff} (h : stepOp P E call ops o s = some (s', e)) : Suf s.ob s'.ob := by
  unfold stepOp at h
  split at h
  · split at h
    · split at h
      · simp only [Option.some.injEq, Prod.mk.injEq] at h
        obtain ⟨rfl, _⟩ := h
        exact ⟨_, rfl⟩
      · cases h
    · cases h
  · simp only [Option.some.injEq, Prod.mk.injEq] at h
    obtain ⟨rfl, _⟩ := h
    exact Suf.refl _
theorem runOps_suf {P : Program} {E : ExtF} {call : CallF} {ops : Array Oper} : ∀ {l : List Oper} {s s' : St}, runOps P E call ops l s = some s' → Suf s.ob s'.ob
  | [], s, s', h => by simp only [runOps, Option.some.injEq] at h; subst h; exact Suf.refl _
  | o :: r, s, s', h => by
    unfold runOps at h
    split at h
    · rename_i s1 e hs
      exact (stepOp_suf hs).trans (runOps_suf h)
    · cases h

theorem undef_den (m : Nat → Option Nat) : den m (.tup []) = some undef := by simp [den, dens, undef]

theorem runOps_ok {P : Program} {E : ExtF} {call : CallF} (hP : Good P E) (hcall : CallOk P call) {ops : Array Oper} {Q : Exit → Act → World → Prop} : ∀ {l : List Oper} {s s' : St}, runOps P E call ops l s = some s' → ObsOk s'.ob →
    ∀ {m : Nat → Option Nat} {a : Act} {w : World}, StAt m s a w → (∀ m' a' w', StAt m' s' a' w' → Goes m w m' w' → Q .normal a' w') → wpList P ops Q l a w
  | [], s, s', h, ho, m, a, w, hs, hq => by
    simp only [runOps, Option.some.injEq] at h; subst h
    exact hq m a w hs (Goes.refl m w)
  | o :: r, s, s', h, ho, m, a, w, hs, hq => by
    unfold runOps at h
    split at h
    · rename_i s1 e hst
      have ho1 := (runOps_suf h).ok ho
      have hput : ∀ (x : Value), (a.put o.dst x).defers = [] := fun x => by cases o.dst <;> exact hs.df
      unfold wpList
      unfold stepOp at hst
      split at hst
      · rename_i hw
        rw [if_pos (by rw [wantedS_ok hs.tm]; exact hw)]
        split at hst
        · rename_i e0 he
          split at hst
          · rename_i M' hM
            simp only [Option.some.injEq, Prod.mk.injEq] at hst
            obtain ⟨rfl, _⟩ := hst
            left
            have hgo := evOp_ok hP hcall he (ObsOk.left (b := s.ob) ho1) (m := m) (w := w) (ρv := a.eval) hs.mem.ok
              (fun p hp hle => by
                cases hmp : m p.1 with
                | none => rfl
                | some r0 => have := hs.mem.dom _ _ hmp; omega)
              (fun n hn b hb => hs.mem.blk n b hb) (fun y _ => oper_ok hs.tm y)
            refine hgo a _ Q rfl fun v w' hpost => ?_
            obtain ⟨m', hp⟩ := hpost
            obtain ⟨hmem, hgoes⟩ := mem_after hs.mem hp hM
            refine runOps_ok hP hcall h ho (m := m') ⟨putT_ok (dens_ext hp.ext hs.tm) hp.val o.dst, hput v, hmem⟩ fun m'' a'' w'' hst' hg' => hq m'' a'' w'' hst' (hgoes.trans hg')
          · cases hst
        · cases hst
      · rename_i hw
        simp only [Option.some.injEq, Prod.mk.injEq] at hst
        obtain ⟨rfl, _⟩ := hst
        rw [if_neg (by rw [wantedS_ok hs.tm]; exact hw)]
        exact runOps_ok hP hcall h ho (m := m) ⟨putT_ok hs.tm (undef_den m) o.dst, hput undef, hs.mem⟩ hq
    · cases h
end Rx
