/- The reckoner: operations on memory. -/
import Derived.Test.YtiipaicbbmkagaaRx4
namespace Rx
set_option linter.all false
open Go

structure Blk where
  elem : TypeId
  cells : List SV

/-- a block of the model, by its cells -/
def BlkAt (m : Nat → Option Nat) (w : World) (r : Nat) (b : Blk) : Prop :=
  ∃ cv, dens m b.cells = some cv ∧ w.heap[r]? = some (.cells cv.toArray b.elem (0, 0))

/-- but for some blocks the world stays as it was -/
structure Fr (X : Nat → Prop) (w w' : World) : Prop where
  os : w'.os = w.os
  tape : w'.tape = w.tape
  output : w'.output = w.output
  size : w.heap.size ≤ w'.heap.size
  block : ∀ r, r < w.heap.size → ¬ X r → w'.heap[r]? = w.heap[r]?
theorem Fr.refl (X : Nat → Prop) (w : World) : Fr X w w := ⟨rfl, rfl, rfl, Nat.le_refl _, fun _ _ _ => rfl⟩
theorem Fr.trans {X Y : Nat → Prop} {a b c : World} (h : Fr X a b) (k : Fr Y b c) (hy : ∀ r, r < a.heap.size → Y r → X r) : Fr X a c :=
  ⟨k.os.trans h.os, k.tape.trans h.tape, k.output.trans h.output, Nat.le_trans h.size k.size,
    fun r hr hx => (k.block r (Nat.lt_of_lt_of_le hr h.size) fun y => hx (hy r hr y)).trans (h.block r hr hx)⟩
theorem Fr.mono {X Y : Nat → Prop} {a b : World} (h : Fr X a b) (hy : ∀ r, r < a.heap.size → X r → Y r) : Fr Y a b :=
  ⟨h.os, h.tape, h.output, h.size, fun r hr hn => h.block r hr fun x => hn (hy r hr x)⟩
theorem Fr.drew (X : Nat → Prop) (w : World) : Fr X w { w with drawn := w.drawn + 1 } := ⟨rfl, rfl, rfl, Nat.le_refl _, fun _ _ _ => rfl⟩

structure NameOk (m : Nat → Option Nat) (w : World) : Prop where
  inj : ∀ n n' r, m n = some r → m n' = some r → n = n'
  lt : ∀ n r, m n = some r → r < w.heap.size

/-- what an operation leaves -/
structure OpPost (m : Nat → Option Nat) (w : World) (x : SV) (wr : List (Nat × Blk)) (m' : Nat → Option Nat) (v : Value) (w' : World) : Prop where
  ext : Ext m m'
  val : den m' x = some v
  blk : ∀ p ∈ wr, ∃ r, m' p.1 = some r ∧ BlkAt m' w' r p.2
  fr : Fr (fun r => ∃ p ∈ wr, m p.1 = some r) w w'
  new : ∀ n r, m' n = some r → m n = some r ∨ (w.heap.size ≤ r ∧ ∃ p ∈ wr, p.1 = n)
  ok : NameOk m' w'

theorem OpPost.pure {m : Nat → Option Nat} {w : World} {x : SV} {v : Value} (hm : NameOk m w) (h : den m x = some v) : OpPost m w x [] m v w :=
  ⟨Ext.refl m, h, by simp, Fr.refl _ _, fun n r hr => .inl hr, hm⟩

/-- the operation goes, and then what is asked holds -/
def OpGoes (P : Program) (o : Oper) (ρv : Operand → Value) (w : World) (Φ : Value → World → Prop) : Prop :=
  ∀ (a : Act) (K : Act → World → Prop) (Q : Exit → Act → World → Prop), execOp a.eval o = execOp ρv o → (∀ v w', Φ v w' → K (a.put o.dst v) w') → o.wp P a w K Q
theorem OpGoes.value {P : Program} {o : Oper} {ρv : Operand → Value} {w w' : World} {v : Value} {Φ : Value → World → Prop} (h : (execOp ρv o).run P w = .ok (.value v) w') (hp : Φ v w') : OpGoes P o ρv w Φ := by
  intro a K Q he hk
  unfold Oper.wp
  rw [he, h]
  exact hk _ _ hp
theorem OpGoes.skip {P : Program} {o : Oper} {ρv : Operand → Value} {w w' : World} {Φ : Value → World → Prop} (h : (execOp ρv o).run P w = .ok .skip w') (hp : Φ undef w') : OpGoes P o ρv w Φ := by
  intro a K Q he hk
  unfold Oper.wp
  rw [he, h]
  exact hk _ _ hp
theorem OpGoes.enter {P : Program} {o : Oper} {ρv : Operand → Value} {w w' : World} {f : FuncId} {args : Array Value} {Φ : Value → World → Prop} (h : (execOp ρv o).run P w = .ok (.enter f args) w')
    (hp : Calls P f args w' fun e w'' => ∃ v, e = .returned v ∧ Φ v w'') : OpGoes P o ρv w Φ := by
  intro a K Q he hk
  unfold Oper.wp
  rw [he, h]
  refine Calls.mono hp fun e w'' hh => ?_
  obtain ⟨v, rfl, hv⟩ := hh
  exact hk _ _ hv
theorem OpGoes.mono {P : Program} {o : Oper} {ρv : Operand → Value} {w : World} {Φ Ψ : Value → World → Prop} (h : OpGoes P o ρv w Φ) (hp : ∀ v w', Φ v w' → Ψ v w') : OpGoes P o ρv w Ψ :=
  fun a K Q he hk => h a K Q he fun v w' x => hk v w' (hp v w' x)

def loadS (P : Program) (t : TypeId) (b : Blk) (off : Nat) : Option SV :=
  match isAggT P t with
  | some true => match sizeT P t with
    | some s => if off + s ≤ b.cells.length then some (.agg ((b.cells.drop off).take s)) else none
    | none => none
  | some false => b.cells[off]?
  | none => none

section
variable {P : Program} {m : Nat → Option Nat} {w : World}
theorem blk_cell {r : Nat} {cv : List Value} {e : TypeId} {z : Nat × Nat} (h : w.heap[r]? = some (.cells cv.toArray e z)) (j : Nat) : w.cell? ⟨r, j, none⟩ = cv[j]? := by
  simp [World.cell?, h]
theorem loadS_ok {t : TypeId} {b : Blk} {off : Nat} {x : SV} {r : Nat} (h : loadS P t b off = some x) (hb : BlkAt m w r b) :
    ∃ v, den m x = some v ∧ (loadVar t ⟨r, off, none⟩).run P w = .ok v w := by
  obtain ⟨cv, hc, hh⟩ := hb
  have hl := dens_length hc
  unfold loadS at h
  split at h
  · rename_i ha
    split at h
    · rename_i s hs
      split at h
      · rename_i hle
        simp only [Option.some.injEq] at h; subst h
        refine ⟨.agg ((cv.drop off).take s).toArray, by simp [den, dens_take (dens_drop hc off) s], ?_⟩
        have hr := run_loadCells_list (P := P) w ⟨r, off, none⟩ ((cv.drop off).take s) (fun j v hj => by
          rw [Addr_add, blk_cell hh]
          by_cases hjs : j < s
          · rw [List.getElem?_take_of_lt hjs, List.getElem?_drop] at hj; exact hj
          · rw [List.getElem?_eq_none (by simp; omega)] at hj; cases hj)
        have hlen : ((cv.drop off).take s).length = s := by simp; omega
        rw [hlen] at hr
        simp only [loadVar, Sem.run_bind, run_isAgg ha, Result.andThen_ok, if_true, run_sizeOf hs, hr, Sem.run_pure]
      · cases h
    · cases h
  · rename_i ha
    obtain ⟨v, hv, hd⟩ := dens_get hc h
    refine ⟨v, hd, ?_⟩
    simp only [loadVar, Sem.run_bind, run_isAgg ha, Result.andThen_ok, Bool.false_eq_true, if_false, run_load, blk_cell hh, hv]
  · cases h

def SV.scalar : SV → Bool
  | .agg _ | .tup _ => false
  | .o v => v.oneCell'
  | _ => true
theorem scalar_ok {x : SV} {v : Value} (h : x.scalar = true) (hx : den m x = some v) : v.oneCell' = true := by
  cases x with
  | agg l => simp [SV.scalar] at h
  | tup l => simp [SV.scalar] at h
  | o u => simp only [den, Option.some.injEq] at hx; subst hx; exact h
  | _ =>
    simp only [den, Option.some.injEq, Option.map_eq_some_iff, Option.bind_eq_some_iff] at hx
    first
      | (subst hx; rfl)
      | (obtain ⟨_, _, rfl⟩ := hx; rfl)
      | (obtain ⟨_, _, _, _, rfl⟩ := hx; rfl)

theorem run_storeCells {r : Nat} {e : TypeId} {off : Nat} : ∀ {l : List SV} {vs : List Value} {i : Nat} {cv : List Value} {w : World}, dens m l = some vs → (l.all SV.scalar) = true → w.heap[r]? = some (.cells cv.toArray e (0, 0)) → off + i + vs.length ≤ cv.length →
    ∃ w', (storeCells ⟨r, off, none⟩ vs i).run P w = .ok () w' ∧ w'.heap[r]? = some (.cells (putRowV cv (off + i) vs).toArray e (0, 0)) ∧ (∀ k, k ≠ r → w'.heap[k]? = w.heap[k]?) ∧ w'.heap.size = w.heap.size ∧ w'.os = w.os ∧ w'.tape = w.tape ∧ w'.output = w.output
  | [], vs, i, cv, w, h1, h2, h3, h4 => by
    simp [dens] at h1; subst h1
    exact ⟨w, by simp [storeCells], by simpa [putRowV] using h3, fun _ _ => rfl, rfl, rfl, rfl, rfl⟩
  | x :: l, vs, i, cv, w, h1, h2, h3, h4 => by
    obtain ⟨v, us, a, b, rfl⟩ := dens_cons_some.1 h1
    simp only [List.all_cons, Bool.and_eq_true] at h2
    simp only [List.length_cons] at h4
    have hone := scalar_ok h2.1 a
    have hcell : w.cell? ⟨r, off + i, none⟩ = some (cv[off + i]'(by omega)) := by rw [blk_cell h3]; simp
    have hfz : w.frozen? ⟨r, off + i, none⟩ = false := by simp [World.frozen?, h3]
    have hrun : (store ((⟨r, off, none⟩ : Addr).add i) v).run P w = .ok () (w.setCell ⟨r, off + i, none⟩ v) := by
      rw [Addr_add, run_store P w _ v .plain hone, hcell]
      simp [hfz]
    have hh : (w.setCell ⟨r, off + i, none⟩ v).heap[r]? = some (.cells (cv.set (off + i) v).toArray e (0, 0)) := by
      simp only [World.setCell, Array.getElem?_modify, if_true, h3, Option.map_some]
      simp
    have hlen : off + (i + 1) + us.length ≤ (cv.set (off + i) v).length := by rw [List.length_set]; omega
    obtain ⟨w', g1, g2, g3, g4, g5, g6, g7⟩ := run_storeCells (vs := us) (cv := cv.set (off + i) v) (i := i + 1) (w := w.setCell ⟨r, off + i, none⟩ v) b h2.2 hh hlen
    refine ⟨w', ?_, ?_, ?_, ?_, g5, g6, g7⟩
    · simp only [storeCells, Sem.run_bind]
      rw [hrun]
      exact g1
    · simpa [putRowV, Nat.add_assoc] using g2
    · intro k hk
      rw [g3 k hk]
      simp only [World.setCell, Array.getElem?_modify]
      rw [if_neg (fun e => hk e.symm)]
    · rw [g4]; simp
end

/-- an operation on memory: what it leaves, which blocks it writes, which it reads -/
def evMem (P : Program) (ρ : Operand → SV) (get : Nat → Option Blk) (fresh : Nat) (o : Oper) : Option (SV × List (Nat × Blk) × List Nat) :=
  match o.op with
  | .alloc elem => match P.info? elem with
    | some ti => match ti.zero with
      | some z => some (.p fresh 0, [(fresh, ⟨elem, ofA z.cells⟩)], [])
      | none => none
    | none => none
  | .box elem x => some (.p fresh 0, [(fresh, ⟨elem, (ρ x).cells⟩)], [])
  | .buildSlice t len parts => match P.underlying t with
    | some (.slice elem) => match P.info? elem with
      | some ti => match ti.zero with
        | some z =>
          if len * ti.size ≤ 16777216 ∧ len * ti.size ≠ 0 then
            (fillS (fun i => some (i * ti.size, ti.size)) (ofA ((Array.range (len * ti.size)).map (z.cells[· % z.cells.size]!))) (parts.toList.map fun q => (q.1, ρ q.2))).map fun cells =>
              (.sl fresh 0 len len, [(fresh, ⟨elem, cells⟩)], [])
          else none
        | none => none
      | none => none
    | _ => none
  | .load t a => match ρ a with
    | .p n off => match get n with
      | some b => (loadS P t b off).map fun x => (x, [], [n])
      | none => none
    | _ => none
  | .store t a x => match ρ a with
    | .p n off => match get n with
      | some b =>
        if sizeT P t = some (ρ x).cells.length ∧ off + (ρ x).cells.length ≤ b.cells.length ∧ ((ρ x).cells.all SV.scalar) = true then
          some (.tup [], [(n, ⟨b.elem, putRow b.cells off (ρ x).cells⟩)], [n])
        else none
      | none => none
    | _ => none
  | _ => none

section
variable {P : Program} {m : Nat → Option Nat} {w : World}

def addName (m : Nat → Option Nat) (n r : Nat) : Nat → Option Nat := fun k => if k = n then some r else m k
theorem addName_ext {n r : Nat} (h : m n = none) : Ext m (addName m n r) := by
  intro k q hk
  unfold addName
  by_cases e : k = n
  · subst e; rw [h] at hk; cases hk
  · rw [if_neg e]; exact hk

theorem new_post {fresh : Nat} {e : TypeId} {cells : List SV} {cv : List Value} {x : SV} {v : Value} (hm : NameOk m w) (hf : m fresh = none) (hc : dens m cells = some cv)
    (hx : den (addName m fresh w.heap.size) x = some v) :
    OpPost m w x [(fresh, ⟨e, cells⟩)] (addName m fresh w.heap.size) v (w.alloc (.cells cv.toArray e)) := by
  have hext := addName_ext (r := w.heap.size) hf
  refine ⟨hext, hx, ?_, ?_, ?_, ?_, ?_⟩
  · intro p hp
    simp only [List.mem_singleton] at hp; subst hp
    refine ⟨w.heap.size, by simp [addName], cv, dens_ext hext hc, ?_⟩
    show (w.heap.push _)[w.heap.size]? = _
    simp
  · refine ⟨rfl, rfl, rfl, by simp, fun r hr _ => ?_⟩
    show (w.heap.push _)[r]? = _
    rw [Array.getElem?_push, if_neg (by omega)]
  · intro n r hr
    unfold addName at hr
    split at hr
    · rename_i e; simp only [Option.some.injEq] at hr; exact .inr ⟨by omega, _, List.mem_singleton.2 rfl, e.symm⟩
    · exact .inl hr
  · intro n n' r h1 h2
    unfold addName at h1 h2
    split at h1 <;> split at h2
    · rename_i a b; rw [a, b]
    · simp only [Option.some.injEq] at h1; have := hm.lt _ _ h2; omega
    · simp only [Option.some.injEq] at h2; have := hm.lt _ _ h1; omega
    · exact hm.inj _ _ _ h1 h2
  · intro n r hr
    unfold addName at hr
    simp only [World.size_alloc]
    split at hr
    · simp only [Option.some.injEq] at hr; omega
    · have := hm.lt _ _ hr; omega

theorem evMem_ok {ρ : Operand → SV} {get : Nat → Option Blk} {fresh : Nat} {o : Oper} {x : SV} {wr : List (Nat × Blk)} {rd : List Nat} (h : evMem P ρ get fresh o = some (x, wr, rd)) (hm : NameOk m w)
    (hnew : ∀ p ∈ wr, fresh ≤ p.1 → m p.1 = none) (hold : ∀ n ∈ rd, ∀ b, get n = some b → ∃ r, m n = some r ∧ BlkAt m w r b)
    {ρv : Operand → Value} (hρ : ∀ y ∈ o.op.operands, den m (ρ y) = some (ρv y)) :
    OpGoes P o ρv w fun v w' => ∃ m', OpPost m w x wr m' v w' := by
  unfold evMem at h
  split at h
  · rename_i elem hop
    split at h
    · rename_i ti hti
      split at h
      · rename_i z hz
        simp only [Option.some.injEq, Prod.mk.injEq] at h
        obtain ⟨rfl, rfl, rfl⟩ := h
        have hf : m fresh = none := hnew _ (List.mem_singleton.2 rfl) (Nat.le_refl _)
        refine OpGoes.value (v := .pointer (some ⟨w.heap.size, 0, none⟩)) (w' := w.alloc (.cells z.cells elem)) ?_ ⟨addName m fresh w.heap.size, ?_⟩
        · simp [execOp, hop, Instr.alloc, zeroValue, typeInfo, hti, hz, newVar, newRow]
        · have := new_post (e := elem) (x := .p fresh 0) (v := .pointer (some ⟨w.heap.size, 0, none⟩)) hm hf (dens_ofA (m := m) z.cells) (by simp [den, addName])
          simpa using this
      · cases h
    · cases h
  · rename_i elem y hop
    simp only [Option.some.injEq, Prod.mk.injEq] at h
    obtain ⟨rfl, rfl, rfl⟩ := h
    have hf : m fresh = none := hnew _ (List.mem_singleton.2 rfl) (Nat.le_refl _)
    have hy := hρ y (by rw [hop]; simp [Op.operands])
    refine OpGoes.value (v := .pointer (some ⟨w.heap.size, 0, none⟩)) (w' := w.alloc (.cells (ρv y).cells elem)) ?_ ⟨addName m fresh w.heap.size, ?_⟩
    · simp [execOp, hop, Instr.box, newVar, newRow]
    · have := new_post (e := elem) (x := .p fresh 0) (v := .pointer (some ⟨w.heap.size, 0, none⟩)) hm hf (cells_ok hy) (by simp [den, addName])
      simpa using this
  · rename_i t len parts hop
    split at h
    · rename_i elem hd
      split at h
      · rename_i ti hti
        split at h
        · rename_i z hz
          split at h
          · rename_i hle
            simp only [Option.map_eq_some_iff, Prod.mk.injEq] at h
            obtain ⟨cells, hcells, rfl, rfl, rfl⟩ := h
            have hf : m fresh = none := hnew _ (List.mem_singleton.2 rfl) (Nat.le_refl _)
            have h1 := pairs_ok (m := m) (ρ := ρ) (ρv := ρv) parts.toList fun q hq => hρ q.2 (by
              rw [hop]; simp only [Op.operands, List.mem_toArray, List.mem_map]; exact ⟨q, hq, rfl⟩)
            obtain ⟨ov, h2, h3⟩ := fillS_ok (vparts := parts.toList.map fun q => (q.1, ρv q.2)) (by simp) h1 hcells (dens_ofA _)
            refine OpGoes.value (v := .slice (some ⟨w.heap.size, 0, none⟩) len len) (w' := w.alloc (.cells ov.toArray elem)) ?_ ⟨addName m fresh w.heap.size, ?_⟩
            · have hsz : sizeT P elem = some ti.size := by simp [sizeT, hti]
              have h3' : Instr.fill (fun i => some (i * ti.size, ti.size)) ((Array.range (len * ti.size)).map (z.cells[· % z.cells.size]!)) (parts.toList.map fun q => (q.1, ρv q.2)) = some ov.toArray := by rw [Array.toArray_toList] at h3; exact h3
              simp only [execOp, hop, Instr.buildSlice, Sem.run_bind, run_underlying hd, Result.andThen_ok, run_sizeOf hsz]
              rw [if_neg (by omega)]
              rw [if_neg hle.2]
              simp [h3', newRow, zeroValue, typeInfo, hti, hz]
            · exact new_post (e := elem) (x := .sl fresh 0 len len) hm hf h2 (by simp [den, addName])
          · cases h
        · cases h
      · cases h
    · cases h
  · rename_i t a hop
    have ha := hρ a (by rw [hop]; simp [Op.operands])
    split at h
    · rename_i n off hn
      split at h
      · rename_i b hb
        simp only [Option.map_eq_some_iff, Prod.mk.injEq] at h
        obtain ⟨y, hy, rfl, rfl, rfl⟩ := h
        obtain ⟨r, hr, hat⟩ := hold n (by simp) b hb
        obtain ⟨v, hv, hrun⟩ := loadS_ok hy hat
        rw [hn] at ha
        simp only [den, hr, Option.map_some, Option.some.injEq] at ha
        refine OpGoes.value (v := v) (w' := w) ?_ ⟨m, OpPost.pure hm hv⟩
        simp only [execOp, hop, ← ha, Instr.loadAt, Sem.run_bind, run_sureAddr, Result.andThen_ok, hrun]; rfl
      · cases h
    · cases h
  · rename_i t a y hop
    have ha := hρ a (by rw [hop]; simp [Op.operands])
    have hy := hρ y (by rw [hop]; simp [Op.operands])
    split at h
    · rename_i n off hn
      split at h
      · rename_i b hb
        split at h
        · rename_i hc
          obtain ⟨c1, c2, c3⟩ := hc
          simp only [Option.some.injEq, Prod.mk.injEq] at h
          obtain ⟨rfl, rfl, rfl⟩ := h
          obtain ⟨r, hr, cv, hcv, hh⟩ := hold n (by simp) b hb
          rw [hn] at ha
          simp only [den, hr, Option.map_some, Option.some.injEq] at ha
          have hcy := cells_ok hy
          have hl1 := dens_length hcy
          have hl2 := dens_length hcv
          obtain ⟨w', g1, g2, g3, g4, g5, g6, g7⟩ := run_storeCells (P := P) (off := off) (i := 0) (w := w) hcy c3 hh (by omega)
          refine OpGoes.skip (w' := w') ?_ ⟨m, ?_⟩
          · simp only [execOp, hop, ← ha, Instr.storeAt, Sem.run_bind, run_sureAddr, Result.andThen_ok, storeVar, run_sizeOf c1]
            rw [if_neg (by simp at hl1; omega)]
            simp only [Sem.run_pure]
            first | (rw [g1]; rfl) | simp [g1]
          · refine ⟨Ext.refl m, by simp [den, dens, undef], ?_, ?_, fun n r hr => .inl hr, hm.inj, fun n r hr => by rw [g4]; exact hm.lt n r hr⟩
            · intro p hp
              simp only [List.mem_singleton] at hp; subst hp
              exact ⟨r, hr, _, putRow_ok (off := off) hcv hcy, by simpa using g2⟩
            · refine ⟨g5, g6, g7, by omega, fun k hk hx => g3 k fun e => hx ⟨_, List.mem_singleton.2 rfl, by rw [e]; exact hr⟩⟩
        · cases h
      · cases h
    · cases h
  · cases h
end
end Rx
