/- The reckoner: operations of values alone, with addresses among them. -/
import Derived.Test.YtiipaicbbmkagaaRx2
namespace Rx
set_option linter.all false
open Go

def fieldT (P : Program) (t : TypeId) (f : Nat) : Option Field :=
  match P.underlying t with
  | some (.struct fs) => fs[f]?
  | _ => none

def evFieldAddr (P : Program) (s : TypeId) (f : Nat) : SV → Option SV
  | .p n off =>
    match fieldT P s f with
    | some fd => match sizeT P fd.type with
      | some (_ + 1) => some (.p n (off + fd.offset))
      | _ => none
    | none => none
  | _ => none
def evField (P : Program) (t : TypeId) (f : Nat) : SV → Option SV
  | .agg l => (fieldT P t f).bind fun fd => partS P fd.type l fd.offset
  | _ => none
def evIndexAddr (P : Program) (t : TypeId) (x ix : SV) : Option SV :=
  match ix with
  | .i _ i =>
    match P.underlying t with
    | some (.array len elem) => match x with
      | .p n off => if 0 ≤ i ∧ i < len then (sizeT P elem).map fun s => .p n (off + i.toNat * s) else none
      | _ => none
    | some (.slice elem) => match x with
      | .sl n off len _ => if 0 ≤ i ∧ i < len then (sizeT P elem).map fun s => .p n (off + i.toNat * s) else none
      | _ => none
    | _ => none
  | _ => none
def evIndex (P : Program) (t : TypeId) (x ix : SV) : Option SV :=
  match ix with
  | .i _ i =>
    match P.underlying t with
    | some (.array len elem) => match x with
      | .agg l => if 0 ≤ i ∧ i < len then (sizeT P elem).bind fun s => partS P elem l (i.toNat * s) else none
      | _ => none
    | _ => none
  | _ => none
def evBuild (P : Program) (t : TypeId) (parts : List (Nat × SV)) : Option SV :=
  match P.info? t with
  | some ti => match ti.zero with
    | some z => match P.underlying t with
      | some (.struct fs) => match fs.toList.mapM fun f => (sizeT P f.type).map fun s => (f.offset, s) with
        | some places => (fillS (fun i => places[i]?) (ofA z.cells) parts).map .agg
        | none => none
      | some (.array _ elem) => match sizeT P elem with
        | some s => (fillS (fun i => some (i * s, s)) (ofA z.cells) parts).map .agg
        | none => none
      | _ => none
    | none => none
  | none => none

section
variable {P : Program} {m : Nat → Option Nat} {w : World}

theorem Addr_add (r off k : Nat) : (⟨r, off, none⟩ : Addr).add k = ⟨r, off + k, none⟩ := by
  unfold Addr.add
  by_cases h : k = 0
  · simp [h]
  · simp [h]

theorem run_sureAddr (a : Addr) : (Instr.sureAddr (.pointer (some a))).run P w = .ok a w := rfl

theorem evFieldAddr_ok {s : TypeId} {f : Nat} {x y : SV} {v : Value} (h : evFieldAddr P s f x = some y) (hx : den m x = some v) :
    ∃ u, den m y = some u ∧ (Instr.fieldAt s v f).run P w = .ok u w := by
  unfold evFieldAddr at h
  split at h
  · rename_i n off
    split at h
    · rename_i fd hf
      split at h
      · rename_i k hk
        simp only [Option.some.injEq] at h; subst h
        simp only [den, Option.map_eq_some_iff] at hx
        obtain ⟨r, hr, rfl⟩ := hx
        refine ⟨.pointer (some ⟨r, off + fd.offset, none⟩), by simp [den, hr], ?_⟩
        unfold fieldT at hf
        split at hf
        · rename_i fs hu
          simp [Instr.fieldAt, run_underlying hu, hf, run_sureAddr, fieldPlace, run_sizeOf hk, Addr_add]
        · cases hf
      · cases h
    · cases h
  · cases h

theorem evField_ok {t : TypeId} {f : Nat} {x y : SV} {v : Value} (h : evField P t f x = some y) (hx : den m x = some v) :
    ∃ u, den m y = some u ∧ (Instr.field t v f).run P w = .ok u w := by
  unfold evField at h
  split at h
  · rename_i l
    simp only [Option.bind_eq_some_iff] at h
    obtain ⟨fd, hf, hp⟩ := h
    simp only [den, Option.map_eq_some_iff] at hx
    obtain ⟨vs, hvs, rfl⟩ := hx
    obtain ⟨u, hu, hr⟩ := partS_ok hp hvs w
    refine ⟨u, hu, ?_⟩
    unfold fieldT at hf
    split at hf
    · rename_i fs hd
      simp [Instr.field, run_underlying hd, hf, asAgg, hr]
    · cases hf
  · cases h

theorem evIndexAddr_ok {t : TypeId} {x ix y : SV} {v vi : Value} (h : evIndexAddr P t x ix = some y) (hx : den m x = some v) (hi : den m ix = some vi) :
    ∃ u, den m y = some u ∧ (Instr.indexAt t v vi).run P w = .ok u w := by
  unfold evIndexAddr at h
  split at h
  · rename_i k i
    simp only [den, Option.some.injEq] at hi; subst hi
    split at h
    · rename_i len elem hd
      split at h
      · rename_i n off
        split at h
        · rename_i hc
          simp only [Option.map_eq_some_iff] at h
          obtain ⟨s, hs, rfl⟩ := h
          simp only [den, Option.map_eq_some_iff] at hx
          obtain ⟨r, hr, rfl⟩ := hx
          refine ⟨.pointer (some ⟨r, off + i.toNat * s, none⟩), by simp [den, hr], ?_⟩
          simp [Instr.indexAt, asIntOf, run_underlying hd, run_sureAddr, hc, run_sizeOf hs, Addr_add]
        · cases h
      · cases h
    · rename_i elem hd
      split at h
      · rename_i n off len cap
        split at h
        · rename_i hc
          simp only [Option.map_eq_some_iff] at h
          obtain ⟨s, hs, rfl⟩ := h
          simp only [den, Option.map_eq_some_iff] at hx
          obtain ⟨r, hr, rfl⟩ := hx
          refine ⟨.pointer (some ⟨r, off + i.toNat * s, none⟩), by simp [den, hr], ?_⟩
          simp [Instr.indexAt, asIntOf, run_underlying hd, hc, run_sizeOf hs, Addr_add]
        · cases h
      · cases h
    · cases h
  · cases h

theorem evIndex_ok {t : TypeId} {x ix y : SV} {v vi : Value} (h : evIndex P t x ix = some y) (hx : den m x = some v) (hi : den m ix = some vi) :
    ∃ u, den m y = some u ∧ (Instr.index t v vi).run P w = .ok u w := by
  unfold evIndex at h
  split at h
  · rename_i k i
    simp only [den, Option.some.injEq] at hi; subst hi
    split at h
    · rename_i len elem hd
      split at h
      · rename_i l
        split at h
        · rename_i hc
          simp only [Option.bind_eq_some_iff] at h
          obtain ⟨s, hs, hp⟩ := h
          simp only [den, Option.map_eq_some_iff] at hx
          obtain ⟨vs, hvs, rfl⟩ := hx
          obtain ⟨u, hu, hr⟩ := partS_ok hp hvs w
          refine ⟨u, hu, ?_⟩
          simp [Instr.index, asIntOf, run_underlying hd, hc, run_sizeOf hs, hr]
        · cases h
      · cases h
    · cases h
  · cases h

theorem run_mapM_sizes (fs : List Field) : ∀ places, (fs.mapM fun f => (sizeT P f.type).map fun s => (f.offset, s)) = some places →
    (fs.mapM fun f => (do pure (f.offset, ← Go.sizeOf f.type) : Sem (Nat × Nat))).run P w = .ok places w := by
  induction fs with
  | nil => intro places h; simp at h; subst h; simp
  | cons f fs ih =>
    intro places h
    simp only [List.mapM_cons, Option.bind_eq_bind, Option.bind_eq_some_iff, Option.map_eq_some_iff] at h
    obtain ⟨a, ⟨s, hs, rfl⟩, bs, hb, he⟩ := h
    simp only [pure, Option.some.injEq] at he; subst he
    simp only [List.mapM_cons, Sem.run_bind, run_sizeOf hs, Result.andThen_ok, Sem.run_pure]
    rw [ih bs hb]
    simp

theorem evBuild_ok {t : TypeId} {parts : List (Nat × SV)} {vparts : List (Nat × Value)} {y : SV} (h : evBuild P t parts = some y)
    (h0 : vparts.map (·.1) = parts.map (·.1)) (h1 : dens m (parts.map (·.2)) = some (vparts.map (·.2))) :
    ∃ u, den m y = some u ∧ (Instr.build t vparts.toArray).run P w = .ok u w := by
  unfold evBuild at h
  split at h
  · rename_i ti hti
    split at h
    · rename_i z hz
      have hzero : (zeroValue t).run P w = .ok z w := by simp [zeroValue, typeInfo, hti, hz]
      have hzc : dens m (ofA z.cells) = some z.cells.toList := dens_ofA _
      split at h
      · rename_i fs hd
        split at h
        · rename_i places hp
          simp only [Option.map_eq_some_iff] at h
          obtain ⟨out, ho, rfl⟩ := h
          obtain ⟨ov, h2, h3⟩ := fillS_ok h0 h1 ho hzc
          refine ⟨.agg ov.toArray, by simp [den, h2], ?_⟩
          have hm : (fs.mapM fun f => (do pure (f.offset, ← Go.sizeOf f.type) : Sem (Nat × Nat))).run P w = .ok places.toArray w := by
            rw [← Array.toArray_toList (xs := fs), List.mapM_toArray]
            simp only [Sem.run_map]
            rw [run_mapM_sizes fs.toList places hp]
            rfl
          simp only [Instr.build, Sem.run_bind, hzero, Result.andThen_ok, run_underlying hd]
          erw [hm]
          simp only [Result.andThen_ok]
          have h4 : Instr.fill (fun x => places[x]?) z.cells vparts = some ov.toArray := by simpa using h3
          simp [h4]
        · cases h
      · rename_i n elem hd
        split at h
        · rename_i s hs
          simp only [Option.map_eq_some_iff] at h
          obtain ⟨out, ho, rfl⟩ := h
          obtain ⟨ov, h2, h3⟩ := fillS_ok h0 h1 ho hzc
          refine ⟨.agg ov.toArray, by simp [den, h2], ?_⟩
          have h4 : Instr.fill (fun i => some (i * s, s)) z.cells vparts = some ov.toArray := by simpa using h3
          simp only [Instr.build, Sem.run_bind, hzero, Result.andThen_ok, run_underlying hd, run_sizeOf hs]
          simp [h4]
        · cases h
      · cases h
    · cases h
  · cases h
end
end Rx
