/- burnishlow.Prog as a known function. burnishlow.Prog as a known function: the whole. The reckoner: the first parts of a row of parts as one; a function that goes on from a new beginning, with new blocks alone. burnishlow.Prog as a known function: the contract. chances: the mirror's part does not hang on the leaves. What leaves send, plain: gloss. Oren's value, plain: a slope, then one line. Oren's slope, plain: in cases; parts; both ways. Layer 11's laws, by the reckoner. Leaves, plain: values and densities of directions of numbers. Chances of right programs, plain: no errors; boxes. Roots of narrow intervals are narrow; directions of numbers are narrow; what a surface reflects is above 0, and all at the edge. Chances of right programs: no errors, boxes. -/
import Derived.Test.YtgjohjgmlleebaaGreatZ12
import Derived.Test.YtgjohjgmlleebaaGreatZ11
namespace Go.Proofs.YtgjohjgmlleebaaGreat
set_option linter.all false
open Go.RowKit Bu Rx
theorem LandsB.seq {P : Program} {E : ExtF} {O : OracleF} {B : Bs} (hP : Rx.Good P E) (hO : OracleOk P O) {n : Nat} {c d : Code} {s : St} {ex : Ex} {Ψ : St → Prop} (h : Lands P E O n c s .normal) (ho : ObsOk (aft P E O n c s).ob) (k : RunsB P B d (aft P E O n c s) ex Ψ) : RunsB P B (.seq c d) s ex Ψ :=
  RunsB.seq (RunsP.bs (h.runs hP hO ho)) fun _ ht => ht ▸ k
def prU (cs : List SV) (len : Nat) (j : Nat) : U8 := bif Nat.beq len 0 then u8Z else u8At cs (j * 8)
/-- how many are added -/
def prK (len : Nat) : Nat := (mnI len 8).toNat - (mnI len 1).toNat
theorem prK_0 : prK 0 = 0 := by decide
theorem prK_s {len : Nat} (h : 0 < len) : prK len = min len 8 - 1 ∧ (mnI (len : Int) 1).toNat = 1 := by
  unfold prK mnI
  split <;> split <;> constructor <;> omega
theorem u8_at {cells cs : List SV} {off o : Nat} (h : CellsAt cells off cs) (hk : ckAll cs o u8CK = true) : u8At cells (off + o) = u8At cs o ∧ ckAll cells (off + o) u8CK = true := by
  have h2 := (at_row h hk).2
  refine ⟨?_, h2⟩
  unfold u8CK ckAll ckAll ckAll ckAll ckAll ckAll ckAll ckAll ckAll at hk
  simp only [Bool.and_eq_true] at hk
  obtain ⟨a0, a1, a2, a3, a4, a5, a6, a7, _⟩ := hk
  unfold u8At
  have e0 := (at_in h a0).1
  have e1 := (at_in h a1).1
  have e2 := (at_in h a2).1
  have e3 := (at_in h a3).1
  have e4 := (at_in h a4).1
  have e5 := (at_in h a5).1
  have e6 := (at_in h a6).1
  have e7 := (at_in h a7).1
  simp only [Nat.add_assoc, Nat.reduceAdd] at e0 e1 e2 e3 e4 e5 e6 e7 ⊢
  rw [e0, e1, e2, e3, e4, e5, e6, e7]
structure PrIn (N : Npr) (cs : List SV) (len : Nat) : Prop where
  row : ∀ j, j < len → j < 8 → ckAll cs (j * 8) u8CK = true
  ok : ∀ j, j < len → j < 8 → prgB N (u8At cs (j * 8)) = true
section
variable {N : Npr} (hO : OracleOk Tryz.prog (OPr N)) (hN : N.p minIor_ maxIor_ = true) (hZ : N.o u8Z = true) {e : TypeId × (Nat × Nat)} {cells cs : List SV} {off len cap : Nat} {B : Bs} (hB : B.M.length = 1) (hid : idsLts 0 cells = true) (hca : CellsAt cells off cs) (hcap : len ≤ cap) (K : PrIn N cs len)
include hO hN hB hca hcap K
set_option maxRecDepth 20000 in
theorem prog_tail {x : Nat → SV} : RunsB Tryz.prog B (.seq (.seq pC3 (.block 0 (.loop pBd))) pTl) (qS e cells (prgC N (prU cs len) 0) off len cap x) .ret
    (fun t => resultS Tryz.prog Tryz.f15 t = some (.osl true 1 (prK len + 1)) ∧ t.M = [⟨e.1, cells, .ro e.2⟩, ⟨44, prgC N (prU cs len) (prK len), .rown 19⟩]) := by
  refine RunsB.seq (Φ := fun t => ∃ o1 c1 y, t = pS e cells (prgC N (prU cs len) (prK len)) off len cap o1 (prK len) c1 (prK len + 1) (.si .i64 (prK len : Nat)) y none) ?_ fun t ⟨o1, c1, y, ht⟩ => ?_
  · have hsl : slC (mnI len 1) (mnI len 8) cap = true := by
      unfold slC mnI
      simp only [Bool.and_eq_true, decide_eq_true_eq]
      split <;> split <;> refine ⟨by omega, by omega, by omega⟩
    refine LandsB.seq goodG hO (pL3 N e cells _ off len cap x) (by rw [pO3]; exact obs_cons hsl obs_nil) ?_
    have hs : SameSt (pS e cells (prgC N (prU cs len) 0) off len cap (off + endC (mnI len 1) cap * 8) (prK len) (cap - (mnI len 1).toNat) (0 + 1) (.si .i64 ((0 : Nat) : Int)) (pX3 N e cells (prgC N (prU cs len) 0) off len cap x) none) (aft Tryz.prog EG (OPr N) 60 pC3 (qS e cells (prgC N (prU cs len) 0) off len cap x)) := by
      refine same_T (fun m => ?_) ?_
      · rw [pT3]; simp only [pS, pT, prK, dens, den, Int.natCast_zero, Nat.zero_add]
      · rw [pM3]; rfl
    refine RunsB.retell hs ?_
    refine loop_invB (fun (i : Nat) (y : Nat → SV) => pS e cells (prgC N (prU cs len) i) off len cap (off + endC (mnI len 1) cap * 8) (prK len) (cap - (mnI len 1).toNat) (i + 1) (.si .i64 (i : Int)) y none) (fun _ _ => True) (prK len) ?_ ?_ _ trivial
    · intro i y hi _
      have hl : 0 < len := by
        rcases Nat.eq_zero_or_pos len with h0 | h0
        · subst h0; rw [prK_0] at hi; omega
        · exact h0
      obtain ⟨k1, k2⟩ := prK_s hl
      have hj : i + 1 < len ∧ i + 1 < 8 := by omega
      have hrow := K.row (i + 1) hj.1 hj.2
      have hU : prU cs len (i + 1) = u8At cs ((i + 1) * 8) := by
        unfold prU
        cases len with
        | zero => omega
        | succ n => rfl
      obtain ⟨u1, u2⟩ := u8_at hca hrow
      have ho : off + endC (mnI len 1) cap * 8 + i * 8 = off + (i + 1) * 8 := by
        have hne : (mnI (len : Int) 1) ≠ (cap : Int) := by unfold mnI; split <;> omega
        unfold endC
        rw [decide_eq_false hne, cond_false, k2]; omega
      exact (pround hO hN hB hi (by omega) (by rw [ho, u1, hU]) (by rw [ho]; exact u2) (by rw [hU]; exact K.ok (i + 1) hj.1 hj.2)).mono fun t ⟨x', h⟩ => ⟨x', trivial, h⟩
    · intro y _
      have hob : ObsOk (aft Tryz.prog EG (OPr N) 60 pBd (pS e cells (prgC N (prU cs len) (prK len)) off len cap (off + endC (mnI len 1) cap * 8) (prK len) (cap - (mnI len 1).toNat) (prK len + 1) (.si .i64 (prK len : Nat)) y (some [false]))).ob := by
        rw [pXo]; exact obs_cons (decide_eq_false (by omega)) obs_nil
      refine RunsB.re (d := some [false]) (o := []) (RunsP.bs (Lands.fin goodG hO (pLx N e cells _ off len cap _ _ _ _ _ y) hob ?_))
      exact ⟨pS e cells (prgC N (prU cs len) (prK len)) off len cap (off + endC (mnI len 1) cap * 8) (prK len) (cap - (mnI len 1).toNat) (prK len + 1) (.si .i64 (prK len : Nat)) (fun j => bif Nat.beq j 30 then .b false else y j) none, ⟨_, _, _, rfl⟩, same_eq (congrArg St.T (pXo N e cells _ off len cap _ _ _ _ _ y)).symm (congrArg St.M (pXo N e cells _ off len cap _ _ _ _ _ y)).symm⟩
  · subst ht
    exact RunsP.bs (Lands.all goodG hO (pLt N e cells _ off len cap _ _ _ _ _ y) (by rw [pTo]; exact obs_nil) ⟨pTr N e cells _ off len cap _ _ _ _ _ y, pTM N e cells _ off len cap _ _ _ _ _ y⟩)
end
end Go.Proofs.YtgjohjgmlleebaaGreat
namespace Go.Proofs.YtgjohjgmlleebaaGreat
set_option linter.all false
open Go.RowKit Bu Rx
section
variable (N : Npr) (e : TypeId × (Nat × Nat)) (cells : List SV) (off len cap : Nat)
theorem pMa2 : selM ((pSa N e cells off len cap).M.set 2 ⟨44, nzC (N.k (u8At cells (off + 0))) (N.f (u8At cells (off + 0))), .rown 19⟩) [0, 2] = some [⟨e.1, cells, .ro e.2⟩, ⟨44, nzC (N.k (u8At cells (off + 0))) (N.f (u8At cells (off + 0))), .rown 19⟩] := by kernel_rfl
theorem pMb2 : (pSb N e cells off len cap).M.set 1 ⟨44, nzC (N.k u8Z) (N.f u8Z), .rown 19⟩ = [⟨e.1, cells, .ro e.2⟩, ⟨44, nzC (N.k u8Z) (N.f u8Z), .rown 19⟩] := by kernel_rfl
end
theorem nzC_ids (k : Int) (f : Nat → F) : idsLts 0 (nzC k f) = true := rfl
theorem maxLen_1 : 1 ≤ maxLen := by decide
theorem own_fin {P : Program} {B : Bs} {c : Code} {s : St} {ex : Ex} {T T' : List SV} {M M' : List Blk} {d : Dec} {o : Obs} (h : RunsB P B c s ex (fun u => u = ⟨T, M, d, o⟩)) (hT : T = T') (hM : M = M') : RunsB P B c s ex (fun u => u = ⟨T', M', none, []⟩) := by
  subst hT; subst hM
  exact RunsB.fin h fun t ht => ⟨_, rfl, ht ▸ SameSt.same _ _ _ _ _ _⟩
theorem sel_fin {P : Program} {B : Bs} {c : Code} {s : St} {T0 : List SV} {M0 : List Blk} {d : Dec} {o : Obs} {ex : Ex} {ids : List Nat} {M' : List Blk} {T : (Nat → Value) → List SV} (h : RunsB P B c s ex (fun u => u = ⟨T0, M0, d, o⟩)) (hn : nodupB ids = true) (hM : selM M0 ids = some M') (hk : ∀ n, n < B.M.length → ids[n]? = some n)
    (hT : ∀ v, ((⟨T0, M0, d, o⟩ : St).sel ids M' v).T = T v) : RunsB P B c s ex (fun u => ∃ v, u = ⟨T v, M', none, []⟩) :=
  RunsB.sel h hn hM hk fun v => ⟨⟨T v, M', none, []⟩, ⟨v, rfl⟩, same_eq (hT v).symm rfl⟩
theorem prog_in {N : Npr} (hO : OracleOk Tryz.prog (OPr N)) (hN : N.p minIor_ maxIor_ = true) (hZ : N.o u8Z = true) {e : TypeId × (Nat × Nat)} {cells cs : List SV} {off len cap : Nat} {B : Bs} (hB : B.M.length = 1) (hid : idsLts 0 cells = true) (hca : CellsAt cells off cs)
    (hcap : len ≤ cap) (K : PrIn N cs len) : RunsB Tryz.prog B pC (pE e cells off len cap none) .ret
    (fun t => resultS Tryz.prog Tryz.f15 t = some (.osl true 1 (prK len + 1)) ∧ t.M = [⟨e.1, cells, .ro e.2⟩, ⟨44, prgC N (prU cs len) (prK len), .rown 19⟩]) := by
  have hk : ∀ n, n < B.M.length → ([0, 2] : List Nat)[n]? = some n := fun n hn => by
    rw [hB] at hn
    have : n = 0 := by omega
    subst this; rfl
  rw [pC_cut]
  rcases Nat.eq_zero_or_pos len with h0 | h0
  · refine RunsB.re (d := some [false]) (o := []) ?_
    have q0 : ObsOk (pS0 N e cells off len cap false).ob := by rw [pO0]; exact obs_nil
    have q1 : ObsOk (pS1 N e cells off len cap false).ob := by rw [pO1]; exact obs_cons hZ obs_nil
    refine LandsB.seq goodG hO (pL0 N e cells off len cap false) q0 ?_
    refine LandsB.seq goodG hO (pL1 N e cells off len cap false) q1 ?_
    refine RunsB.seq (Φ := fun t => ∃ x, t = qS e cells (prgC N (prU cs len) 0) off len cap x) ?_ fun t ⟨x, ht⟩ => ?_
    · have hob : ObsOk (pSb N e cells off len cap).ob := by rw [pOb]; exact obs_cons (decide_eq_false (by omega)) (obs_cons hZ obs_nil)
      have h1 := RunsB.own (B := B) (n := 1) (L := 1) (size := 19) (i := 3) (e := 44) (cells := nzC (N.k u8Z) (N.f u8Z)) (RunsP.bs (Lands.runs goodG hO (pLb N e cells off len cap) hob)) (by omega) (by rw [pMb]; rfl) rfl maxLen_1 (fun b hb => by
        rw [pMb] at hb
        simp only [List.mem_cons, List.not_mem_nil, or_false] at hb
        rcases hb with rfl | rfl
        · exact ⟨rfl, hid⟩
        · exact ⟨rfl, nzC_ids _ _⟩) (p3b N e cells off len cap) (pNb N e cells off len cap)
      have hU : prgC N (prU cs len) 0 = nzC (N.k u8Z) (N.f u8Z) := by subst h0; rfl
      have h2 := own_fin h1 (pTb N e cells off len cap) (pMb2 N e cells off len cap)
      rw [hU]
      exact h2.mono fun t ht => ⟨pXb N e cells off len cap, ht⟩
    · subst ht
      exact prog_tail hO hN hB hca hcap K
  · refine RunsB.re (d := some [true]) (o := []) ?_
    have q0 : ObsOk (pS0 N e cells off len cap true).ob := by rw [pO0]; exact obs_nil
    have q1 : ObsOk (pS1 N e cells off len cap true).ob := by rw [pO1]; exact obs_cons hZ obs_nil
    refine LandsB.seq goodG hO (pL0 N e cells off len cap true) q0 ?_
    refine LandsB.seq goodG hO (pL1 N e cells off len cap true) q1 ?_
    refine RunsB.seq (Φ := fun t => ∃ x, t = qS e cells (prgC N (prU cs len) 0) off len cap x) ?_ fun t ⟨x, ht⟩ => ?_
    · have hr0 := K.row 0 h0 (by omega)
      have ho0 := K.ok 0 h0 (by omega)
      rw [Nat.zero_mul] at hr0 ho0
      obtain ⟨u1, u2⟩ := u8_at hca hr0
      have hU : prgC N (prU cs len) 0 = nzC (N.k (u8At cells (off + 0))) (N.f (u8At cells (off + 0))) := by
        rw [u1]
        cases len with
        | zero => omega
        | succ n => unfold prgC prU; rw [Nat.zero_mul]; rfl
      have hoo : N.o (u8At cells (off + 0)) = true := by
        rw [u1]; unfold prgB at ho0; rw [Bool.and_eq_true] at ho0; exact ho0.1
      have hob : ObsOk (pSa N e cells off len cap).ob := by
        rw [pOa]
        exact obs_cons hoo (obs_cons u2 (obs_cons (ix_of (by omega) (by omega)) (obs_cons (decide_eq_true (by omega)) (obs_cons hZ obs_nil))))
      have h1 := RunsB.own (B := B) (n := 2) (L := 1) (size := 19) (i := 3) (e := 44) (cells := nzC (N.k (u8At cells (off + 0))) (N.f (u8At cells (off + 0)))) (RunsP.bs (Lands.runs goodG hO (pLa N e cells off len cap) hob)) (by omega) (by rw [pMa]; rfl) rfl maxLen_1 (fun b hb => by
        rw [pMa] at hb
        simp only [List.mem_cons, List.not_mem_nil, or_false] at hb
        rcases hb with rfl | rfl | rfl
        · exact ⟨rfl, hid⟩
        · exact ⟨rfl, nzC_ids _ _⟩
        · exact ⟨rfl, nzC_ids _ _⟩) (p3a N e cells off len cap) (pNa N e cells off len cap)
      have h2 := sel_fin (ids := [0, 2]) h1 rfl (pMa2 N e cells off len cap) hk (fun v => pTa N e cells off len cap v _ _ _ _)
      rw [hU]
      exact h2.mono fun t ⟨v, ht⟩ => ⟨pXa N e cells off len cap v, ht⟩
    · subst ht
      exact prog_tail hO hN hB hca hcap K
end Go.Proofs.YtgjohjgmlleebaaGreat
namespace Rx
set_option linter.all false
open Go Go.RowKit
/-- what comes behind the first parts -/
def post : Nat → Code → Code
  | 0, c => c
  | k + 1, .seq _ b => post k b
  | _ + 1, c => c
/-- the first parts, one after the other -/
def runN (P : Program) (E : ExtF) (O : OracleF) (n : Nat) : Nat → Code → St → Option St
  | 0, _, s => some s
  | k + 1, .seq a b, s => match (run P E O n).2 a s with
    | some (.normal, s') => runN P E O n k b s'
    | _ => none
  | _ + 1, _, _ => none
def aftN (P : Program) (E : ExtF) (O : OracleF) (n k : Nat) (c : Code) (s : St) : St := match runN P E O n k c s with
  | some s' => s'
  | none => s
def LandsN (P : Program) (E : ExtF) (O : OracleF) (n k : Nat) (c : Code) (s : St) : Prop := runN P E O n k c s = some (aftN P E O n k c s)
section
variable {P : Program} {E : ExtF} {O : OracleF} {B : Bs}
theorem runN_suf (hP : Good P E) (hO : OracleOk P O) {n : Nat} : ∀ {k : Nat} {c : Code} {s t : St}, runN P E O n k c s = some t → Suf s.ob t.ob
  | 0, c, s, t, h => by
    simp only [runN, Option.some.injEq] at h; subst h; exact Suf.refl _
  | k + 1, c, s, t, h => by
    cases c with
    | seq a b =>
      unfold runN at h
      split at h
      · rename_i s' h1
        exact ((run_ok hP hO n).2.1 _ _ _ _ h1).1.trans (runN_suf hP hO h)
      · cases h
    | _ => cases h
theorem runN_ok (hP : Good P E) (hO : OracleOk P O) {n : Nat} {ex : Ex} {Φ : St → Prop} : ∀ {k : Nat} {c : Code} {s t : St}, runN P E O n k c s = some t → ObsOk t.ob → RunsB P B (post k c) t ex Φ → RunsB P B c s ex Φ
  | 0, c, s, t, h, _, g => by
    simp only [runN, Option.some.injEq] at h; subst h; exact g
  | k + 1, c, s, t, h, ho, g => by
    cases c with
    | seq a b =>
      unfold runN at h
      split at h
      · rename_i s' h1
        have h2 : ObsOk s'.ob := (runN_suf hP hO h).ok ho
        exact RunsB.seq (RunsP.bs (RunsP.of (RunsTo.of hP hO h1 h2))) fun u hu => by subst hu; exact runN_ok hP hO h ho g
      · cases h
    | _ => cases h
theorem LandsN.ok (hP : Good P E) (hO : OracleOk P O) {n k : Nat} {c : Code} {s : St} {ex : Ex} {Φ : St → Prop} (h : LandsN P E O n k c s) (ho : ObsOk (aftN P E O n k c s).ob) (g : RunsB P B (post k c) (aftN P E O n k c s) ex Φ) : RunsB P B c s ex Φ := runN_ok hP hO h ho g
/-- a part that ends with nothing changed of what was there at the beginning -/
def RunsW (P : Program) (B : Bs) (c : Code) (s : St) (ex : Ex) (Φ : St → Prop) : Prop :=
  ∀ m a w (Q : Exit → Act → World → Prop), StAt m s a w → Goes B.m B.M B.w m s.M w → (∀ s' m' a' w', Φ s' → StAt m' s' a' w' → Below B.w.heap.size B.w w' → Q (exOf ex) a' w') → c.wp P Q a w
theorem RunsW.seq {c d : Code} {s : St} {ex : Ex} {Φ Ψ : St → Prop} (h : RunsB P B c s .normal Φ) (k : ∀ t, Φ t → RunsW P B d t ex Ψ) : RunsW P B (.seq c d) s ex Ψ := by
  intro m a w Q hs hg hq
  refine wp_seq (h m a w _ hs hg fun s1 m' a' w' h1 hs' hg' => ?_)
  exact k s1 h1 m' a' w' Q hs' hg' hq
theorem runW_ok (hP : Good P E) (hO : OracleOk P O) {n : Nat} {ex : Ex} {Φ : St → Prop} : ∀ {k : Nat} {c : Code} {s t : St}, runN P E O n k c s = some t → ObsOk t.ob → RunsW P B (post k c) t ex Φ → RunsW P B c s ex Φ
  | 0, c, s, t, h, _, g => by
    simp only [runN, Option.some.injEq] at h; subst h; exact g
  | k + 1, c, s, t, h, ho, g => by
    cases c with
    | seq a b =>
      unfold runN at h
      split at h
      · rename_i s' h1
        have h2 : ObsOk s'.ob := (runN_suf hP hO h).ok ho
        exact RunsW.seq (RunsP.bs (RunsP.of (RunsTo.of hP hO h1 h2))) fun u hu => by subst hu; exact runW_ok hP hO h ho g
      · cases h
    | _ => cases h
/-- from here on only new blocks count -/
theorem RunsW.fresh {c : Code} {s : St} {ex : Ex} {Φ : St → Prop} {rest M' : List Blk} {ids : List Nat} (hx : ∀ b ∈ B.M, b.exact = true) (hs : s.M = B.M ++ rest) (hn : nodupB ids = true) (hM : selM s.M ids = some M') (hk : ∀ (j n : Nat), ids[j]? = some n → B.M.length ≤ n) (hlv : ∀ b ∈ M', b.live = true)
    (h : ∀ (B' : Bs) v, B'.M = M' → RunsB P B' c (s.sel ids M' v) ex Φ) : RunsW P B c s ex Φ := by
  intro m a w Q hst hg hq
  have hst' := hst.sel hn hM
  have hb1 : Below B.w.heap.size B.w w := Goes.reads hx B.mem (by rw [← hs]; exact hg) (by rw [← hs]; exact hst.mem)
  refine h ⟨m.sel ids, M', w, hst'.mem⟩ _ rfl (m.sel ids) a w Q hst' (Goes.refl _ _ _) fun s' m' a' w' h1 h2 hg' => ?_
  refine hq s' m' a' w' h1 h2 (hb1.trans ⟨hg'.fr.os, hg'.fr.tape, hg'.fr.output, hg'.fr.size, fun r hr => ?_⟩)
  refine hg'.fr.block r (Nat.lt_of_lt_of_le hr hb1.size) fun ⟨j, hj, _⟩ => ?_
  obtain ⟨n, h3, h4⟩ := sel_inv hj
  have hkj := hk j n h3
  rcases hg.new n r h4 with h5 | h5 | ⟨q, h5, b, h6, h7⟩
  · have := B.mem.dom n r h5
    omega
  · omega
  · have h8 := B.mem.dom q r h5
    have hj' : j < M'.length := by
      rw [(selM_get hM).1]
      exact (List.getElem?_eq_some_iff.1 h3).1
    obtain ⟨n2, b2, cs, g1, g2, _, g4⟩ := (selM_get hM).2 j M'[j] (List.getElem?_eq_getElem hj')
    rw [h3] at g1
    cases g1
    have g5 := hlv _ (List.getElem_mem hj')
    rw [g4] at g5
    have e := hst.mem.inj n q r ⟨b2, g2, g5⟩ ⟨b, by rw [hs, List.getElem?_append_left h8]; exact h6, h7⟩ h4 (hg.ext.n q r h5)
    omega
theorem RunsW.call {g : FuncId} {fn : Func} {c : Code} {args : List SV} {M : List Blk} {d : Dec} {x : SV} {v : Value} (hg : P.funcs[g]? = some fn) (hb : fn.body = some c) (hx : plain x = some v) {m : Nms} {w : World} {vs : List Value} (hvs : dens m args = some vs) (hM : MemAt m w M)
    (h : RunsW P ⟨m, M, w, hM⟩ c ⟨args ++ List.replicate (fn.ntmps - args.length) (.tup []), M, d, []⟩ .ret (fun t => resultS P fn t = some x)) :
    Calls P g vs.toArray w fun e w' => e = .returned v ∧ Below w.heap.size w w' := by
  have hl := dens_length hvs
  refine calls_of_wp hg hb ?_
  have htm : dens m (args ++ List.replicate (fn.ntmps - args.length) (.tup [])) = some (vs.toArray ++ Array.replicate (fn.ntmps - vs.toArray.size) undef).toList := by
    have := dens_append hvs (dens_replicate (undef_den m) (fn.ntmps - args.length))
    rw [this]; simp [hl]
  refine h _ _ w _ ⟨htm, rfl, hM⟩ (Goes.refl m M w) fun t m' a' w' h1 hst hbl => ?_
  obtain ⟨u, hu, hr⟩ := resultS_ok hst h1
  rw [den_plain hx] at hu
  have := Option.some.inj hu
  subst this
  exact ⟨hst.df, v, hr, rfl, hbl⟩
end
end Rx
namespace Go.Proofs.YtgjohjgmlleebaaGreat
set_option linter.all false
open Go.RowKit Bu Rx
def kPr (g : List SV → Nat → List SV) (b : List SV → Nat → Bool) : OF := fun args M ds => match args, M with
  | [.ssl 0 off len cap], [⟨e, cells, .ro z⟩] => some (.osl true 1 (prK len + 1), [⟨e, cells, .ro z⟩, ⟨44, g ((cells.drop off).take (len * 8)) len, .rown 19⟩], ds, [(decide (len ≤ cap), true), (b ((cells.drop off).take (len * 8)) len, true)])
  | _, _ => none
def prInB (N : Npr) (cs : List SV) (len : Nat) : Bool := (List.range (min len 8)).all fun j => ckAll cs (j * 8) u8CK && prgB N (u8At cs (j * 8))
theorem prInB_ok {N : Npr} {cs : List SV} {len : Nat} (h : prInB N cs len = true) : PrIn N cs len := by
  have k : ∀ j, j < len → j < 8 → (ckAll cs (j * 8) u8CK && prgB N (u8At cs (j * 8))) = true := fun j h1 h2 => List.all_eq_true.1 h j (List.mem_range.2 (by omega))
  exact ⟨fun j h1 h2 => (Bool.and_eq_true _ _ ▸ k j h1 h2).1, fun j h1 h2 => (Bool.and_eq_true _ _ ▸ k j h1 h2).2⟩
theorem cells_cut (cells : List SV) (off n : Nat) : CellsAt cells off ((cells.drop off).take n) := fun j x hx => by
  rw [List.getElem?_take] at hx
  split at hx
  · rw [List.getElem?_drop] at hx; exact hx
  · cases hx
theorem prG {N : Npr} (hO : OracleOk Tryz.prog (OPr N)) (hN : N.p minIor_ maxIor_ = true) (hZ : N.o u8Z = true) : OfOk Tryz.prog 15 (kPr (fun cs len => prgC N (prU cs len) (prK len)) (prInB N)) := by
  intro args M ds x M' ds' ob hk ho m w vs hvs hM
  unfold kPr at hk
  split at hk
  · rename_i off len cap e cells z
    simp only [Option.some.injEq, Prod.mk.injEq] at hk
    obtain ⟨rfl, rfl, _, rfl⟩ := hk
    have h1 := ho _ (List.mem_cons_self ..)
    have h2 := ho _ (List.mem_cons_of_mem _ (List.mem_cons_self ..))
    obtain ⟨r, hr, hat⟩ := hM.blk 0 _ rfl
    obtain ⟨cv, sp, _, _, hk2⟩ := hat rfl
    have hid : idsLts 0 cells = true := hk2.2
    have hrun := prog_in (e := (e, z)) (B := ⟨m, [⟨e, cells, .ro z⟩], w, hM⟩) hO hN hZ rfl hid (cells_cut cells off (len * 8)) (of_decide_eq_true h1) (prInB_ok h2)
    have hcall := RunsB.call (d := none) (Φ := fun t => resultS Tryz.prog Tryz.f15 t = some (.osl true 1 (prK len + 1)) ∧ t.M = [⟨e, cells, .ro z⟩, ⟨44, prgC N (prU ((cells.drop off).take (len * 8)) len) (prK len), .rown 19⟩]) (x := fun _ => .osl true 1 (prK len + 1)) Tryz.func15 pBody hvs hM (by rw [pNt]; exact hrun) (fun t ht => ht.1)
    refine Calls.mono hcall fun ex w' ⟨t, m', v, ht, he, hv, hM', hgo⟩ => ?_
    have htM := ht.2
    rw [htM] at hM' hgo
    exact ⟨m', v, he, hgo, hv, hM', by simp⟩
  · cases hk
noncomputable def pZ : St := ⟨([.o (.slice none 0 0)] : List SV) ++ List.replicate 90 (.tup []), [], none, []⟩
noncomputable def pC4 : Code := seqL (post 3 pC)
theorem pC4_cut : post 3 pC = .seq pC4 pTl := by kernel_rfl
section
variable (N : Npr)
noncomputable abbrev pSz3 : St := aftN Tryz.prog EG (OPr N) 60 3 pC pZ
noncomputable abbrev pSz : St := aft Tryz.prog EG (OPr N) 60 pC4 (pSz3 N)
theorem pLz3 : LandsN Tryz.prog EG (OPr N) 60 3 pC pZ := by unfold LandsN; kernel_rfl
theorem pLz : Lands Tryz.prog EG (OPr N) 60 pC4 (pSz3 N) .normal := by unfold Lands; kernel_rfl
theorem pOz3 : (pSz3 N).ob = [(N.o u8Z, true)] := by kernel_rfl
theorem pOz : (pSz N).ob = [(N.o u8Z, true)] := by kernel_rfl
theorem pMz : (pSz N).M = [⟨44, nzC (N.k u8Z) (N.f u8Z), .ex⟩] := by kernel_rfl
theorem p3z : (pSz N).T[3]? = some (.sl 0 0 1 1) := by kernel_rfl
theorem pNz : noOsls (pSz N).T = true := by kernel_rfl
noncomputable def pYz : St := ⟨(pSz N).T.set 3 (.osl true 0 1), [⟨44, nzC (N.k u8Z) (N.f u8Z), .rown 19⟩], none, []⟩
theorem pLy : Lands Tryz.prog EG (OPr N) 60 pTl (pYz N) .ret := by unfold Lands; kernel_rfl
theorem pOy : (aft Tryz.prog EG (OPr N) 60 pTl (pYz N)).ob = [] := by kernel_rfl
theorem pMy : (aft Tryz.prog EG (OPr N) 60 pTl (pYz N)).M = [⟨44, nzC (N.k u8Z) (N.f u8Z), .rown 19⟩] := by kernel_rfl
theorem pRy : resultS Tryz.prog Tryz.f15 (aft Tryz.prog EG (OPr N) 60 pTl (pYz N)) = some (.osl true 0 1) := by kernel_rfl
end
theorem pz_run {N : Npr} (hO : OracleOk Tryz.prog (OPr N)) (hZ : N.o u8Z = true) {B : Bs} (hB : B.M.length = 0) : RunsB Tryz.prog B pC pZ .ret (fun t => resultS Tryz.prog Tryz.f15 t = some (.osl true 0 1) ∧ t.M = [⟨44, nzC (N.k u8Z) (N.f u8Z), .rown 19⟩]) := by
  have o3 : ObsOk (pSz3 N).ob := by rw [pOz3]; exact obs_cons hZ obs_nil
  have o4 : ObsOk (pSz N).ob := by rw [pOz]; exact obs_cons hZ obs_nil
  refine (pLz3 N).ok goodG hO o3 ?_
  rw [pC4_cut]
  have h1 := RunsB.own (B := B) (n := 0) (L := 1) (size := 19) (i := 3) (e := 44) (cells := nzC (N.k u8Z) (N.f u8Z)) (RunsP.bs (Lands.runs goodG hO (pLz N) o4)) (by omega) (by rw [pMz]; rfl) rfl maxLen_1 (fun b hb => by
    rw [pMz, List.mem_singleton] at hb
    subst hb
    exact ⟨rfl, nzC_ids _ _⟩) (p3z N) (pNz N)
  refine RunsB.seq (own_fin h1 rfl (show _ = [⟨44, nzC (N.k u8Z) (N.f u8Z), .rown 19⟩] by rw [pMz]; rfl)) fun t ht => ?_
  subst ht
  show RunsB Tryz.prog B pTl (pYz N) .ret _
  exact RunsP.bs (Lands.all goodG hO (pLy N) (by rw [pOy]; exact obs_nil) ⟨pRy N, pMy N⟩)
def kPz (g : List SV → Nat → List SV) : OF := fun args M ds => match args, M with
  | [.o (.slice none 0 0)], [] => some (.osl true 0 1, [⟨44, g [] 0, .rown 19⟩], ds, [])
  | _, _ => none
theorem pzG {N : Npr} (hO : OracleOk Tryz.prog (OPr N)) (hZ : N.o u8Z = true) : OfOk Tryz.prog 15 (kPz (fun cs len => prgC N (prU cs len) (prK len))) := by
  intro args M ds x M' ds' ob hk ho m w vs hvs hM
  unfold kPz at hk
  split at hk
  · simp only [Option.some.injEq, Prod.mk.injEq] at hk
    obtain ⟨rfl, rfl, _, rfl⟩ := hk
    have hcall := RunsB.call (d := none) (Φ := fun t => resultS Tryz.prog Tryz.f15 t = some (.osl true 0 1) ∧ t.M = [⟨44, nzC (N.k u8Z) (N.f u8Z), .rown 19⟩]) (x := fun _ => .osl true 0 1) Tryz.func15 pBody hvs hM (by rw [pNt]; exact pz_run hO hZ rfl) (fun t ht => ht.1)
    refine Calls.mono hcall fun ex w' ⟨t, m', v, ht, he, hv, hM', hgo⟩ => ?_
    have htM := ht.2
    rw [htM] at hM' hgo
    exact ⟨m', v, he, hgo, hv, hM', by simp⟩
  · cases hk
def NprR : Npr := ⟨leK, leF bwF, U8.ok, frT, wN32, bwF, pairB⟩
end Go.Proofs.YtgjohjgmlleebaaGreat
namespace Go.Proofs.YtgjohjgmlleebaaGreat
set_option linter.all false
open Go.RowKit Bu Rx
theorem mixK_0 {e : Int} {w : F} {a b : I} (h : (mixK KkR e w a b).2 = 0) : e = 0 := by
  unfold mixK at h
  have h1 := (add_0 h).1
  have h2 := (mul_0 h1).1
  have h3 := (num_0 h2).1
  have h4 := (mul_0 h3).1
  have h5 := (sub_0 h4).1
  have h6 := (num_0 h5).1
  exact (num_0 h6).1
theorem mixC_m {w : F} {a b : Ch} (h : (mixC KkR w a b).2 = 0) : (mixC KkR w a b).1.m = (mixK KkR 0 w a.m b.m).1 := by
  have h0 : (mixK KkR 0 w a.p b.p).2 = 0 := mixK_0 h
  unfold mixC
  rw [h0]
theorem coatC_m {o : I} {a : Ch} (h : (coatC KkR o a).2 = 0) : (coatC KkR o a).1.m = (KkR.add (KkR.mul 0 (lessK KkR o).1 a.m).2 o (KkR.mul 0 (lessK KkR o).1 a.m).1).1 := by
  have h1 : (KkR.mul (KkR.mul (lessK KkR o).2 (lessK KkR o).1 a.p).2 (lessK KkR o).1 a.m).2 = 0 := (add_0 h).1
  have h2 : (KkR.mul (lessK KkR o).2 (lessK KkR o).1 a.p).2 = 0 := (mul_0 h1).1
  unfold coatC
  simp only [h2]
theorem mir_same {cos : I} {lf lf' : Nd → I × Int} {lo lo' : Nd → Obs} {cs : List SV} {len : Nat} (K : OkPg cs len) (h1 : allB NdR cos lf lo cs len = true) (h2 : allB NdR cos lf' lo' cs len = true) :
    ∀ i, i < len → (chF (allF NdR cos lf cs) i).m = (chF (allF NdR cos lf' cs) i).m := by
  intro i
  induction i using Nat.strongRecOn with
  | _ i ih =>
    intro hi
    have b1 := allB_at h1 hi
    have b2 := allB_at h2 hi
    have hnd := K.nd i hi
    unfold nodB at b1 b2
    rw [Bool.and_eq_true, decide_eq_true_eq] at b1 b2
    have e1 := b1.2
    have e2 := b2.2
    have g1 : ∀ {a : Int}, 0 ≤ a → a < i → (chL (allF NdR cos lf cs) i).getD a.toNat Ch.zero = chF (allF NdR cos lf cs) a.toNat := fun _ _ => chL_get _ (by omega)
    have g2 : ∀ {a : Int}, 0 ≤ a → a < i → (chL (allF NdR cos lf' cs) i).getD a.toNat Ch.zero = chF (allF NdR cos lf' cs) a.toNat := fun _ _ => chL_get _ (by omega)
    show (nodC NdR cos lf (fun j => (chL (allF NdR cos lf cs) i).getD j Ch.zero) (ndR cs (i * 19))).1.m = (nodC NdR cos lf' (fun j => (chL (allF NdR cos lf' cs) i).getD j Ch.zero) (ndR cs (i * 19))).1.m
    generalize ndR cs (i * 19) = n at hnd e1 e2
    unfold nodC at e1 e2 ⊢
    by_cases h5 : n.k = 5
    · obtain ⟨⟨a0, a1⟩, b0, b1'⟩ := okNd_mix hnd h5
      simp only [decide_eq_true h5, cond_true] at e1 e2 ⊢
      simp only [g1 a0 a1, g1 b0 b1', g2 a0 a1, g2 b0 b1'] at e1 e2 ⊢
      have m1 := mixC_m (w := n.f 15) e1
      have m2 := mixC_m (w := n.f 15) e2
      show (mixC KkR _ _ _).1.m = (mixC KkR _ _ _).1.m
      rw [m1, m2, ih n.a.toNat (by omega) (by omega), ih n.b.toNat (by omega) (by omega)]
    · simp only [decide_eq_false h5, cond_false] at e1 e2 ⊢
      by_cases h6 : n.k = 6
      · obtain ⟨a0, a1⟩ := okNd_coat hnd h6
        simp only [decide_eq_true h6, cond_true] at e1 e2 ⊢
        simp only [g1 a0 a1, g2 a0 a1] at e1 e2 ⊢
        have m1 := coatC_m e1
        have m2 := coatC_m e2
        show (coatC KkR _ _).1.m = (coatC KkR _ _).1.m
        rw [m1, m2, ih n.a.toNat (by omega) (by omega)]
      · simp only [decide_eq_false h6, cond_false]
end Go.Proofs.YtgjohjgmlleebaaGreat
namespace Go.Proofs.YtgjohjgmlleebaaGreat
set_option linter.all false
open Go.RowKit Bu Rx

theorem lnR_0 {E : List I × Int} {i : Nat} (h : E.2 = 0) : lnR E i = (gt E.1 i, 0) := by
  unfold lnR; rw [show neB E.2 = false by rw [h]; rfl]; rfl
theorem ggR_0 {p : List Bu.Op} {c al : I} (h : (evalK KkR p [c, al] 0).2 = 0) : ggR KkR p c al = (gt (evalK KkR p [c, al] 0).1 0, 0) := by
  unfold ggR ggE; rw [show neB (evalK KkR p [c, al] 0).2 = false by rw [h]; rfl]; rfl
set_option maxRecDepth 100000 in
theorem gl_of {v u : V3} {al : I} (h : (miE v u).2 = 0) (eD : (evalK KkR ggD [lnI v u, al] 0).2 = 0) (e2 : (evalK KkR gg2 [u.z, v.z, al] 0).2 = 0) (e1 : (evalK KkR gg1 [u.z, al] 0).2 = 0) (e : (giE v u al).2 = 0) : glR KkR GlR v u al = (⟨lnI v u, hfI v u, giV v u al, giD v u al⟩, 0) := by
  have eH : GlR.H v u = miE v u := rfl
  have h1 : glH GlR v u = (lnI v u, hfI v u) := by unfold glH; rw [eH, lnR_0 h, lnR_0 h]; rfl
  have h2 : GlR.d (lnI v u) al = (Da v u al, 0) := ggR_0 eD
  have h3 : GlR.b v.z u.z al = (Ga v u al, 0) := by
    have q : GlR.b = fun c d al => lnR (g2K KkR c d al) 0 := rfl
    rw [q]
    have e3 : (g2K KkR v.z u.z al).2 = 0 := e2
    show lnR (g2K KkR v.z u.z al) 0 = _
    rw [lnR_0 e3]
    rfl
  have h4 : GlR.o u.z al = (Gb u al, 0) := ggR_0 e1
  have h5 : glE KkR GlR v u al = giE v u al := by unfold glE; rw [h1, h2, h3, h4]; rfl
  unfold glR glErr glV
  rw [h1, h2, h3, h4, h5, eH, h, e]
  rfl
theorem gl_val {v u : V3} {al : I} (hv : OneP v) (hu : OneP u) (ha : InB al bal) : glR KkR GlR v u al = (⟨lnI v u, hfI v u, giV v u al, giD v u al⟩, 0) :=
  have g := gi_ok hv hu ha
  gl_of (mi_ok hv hu).1 g.eD g.e2 g.e1 g.e
theorem z64_0 : z64.k = 0 := by decide +kernel
/-- within 0 and 1 -/
structure Uz1 (a : I) : Prop where
  rt : rt a = true
  lo : z64.k ≤ a.lo.k
  hi : a.hi.k ≤ one64.k
theorem Uz1.box {a : I} (h : Uz1 a) : InB a bz1 := ⟨h.lo, h.hi, of_decide_eq_true h.rt⟩
end Go.Proofs.YtgjohjgmlleebaaGreat
namespace Bu
set_option linter.all false
open Rx Go

end Bu
namespace Go.Proofs.YtgjohjgmlleebaaGreat
set_option linter.all false
open Go.RowKit Bu Rx

structure B11 (a : I) : Prop where
  rt : rt a = true
  lo : mone64.k ≤ a.lo.k
  hi : a.hi.k ≤ one64.k
theorem B11.box {a : I} (h : B11 a) : InB a b11 := ⟨h.lo, h.hi, of_decide_eq_true h.rt⟩
end Go.Proofs.YtgjohjgmlleebaaGreat
namespace Go.Proofs.YtgjohjgmlleebaaGreat
set_option linter.all false
open Go.RowKit Bu Rx

section
variable {r s i o d p q mx dv : I}
end
end Go.Proofs.YtgjohjgmlleebaaGreat
namespace Bu
set_option linter.all false
open Rx Go

def Lf.c0 (l : Lf) : Lf := ⟨l.k, l.f, 0, l.v, l.u⟩
end Bu
namespace Go.Proofs.YtgjohjgmlleebaaGreat
set_option linter.all false
open Go.RowKit Bu Rx

end Go.Proofs.YtgjohjgmlleebaaGreat
namespace Go.Proofs.YtgjohjgmlleebaaGreat
set_option linter.all false
open Go.RowKit Bu Rx

theorem rng_in {x l h : F} {o : Obs} (k : ObsOk (rngO x l h o)) : (l.k ≤ x.k ∧ x.k ≤ h.k) ∧ ObsOk o := by
  have a := of_decide_eq_false (ob_h k)
  have b := of_decide_eq_false (ob_h (ob_t k))
  exact ⟨⟨by omega, by omega⟩, ob_t (ob_t k)⟩
theorem bnd_of {x l h : F} (k : l.k ≤ x.k ∧ x.k ≤ h.k) : ObsOk (bndO (pF x) l h) := ob_c (decide_eq_true k.2) (ob_c (decide_eq_true k.1) (ob_c (decide_eq_true (Int.le_refl _)) ob_n))
theorem lt3 {P : Nat → Prop} {c : Nat} (h : c < 3) (p0 : P 0) (p1 : P 1) (p2 : P 2) : P c := by
  rcases (by omega : c = 0 ∨ c = 1 ∨ c = 2) with rfl | rfl | rfl
  · exact p0
  · exact p1
  · exact p2
def Rn (l h : F) (x : F) : Prop := l.k ≤ x.k ∧ x.k ≤ h.k
theorem rt1_in {f : Nat → F} (h : ObsOk (rtOb 1 f)) {c : Nat} (hc : c < 3) : Rn z64 one64 (f c) := by
  have h : ObsOk (rtO1 f) := h
  obtain ⟨a2, h⟩ := rng_in (ob_t h)
  obtain ⟨a1, h⟩ := rng_in h
  obtain ⟨a0, _⟩ := rng_in h
  exact lt3 (P := fun c => Rn z64 one64 (f c)) hc a0 a1 a2
theorem rt2_in {f : Nat → F} (h : ObsOk (rtOb 2 f)) {c : Nat} (hc : c < 3) : Rn z64 one64 (f c) ∧ Rn z64 one64 (f 12) := by
  have h : ObsOk (rtO2 f) := h
  obtain ⟨a3, h⟩ := rng_in (ob_t h)
  obtain ⟨a2, h⟩ := rng_in h
  obtain ⟨a1, h⟩ := rng_in h
  obtain ⟨a0, _⟩ := rng_in h
  exact ⟨lt3 (P := fun c => Rn z64 one64 (f c)) hc a0 a1 a2, a3⟩
theorem rt3_in {f : Nat → F} (h : ObsOk (rtOb 3 f)) : Rn minA one64 (f 13) ∧ Rn minIo four64 (f 14) := by
  have h : ObsOk (rtO3 f) := h
  obtain ⟨a3, h⟩ := rng_in (ob_t h)
  obtain ⟨a2, _⟩ := rng_in h
  exact ⟨a2, a3⟩
theorem rt4_in {f : Nat → F} (h : ObsOk (rtOb 4 f)) {c : Nat} (hc : c < 3) : Rn minA one64 (f 13) ∧ Rn minMt maxMt (f (6 + c)) ∧ Rn minMt maxMt (f (9 + c)) := by
  have h : ObsOk (rtO4 f) := h
  obtain ⟨b2, h⟩ := rng_in (ob_t h)
  obtain ⟨b1, h⟩ := rng_in h
  obtain ⟨b0, h⟩ := rng_in h
  obtain ⟨a2, h⟩ := rng_in h
  obtain ⟨a1, h⟩ := rng_in h
  obtain ⟨a0, h⟩ := rng_in h
  obtain ⟨al, _⟩ := rng_in h
  exact ⟨al, lt3 (P := fun c => Rn minMt maxMt (f (6 + c))) hc a0 a1 a2, lt3 (P := fun c => Rn minMt maxMt (f (9 + c))) hc b0 b1 b2⟩
/-- kinds of a right node -/
theorem rt_kind {k : Int} {f : Nat → F} (h : ObsOk (rtOb k f)) : k = 1 ∨ k = 2 ∨ k = 3 ∨ k = 4 := by
  unfold rtOb at h
  split at h
  · exact .inl rfl
  · exact .inr (.inl rfl)
  · exact .inr (.inr (.inl rfl))
  · exact .inr (.inr (.inr rfl))
  · exact absurd (ob_h h) (by simp)
/-- a leaf that may be, two directions that may be, a channel -/
structure LfO (l : Lf) : Prop where
  r : ObsOk (rtOb l.k l.f)
  v : ObsOk (dirO l.v)
  u : ObsOk (dirO l.u)
  c0 : 0 ≤ l.c
  c3 : l.c < 3
theorem LfO.z {l : Lf} (h : LfO l) : LfO l.c0 := ⟨h.r, h.v, h.u, Int.le_refl _, by show (0 : Int) < 3; decide⟩
theorem LfO.n {l : Lf} (h : LfO l) : l.c.toNat < 3 := by have := h.c0; have := h.c3; omega
theorem LfO.ch {l : Lf} (h : LfO l) : ObsOk (chO l) := ob_c (decide_eq_true h.c3) (ob_c (decide_eq_true h.c0) ob_n)
theorem LfO.lk {l : Lf} (h : LfO l) : ObsOk (lkOl l) := ob_a h.u (ob_a h.v (ob_a (ob_c (decide_eq_true h.c3) (ob_c (decide_eq_true h.c0) ob_n)) h.r))
theorem LfO.gl {l : Lf} (h : LfO l) (a : Rn minA one64 (l.f 13)) : ObsOk (glO l.v l.u (pF (l.f 13))) := ob_a (bnd_of a) (ob_a h.v h.u)
theorem LfO.val {l : Lf} (h : LfO l) : ObsOk (vlO l) := by
  have r := h.r
  have lk := h.lk; have ch := h.ch; have n := h.n; have hv := h.v; have hu := h.u; have hg := h.gl
  unfold vlO
  rcases rt_kind r with e | e | e | e <;> rw [e] at r ⊢
  · exact ob_a lk (ob_a ch (bnd_of (rt1_in r n)))
  · obtain ⟨a, b⟩ := rt2_in r n
    exact ob_a lk (ob_a ch (ob_a (bnd_of a) (ob_a (bnd_of b) (ob_a hv hu))))
  · obtain ⟨a, b⟩ := rt3_in r
    exact ob_a lk (ob_a (hg a) (bnd_of b))
  · obtain ⟨a, b, c⟩ := rt4_in r n
    exact ob_a lk (ob_a ch (ob_a (hg a) (ob_a (bnd_of b) (bnd_of c))))
theorem LfO.den {l : Lf} (h : LfO l) : ObsOk (dnO4 l) := by
  have r := h.r
  have lk := h.lk; have ch := h.ch; have n := h.n; have hv := h.v; have hg := h.gl
  unfold dnO4
  rcases rt_kind r with e | e | e | e <;> rw [e] at r ⊢
  · exact ob_a lk (dir_z hv)
  · exact ob_a lk (dir_z hv)
  · exact ob_a lk (hg (rt3_in r).1)
  · exact ob_a lk (hg (rt4_in r n).1)
structure LfP (l : Lf) : Prop where
  r : ObsOk (rtOb l.k l.f)
  v : OneP l.v
  u : OneP l.u
  c0 : 0 ≤ l.c
  c3 : l.c < 3
theorem one_dir {v : V3} (h : OneP v) : ObsOk (dirO v) := by
  obtain ⟨a, b, c⟩ := one_box h
  have e : z64.k ≤ bzz.lo.k := by decide +kernel
  have r : ∀ {x : I}, x.lo.k ≤ x.hi.k → rt x = true := fun k => decide_eq_true k
  exact ob_c (decide_eq_true c.2.1) (ob_c (decide_eq_true (Int.le_trans e c.1)) (ob_c (decide_eq_true b.2.1) (ob_c (decide_eq_true b.1) (ob_c (decide_eq_true a.2.1) (ob_c (decide_eq_true a.1) (ob_c (r c.2.2) (ob_c (r b.2.2) (ob_c (r a.2.2) ob_n))))))))
theorem LfP.o {l : Lf} (h : LfP l) : LfO l := ⟨h.r, one_dir h.v, one_dir h.u, h.c0, h.c3⟩
theorem bal_of {x : F} (h : Rn minA one64 x) : InB (pF x) bal := ⟨h.1, h.2, Int.le_refl _⟩
theorem bn_of {x : F} (h : Rn minIo four64 x) : InB (pF x) bn := ⟨h.1, h.2, Int.le_refl _⟩
set_option maxRecDepth 100000 in
theorem box_lb : lbV.all monoB = true ∧ (evalK KkR lbV [bz1] 0).2 = 0 ∧ z64.k ≤ (gt (evalK KkR lbV [bz1] 0).1 0).lo.k ∧ (evalK KkR lbV [bzz] 0).2 = 0 ∧ z64.k < (gt (evalK KkR lbV [bzz] 0).1 0).lo.k ∧ dtP.all monoB = true ∧ (evalK KkR dtP [bzz, b11, b11, bzz, b11, b11] 0).2 = 0 ∧ tw1 dtP dtP [3, 4, 5, 0, 1, 2] 0 0 = true := by decide +kernel
end Go.Proofs.YtgjohjgmlleebaaGreat
namespace Bu
set_option linter.all false
open Rx Go
/-- how great a value may be behind so many nodes: 2^(60 + i); 2^i -/
def Pk (i : Nat) : Int := (((1083 + i) * 4503599627370496 : Nat) : Int)
def Pb (i : Nat) : I := ⟨z64, F.of (Pk i)⟩
def Mk (i : Nat) : Int := (((1023 + i) * 4503599627370496 : Nat) : Int)
def Mb (i : Nat) : I := ⟨z64, F.of (Mk i)⟩
def inbB (a b : I) : Bool := decide (b.lo.k ≤ a.lo.k) && decide (a.hi.k ≤ b.hi.k)
/-- boxes of products by a part of 1, sums -/
def byE (A C : I) : Bool := decide ((cMul dMul 0 bz1 A).2 = 0) && inbB (cMul dMul 0 bz1 A).1 C
def adE (A B C : I) : Bool := decide ((cAdd dAdd 0 A B).2 = 0) && inbB (cAdd dAdd 0 A B).1 C
def lvB (i : Nat) : Bool := byE (Pb i) (Pb i) && (byE (Mb i) (Mb i) && (adE (Pb i) (Pb i) (Pb (i + 1)) && (adE (Mb i) (Mb i) (Mb (i + 1)) && adE bz1 (Mb i) (Mb (i + 1)))))
set_option maxRecDepth 100000 in
theorem lv_all : (List.range 20).all lvB = true := by decide +kernel
set_option maxRecDepth 100000 in
theorem less_B : (decide ((cSub dSub 0 (pt one64) bz1).2 = 0) && inbB (cSub dSub 0 (pt one64) bz1).1 bz1) = true := by decide +kernel
structure LvP (i : Nat) : Prop where
  p : byE (Pb i) (Pb i) = true
  m : byE (Mb i) (Mb i) = true
  pp : adE (Pb i) (Pb i) (Pb (i + 1)) = true
  mm : adE (Mb i) (Mb i) (Mb (i + 1)) = true
  om : adE bz1 (Mb i) (Mb (i + 1)) = true
theorem lv_ok {i : Nat} (h : i < 20) : LvP i := by
  have k := List.all_eq_true.1 lv_all i (List.mem_range.2 h)
  unfold lvB at k
  simp only [Bool.and_eq_true] at k
  exact ⟨k.1, k.2.1, k.2.2.1, k.2.2.2.1, k.2.2.2.2⟩
theorem pw_lt {n : Nat} (h : n < 1200) : -(T : Int) < ((n * 4503599627370496 : Nat) : Int) ∧ ((n * 4503599627370496 : Nat) : Int) < (T : Int) := by
  have h1 : n * 4503599627370496 ≤ 1200 * 4503599627370496 := Nat.mul_le_mul_right _ (Nat.le_of_lt h)
  have h2 : 1200 * 4503599627370496 < T := by decide +kernel
  have h3 : n * 4503599627370496 < T := Nat.lt_of_le_of_lt h1 h2
  clear h1 h2
  generalize n * 4503599627370496 = m at *
  exact ⟨by omega, Int.ofNat_lt.2 h3⟩
theorem Pb_k {i : Nat} (h : i < 40) : (Pb i).hi.k = Pk i := F.of_k (pw_lt (by omega))
theorem Mb_k {i : Nat} (h : i < 40) : (Mb i).hi.k = Mk i := F.of_k (pw_lt (by omega))
theorem inB_tr {a b c : I} (h : InB a b) (k : inbB b c = true) : InB a c := by
  unfold inbB at k
  rw [Bool.and_eq_true, decide_eq_true_eq, decide_eq_true_eq] at k
  exact ⟨Int.le_trans k.1 h.1, Int.le_trans h.2.1 k.2, h.2.2⟩
set_option maxRecDepth 100000 in
theorem Pb_le {i j : Nat} (h : i ≤ j) (hj : j < 40) {a : I} (k : InB a (Pb i)) : InB a (Pb j) := by
  refine ⟨k.1, ?_, k.2.2⟩
  have h1 := k.2.1
  rw [Pb_k (by omega)] at h1
  rw [Pb_k hj]
  exact Int.le_trans h1 (Int.ofNat_le.2 (Nat.mul_le_mul_right _ (by omega)))
set_option maxRecDepth 100000 in
theorem Mb_le {i j : Nat} (h : i ≤ j) (hj : j < 40) {a : I} (k : InB a (Mb i)) : InB a (Mb j) := by
  refine ⟨k.1, ?_, k.2.2⟩
  have h1 := k.2.1
  rw [Mb_k (by omega)] at h1
  rw [Mb_k hj]
  exact Int.le_trans h1 (Int.ofNat_le.2 (Nat.mul_le_mul_right _ (by omega)))
theorem by_in {x a A C : I} (hx : InB x bz1) (ha : InB a A) (h : byE A C = true) : ∃ r, KkR.mul 0 x a = (r, 0) ∧ InB r C := by
  unfold byE at h
  rw [Bool.and_eq_true, decide_eq_true_eq] at h
  obtain ⟨r, e, n⟩ := mul_inn hx.inn ha.inn h.1
  exact ⟨r, e, inB_tr n.inB h.2⟩
theorem ad_in {a b A B C : I} (ha : InB a A) (hb : InB b B) (h : adE A B C = true) : ∃ r, KkR.add 0 a b = (r, 0) ∧ InB r C := by
  unfold adE at h
  rw [Bool.and_eq_true, decide_eq_true_eq] at h
  obtain ⟨r, e, n⟩ := add_inn ha.inn hb.inn h.1
  exact ⟨r, e, inB_tr n.inB h.2⟩
theorem less_in {x : I} (hx : InB x bz1) : ∃ r, KkR.sub 0 (pt one64) x = (r, 0) ∧ InB r bz1 := by
  have k := less_B
  rw [Bool.and_eq_true, decide_eq_true_eq] at k
  obtain ⟨r, e, n⟩ := sub_inn (a := pt one64) (InB.inn ⟨Int.le_refl _, Int.le_refl _, Int.le_refl _⟩) hx.inn k.1
  exact ⟨r, e, inB_tr n.inB k.2⟩
theorem numF_ (x : F) : KkR.num 0 x = (pt x, 0) := rfl
theorem pt_z1 {w : F} (hw : z64.k ≤ w.k ∧ w.k ≤ one64.k) : InB (pt w) bz1 := ⟨hw.1, hw.2, Int.le_refl _⟩
theorem mixK_st {w : F} {a b s m1 m2 r : I} (h1 : KkR.sub 0 (pt one64) (pt w) = (s, 0)) (h2 : KkR.mul 0 s a = (m1, 0)) (h3 : KkR.mul 0 (pt w) b = (m2, 0)) (h4 : KkR.add 0 m1 m2 = (r, 0)) : mixK KkR 0 w a b = (r, 0) := by
  unfold mixK
  have e1 : KkR.num 0 one_ = (pt one64, 0) := rfl
  simp only [e1, numF_, h1, h2, h3, h4]
theorem mixK_in {w : F} {a b A : I} {C : I} (hw : z64.k ≤ w.k ∧ w.k ≤ one64.k) (ha : InB a A) (hb : InB b A) (h1 : byE A A = true) (h2 : adE A A C = true) : ∃ r, mixK KkR 0 w a b = (r, 0) ∧ InB r C := by
  obtain ⟨s, e1, b1⟩ := less_in (pt_z1 hw)
  obtain ⟨m1, e2, b2⟩ := by_in b1 ha h1
  obtain ⟨m2, e3, b3⟩ := by_in (pt_z1 hw) hb h1
  obtain ⟨r, e4, b4⟩ := ad_in b2 b3 h2
  exact ⟨r, mixK_st e1 e2 e3 e4, b4⟩
theorem zz_k : F.zero.k = z64.k := by decide +kernel
theorem zs_get {f : Nat → F} {js : List Nat} (h : zsB f js = true) {j : Nat} (hj : j ∈ js) : (f j).k = z64.k := (of_decide_eq_true (List.all_eq_true.1 h j hj)).trans zz_k
theorem rn_get {l h : F} {f : Nat → F} {js : List Nat} (k : rsB l h f js = true) {j : Nat} (hj : j ∈ js) : l.k ≤ (f j).k ∧ (f j).k ≤ h.k := by
  have := List.all_eq_true.1 k j hj
  unfold rnB at this
  simpa using this
theorem rn_one {l h x : F} (k : rnB l h x = true) : l.k ≤ x.k ∧ x.k ≤ h.k := by unfold rnB at k; simpa using k
end Bu
namespace Go.Proofs.YtgjohjgmlleebaaGreat
set_option linter.all false
open Go.RowKit Bu Rx
theorem rng_mk {x l h : F} {o : Obs} (k : l.k ≤ x.k ∧ x.k ≤ h.k) (ho : ObsOk o) : ObsOk (rngO x l h o) := ob_c (decide_eq_false (by omega)) (ob_c (decide_eq_false (by omega)) ho)
theorem nd_leaf {n : Nd} {p : Int} (h : okNd n p = true) (h5 : n.k ≠ 5) (h6 : n.k ≠ 6) : ObsOk (rtOb n.k (etaF n.f)) := by
  obtain ⟨k, f, a, b⟩ := n
  simp only at h5 h6
  unfold okNd at h
  simp only [decide_eq_false h5, decide_eq_false h6, cond_false, Bool.false_and] at h
  by_cases h1 : k = 1
  · subst h1
    simp only [decide_true, cond_true, Bool.and_eq_true] at h
    obtain ⟨r, z, _⟩ := h
    have q : ∀ j, j ∈ [3, 4, 5, 6, 7, 8, 9, 10, 11, 12, 13, 14, 15] → (f j).k = z64.k := fun j hj => zs_get z hj
    have g : ∀ j, j ∈ [0, 1, 2] → z64.k ≤ (f j).k ∧ (f j).k ≤ one64.k := fun j hj => rn_get r hj
    show ObsOk (rtO1 (etaF f))
    refine ob_c ?_ (rng_mk (g 2 (by decide)) (rng_mk (g 1 (by decide)) (rng_mk (g 0 (by decide)) ob_n)))
    unfold eqNd q3E
    simp only [Bool.and_eq_true, decide_eq_true_eq]
    exact ⟨⟨rfl, rfl, rfl, trivial⟩, ⟨q 3 (by decide), q 4 (by decide), q 5 (by decide), trivial⟩, ⟨q 6 (by decide), q 7 (by decide), q 8 (by decide), trivial⟩, ⟨q 9 (by decide), q 10 (by decide), q 11 (by decide), trivial⟩, q 12 (by decide), q 13 (by decide), q 14 (by decide), q 15 (by decide), rfl, rfl, trivial⟩
  simp only [decide_eq_false h1, cond_false] at h
  by_cases h2 : k = 2
  · subst h2
    simp only [decide_true, cond_true, Bool.and_eq_true] at h
    obtain ⟨r, z, _⟩ := h
    have q : ∀ j, j ∈ [3, 4, 5, 6, 7, 8, 9, 10, 11, 13, 14, 15] → (f j).k = z64.k := fun j hj => zs_get z hj
    have g : ∀ j, j ∈ [12, 0, 1, 2] → z64.k ≤ (f j).k ∧ (f j).k ≤ one64.k := fun j hj => rn_get r hj
    show ObsOk (rtO2 (etaF f))
    refine ob_c ?_ (rng_mk (g 12 (by decide)) (rng_mk (g 2 (by decide)) (rng_mk (g 1 (by decide)) (rng_mk (g 0 (by decide)) ob_n))))
    unfold eqNd q3E
    simp only [Bool.and_eq_true, decide_eq_true_eq]
    exact ⟨⟨rfl, rfl, rfl, trivial⟩, ⟨q 3 (by decide), q 4 (by decide), q 5 (by decide), trivial⟩, ⟨q 6 (by decide), q 7 (by decide), q 8 (by decide), trivial⟩, ⟨q 9 (by decide), q 10 (by decide), q 11 (by decide), trivial⟩, rfl, q 13 (by decide), q 14 (by decide), q 15 (by decide), rfl, rfl, trivial⟩
  simp only [decide_eq_false h2, cond_false] at h
  by_cases h3 : k = 3
  · subst h3
    simp only [decide_true, cond_true, Bool.and_eq_true] at h
    obtain ⟨r1, r2, z, _⟩ := h
    have q : ∀ j, j ∈ [0, 1, 2, 3, 4, 5, 6, 7, 8, 9, 10, 11, 12, 15] → (f j).k = z64.k := fun j hj => zs_get z hj
    show ObsOk (rtO3 (etaF f))
    refine ob_c ?_ (rng_mk (rn_one r2) (rng_mk (rn_one r1) ob_n))
    unfold eqNd q3E
    simp only [Bool.and_eq_true, decide_eq_true_eq]
    exact ⟨⟨q 0 (by decide), q 1 (by decide), q 2 (by decide), trivial⟩, ⟨q 3 (by decide), q 4 (by decide), q 5 (by decide), trivial⟩, ⟨q 6 (by decide), q 7 (by decide), q 8 (by decide), trivial⟩, ⟨q 9 (by decide), q 10 (by decide), q 11 (by decide), trivial⟩, q 12 (by decide), rfl, rfl, q 15 (by decide), rfl, rfl, trivial⟩
  simp only [decide_eq_false h3, cond_false] at h
  by_cases h4 : k = 4
  · subst h4
    simp only [decide_true, cond_true, Bool.and_eq_true] at h
    obtain ⟨r1, r2, z, _⟩ := h
    have q : ∀ j, j ∈ [0, 1, 2, 3, 4, 5, 12, 14, 15] → (f j).k = z64.k := fun j hj => zs_get z hj
    have g : ∀ j, j ∈ [6, 7, 8, 9, 10, 11] → minMt.k ≤ (f j).k ∧ (f j).k ≤ maxMt.k := fun j hj => rn_get r2 hj
    show ObsOk (rtO4 (etaF f))
    refine ob_c ?_ (rng_mk (g 11 (by decide)) (rng_mk (g 10 (by decide)) (rng_mk (g 9 (by decide)) (rng_mk (g 8 (by decide)) (rng_mk (g 7 (by decide)) (rng_mk (g 6 (by decide)) (rng_mk (rn_one r1) ob_n)))))))
    unfold eqNd q3E
    simp only [Bool.and_eq_true, decide_eq_true_eq]
    exact ⟨⟨q 0 (by decide), q 1 (by decide), q 2 (by decide), trivial⟩, ⟨q 3 (by decide), q 4 (by decide), q 5 (by decide), trivial⟩, ⟨rfl, rfl, rfl, trivial⟩, ⟨rfl, rfl, rfl, trivial⟩, q 12 (by decide), rfl, q 14 (by decide), q 15 (by decide), rfl, rfl, trivial⟩
  simp only [decide_eq_false h4, cond_false] at h
  cases h
end Go.Proofs.YtgjohjgmlleebaaGreat
namespace Bu
set_option linter.all false
open Rx Go
theorem grid_up (s : Nat) (hs : s ≤ 49) {W : Rat} (hW : ((2 ^ s : Nat) : Rat) = W) (hW2 : W ≤ 562949953421312) {x : Rat} (h0 : 0 ≤ x) (h1 : x ≤ 8) : ∃ c c' : F, x < c.q ∧ (c.q - x) * W ≤ 1 ∧ (c'.q - c.q) * W = 1 ∧ x ≤ c'.q := by
  have hp := pow_q s
  rw [hW] at hp
  have f0 : (0 : Int) ≤ (x * W).floor := Rat.le_floor_iff.2 (by simpa using Rat.mul_nonneg h0 (Rat.le_of_lt hp))
  have a1 := Rat.floor_le (x * W)
  have a2 := Rat.lt_floor_add_one (x * W)
  have xW : x * W ≤ 4503599627370496 := by
    have := Rat.mul_le_mul_of_nonneg_right h1 (Rat.le_of_lt hp)
    grind
  have f1 : (x * W).floor ≤ 4503599627370496 := by
    have : (((x * W).floor : Int) : Rat) ≤ ((4503599627370496 : Int) : Rat) := Rat.le_trans a1 xW
    exact Rat.intCast_le_intCast.1 this
  obtain ⟨c, hc⟩ := grid ((x * W).floor + 1) (by omega) s (by omega) (by omega)
  obtain ⟨c', hc'⟩ := grid ((x * W).floor + 2) (by omega) s (by omega) (by omega)
  rw [hW] at hc hc'
  rw [Rat.intCast_add] at hc hc' a2
  have e1 : ((1 : Int) : Rat) = 1 := rfl
  have e2 : ((2 : Int) : Rat) = 2 := rfl
  rw [e1] at hc a2
  rw [e2] at hc'
  generalize (((x * W).floor : Int) : Rat) = m at *
  have lt : x * W < c.q * W := by grind
  have k : x < c.q := by
    apply Rat.not_le.1
    intro g
    have := Rat.mul_le_mul_of_nonneg_right g (Rat.le_of_lt hp)
    grind
  refine ⟨c, c', k, by grind, by grind, ?_⟩
  exact Rat.le_of_mul_le_mul_right (by grind : x * W ≤ c'.q * W) hp
theorem root_wd (s : Nat) (hs : s ≤ 49) {W : Rat} (hW : ((2 ^ s : Nat) : Rat) = W) (hW2 : W ≤ 562949953421312) {l h a b : F} (d : SqD l a) (u : SqU h b) (l8 : l.q ≤ 8) (hab : (b.q - a.q) * W ≤ 2 * l.q) : (h.q - l.q) * W ≤ 2 := by
  have hp := pow_q s
  rw [hW] at hp
  have l0 := d.nn
  obtain ⟨c, c', k1, k2, k3, k4⟩ := grid_up s hs hW hW2 l0 l8
  have c2 : a.q < c.q * c.q := by
    apply Rat.not_le.1
    intro g
    have := d.top c (by grind) g
    grind
  have hr : 0 < c'.q - c.q := by
    apply Rat.not_le.1
    intro g
    have := Rat.mul_nonneg (show 0 ≤ -(c'.q - c.q) by grind) (Rat.le_of_lt hp)
    grind
  have h3 : b.q - a.q ≤ 2 * l.q * (c'.q - c.q) := by
    refine Rat.le_of_mul_le_mul_right (c := W) ?_ hp
    have : 2 * l.q * (c'.q - c.q) * W = 2 * l.q := by grind
    rw [this]; exact hab
  have h4 : b.q ≤ c'.q * c'.q := by
    have m1 := Rat.mul_nonneg (show 0 ≤ c.q - l.q by grind) (Rat.le_of_lt hr)
    have m2 := Rat.mul_nonneg (Rat.le_of_lt hr) (Rat.le_of_lt hr)
    grind
  have h5 := u.bot c' (by grind) h4
  have m3 := Rat.mul_le_mul_of_nonneg_right (show h.q - l.q ≤ (c.q - l.q) + (c'.q - c.q) by grind) (Rat.le_of_lt hp)
  grind
def e48 : Rat := 1 / 281474976710656
theorem Dn.near48 {r : F} {v : Rat} (h : Dn r v) (h0 : -32 ≤ v) (h1 : v ≤ 32) : v - e48 ≤ r.q := by
  have e : ((2 ^ 48 : Nat) : Rat) = 281474976710656 := rfl
  have := h.near 48 (by omega) (by rw [e]; grind) (by rw [e]; grind)
  rw [e] at this
  unfold e48; grind
theorem Up.near48 {r : F} {v : Rat} (h : Up r v) (h0 : -32 ≤ v) (h1 : v ≤ 32) : r.q ≤ v + e48 := by
  have e : ((2 ^ 48 : Nat) : Rat) = 281474976710656 := rfl
  have := h.near 48 (by omega) (by rw [e]; grind) (by rw [e]; grind)
  rw [e] at this
  unfold e48; grind
/-- the square of a number -/
theorem bare_pt (x : F) : (bareI (pt x)).lo.q * (bareI (pt x)).lo.q = x.q * x.q ∧ (bareI (pt x)).hi.q * (bareI (pt x)).hi.q = x.q * x.q := by
  have b := bare_ends (a := pt x) (decide_eq_true (Int.le_refl _))
  have e1 : (pt x).lo.q = x.q := rfl
  have e2 : (pt x).hi.q = x.q := rfl
  have sq : ∀ {y : Rat}, Mem (pt x) y ∨ Mem (pt x) (-y) → y * y = x.q * x.q := by
    intro y hy
    rcases hy with k | k
    · have a := k.lo; have c := k.hi
      have : y = x.q := by grind
      rw [this]
    · have a := k.lo; have c := k.hi
      have : -y = x.q := by grind
      grind
  exact ⟨sq b.1, sq b.2⟩
theorem sqr_nar {x : F} {i : Nat} {v : List I} {r : I} (h : Fact (.sqr i) v r) (e : gt v i = pt x) (h1 : -4 ≤ x.q) (h2 : x.q ≤ 4) : x.q * x.q - e48 ≤ r.lo.q ∧ r.hi.q ≤ x.q * x.q + e48 := by
  obtain ⟨a, b⟩ := h
  rw [e] at a b
  obtain ⟨q1, q2⟩ := bare_pt x
  rw [q1] at a
  rw [q2] at b
  have m1 := Rat.mul_nonneg (show 0 ≤ x.q + 4 by grind) (show 0 ≤ 4 - x.q by grind)
  have m2 : 0 ≤ x.q * x.q := by
    rcases (Rat.le_total : (0 : Rat) ≤ x.q ∨ x.q ≤ 0) with g | g
    · exact Rat.mul_nonneg g g
    · have := Rat.mul_nonneg (show 0 ≤ -x.q by grind) (show 0 ≤ -x.q by grind)
      grind
  exact ⟨a.near48 (by grind) (by grind), b.near48 (by grind) (by grind)⟩
theorem mulq_bd {x : Rat} (h1 : -1 ≤ x) (h2 : x ≤ 1) : 0 ≤ x * x ∧ x * x ≤ 1 := by
  have m1 := Rat.mul_nonneg (show 0 ≤ x + 1 by grind) (show 0 ≤ 1 - x by grind)
  rcases (Rat.le_total : (0 : Rat) ≤ x ∨ x ≤ 0) with g | g
  · exact ⟨Rat.mul_nonneg g g, by grind⟩
  · have := Rat.mul_nonneg (show 0 ≤ -x by grind) (show 0 ≤ -x by grind)
    exact ⟨by grind, by grind⟩
theorem quo_wd {z l h t1 t2 : Rat} (hl : 1 / 128 ≤ l) (z0 : 0 ≤ z) (z1 : z ≤ 1) (lh : l ≤ h) (w : (h - l) * 4294967296 ≤ 2) (e1 : t1 * l = z) (e2 : t2 * h = z) : 0 ≤ t2 ∧ t2 ≤ t1 ∧ t1 - t2 ≤ 1 / 1024 ∧ t1 ≤ 128 := by
  have t20 : 0 ≤ t2 := by
    apply Rat.not_lt.1
    intro g
    have := Rat.mul_pos (show 0 < -t2 by grind) (show 0 < h by grind)
    grind
  have t10 : t1 ≤ 128 := by
    apply Rat.not_lt.1
    intro g
    have := Rat.mul_nonneg (show 0 ≤ t1 - 128 by grind) (show 0 ≤ l - 1 / 128 by grind)
    grind
  have t2h : t2 ≤ 128 := by
    apply Rat.not_lt.1
    intro g
    have := Rat.mul_nonneg (show 0 ≤ t2 - 128 by grind) (show 0 ≤ h - 1 / 128 by grind)
    grind
  have d : (t1 - t2) * l = t2 * (h - l) := by grind
  have m := Rat.mul_nonneg (show 0 ≤ 128 - t2 by grind) (show 0 ≤ h - l by grind)
  have m2 := Rat.mul_nonneg t20 (show 0 ≤ h - l by grind)
  have t21 : t2 ≤ t1 := by
    apply Rat.not_lt.1
    intro g
    have := Rat.mul_pos (show 0 < t2 - t1 by grind) (show 0 < l by grind)
    grind
  refine ⟨t20, t21, ?_, t10⟩
  apply Rat.not_lt.1
  intro g
  have m3 := Rat.mul_nonneg (show 0 ≤ (t1 - t2) - 1 / 1024 by grind) (show 0 ≤ l - 1 / 128 by grind)
  grind
theorem AllR.two_wd {r : I} {p q : Rat} (h : AllR r p q p q) (p1 : 0 ≤ q) (p2 : q ≤ p) (p3 : p ≤ 32) : r.hi.q - r.lo.q ≤ p - q + 2 * e48 := by
  have a : q - e48 ≤ r.lo.q := by
    rcases h.loE with k | k | k | k <;> have := k.near48 (by grind) (by grind) <;> grind
  have b : r.hi.q ≤ p + e48 := by
    rcases h.hiE with k | k | k | k <;> have := k.near48 (by grind) (by grind) <;> grind
  grind
theorem e48_m : e48 * 281474976710656 = 1 := by unfold e48; grind
theorem e48_b : 0 ≤ e48 ∧ e48 ≤ 1 / 16 := by unfold e48; constructor <;> grind
theorem s2_wd {X Y Z a1 a2 b1 b2 c1 c2 : Rat} {p1 p2 r1 r2 : F} (X0 : 0 ≤ X) (X1 : X ≤ 1) (Y0 : 0 ≤ Y) (Y1 : Y ≤ 1) (Z0 : 0 ≤ Z) (Z1 : Z ≤ 1) (x1 : X - e48 ≤ a1) (x2 : a1 ≤ X) (x3 : X ≤ a2) (x4 : a2 ≤ X + e48) (y1 : Y - e48 ≤ b1) (y2 : b1 ≤ Y) (y3 : Y ≤ b2) (y4 : b2 ≤ Y + e48) (z1 : Z - e48 ≤ c1) (z2 : c1 ≤ Z) (z3 : Z ≤ c2) (z4 : c2 ≤ Z + e48)
    (d1 : Dn p1 (a1 + b1)) (u1 : Up p2 (a2 + b2)) (d2 : Dn r1 (p1.q + c1)) (u2 : Up r2 (p2.q + c2)) : X + Y + Z - 5 * e48 ≤ r1.q ∧ r2.q ≤ X + Y + Z + 5 * e48 := by
  have e0 := e48_b.1
  have e1 := e48_b.2
  have k1 : p1.q ≤ a1 + b1 := d1.le
  have k2 : a2 + b2 ≤ p2.q := u1.ge
  have n1 := d1.near48 (by grind) (by grind)
  have n2 := u1.near48 (by grind) (by grind)
  have n3 := d2.near48 (by grind) (by grind)
  have n4 := u2.near48 (by grind) (by grind)
  constructor <;> grind
set_option maxRecDepth 100000 in
/-- the upper part of a direction of numbers is narrow -/
theorem un_wd {x y z : F} (hx : N1 x) (hy : N1 y) (z0 : 1 / 64 ≤ z.q) (z1 : z.q ≤ 1) : (unV KkR x y z).z.hi.q - (unV KkR x y z).z.lo.q ≤ 1 / 64 := by
  obtain ⟨he, hone⟩ := un_okE hx hy z0 z1
  have hE : (evalK KkR (unP x y z) [] 0).2 = 0 := he
  obtain ⟨_, k⟩ := eval_chain hE
  unfold unV unE
  generalize (evalK KkR (unP x y z) [] 0).1 = u at *
  clear hE he hone
  obtain ⟨ux, hux, uy, huy, uz, huz, qx, hqx, qy, hqy, s1, hs1, qz, hqz, s2, hs2, nn, hnn, dx, hdx, ox, hox, dy, hdy, oy, hoy, dz, hdz, oz, hoz, hend⟩ := k
  subst hend
  show oz.hi.q - oz.lo.q ≤ 1 / 64
  have x1 := hx.lo; have x2 := hx.hi; have y1 := hy.lo; have y2 := hy.hi
  obtain ⟨qx1, qx2⟩ := sqr_nar (x := x) hqx hux (by grind) (by grind)
  obtain ⟨qy1, qy2⟩ := sqr_nar (x := y) hqy huy (by grind) (by grind)
  obtain ⟨qz1, qz2⟩ := sqr_nar (x := z) hqz huz (by grind) (by grind)
  obtain ⟨bx0, bx1⟩ := mulq_bd x1 x2
  obtain ⟨by0, by1⟩ := mulq_bd y1 y2
  obtain ⟨bz0, bz1⟩ := mulq_bd (x := z.q) (by grind) z1
  have zz : 1 / 4096 ≤ z.q * z.q := by
    have := Rat.mul_nonneg (show 0 ≤ z.q - 1 / 64 by grind) (show 0 ≤ z.q + 1 / 64 by grind)
    grind
  have mx : Mem qx (x.q * x.q) := p_sqr hqx (p_num hux rfl)
  have my : Mem qy (y.q * y.q) := p_sqr hqy (p_num huy rfl)
  have mz : Mem qz (z.q * z.q) := p_sqr hqz (p_num huz rfl)
  have ms := p_add hs2 (p_add hs1 mx my) mz
  obtain ⟨w1, w2⟩ := s2_wd (p1 := s1.lo) (p2 := s1.hi) (r1 := s2.lo) (r2 := s2.hi) bx0 bx1 by0 by1 bz0 bz1 qx1 mx.lo mx.hi qx2 qy1 my.lo my.hi qy2 qz1 mz.lo mz.hi qz2 hs1.1 hs1.2 hs2.1 hs2.2
  have ms1 := ms.lo; have ms2 := ms.hi
  have ee := e48_m
  clear qx1 qx2 qy1 qy2 qz1 qz2 mx my mz hqx hqy hqz hs1 hs2 ms hdx hdy hox hoy
  obtain ⟨r0, rd, ru⟩ := hnn
  have rd' : SqD nn.lo s2.lo := rd
  have ru' : SqU nn.hi s2.hi := ru
  obtain ⟨f7, g7⟩ := fl_ex 1 7 (by decide) (by decide) (1 / 128) (by decide +kernel)
  have s2l : 1 / 16384 ≤ s2.lo.q := by
    generalize x.q * x.q = X at *; generalize y.q * y.q = Y at *; generalize z.q * z.q = Z at *; generalize s2.lo.q = S at *
    clear rd ru rd' ru'
    grind
  have s2u : s2.lo.q ≤ 3 := by
    generalize x.q * x.q = X at *; generalize y.q * y.q = Y at *; generalize z.q * z.q = Z at *; generalize s2.lo.q = S at *
    clear rd ru rd' ru'
    grind
  have s2w : (s2.hi.q - s2.lo.q) * 4294967296 ≤ 2 * (1 / 128) := by
    generalize x.q * x.q = X at *; generalize y.q * y.q = Y at *; generalize z.q * z.q = Z at *; generalize s2.lo.q = S at *; generalize s2.hi.q = S' at *
    clear rd ru rd' ru'
    grind
  have nlo : 1 / 128 ≤ nn.lo.q := by
    have := rd'.top f7 (by rw [g7]; decide +kernel) (by rw [g7, show (1 : Rat) / 128 * (1 / 128) = 1 / 16384 by decide +kernel]; exact s2l)
    rwa [g7] at this
  have n8 : nn.lo.q ≤ 8 := by
    apply Rat.not_lt.1
    intro g
    have h1 := rd'.le
    have := Rat.mul_pos (show 0 < nn.lo.q - 8 by grind) (show 0 < nn.lo.q by grind)
    generalize nn.lo.q = L at *; generalize s2.lo.q = S at *
    clear rd ru rd' ru' w1 w2 ms1 ms2 zz
    grind
  have wd32 := root_wd 32 (by omega) (W := 4294967296) rfl (by decide +kernel) rd' ru' n8 (by
    generalize nn.lo.q = L at *; generalize (s2.hi.q - s2.lo.q) * 4294967296 = D at *
    clear rd ru rd' ru' w1 w2 ms1 ms2 zz
    grind)
  have nrt : nn.lo.q ≤ nn.hi.q := by
    refine sq_le' rd'.nn ru'.nn ?_
    have h1 := rd'.le; have h2 := ru'.ge
    grind
  have zn : z.q ≤ nn.hi.q := by
    refine sq_le' (by grind) ru'.nn ?_
    have h2 := ru'.ge
    grind
  have ez : uz = pt z := huz
  obtain ⟨_, hA⟩ := hdz
  have hA' : AllR dz (uz.lo.q / nn.lo.q) (uz.lo.q / nn.hi.q) (uz.hi.q / nn.lo.q) (uz.hi.q / nn.hi.q) := hA
  rw [ez] at hA'
  have hB : AllR dz (z.q / nn.lo.q) (z.q / nn.hi.q) (z.q / nn.lo.q) (z.q / nn.hi.q) := hA'
  have e1 : z.q / nn.lo.q * nn.lo.q = z.q := Rat.div_mul_cancel (by grind)
  have e2 : z.q / nn.hi.q * nn.hi.q = z.q := Rat.div_mul_cancel (by grind)
  generalize z.q / nn.lo.q = t1 at *
  generalize z.q / nn.hi.q = t2 at *
  have t2b : t2 ≤ 1 := by
    apply Rat.not_lt.1
    intro g
    have := Rat.mul_pos (show 0 < t2 - 1 by grind) (show 0 < nn.hi.q by grind)
    grind
  obtain ⟨q0, q1, q2, q3⟩ := quo_wd nlo (by grind) z1 nrt wd32 e1 e2
  have t1b : t1 ≤ 32 := by grind
  have w := hB.two_wd q0 q1 t1b
  have m2 : Mem dz t2 := ⟨hB.lo.2.1, hB.hi.2.1⟩
  have w2 := withI_wd m2 (by grind) t2b
  have eo : oz = withI dz := hoz
  rw [eo]
  unfold wd at w2
  grind
theorem evalK_ap (K : Kk) : ∀ (a b : List Bu.Op) (v : List I) (e : Int), evalK K (a ++ b) v e = evalK K b (evalK K a v e).1 (evalK K a v e).2
  | [], _, _, _ => rfl
  | o :: a, b, v, e => evalK_ap K a b _ _
def frHd : List Bu.Op := frD.take 6
def frTl : List Bu.Op := frD.drop 7
def bq64 : F := toF 4580160821035794432
def bxA : I := ⟨bq64, F.of 4620693217682128896⟩
set_option maxRecDepth 100000 in
theorem fr_cut : frD = frHd ++ (.sub 0 6 :: frTl) := rfl
set_option maxRecDepth 100000 in
theorem fr_box : (evalK KkR frD [bz1, bn] 0).2 = 0 ∧ (evalK KkR frHd [bz1, bn] 0).2 = 0 ∧ frD.all monoB = true ∧ frHd.all monoB = true ∧ frTl.all monoB = true := by decide +kernel
set_option maxRecDepth 100000 in
theorem fr_box2 : (evalK KkR frTl (bxA :: (evalK KkR frHd [bz1, bn] 0).1) 0).2 = 0 ∧ z64.k < (gt (evalK KkR frTl (bxA :: (evalK KkR frHd [bz1, bn] 0).1) 0).1 0).lo.k ∧ (gt (evalK KkR frHd [bz1, bn] 0).1 0).hi.k ≤ bxA.hi.k ∧ (evalK KkR frHd [bz1, bn] 0).1.length = 8 := by decide +kernel
set_option maxRecDepth 100000 in
theorem fr_box3 : z64.k ≤ (gt (evalK KkR frD [bz1, bn] 0).1 0).lo.k ∧ (gt (evalK KkR frD [bz1, bn] 0).1 0).hi.k ≤ one64.k ∧ z64.k ≤ bzz.lo.k := by decide +kernel
theorem bx_q2 : bq64.q = 1 / 64 ∧ bxA.hi.q = 8 := by
  refine ⟨?_, q_int (n := 8) (by decide +kernel)⟩
  have : bq64.q * 64 = 1 := q_of' (n := 1) (s := 6) (by decide +kernel) rfl
  grind
theorem allIn_of : ∀ {v w : List I}, v.length = w.length → (∀ i, InB (gt v i) (gt w i)) → AllIn v w
  | [], [], _, _ => trivial
  | a :: v, b :: w, hl, h => ⟨h 0, allIn_of (by simpa using hl) fun i => h (i + 1)⟩
  | [], _ :: _, hl, _ => by simp at hl
  | _ :: _, [], hl, _ => by simp at hl
theorem dn_eq {r : F} {v : Rat} (h : Dn r v) (c : F) (hc : c.q = v) : r.q = v := by
  have a := h.le
  have b := h.top c (by rw [hc]; exact Rat.le_refl)
  grind
theorem up_eq {r : F} {v : Rat} (h : Up r v) (c : F) (hc : c.q = v) : r.q = v := by
  have a := h.ge
  have b := h.bot c (by rw [hc]; exact Rat.le_refl)
  grind
/-- an interval of one number -/
structure Ex (a : I) (x : Rat) : Prop where
  l : a.lo.q = x
  h : a.hi.q = x
theorem ex_num {x : F} {v : List I} {r : I} {q : Rat} (h : Fact (.num x) v r) (e : x.q = q) : Ex r q := by
  have e1 : r = ⟨x, x⟩ := h
  subst e1
  exact ⟨e, e⟩
theorem ex_add {i j : Nat} {v : List I} {r : I} {x y : Rat} (h : Fact (.add i j) v r) (hx : Ex (gt v i) x) (hy : Ex (gt v j) y) (c : F) (hc : c.q = x + y) : Ex r (x + y) := by
  obtain ⟨a, b⟩ := h
  rw [hx.l, hy.l] at a; rw [hx.h, hy.h] at b
  exact ⟨dn_eq a c hc, up_eq b c hc⟩
theorem ex_sub {i j : Nat} {v : List I} {r : I} {x y : Rat} (h : Fact (.sub i j) v r) (hx : Ex (gt v i) x) (hy : Ex (gt v j) y) (c : F) (hc : c.q = x - y) : Ex r (x - y) := by
  obtain ⟨a, b⟩ := h
  rw [hx.l, hy.h] at a; rw [hx.h, hy.l] at b
  exact ⟨dn_eq a c hc, up_eq b c hc⟩
theorem all_ex {r : I} {x : Rat} (h : AllR r x x x x) (c : F) (hc : c.q = x) : Ex r x := by
  constructor
  · rcases h.loE with k | k | k | k <;> exact dn_eq k c hc
  · rcases h.hiE with k | k | k | k <;> exact up_eq k c hc
/-- nothing times something -/
theorem ex_mul0 {i j : Nat} {v : List I} {r : I} (h : Fact (.mul i j) v r) (hx : Ex (gt v i) 0) : Ex r 0 := by
  have h' : AllR r ((gt v i).lo.q * (gt v j).lo.q) ((gt v i).lo.q * (gt v j).hi.q) ((gt v i).hi.q * (gt v j).lo.q) ((gt v i).hi.q * (gt v j).hi.q) := h
  rw [hx.l, hx.h] at h'
  simp only [Rat.zero_mul] at h'
  exact all_ex h' z64 zero0_q
theorem ex_div1 {i j : Nat} {v : List I} {r : I} {x : Rat} (h : Fact (.div i j) v r) (hx : Ex (gt v i) x) (hy : Ex (gt v j) 1) (c : F) (hc : c.q = x) : Ex r x := by
  have h' : AllR r ((gt v i).lo.q / (gt v j).lo.q) ((gt v i).lo.q / (gt v j).hi.q) ((gt v i).hi.q / (gt v j).lo.q) ((gt v i).hi.q / (gt v j).hi.q) := h.2
  rw [hx.l, hx.h, hy.l, hy.h] at h'
  have e : x / 1 = x := by grind
  rw [e] at h'
  exact all_ex h' c hc
theorem bare_ex {a : I} {x : Rat} (h : Ex a x) : (bareI a).lo.q * (bareI a).lo.q = x * x ∧ (bareI a).hi.q * (bareI a).hi.q = x * x := by
  have b := bare_ends (a := a) (rt_q (by rw [h.l, h.h]; exact Rat.le_refl))
  have l := h.l; have u := h.h
  have sq : ∀ {y : Rat}, Mem a y ∨ Mem a (-y) → y * y = x * x := by
    intro y hy
    rcases hy with k | k
    · have c1 := k.lo; have c2 := k.hi
      have : y = x := by grind
      rw [this]
    · have c1 := k.lo; have c2 := k.hi
      have : -y = x := by grind
      grind
  exact ⟨sq b.1, sq b.2⟩
theorem ex_sqr {i : Nat} {v : List I} {r : I} {x : Rat} (h : Fact (.sqr i) v r) (hx : Ex (gt v i) x) (c : F) (hc : c.q = x * x) : Ex r (x * x) := by
  obtain ⟨a, b⟩ := h
  obtain ⟨e1, e2⟩ := bare_ex hx
  rw [e1] at a; rw [e2] at b
  exact ⟨dn_eq a c hc, up_eq b c hc⟩
/-- plus nothing, less nothing -/
theorem same_add0 {i j : Nat} {v : List I} {r : I} (h : Fact (.add i j) v r) (hy : Ex (gt v j) 0) : r.lo.q = (gt v i).lo.q ∧ r.hi.q = (gt v i).hi.q := by
  obtain ⟨a, b⟩ := h
  rw [hy.l] at a; rw [hy.h] at b
  have e1 := dn_eq a (gt v i).lo (by grind)
  have e2 := up_eq b (gt v i).hi (by grind)
  exact ⟨by grind, by grind⟩
theorem same_sub0 {i j : Nat} {v : List I} {r : I} (h : Fact (.sub i j) v r) (hy : Ex (gt v j) 0) : r.lo.q = (gt v i).lo.q ∧ r.hi.q = (gt v i).hi.q := by
  obtain ⟨a, b⟩ := h
  rw [hy.h] at a; rw [hy.l] at b
  have e1 := dn_eq a (gt v i).lo (by grind)
  have e2 := up_eq b (gt v i).hi (by grind)
  exact ⟨by grind, by grind⟩
end Bu
namespace Go.Proofs.YtgjohjgmlleebaaGreat
set_option linter.all false
open Go.RowKit Bu Rx
set_option maxRecDepth 100000 in
theorem fd_all {c n : I} (hc : InB c bz1) (hn : InB n bn) : ∃ f, lnR (fdK KkR c n) 0 = (f, 0) ∧ Uz1 f := by
  obtain ⟨e, _, m, _⟩ := fr_box
  obtain ⟨l, h, _⟩ := fr_box3
  have b := box (v := [c, n]) (w := [bz1, bn]) m ⟨hc, hn, trivial⟩ e
  have k := (b.2 0).inB
  exact ⟨gt (evalK KkR frD [c, n] 0).1 0, lnR_0 (E := evalK KkR frD [c, n] 0) (i := 0) b.1, (b.2 0).rt, Int.le_trans l k.1, Int.le_trans k.2.1 h⟩
theorem bzz_bz1 {c : I} (h : InB c bzz) : InB c bz1 := ⟨Int.le_trans fr_box3.2.2 h.1, h.2.1, h.2.2⟩
set_option maxRecDepth 100000 in
/-- a surface reflects something -/
theorem fd_pos {c n : I} (hc : InB c bzz) (hw : c.hi.q - c.lo.q ≤ 1 / 64) (hn : InB n bn) : ∃ f, lnR (fdK KkR c n) 0 = (f, 0) ∧ Uz1 f ∧ z64.k < f.lo.k := by
  have hc1 := bzz_bz1 hc
  obtain ⟨f, e, hf⟩ := fd_all hc1 hn
  refine ⟨f, e, hf, ?_⟩
  obtain ⟨e1, e2, m1, m2, m3⟩ := fr_box
  obtain ⟨t1, t2, t3, t4⟩ := fr_box2
  have bw := box (v := [c, n]) (w := [bz1, bn]) m1 ⟨hc1, hn, trivial⟩ e1
  have bh := box (v := [c, n]) (w := [bz1, bn]) m2 ⟨hc1, hn, trivial⟩ e2
  have ef : f = gt (evalK KkR frD [c, n] 0).1 0 := by
    have := lnR_0 (E := evalK KkR frD [c, n] 0) (i := 0) bw.1
    have e' : lnR (evalK KkR frD [c, n] 0) 0 = (f, 0) := e
    rw [this] at e'
    exact (congrArg Prod.fst e').symm
  have hq : bzz.lo.q = 1 / 128 := by have : bzz.lo.q * 128 = 1 := q_of' (n := 1) (s := 7) (by decide +kernel) rfl; grind
  have c0 : 1 / 128 ≤ c.lo.q := by rw [← hq]; exact q_le.2 hc.1
  have c1 : c.hi.q ≤ 1 := by rw [← one_q]; exact q_le.2 hc.2.1
  have cr : c.lo.q ≤ c.hi.q := q_le.2 hc.2.2
  obtain ⟨_, k⟩ := eval_chain bh.1
  have hI := bh.2
  have hcut : evalK KkR frD [c, n] 0 = evalK KkR (.sub 0 6 :: frTl) (evalK KkR frHd [c, n] 0).1 0 := by
    rw [fr_cut, evalK_ap, bh.1]
  rw [hcut] at bw ef
  generalize (evalK KkR frHd [c, n] 0).1 = u at *
  obtain ⟨one, hone, n2, hn2, d1, hd1, c2, hc2, g2, hg2, g, hg, hend⟩ := k
  have hu : u = [g, g2, c2, d1, n2, one, c, n] := hend
  have hst : (stepK KkR (.sub 0 6) u 0).2 = 0 := by
    have := bw.1
    exact (eval_chain (l := frTl) this).1
  obtain ⟨_, _, fa⟩ := step_fact hst
  have hs : evalK KkR (.sub 0 6 :: frTl) u 0 = evalK KkR frTl ((stepK KkR (.sub 0 6) u 0).1 :: u) 0 := by
    show evalK KkR frTl ((stepK KkR (.sub 0 6) u 0).1 :: u) (stepK KkR (.sub 0 6) u 0).2 = _
    rw [hst]
  rw [hs] at ef
  generalize (stepK KkR (.sub 0 6) u 0).1 = a1 at *
  have ug : gt u 0 = g ∧ gt u 6 = c := by rw [hu]; exact ⟨rfl, rfl⟩
  obtain ⟨fa1, fa2⟩ := fa
  rw [ug.1, ug.2] at fa1 fa2
  have ghi : g.hi.q ≤ 8 := by
    have := (hI 0).inB.2.1
    rw [ug.1] at this
    rw [← bx_q2.2]
    exact q_le.2 (Int.le_trans this t3)
  have ee := e48_m
  -- the root is far above the cosine
  have n0 : 17 / 16 ≤ n.lo.q := by
    have : minIo.q = 17 / 16 := by have : minIo.q * 16 = 17 := q_of' (n := 17) (s := 4) (by decide +kernel) rfl; grind
    rw [← this]; exact q_le.2 hn.1
  have n4 : n.hi.q ≤ 4 := by
    have : four64.q = 4 := q_int (n := 4) (by decide +kernel)
    rw [← this]; exact q_le.2 hn.2.1
  have nr : n.lo.q ≤ n.hi.q := q_le.2 hn.2.2
  have bn_e : bareI n = n := by
    unfold bareI
    rw [decide_eq_true (by have := q_le.2 hn.1; have h0 : 0 ≤ n.lo.q := by grind
                           rw [← q_zero] at h0; exact q_le.1 h0), cond_true]
  have bc_e : bareI c = c := by
    unfold bareI
    rw [decide_eq_true (by have h0 : 0 ≤ c.lo.q := by grind
                           rw [← q_zero] at h0; exact q_le.1 h0), cond_true]
  have hn2' : Dn n2.lo ((bareI n).lo.q * (bareI n).lo.q) := hn2.1
  have hc2' : Dn c2.lo ((bareI c).lo.q * (bareI c).lo.q) := hc2.1
  rw [bn_e] at hn2'
  rw [bc_e] at hc2'
  have hd1' : Dn d1.lo (n2.lo.q - one.hi.q) := hd1.1
  have hone' : one.hi.q = 1 := by rw [show one = pt one64 from hone]; exact one_q
  rw [hone'] at hd1'
  have hg2' : Dn g2.lo (d1.lo.q + c2.lo.q) := hg2.1
  have hgl : SqD g.lo g2.lo := hg.2.1
  obtain ⟨f98, q98⟩ := fl_ex 9 3 (by decide) (by decide) (9 / 8) (by decide +kernel)
  obtain ⟨f18, q18⟩ := fl_ex 1 3 (by decide) (by decide) (1 / 8) (by decide +kernel)
  have nn := Rat.mul_nonneg (show 0 ≤ n.lo.q - 17 / 16 by grind) (show 0 ≤ n.lo.q + 17 / 16 by grind)
  have nn2 := Rat.mul_nonneg (show 0 ≤ 4 - n.lo.q by grind) (show 0 ≤ n.lo.q + 4 by grind)
  have b1 : 9 / 8 ≤ n2.lo.q := by have := hn2'.top f98 (by rw [q98]; grind); rwa [q98] at this
  have b2 : 1 / 8 ≤ d1.lo.q := by have := hd1'.top f18 (by rw [q18]; grind); rwa [q18] at this
  have b2' := hd1'.le
  have n2le := hn2'.le
  obtain ⟨cc0, cc1⟩ := mulq_bd (x := c.lo.q) (by grind) (by grind)
  have b3 := hc2'.near48 (by grind) (by grind)
  have b3' := hc2'.le
  have b4 := hg2'.near48 (by grind) (by grind)
  obtain ⟨cc, cc', k1, k2, _, _⟩ := grid_up 40 (by omega) (W := 1099511627776) rfl (by decide +kernel) (x := c.hi.q + 1 / 64) (by grind) (by grind)
  have low : c.hi.q + 1 / 64 ≤ g.lo.q := by
    have top := hgl.top cc (by grind) (by
      have w : cc.q ≤ c.lo.q + 1 / 31 := by grind
      have m1 := Rat.mul_nonneg (show 0 ≤ c.lo.q + 1 / 31 - cc.q by grind) (show 0 ≤ c.lo.q + 1 / 31 + cc.q by grind)
      grind)
    grind
  have l1 : bq64.k ≤ a1.lo.k := by
    refine q_le.1 ?_
    exact fa1.top bq64 (by rw [bx_q2.1]; grind)
  have l2 : a1.hi.k ≤ bxA.hi.k := by
    refine q_le.1 ?_
    exact fa2.bot bxA.hi (by rw [bx_q2.2]; grind)
  have gr : g.lo.q ≤ g.hi.q := by
    have := (hI 0).rt
    rw [ug.1] at this
    exact rt_le this
  have l3 : a1.lo.k ≤ a1.hi.k := by
    refine q_le.1 ?_
    have := fa1.le; have := fa2.ge
    grind
  have hb := box (l := frTl) (v := a1 :: u) (w := bxA :: (evalK KkR frHd [bz1, bn] 0).1) m3 ⟨⟨l1, l2, l3⟩, allIn_of (by rw [t4, hu]; rfl) (fun i => (hI i).inB)⟩ t1
  rw [ef]
  exact Int.lt_of_lt_of_le t2 (hb.2 0).inB.1
set_option maxRecDepth 100000 in
/-- at the edge a surface reflects all -/
theorem fd_edge {n : F} (hn : Rn minIo four64 n) : ∃ r, lnR (fdK KkR (pt z64) (pt n)) 0 = (r, 0) ∧ Uz1 r ∧ one64.k ≤ r.hi.k ∧ 1 - 1 / 2147483648 ≤ r.lo.q := by
  have hc1 : InB (pt z64) bz1 := ⟨Int.le_refl _, by have : z64.k ≤ one64.k := by decide +kernel
                                                    exact this, Int.le_refl _⟩
  obtain ⟨r, e, hr⟩ := fd_all hc1 (bn_of hn)
  refine ⟨r, e, hr, ?_⟩
  obtain ⟨k1, k2, m1, m2, m3⟩ := fr_box
  have bw := box (v := [pt z64, pt n]) (w := [bz1, bn]) m1 ⟨hc1, bn_of hn, trivial⟩ k1
  have ef : r = gt (evalK KkR frD [pt z64, pt n] 0).1 0 := by
    have := lnR_0 (E := evalK KkR frD [pt z64, pt n] 0) (i := 0) bw.1
    have e' : lnR (evalK KkR frD [pt z64, pt n] 0) 0 = (r, 0) := e
    rw [this] at e'
    exact (congrArg Prod.fst e').symm
  obtain ⟨_, k⟩ := eval_chain bw.1
  have n0 : 17 / 16 ≤ n.q := by
    have : minIo.q = 17 / 16 := by have : minIo.q * 16 = 17 := q_of' (n := 17) (s := 4) (by decide +kernel) rfl; grind
    rw [← this]; exact q_le.2 hn.1
  have n4 : n.q ≤ 4 := by
    have : four64.q = 4 := q_int (n := 4) (by decide +kernel)
    rw [← this]; exact q_le.2 hn.2
  have z0 : z64.q = 0 := zero0_q
  have o1 : one64.q = 1 := one_q
  have m1' : mone64.q = -1 := mone_q
  have two : two64.q = 2 := q_int (n := 2) (by decide +kernel)
  have q2q : q2.q = 1 / 2 := by have : q2.q * 2 = 1 := q_of' (n := 1) (s := 1) (by decide +kernel) rfl; grind
  have ee := e48_m
  generalize (evalK KkR frD [pt z64, pt n] 0).1 = w at *
  obtain ⟨one, hone, n2, hn2, d1, hd1, c2, hc2, g2, hg2, g, hg, a1, ha1, a2, ha2, qa, hqa, p, hp, b1, hb1, b2, hb2, b3, hb3, b4, hb4, b5, hb5, b6, hb6, b7, hb7, q, hq, h, hh, e1, he1, e2, he2, e3, he3, f, hf, hend⟩ := k
  subst hend
  have ez : Ex (pt z64) 0 := ⟨z0, z0⟩
  have xone : Ex one 1 := ex_num hone o1
  obtain ⟨s1, s2⟩ := sqr_nar (x := n) hn2 rfl (by grind) (by grind)
  have nn := Rat.mul_nonneg (show 0 ≤ n.q - 17 / 16 by grind) (show 0 ≤ n.q + 17 / 16 by grind)
  have nn2 := Rat.mul_nonneg (show 0 ≤ 4 - n.q by grind) (show 0 ≤ n.q + 4 by grind)
  have mn2 : Mem n2 (n.q * n.q) := p_sqr hn2 ⟨Rat.le_refl, Rat.le_refl⟩
  have mn21 := mn2.lo; have mn22 := mn2.hi
  obtain ⟨dl, du⟩ := hd1
  have dl' : Dn d1.lo (n2.lo.q - one.hi.q) := dl
  have du' : Up d1.hi (n2.hi.q - one.lo.q) := du
  rw [xone.h] at dl'; rw [xone.l] at du'
  have y1 := dl'.near48 (by grind) (by grind)
  have y2 := du'.near48 (by grind) (by grind)
  have y1' := dl'.le; have y2' := du'.ge
  have xc2 : Ex c2 (0 * 0) := ex_sqr hc2 ez z64 (by rw [z0]; grind)
  rw [Rat.zero_mul] at xc2
  obtain ⟨g21, g22⟩ := same_add0 hg2 xc2
  have g21' : g2.lo.q = d1.lo.q := g21
  have g22' : g2.hi.q = d1.hi.q := g22
  obtain ⟨_, rd, ru⟩ := hg
  have rd' : SqD g.lo g2.lo := rd
  have ru' : SqU g.hi g2.hi := ru
  obtain ⟨f4, q4⟩ := fl_ex 1 2 (by decide) (by decide) (1 / 4) (by decide +kernel)
  have gl4 : 1 / 4 ≤ g.lo.q := by have := rd'.top f4 (by rw [q4]; grind) (by rw [q4]; grind); rwa [q4] at this
  have gl8 : g.lo.q ≤ 8 := by
    apply Rat.not_lt.1
    intro h
    have h1 := rd'.le
    have := Rat.mul_pos (show 0 < g.lo.q - 8 by grind) (show 0 < g.lo.q by grind)
    grind
  have gw := root_wd 40 (by omega) (W := 1099511627776) rfl (by decide +kernel) rd' ru' gl8 (by grind)
  have grt : g.lo.q ≤ g.hi.q := by
    refine sq_le' rd'.nn ru'.nn ?_
    have h1 := rd'.le; have h2 := ru'.ge
    grind
  obtain ⟨x1, x2⟩ := same_sub0 ha1 ez
  obtain ⟨x3, x4⟩ := same_add0 ha2 ez
  have x1' : a1.lo.q = g.lo.q := x1
  have x2' : a1.hi.q = g.hi.q := x2
  have x3' : a2.lo.q = g.lo.q := x3
  have x4' : a2.hi.q = g.hi.q := x4
  have er : r = f := ef
  rw [er]
  clear ef er e hr bw hc1 hn
  -- the quotient is next to 1
  have hq2 : AllR qa (a1.lo.q / a2.lo.q) (a1.lo.q / a2.hi.q) (a1.hi.q / a2.lo.q) (a1.hi.q / a2.hi.q) := hqa.2
  have mqa : Mem qa (g.lo.q / g.lo.q) := p_div hqa (⟨by show a1.lo.q ≤ _; rw [x1']; exact Rat.le_refl, by show _ ≤ a1.hi.q; rw [x2']; exact grt⟩) (⟨by show a2.lo.q ≤ _; rw [x3']; exact Rat.le_refl, by show _ ≤ a2.hi.q; rw [x4']; exact grt⟩)
  rw [x1', x2', x3', x4'] at hq2
  have l1 : g.lo.q / g.lo.q = 1 := by rw [Rat.div_def]; exact Rat.mul_inv_cancel _ (by grind)
  have h1 : g.hi.q / g.hi.q = 1 := by rw [Rat.div_def]; exact Rat.mul_inv_cancel _ (by grind)
  rw [l1, h1] at hq2
  rw [l1] at mqa
  have t1 : g.lo.q / g.hi.q * g.hi.q = g.lo.q := Rat.div_mul_cancel (by grind)
  have t2 : g.hi.q / g.lo.q * g.lo.q = g.hi.q := Rat.div_mul_cancel (by grind)
  generalize g.lo.q / g.hi.q = p1 at *
  generalize g.hi.q / g.lo.q = p2 at *
  have p1a : 1 - p1 ≤ 1 / 137438953472 := by
    apply Rat.not_lt.1
    intro h
    have := Rat.mul_nonneg (show 0 ≤ 1 - p1 - 1 / 137438953472 by grind) (show 0 ≤ g.hi.q - 1 / 4 by grind)
    grind
  have p1b : p1 ≤ 1 := by
    apply Rat.not_lt.1
    intro h
    have := Rat.mul_pos (show 0 < p1 - 1 by grind) (show 0 < g.hi.q by grind)
    grind
  have p2a : 1 ≤ p2 := by
    apply Rat.not_lt.1
    intro h
    have := Rat.mul_pos (show 0 < 1 - p2 by grind) (show 0 < g.lo.q by grind)
    grind
  have p2b : p2 ≤ 2 := by
    apply Rat.not_lt.1
    intro h
    have := Rat.mul_pos (show 0 < p2 - 2 by grind) (show 0 < g.lo.q by grind)
    grind
  have qlo : 1 - 1 / 68719476736 ≤ qa.lo.q := by
    rcases hq2.loE with k | k | k | k <;> have := k.near48 (by grind) (by grind) <;> grind
  have qhi : qa.hi.q ≤ 3 := by
    rcases hq2.hiE with k | k | k | k <;> have := k.near48 (by grind) (by grind) <;> grind
  have qrt : qa.lo.q ≤ qa.hi.q := Rat.le_trans mqa.1 mqa.2
  have q1 := mqa.lo
  have bq_e : bareI qa = qa := by
    unfold bareI
    rw [decide_eq_true (by have h0 : 0 ≤ qa.lo.q := by grind
                           rw [← q_zero] at h0; exact q_le.1 h0), cond_true]
  have hp' : Dn p.lo ((bareI qa).lo.q * (bareI qa).lo.q) ∧ Up p.hi ((bareI qa).hi.q * (bareI qa).hi.q) := hp
  rw [bq_e] at hp'
  have mp : Mem p (1 * 1) := p_sqr hp mqa
  have qq := Rat.mul_nonneg (show 0 ≤ qa.lo.q - (1 - 1 / 68719476736) by grind) (show 0 ≤ qa.lo.q + (1 - 1 / 68719476736) by grind)
  have qq2 := Rat.mul_nonneg (show 0 ≤ 1 - qa.lo.q by grind) (show 0 ≤ 1 + qa.lo.q by grind)
  have qq3 := Rat.mul_nonneg (show 0 ≤ 3 - qa.hi.q by grind) (show 0 ≤ 3 + qa.hi.q by grind)
  have qq4 := Rat.mul_nonneg (show 0 ≤ qa.hi.q by grind) (show 0 ≤ qa.hi.q by grind)
  have pl := hp'.1.near48 (by grind) (by grind)
  have pu := hp'.2.near48 (by grind) (by grind)
  have plo : 1 - 1 / 17179869184 ≤ p.lo.q := by grind
  have phi : p.hi.q ≤ 10 := by grind
  have mp1 := mp.lo; have mp2 := mp.hi
  -- the other part is 1
  have xb2 : Ex b2 0 := ex_mul0 hb2 ez
  have xb3 : Ex b3 (0 - 1) := ex_sub hb3 xb2 xone mone64 (by rw [m1']; grind)
  have xb5 : Ex b5 0 := ex_mul0 hb5 ez
  have xb6 : Ex b6 (0 + 1) := ex_add hb6 xb5 xone one64 (by rw [o1]; grind)
  rw [Rat.zero_add] at xb6
  have xb7 : Ex b7 (0 - 1) := ex_div1 hb7 xb3 xb6 mone64 (by rw [m1']; grind)
  have xq : Ex q ((0 - 1) * (0 - 1)) := ex_sqr hq xb7 one64 (by rw [o1]; grind)
  have xe2 : Ex e2 (1 + (0 - 1) * (0 - 1)) := ex_add he2 xone xq two64 (by rw [two]; grind)
  have xh : Ex h (1 / 2) := ex_num hh q2q
  have he1' : AllR e1 (h.lo.q * p.lo.q) (h.lo.q * p.hi.q) (h.hi.q * p.lo.q) (h.hi.q * p.hi.q) := he1
  have me1 : Mem e1 (1 / 2 * (1 * 1)) := p_mul he1 ⟨by show h.lo.q ≤ _; rw [xh.l]; exact Rat.le_refl, by show _ ≤ h.hi.q; rw [xh.h]; exact Rat.le_refl⟩ mp
  rw [xh.l, xh.h] at he1'
  have el : p.lo.q / 2 - e48 ≤ e1.lo.q := by
    rcases he1'.loE with k | k | k | k <;> have := k.near48 (by grind) (by grind) <;> grind
  have eu : e1.hi.q ≤ 6 := by
    rcases he1'.hiE with k | k | k | k <;> have := k.near48 (by grind) (by grind) <;> grind
  have me11 := me1.lo; have me12 := me1.hi
  have he3' : AllR e3 (e1.lo.q * e2.lo.q) (e1.lo.q * e2.hi.q) (e1.hi.q * e2.lo.q) (e1.hi.q * e2.hi.q) := he3
  have me3 : Mem e3 (1 / 2 * (1 * 1) * (1 + (0 - 1) * (0 - 1))) := p_mul he3 me1 ⟨by show e2.lo.q ≤ _; rw [xe2.l]; exact Rat.le_refl, by show _ ≤ e2.hi.q; rw [xe2.h]; exact Rat.le_refl⟩
  rw [xe2.l, xe2.h] at he3'
  have e3l : 2 * e1.lo.q - e48 ≤ e3.lo.q := by
    rcases he3'.loE with k | k | k | k <;> have := k.near48 (by grind) (by grind) <;> grind
  have me31 := me3.hi
  have top : one64.k ≤ e3.hi.k := q_le.1 (by rw [o1]; grind)
  have zo : z64.k ≤ one64.k := by decide +kernel
  have ef : f = keptI e3 z64 one64 := hf
  obtain ⟨kl, kh⟩ := keptI_k e3 z64 one64
  rw [ef]
  refine ⟨by rw [kh]; omega, ?_⟩
  rcases Int.le_total e3.lo.k one64.k with g1 | g1
  · have : e3.lo.k ≤ (keptI e3 z64 one64).lo.k := by rw [kl]; omega
    have := q_le.2 this
    grind
  · have : one64.k ≤ (keptI e3 z64 one64).lo.k := by rw [kl]; omega
    have := q_le.2 this
    rw [o1] at this
    grind
end Go.Proofs.YtgjohjgmlleebaaGreat
namespace Go.Proofs.YtgjohjgmlleebaaGreat
set_option linter.all false
open Go.RowKit Bu Rx
def bDd : I := gt (evalK KkR miV [bG1, bG2, bD, bzz, bzz] 0).1 0
set_option maxRecDepth 100000 in
theorem den_bx : (gt (evalK KkR lbV [bzz] 0).1 0).hi.k ≤ (Pb 0).hi.k ∧ bDd.hi.k ≤ (Pb 0).hi.k := by decide +kernel
set_option maxRecDepth 100000 in
theorem den_box2 {l : Lf} (h : LfP l) : ∃ d, dnG4 GmR l = (d, 0) ∧ z64.k < d.lo.k ∧ InB d (Pb 0) := by
  obtain ⟨_, _, v3⟩ := one_box h.v
  obtain ⟨_, _, u3⟩ := one_box h.u
  obtain ⟨x1, x2⟩ := den_bx
  have lb : ∀ {a : I}, InB a bzz → ∃ r, lnR (lbK KkR a) 0 = (r, 0) ∧ z64.k < r.lo.k ∧ InB r (Pb 0) := by
    intro a ha
    obtain ⟨m, _, _, e, l, _⟩ := box_lb
    have b := box (v := [a]) (w := [bzz]) m ⟨ha, trivial⟩ e
    have b1 : (lbK KkR a).2 = 0 := b.1
    have k := (b.2 0).inB
    exact ⟨_, lnR_0 b1, Int.lt_of_lt_of_le l k.1, Int.le_of_lt (Int.lt_of_lt_of_le l k.1), Int.le_trans k.2.1 x1, k.2.2⟩
  have gl : ∀ {al : I}, InB al bal → ∃ d, ((glR KkR GlR l.v l.u al).1.d, (glR KkR GlR l.v l.u al).2) = (d, (0 : Int)) ∧ z64.k < d.lo.k ∧ InB d (Pb 0) := by
    intro al ha
    have g := gi_ok h.v h.u ha
    rw [gl_val h.v h.u ha]
    obtain ⟨_, _, l0⟩ := mi_ok h.v h.u
    obtain ⟨m1, m2, m3, m4, m5, m6, m7⟩ := q_mono
    obtain ⟨c1, c2, c3, c4, c5, c6, c7⟩ := boxes_c
    have b2 := box (v := [l.u.z, l.v.z, al]) (w := [bzz, bzz, bal]) m2 ⟨u3, v3, ha, trivial⟩ boxes_q.2.2.1
    have b1 := box (v := [l.u.z, al]) (w := [bzz, bal]) m3 ⟨u3, ha, trivial⟩ c4
    have bd := box (v := [lnI l.v l.u, al]) (w := [bln, bal]) m4 ⟨l0, ha, trivial⟩ c3
    have b := box (v := [Gb l.u al, Ga l.v l.u al, Da l.v l.u al, l.u.z, l.v.z]) (w := [bG1, bG2, bD, bzz, bzz]) m5 ⟨(b1.2 0).inB, (b2.2 0).inB, (bd.2 0).inB, u3, v3, trivial⟩ c5
    have k := (b.2 0).inB
    have d0 := g.d0
    have z := z64_0
    exact ⟨giD l.v l.u al, rfl, by omega, by show z64.k ≤ _; omega, Int.le_trans k.2.1 x2, k.2.2⟩
  rcases rt_kind h.r with e | e | e | e
  · obtain ⟨k, f, c, v, u⟩ := l
    simp only at e; subst e
    exact lb v3
  · obtain ⟨k, f, c, v, u⟩ := l
    simp only at e; subst e
    exact lb v3
  · obtain ⟨k, f, c, v, u⟩ := l
    simp only at e; subst e
    exact gl (bal_of (rt3_in h.r).1)
  · obtain ⟨k, f, c, v, u⟩ := l
    simp only at e; subst e
    exact gl (bal_of (rt4_in h.r h.o.n).1)
theorem obsB_of {o : Obs} (h : ObsOk o) : Bu.obsB o = true := List.all_eq_true.2 fun p hp => by simp [h p hp]
theorem leaf_lf {n : Nd} {p : Int} (h : okNd n p = true) (h5 : n.k ≠ 5) (h6 : n.k ≠ 6) {v u : V3} (hv : OneP v) (hu : OneP u) (c : Int) (c0 : 0 ≤ c) (c3 : c < 3) : LfP ⟨n.k, etaF n.f, c, v, u⟩ := ⟨nd_leaf h h5 h6, hv, hu, c0, c3⟩
theorem leaf_den {n : Nd} {p : Int} (h : okNd n p = true) (h5 : n.k ≠ 5) (h6 : n.k ≠ 6) {v u : V3} (hv : OneP v) (hu : OneP u) : ∃ d, lfR (dnG4 GmR) v u n = (d, 0) ∧ z64.k < d.lo.k ∧ InB d (Pb 0) ∧ Bu.obsB (lfRo dnO4 v u n) = true := by
  have L := leaf_lf h h5 h6 hv hu 0 (Int.le_refl _) (by decide)
  obtain ⟨d, e1, e2, e3⟩ := den_box2 L
  obtain ⟨a0, b0⟩ := okNd_leaf h h5 h6
  exact ⟨d, e1, e2, e3, obsB_of (ob_c (decide_eq_true a0) (ob_c (decide_eq_true b0) L.o.den))⟩
theorem okNd_mixw {n : Nd} {p : Int} (h : okNd n p = true) (h5 : n.k = 5) : z64.k ≤ (n.f 15).k ∧ (n.f 15).k ≤ one64.k := by
  unfold okNd at h
  rw [h5] at h
  simp only [Bool.and_eq_true, Int.reduceEq, decide_false, decide_true, cond_false, cond_true] at h
  exact rn_one h.1
theorem okNd_coatf {n : Nd} {p : Int} (h : okNd n p = true) (h6 : n.k = 6) : Rn minIo four64 (n.f 14) ∧ ∀ j, j ∈ [3, 4, 5] → z64.k ≤ (n.f j).k ∧ (n.f j).k ≤ one64.k := by
  unfold okNd at h
  rw [h6] at h
  simp only [Bool.and_eq_true, Int.reduceEq, decide_false, decide_true, cond_false, Bool.true_and] at h
  exact ⟨rn_one h.1, fun j hj => rn_get h.2.1 hj⟩
theorem fd_o {c : I} {x : F} (hc : InB c bz1) (hx : Rn minIo four64 x) : ObsOk (fdO c (pF x)) := ob_a (bnd_of hx) (ob_c (decide_eq_true hc.2.1) (ob_c (decide_eq_true hc.1) (ob_c (decide_eq_true hc.2.2) ob_n)))
/-- mixes, coats: in steps -/
theorem mixC_st {w : F} {a b : Ch} {p m : I} (h1 : mixK KkR 0 w a.p b.p = (p, 0)) (h2 : mixK KkR 0 w a.m b.m = (m, 0)) : mixC KkR w a b = (⟨p, m⟩, 0) := by
  unfold mixC
  simp only [h1, h2]
theorem coatC_st {o s x y z : I} {a : Ch} (h1 : KkR.sub 0 (pt one64) o = (s, 0)) (h2 : KkR.mul 0 s a.p = (x, 0)) (h3 : KkR.mul 0 s a.m = (y, 0)) (h4 : KkR.add 0 o y = (z, 0)) : coatC KkR o a = (⟨x, z⟩, 0) := by
  unfold coatC lessK
  have e1 : KkR.num 0 one_ = (pt one64, 0) := rfl
  simp only [e1, h1, h2, h3, h4]
def LfsOk (lf : Nd → I × Int) (lo : Nd → Obs) (cs : List SV) (len : Nat) : Prop := ∀ i, i < len → (ndR cs (i * 19)).k ≠ 5 → (ndR cs (i * 19)).k ≠ 6 → ∃ d, lf (ndR cs (i * 19)) = (d, 0) ∧ InB d (Pb 0) ∧ Bu.obsB (lo (ndR cs (i * 19))) = true
theorem chs_ok {cos : I} (hc : InB cos bz1) {lf : Nd → I × Int} {lo : Nd → Obs} {cs : List SV} {len : Nat} (K : OkPg cs len) (hlen : len ≤ 20) (hL : LfsOk lf lo cs len) :
    ∀ i, i < len → nodB NdR cos lf lo (fun j => (chL (allF NdR cos lf cs) i).getD j Ch.zero) (ndR cs (i * 19)) = true ∧ InB (chF (allF NdR cos lf cs) i).p (Pb i) ∧ InB (chF (allF NdR cos lf cs) i).m (Mb i) := by
  intro i
  induction i using Nat.strongRecOn with
  | _ i ih =>
    intro hi
    have hnd := K.nd i hi
    have hl := hL i hi
    have g : ∀ {a : Int}, 0 ≤ a → a < i → (chL (allF NdR cos lf cs) i).getD a.toNat Ch.zero = chF (allF NdR cos lf cs) a.toNat := fun _ _ => chL_get _ (by omega)
    have hF : chF (allF NdR cos lf cs) i = (nodC NdR cos lf (fun j => (chL (allF NdR cos lf cs) i).getD j Ch.zero) (ndR cs (i * 19))).1 := rfl
    rw [hF]
    unfold nodB
    generalize ndR cs (i * 19) = n at hnd hl
    by_cases h5 : n.k = 5
    · obtain ⟨⟨a0, a1⟩, b0, b1⟩ := okNd_mix hnd h5
      have w := okNd_mixw hnd h5
      obtain ⟨_, pa, ma⟩ := ih n.a.toNat (by omega) (by omega)
      obtain ⟨_, pb, mb⟩ := ih n.b.toNat (by omega) (by omega)
      have L := lv_ok (i := i - 1) (by omega)
      have e1 : i - 1 + 1 = i := by omega
      obtain ⟨p, p1, p2⟩ := mixK_in w (Pb_le (i := n.a.toNat) (j := i - 1) (by omega) (by omega) pa) (Pb_le (i := n.b.toNat) (j := i - 1) (by omega) (by omega) pb) L.p L.pp
      obtain ⟨m, m1, m2⟩ := mixK_in w (Mb_le (i := n.a.toNat) (j := i - 1) (by omega) (by omega) ma) (Mb_le (i := n.b.toNat) (j := i - 1) (by omega) (by omega) mb) L.m L.mm
      rw [e1] at p2 m2
      have hn : nodC NdR cos lf (fun j => (chL (allF NdR cos lf cs) i).getD j Ch.zero) n = (⟨p, m⟩, 0) := by
        unfold nodC
        rw [decide_eq_true h5, cond_true]
        simp only [g a0 a1, g b0 b1]
        exact mixC_st p1 m1
      rw [hn, decide_eq_true h5, cond_true]
      exact ⟨rfl, p2, m2⟩
    · by_cases h6 : n.k = 6
      · obtain ⟨a0, a1⟩ := okNd_coat hnd h6
        obtain ⟨c1, _⟩ := okNd_coatf hnd h6
        obtain ⟨_, pa, ma⟩ := ih n.a.toNat (by omega) (by omega)
        have L := lv_ok (i := i - 1) (by omega)
        have e1 : i - 1 + 1 = i := by omega
        obtain ⟨o, o1, o2⟩ := fd_all hc (bn_of c1)
        obtain ⟨s, s1, s2⟩ := less_in o2.box
        obtain ⟨x, x1, x2⟩ := by_in s2 (Pb_le (i := n.a.toNat) (j := i - 1) (by omega) (by omega) pa) L.p
        obtain ⟨y, y1, y2⟩ := by_in s2 (Mb_le (i := n.a.toNat) (j := i - 1) (by omega) (by omega) ma) L.m
        obtain ⟨z, z1, z2⟩ := ad_in o2.box y2 L.om
        rw [e1] at z2
        have x3 := Pb_le (i := i - 1) (j := i) (by omega) (by omega) x2
        have hD : NdR.D cos ⟨n.f 14, n.f 14⟩ = (o, 0) := o1
        have hO : Bu.obsB (NdR.dO cos ⟨n.f 14, n.f 14⟩) = true := obsB_of (fd_o hc c1)
        have hn : nodC NdR cos lf (fun j => (chL (allF NdR cos lf cs) i).getD j Ch.zero) n = (⟨x, z⟩, 0) := by
          unfold nodC
          rw [decide_eq_false h5, decide_eq_true h6, cond_false, cond_true, hD]
          simp only [g a0 a1]
          exact coatC_st s1 x1 y1 z1
        rw [hn, decide_eq_false h5, decide_eq_true h6, cond_false, cond_true, hD, hO]
        exact ⟨rfl, x3, z2⟩
      · obtain ⟨d, d1, d2, d3⟩ := hl h5 h6
        have hn : nodC NdR cos lf (fun j => (chL (allF NdR cos lf cs) i).getD j Ch.zero) n = (⟨d, Ch.zero.m⟩, 0) := by
          unfold nodC
          rw [decide_eq_false h5, decide_eq_false h6, cond_false, cond_false, d1]
        rw [hn, decide_eq_false h5, decide_eq_false h6, cond_false, cond_false, d3]
        refine ⟨rfl, Pb_le (i := 0) (by omega) (by omega) d2, ?_⟩
        have zk := zz_k
        refine ⟨?_, ?_, ?_⟩
        · show z64.k ≤ F.zero.k; omega
        · show F.zero.k ≤ (Mb i).hi.k
          rw [Mb_k (by omega)]
          have : F.zero.k = 0 := rfl
          unfold Mk; omega
        · exact Int.le_refl _
theorem chs_all {cos : I} (hc : InB cos bz1) {lf : Nd → I × Int} {lo : Nd → Obs} {cs : List SV} {len : Nat} (K : OkPg cs len) (hlen : len ≤ 20) (hL : LfsOk lf lo cs len) : allB NdR cos lf lo cs len = true :=
  List.all_eq_true.2 fun i hi => (chs_ok hc K hlen hL i (List.mem_range.1 hi)).1
theorem lfs_mir (cs : List SV) (len : Nat) : LfsOk (fun _ => (Ch.zero.p, 0)) (fun _ => []) cs len := fun i hi h5 h6 => by
  refine ⟨_, rfl, ⟨?_, ?_, Int.le_refl _⟩, rfl⟩
  · have zk := zz_k
    show z64.k ≤ F.zero.k; omega
  · show F.zero.k ≤ (Pb 0).hi.k
    rw [Pb_k (by omega)]
    have : F.zero.k = 0 := rfl
    unfold Pk; omega
theorem lfs_den {cs : List SV} {len : Nat} (K : OkPg cs len) {v u : V3} (hv : OneP v) (hu : OneP u) : LfsOk (lfR (dnG4 GmR) v u) (lfRo dnO4 v u) cs len := fun i hi h5 h6 => by
  obtain ⟨d, d1, _, d2, d3⟩ := leaf_den (K.nd i hi) h5 h6 hv hu
  exact ⟨d, d1, d2, d3⟩
end Go.Proofs.YtgjohjgmlleebaaGreat
