/- DensMix by the reckoner; right programs of numbers. The chapter's examples of layer 22. DensMix, plain. Rows whose arguments lie in memory: what is read there; a function that changes nothing. burnishlow.Prog makes right programs. eval.Eval: what a program sends. eval.Eval: the rounds. eval.Eval: entry, slots, the end. eval.Eval: what each node's light is; a round. eval.Eval: the contract. eval.Eval really; eval.At. layer 21: the chapter's examples; EvalCoat's run. layer 21: the chapter's examples. EvalBack by the reckoner: pieces. Package vndf by the reckoner: Draw, Density. Package vndf by the reckoner: Draw and Density as known functions. Package cosine by the reckoner: Mid; the examples of layer 12; CosineFalls. Package mirror by the reckoner: Reflect, Straight. The reckoner: loops that return, or leave, at some round, seen from where the function began. draw.Path by the reckoner: pieces. -/
import Derived.Test.YtgjohjgmlleebaaGreatM13
import Derived.Test.YtgjohjgmlleebaaGreatM01
import Derived.OpenVars
import Derived.Deep.Slices
import Derived.Test.YtgjohjgmlleebaaGreatM10
import Derived.Test.YtgjohjgmlleebaaGreatM12
import Derived.Test.YtgjohjgmlleebaaGreatM11
import Derived.Test.YtgjohjgmlleebaaGreatM08
namespace Bu
set_option linter.all false
open Rx Go
theorem bw_rn {l h : F} {n : Int} (hl : l.k ≤ h.k) : rnB l h (bwF l h n) = true := by
  have := bwF_in (n := n) hl
  unfold rnB
  rw [decide_eq_true this.1, decide_eq_true this.2]; rfl
theorem zs_c (js : List Nat) : zsB (fun _ => z64) js = true := List.all_eq_true.2 fun _ _ => decide_eq_true zz_k.symm
theorem okNd_1 {x y z : F} (hx : rnB z64 one64 x = true) (hy : rnB z64 one64 y = true) (hz : rnB z64 one64 z = true) (p : Int) : okNd ⟨1, ndM x y z z64 z64 z64 z64 z64 z64 z64 z64 z64 z64 z64 z64 z64, 0, 0⟩ p = true := by
  show ((rnB z64 one64 x && (rnB z64 one64 y && (rnB z64 one64 z && true))) && (zsB (fun _ => z64) [3, 4, 5, 6, 7, 8, 9, 10, 11, 12, 13, 14, 15] && (decide ((0 : Int) = 0) && decide ((0 : Int) = 0)))) = true
  rw [hx, hy, hz, zs_c]; rfl
theorem okNd_2 {x y z s : F} (hx : rnB z64 one64 x = true) (hy : rnB z64 one64 y = true) (hz : rnB z64 one64 z = true) (hs : rnB z64 one64 s = true) (p : Int) : okNd ⟨2, ndM x y z z64 z64 z64 z64 z64 z64 z64 z64 z64 s z64 z64 z64, 0, 0⟩ p = true := by
  show ((rnB z64 one64 s && (rnB z64 one64 x && (rnB z64 one64 y && (rnB z64 one64 z && true)))) && (zsB (fun _ => z64) [3, 4, 5, 6, 7, 8, 9, 10, 11, 13, 14, 15] && (decide ((0 : Int) = 0) && decide ((0 : Int) = 0)))) = true
  rw [hx, hy, hz, hs, zs_c]; rfl
theorem okNd_3 {a n : F} (ha : rnB minA one64 a = true) (hn : rnB minIo four64 n = true) (p : Int) : okNd ⟨3, ndM z64 z64 z64 z64 z64 z64 z64 z64 z64 z64 z64 z64 z64 a n z64, 0, 0⟩ p = true := by
  show (rnB minA one64 a && (rnB minIo four64 n && (zsB (fun _ => z64) [0, 1, 2, 3, 4, 5, 6, 7, 8, 9, 10, 11, 12, 15] && (decide ((0 : Int) = 0) && decide ((0 : Int) = 0))))) = true
  rw [ha, hn, zs_c]; rfl
theorem okNd_4 {a e0 e1 e2 k0 k1 k2 : F} (ha : rnB minA one64 a = true) (h0 : rnB minMt maxMt e0 = true) (h1 : rnB minMt maxMt e1 = true) (h2 : rnB minMt maxMt e2 = true) (h3 : rnB minMt maxMt k0 = true) (h4 : rnB minMt maxMt k1 = true) (h5 : rnB minMt maxMt k2 = true) (p : Int) : okNd ⟨4, ndM z64 z64 z64 z64 z64 z64 e0 e1 e2 k0 k1 k2 z64 a z64 z64, 0, 0⟩ p = true := by
  show (rnB minA one64 a && ((rnB minMt maxMt e0 && (rnB minMt maxMt e1 && (rnB minMt maxMt e2 && (rnB minMt maxMt k0 && (rnB minMt maxMt k1 && (rnB minMt maxMt k2 && true)))))) && (zsB (fun _ => z64) [0, 1, 2, 3, 4, 5, 12, 14, 15] && (decide ((0 : Int) = 0) && decide ((0 : Int) = 0))))) = true
  rw [ha, h0, h1, h2, h3, h4, h5, zs_c]; rfl
def leNd (u : U8) : Nd := ⟨leK u, ndM (leF bwF u 0) (leF bwF u 1) (leF bwF u 2) (leF bwF u 3) (leF bwF u 4) (leF bwF u 5) (leF bwF u 6) (leF bwF u 7) (leF bwF u 8) (leF bwF u 9) (leF bwF u 10) (leF bwF u 11) (leF bwF u 12) (leF bwF u 13) (leF bwF u 14) (leF bwF u 15), 0, 0⟩
theorem okNd_le (u : U8) (p : Int) : okNd (leNd u) p = true := by
  obtain ⟨e1, e2, e3, e4⟩ := rk_le
  unfold leNd leK leF
  cases decide (u.a0.tmod 4 = 0)
  · cases decide (u.a0.tmod 4 = 1)
    · cases decide (u.a0.tmod 4 = 2)
      · exact okNd_4 (bw_rn e2) (bw_rn e4) (bw_rn e4) (bw_rn e4) (bw_rn e4) (bw_rn e4) (bw_rn e4) p
      · exact okNd_3 (bw_rn e2) (bw_rn e3) p
    · exact okNd_2 (bw_rn e1) (bw_rn e1) (bw_rn e1) (bw_rn e1) p
  · exact okNd_1 (bw_rn e1) (bw_rn e1) (bw_rn e1) p
theorem okNd_5 {w : F} {a b p : Int} (hw : rnB z64 one64 w = true) (a0 : 0 ≤ a) (a1 : a < p) (b0 : 0 ≤ b) (b1 : b < p) : okNd ⟨5, ndM z64 z64 z64 z64 z64 z64 z64 z64 z64 z64 z64 z64 z64 z64 z64 w, a, b⟩ p = true := by
  show (rnB z64 one64 w && (zsB (fun _ => z64) [0, 1, 2, 3, 4, 5, 6, 7, 8, 9, 10, 11, 12, 13, 14] && (decide (0 ≤ a) && (decide (a < p) && (decide (0 ≤ b) && decide (b < p)))))) = true
  rw [hw, zs_c, decide_eq_true a0, decide_eq_true a1, decide_eq_true b0, decide_eq_true b1]; rfl
theorem okNd_6 {n t0 t1 t2 : F} {a p : Int} (hn : rnB minIo four64 n = true) (h0 : rnB z64 one64 t0 = true) (h1 : rnB z64 one64 t1 = true) (h2 : rnB z64 one64 t2 = true) (a0 : 0 ≤ a) (a1 : a < p) : okNd ⟨6, ndM z64 z64 z64 t0 t1 t2 z64 z64 z64 z64 z64 z64 z64 z64 n z64, a, 0⟩ p = true := by
  show (decide ((6 : Int) = 6) && (rnB minIo four64 n && ((rnB z64 one64 t0 && (rnB z64 one64 t1 && (rnB z64 one64 t2 && true))) && (zsB (fun _ => z64) [0, 1, 2, 6, 7, 8, 9, 10, 11, 12, 13, 15] && (decide (0 ≤ a) && (decide (a < p) && decide ((0 : Int) = 0))))))) = true
  rw [hn, h0, h1, h2, zs_c, decide_eq_true a0, decide_eq_true a1]; rfl
theorem okPg_mk {cs : List SV} {len : Nat} (h1 : (plains cs).isSome = true) (h2 : 1 ≤ len) (h3 : len ≤ 4096) (h4 : ∀ i, i < len → okAt cs i = true) : okPg cs len = true := by
  unfold okPg
  rw [h1, decide_eq_true h2, decide_eq_true h3, List.all_eq_true.2 fun i hi => h4 i (List.mem_range.1 hi)]; rfl
theorem okAt_mk {cs : List SV} {i : Nat} (h1 : ckAll cs (i * 19) ndCK = true) (h2 : okNd (ndR cs (i * 19)) i = true) : okAt cs i = true := by
  unfold okAt; rw [h1, h2]; rfl
end Bu
namespace Go.Proofs.YtgjohjgmlleebaaGreat
set_option linter.all false
open Go.RowKit Bu Rx
/-- are two intervals the same? -/
def eqIv (a b : I) : Bool := decide (a.lo.k = b.lo.k) && (decide (a.hi.k = b.hi.k) && true)
def dirU (N : Npr) (x y z : Int) : Obs := [(N.p d64 one64, true), (N.w z, true), (N.p mone64 one64, true), (N.w y, true), (N.p mone64 one64, true), (N.w x, true)]
end Go.Proofs.YtgjohjgmlleebaaGreat
namespace Go.Proofs.YtgjohjgmlleebaaGreat
set_option linter.all false
open Go.RowKit Bu Rx
/-- one or the other -/
def eiO (f g : OF) : OF := fun a M ds => match f a M ds with
  | some r => some r
  | none => g a M ds
theorem eiO_ok {P : Program} {g : FuncId} {f h : OF} (hf : OfOk P g f) (hh : OfOk P g h) : OfOk P g (eiO f h) := by
  intro args M ds x M' ds' ob hk ho
  unfold eiO at hk
  split at hk
  · rename_i r hr
    cases hk
    exact hf args M ds x M' ds' ob hr ho
  · exact hh args M ds x M' ds' ob hk ho
def kNilR : List SV → Dec → Option (SV × Dec × Obs)
  | [.o (.slice none 0 0)], ds => some (.b false, ds, [])
  | _, _ => none
theorem rgtNil : valR ((run Tryz.prog EG (lookO []) 60).1 31 [.o (.slice none 0 0)] [] (some [])) = some (.b false, some [], []) := by kernel_rfl
theorem nilRG : PlainOk Tryz.prog 31 kNilR := by
  intro args ds x ds' ob h ho
  unfold kNilR at h
  split at h
  · simp only [Option.some.injEq, Prod.mk.injEq] at h
    obtain ⟨rfl, _, rfl⟩ := h
    exact ⟨[.slice none 0 0], _, rfl, rfl, fun w => calls_of_val goodG (OracleOk.nil _) 60 rgtNil ob_n rfl rfl w⟩
  · cases h
end Go.Proofs.YtgjohjgmlleebaaGreat
namespace Bu
set_option linter.all false
open Rx Go
theorem okAt_n {cs : List SV} {i : Nat} {n : Nd} (h1 : ckAll cs (i * 19) ndCK = true) (hn : ndR cs (i * 19) = n) (h2 : okNd n i = true) : okAt cs i = true := okAt_mk h1 (by rw [hn]; exact h2)
end Bu
namespace Go.Proofs.YtgjohjgmlleebaaGreat
set_option linter.all false
open Go.RowKit Bu Rx
/-- directions of numbers -/
theorem bw_up (n : Int) : decide ((bwF d64 one64 n).k ≤ z64.k) = false := by
  refine decide_eq_false fun h => ?_
  have h1 := (bwN2 (n := n)).1
  have h2 := q_le.2 h
  have h3 : z64.q = 0 := zero0_q
  rw [h3] at h2
  grind
theorem dirU_ok {x y z : Int} (hx : wN32 x = true) (hy : wN32 y = true) (hz : wN32 z = true) : ObsOk (dirU NprR x y z) := by
  obtain ⟨_, _, _, _, p1, p2⟩ := rk_p
  exact ob_c p2 (ob_c hz (ob_c p1 (ob_c hy (ob_c p1 (ob_c hx ob_n)))))
theorem fr_rn {n : Int} (h : wN32 n = true) : rnB z64 one64 (frT n) = true := by
  obtain ⟨t, e1, t0, t1, _⟩ := frT_ok h
  have eT : frT n = t := by
    unfold frT
    rw [e1]
    exact toF_F t
  rw [eT]
  have zk : z64.k = 0 := z64_0
  unfold rnB
  rw [decide_eq_true (show z64.k ≤ t.k by omega), decide_eq_true t1]; rfl
theorem u32_w {n : Int} (h : (Lit.int .u32 n).wf = true) : wN32 n = true := by
  have : 0 ≤ n ∧ n ≤ 4294967295 := by simpa [Lit.wf, IntKind.min, IntKind.max, IntKind.signed, IntKind.bits] using h
  exact decide_eq_true this
end Go.Proofs.YtgjohjgmlleebaaGreat
namespace Go.Proofs.YtgjohjgmlleebaaGreat
set_option linter.all false
open Go.ChangeShapes Go.WideShapes Go.ChangeAt Go.RowKit Go.Deep Go.WideElems
section
variable {H : Type} {enc : TypeId × Value → H} {P : Program}
theorem all_stays (hl : laidOutB P = true) {W W' : World} (hb : Below W.heap.size W W') {sp : Nat → Bool} : ∀ {ts : List TypeId} {vs : List Value} {ds : List (DataW H)} {ps : List MemPlace},
    (∀ t ∈ ts, P.readableRec t = true ∧ t < P.types.size) → DataW.TrodAll enc P W 0 (fun _ => true) true ts vs ds ps → (∀ p ∈ ps, sp p.block = true) → DataW.TrodAll enc P W' 0 sp true ts vs ds ps
  | [], _, _, _, _, h, _ => by
    obtain ⟨rfl, rfl, rfl⟩ := trodAll_nil h
    exact trodAll_mk0
  | t :: ts, _, _, _, ht, h, hs => by
    have hlt := h.lt
    obtain ⟨v, vs1, d, ds1, a, b, rfl, rfl, rfl, ⟨n, h1⟩, h2⟩ := trodAll_cons h
    have hr := ht t (List.mem_cons_self ..)
    exact ⟨a, b, ⟨n, DataW.trod_stays (kids_book hl hr.1) (book_sized hr.1) (fun h => by cases h) ⟨hr.2, book_self t⟩ h1 (fun x hx => hb.same (hlt x (List.mem_append_left _ hx))) (fun x hx => hs x (List.mem_append_left _ hx))⟩,
      all_stays hl hb (fun t h => ht t (List.mem_cons_of_mem _ h)) h2 (fun p hp => hs p (List.mem_append_right _ hp)), rfl⟩
theorem post_kept {f : Func} {s : ChangeSpec} {apart fresh handsOn again : Bool} {W W' : World} {args : Array Value} {v : Value} {ds gs : List (DataW H)} {before : List MemPlace}
    (hl : laidOutB P = true) (hts : ∀ t ∈ f.params.toList, P.readableRec t = true ∧ t < P.types.size) (hvs : s.vars = [])
    (hW : DataW.Whole enc P f.params.toList s.vars apart W args.toList ds gs before)
    (hres : ∀ (b : Nat) (sp : Nat → Bool) (hd : Bool), DataW.TrodAll enc P W' b sp hd f.resultTypes.toList (v.resultList f.resultTypes.size) (s.fn H (ds ++ gs)).results [])
    (hda : (s.fn H (ds ++ gs)).args = ds) (hdv : (s.fn H (ds ++ gs)).vars = [])
    (hb : Below W.heap.size W W')
    (hok : ∀ (j : Nat) (t : TypeId) (r : Value), f.resultTypes[j]? = some t → (v.resultList f.resultTypes.size)[j]? = some r → Value.okWide P W' .any 0 t r) :
    s.post enc P f apart fresh handsOn again W args v W' := by
  have hW' := hW
  obtain ⟨p, q, hA, hV, rfl, hfz, hnd⟩ := hW
  rw [hvs] at hV
  obtain ⟨rfl, rfl⟩ := trodVars_none hV
  have hlt : ∀ x ∈ p, x.block < W.heap.size := hA.lt
  have stay : ∀ sp : Nat → Bool, (∀ x ∈ p, sp x.block = true) → DataW.TrodAll enc P W' 0 sp true f.params.toList args.toList ds p := fun sp h => all_stays hl hb hts hA h
  have none_ : ∀ sp : Nat → Bool, DataW.TrodVars enc P W' sp s.vars [] [] := fun sp => by rw [hvs]; rfl
  refine ⟨ds, [], p ++ [], [], p, [], hW', hres _ _ _, ?_, ?_, World.keptBut_mono (fun x hx => ⟨hx, ?_⟩) (hb.frame (· ∈ p ++ [])), fun _ => ?_⟩
  · rw [hda]; exact stay _ (fun x hx => by simpa using hlt x hx)
  · rw [hdv]; exact none_ _
  · rw [List.append_nil] at hx
    exact .inr (.inl hx)
  · refine ⟨hok, _, _, ([] ++ p) ++ [], ⟨[] ++ p, [], trodAll_append (stay _ (fun _ _ => rfl)) (hres _ _ _), none_ _, rfl, ?_, ?_⟩, ?_⟩
    · intro b off hp
      have hp' : MemPlace.cell b off ∈ p ++ [] := by simpa using hp
      rw [hb.frozen (hlt _ (by simpa using hp))]
      exact hfz b off hp'
    · intro ha
      have := hnd ha
      simpa using this
    · intro x hx _
      simpa using hx
/-- a slice of arrays of whole numbers -/
theorem open_rows {t a e : TypeId} {n : Nat} {k : IntKind} (ht : P.underlying t = some (.slice a)) (hT : ArrT P a e n k) {W : World} {base : Nat} {v : Value} {d : DataW H} {ps : List MemPlace} (hval : Value.okWide P W .any base t v) (hd : DataW.Trod enc P W 0 (fun _ => true) true t v d ps) :
    v = .slice none 0 0 ∨ ∃ (r off len cap : Nat) (cv : Array Value) (el : TypeId) (z : Nat × Nat), v = .slice (some ⟨r, off, none⟩) len cap ∧ len ≤ cap ∧ W.heap[r]? = some (.cells cv el z) ∧ ∀ i, i < len → ∀ j, j < n → ∃ x : Int, cv[off + (i * n + j)]? = some (.int k x) ∧ (Lit.int k x).wf = true := by
  obtain ⟨fuel, hf⟩ := hd
  simp only [Value.okWide, ht] at hval
  rcases open_slice ht hf with ⟨hc, _⟩ | ⟨ad, len, cap, m, n', D, Pl, hc, hb, hlc, hm, hmm, hx, hel⟩
  · left
    cases v <;> simp_all [Cell.okWide, Cell.ok, Value.cells]
  · right
    have hv : v = .slice (some ad) len cap := by
      cases v <;> simp_all [Cell.okWide, Cell.ok, Value.cells]
    subst hv
    have hh : W.has P .any base ad a cap := by
      have : Cell.ok P W .any base t (.slice (some ad) len cap) := by simpa [Cell.okWide, ht] using hval
      simp only [Cell.ok, ht] at this
      exact this.2.2
    obtain ⟨_, hspot, row, cells, hshape, _⟩ := hh
    obtain ⟨r, off, spot⟩ := ad
    simp only at hspot
    subst hspot
    unfold World.shape? at hshape
    split at hshape
    · rename_i cv el z hheap
      refine ⟨r, off, len, cap, cv, el, z, rfl, hlc, hheap, fun i hi j hj => ?_⟩
      have hm' : m = cap := by simpa using hmm
      obtain ⟨cs', h1, h2⟩ := hel i (by omega)
      rw [hT.ct] at h1
      obtain ⟨_, hlen, hcell⟩ := World.cells?_some h1
      obtain ⟨xs, m2, _, hx2, hl2, hn2, he2⟩ := DataW.trod_array hT.ar h2
      have h3 := he2 j hj
      rw [hT.ce, Nat.mul_one] at h3
      obtain ⟨x, hx3⟩ : ∃ x, xs[j]? = some x := ⟨xs[j], List.getElem?_eq_getElem (by omega)⟩
      rw [hx3] at h3
      obtain ⟨y, c1, c2, c3⟩ := DataW.trod_int hT.el h3
      refine ⟨y, ?_, c3⟩
      have h4 := hcell j hj
      have h5 : cs'[j]? = some (.int k y) := by
        have := congrArg (·[0]?) c1
        simpa using this
      rw [h5, add_add] at h4
      have h6 : (⟨r, off, none⟩ : Addr).add (i * n + j) = ⟨r, off + (i * n + j), none⟩ := Rx.Addr_add _ _ _
      rw [h6] at h4
      simpa [World.cell?, hheap] using h4
    · cases hshape
end
end Go.Proofs.YtgjohjgmlleebaaGreat
namespace Go.Proofs.YtgjohjgmlleebaaGreat
set_option linter.all false
open Go.RowKit Bu Rx
theorem ofVs_get : ∀ (l : List Value) (j : Nat), (ofVs l)[j]? = (l[j]?).map ofV
  | [], j => by simp [ofVs]
  | v :: l, 0 => by simp [ofVs]
  | v :: l, j + 1 => by simp only [ofVs, List.getElem?_cons_succ]; exact ofVs_get l j
/-- rows of eight numbers -/
theorem u8_cells {cs : List SV} {o : Nat} (h : ∀ t, t < 8 → ∃ x : Int, cs[o + t]? = some (.i .u32 x) ∧ wN32 x = true) : ckAll cs o u8CK = true ∧ (u8At cs o).ok = true := by
  obtain ⟨x0, e0, w0⟩ := h 0 (by omega)
  obtain ⟨x1, e1, w1⟩ := h 1 (by omega)
  obtain ⟨x2, e2, w2⟩ := h 2 (by omega)
  obtain ⟨x3, e3, w3⟩ := h 3 (by omega)
  obtain ⟨x4, e4, w4⟩ := h 4 (by omega)
  obtain ⟨x5, e5, w5⟩ := h 5 (by omega)
  obtain ⟨x6, e6, w6⟩ := h 6 (by omega)
  obtain ⟨x7, e7, w7⟩ := h 7 (by omega)
  rw [Nat.add_zero] at e0
  constructor
  · unfold u8CK
    simp only [ckAll, ckOk, Nat.add_assoc, Nat.reduceAdd, e0, e1, e2, e3, e4, e5, e6, e7, decide_true, Bool.and_self]
  · unfold u8At U8.ok
    simp only [inAt, e0, e1, e2, e3, e4, e5, e6, e7, w0, w1, w2, w3, w4, w5, w6, w7, Bool.and_self]
theorem rows_mem {W : World} {r off len cap : Nat} {cv : Array Value} {el : TypeId} {z : Nat × Nat} (hh : W.heap[r]? = some (.cells cv el z)) (hc : ∀ i, i < len → ∀ j, j < 8 → ∃ x : Int, cv[off + (i * 8 + j)]? = some (.int .u32 x) ∧ (Lit.int .u32 x).wf = true) :
    ∃ (m : Nms) (cells : List SV), MemAt m W [⟨el, cells, .ro z⟩] ∧ m 0 = some r ∧ prInB NprR ((cells.drop off).take (len * 8)) len = true := by
  have hr : r < W.heap.size := (Array.getElem?_eq_some_iff.1 hh).1
  refine ⟨⟨fun n => if n = 0 then some r else none, fun _ => 0⟩, ofVs cv.toList, ⟨⟨fun n q hq => ?_⟩, fun n n' q _ _ h1 h2 => ?_, fun n b hb => ?_, fun n q hq => ?_⟩, rfl, ?_⟩
  · have hq' : (if n = 0 then some r else none) = some q := hq
    split at hq'
    · cases hq'; exact hr
    · cases hq'
  · have h1' : (if n = 0 then some r else none) = some q := h1
    have h2' : (if n' = 0 then some r else none) = some q := h2
    by_cases e1 : n = 0
    · by_cases e2 : n' = 0
      · rw [e1, e2]
      · rw [if_neg e2] at h2'; cases h2'
    · rw [if_neg e1] at h1'; cases h1'
  · have hn : n = 0 := by
      rcases Nat.lt_or_ge n 1 with h' | h'
      · omega
      · rw [List.getElem?_eq_none (by simpa using h')] at hb; cases hb
    subst hn
    simp only [List.getElem?_cons_zero, Option.some.injEq] at hb
    subst hb
    exact ⟨r, rfl, BlkAt.mk_ro (ofVs_ids _) (dens_ofVs _) (by simpa using hh)⟩
  · have hq' : (if n = 0 then some r else none) = some q := hq
    split at hq'
    · rename_i h0; subst h0; exact Nat.lt_add_one 0
    · cases hq'
  · refine List.all_eq_true.2 fun j hj => ?_
    have hj' := List.mem_range.1 hj
    have h := u8_cells (cs := ((ofVs cv.toList).drop off).take (len * 8)) (o := j * 8) fun t ht => by
      obtain ⟨x, h1, h2⟩ := hc j (by omega) t ht
      refine ⟨x, ?_, u32_w h2⟩
      rw [List.getElem?_take, if_pos (by omega), List.getElem?_drop, ofVs_get]
      have h3 : cv.toList[off + (j * 8 + t)]? = some (.int .u32 x) := by simpa using h1
      rw [h3]; rfl
    rw [Bool.and_eq_true]
    refine ⟨h.1, ?_⟩
    have h2 := h.2
    unfold prgB
    generalize u8At (((ofVs cv.toList).drop off).take (len * 8)) (j * 8) = u at h2
    have h3 := h2
    unfold U8.ok at h2
    simp only [Bool.and_eq_true] at h2
    obtain ⟨w0, w1, w2, w3, w4, w5, w6, w7⟩ := h2
    show (u.ok && (wN32 u.a3 && (wN32 u.a4 && (wN32 u.a5 && wN32 u.a6)))) = true
    rw [h3, w3, w4, w5, w6]; rfl
end Go.Proofs.YtgjohjgmlleebaaGreat
namespace Bu
set_option linter.all false
open Rx Go
theorem CellsAt.left {a b cs : List SV} {off : Nat} (h : CellsAt a off cs) : CellsAt (a ++ b) off cs := fun j x hx => by
  have := h j x hx
  rw [List.getElem?_append_left (List.getElem?_eq_some_iff.1 this).1]; exact this
theorem CellsAt.right (a b : List SV) : CellsAt (a ++ b) a.length b := fun j x hx => by
  rw [List.getElem?_append_right (by omega), show a.length + j - a.length = j by omega]; exact hx
theorem nd_of {cells cs : List SV} {off : Nat} (h : CellsAt cells off cs) (hk : ckAll cs 0 ndCK = true) : ckAll cells off ndCK = true ∧ ndR cells off = ndR cs 0 := by
  obtain ⟨a, b⟩ := at_row h hk
  rw [Nat.add_zero] at a b
  refine ⟨b, ?_⟩
  have e := nd_row cells off
  rw [a, nd_row cs 0] at e
  exact (Option.some.inj e).symm
end Bu
namespace Go.Proofs.YtgjohjgmlleebaaGreat
set_option linter.all false
open Go.RowKit Bu Rx
def rowP (N : Npr) (U : Nat → U8) : Nat → List SV
  | 0 => nzC (N.k (U 0)) (N.f (U 0))
  | j + 1 => rowN N (U (j + 1)) (j + 1)
theorem prgC_row (N : Npr) (U : Nat → U8) : ∀ {k j : Nat}, j ≤ k → CellsAt (prgC N U k) (j * 19) (rowP N U j)
  | 0, j, h => by
    obtain rfl : j = 0 := by omega
    intro i x hx
    rw [Nat.zero_mul, Nat.zero_add]; exact hx
  | k + 1, j, h => by
    rcases Nat.lt_or_ge j (k + 1) with h1 | h1
    · exact CellsAt.left (prgC_row N U (k := k) (j := j) (by omega))
    · obtain rfl : j = k + 1 := by omega
      have := CellsAt.right (prgC N U k) (rowN N (U (k + 1)) (k + 1))
      rw [prgC_len] at this
      exact this
theorem rowP_ck (N : Npr) (U : Nat → U8) : ∀ j, ckAll (rowP N U j) 0 ndCK = true
  | 0 => rfl
  | j + 1 => by
    show ckAll (rowN N (U (j + 1)) (j + 1)) 0 ndCK = true
    unfold rowN
    cases decide (prT (U (j + 1)) = 0)
    · cases decide (prT (U (j + 1)) = 1) || decide (prT (U (j + 1)) = 2) <;> rfl
    · rfl
theorem rowP_pl (N : Npr) (U : Nat → U8) : ∀ j, ∃ vs, plains (rowP N U j) = some vs
  | 0 => ⟨_, rfl⟩
  | j + 1 => by
    show ∃ vs, plains (rowN N (U (j + 1)) (j + 1)) = some vs
    unfold rowN
    cases decide (prT (U (j + 1)) = 0)
    · cases decide (prT (U (j + 1)) = 1) || decide (prT (U (j + 1)) = 2) <;> exact ⟨_, rfl⟩
    · exact ⟨_, rfl⟩
theorem prgC_pl (N : Npr) (U : Nat → U8) : ∀ k, ∃ vs, plains (prgC N U k) = some vs
  | 0 => rowP_pl N U 0
  | k + 1 => by
    obtain ⟨a, ha⟩ := prgC_pl N U k
    obtain ⟨b, hb⟩ := rowP_pl N U (k + 1)
    exact ⟨a ++ b, plains_app ha hb⟩
theorem tmod_in {a : Int} {n : Nat} (ha : 0 ≤ a) (h1 : 1 ≤ n) (h8 : n ≤ 8) : 0 ≤ IntKind.i64.wrap (a.tmod (IntKind.u32.wrap (n : Int))) ∧ IntKind.i64.wrap (a.tmod (IntKind.u32.wrap (n : Int))) < n := by
  rw [u32_small h8, Int.tmod_eq_emod_of_nonneg ha, IntKind.wrap_i64]
  have h2 := Int.emod_nonneg a (show (n : Int) ≠ 0 by omega)
  have h3 := Int.emod_lt_of_pos a (show 0 < (n : Int) by omega)
  omega
theorem w32_nn {n : Int} (h : wN32 n = true) : 0 ≤ n := (of_decide_eq_true h).1
theorem nd_co (n t0 t1 t2 : F) (a : Int) : ndR (coC n t0 t1 t2 a) 0 = ⟨6, ndM z64 z64 z64 t0 t1 t2 z64 z64 z64 z64 z64 z64 z64 z64 n z64, a, 0⟩ := by kernel_rfl
theorem nd_mx (w : F) (a b : Int) : ndR (mxC w a b) 0 = ⟨5, ndM z64 z64 z64 z64 z64 z64 z64 z64 z64 z64 z64 z64 z64 z64 z64 w, a, b⟩ := by kernel_rfl
theorem nd_lf (u : U8) : ndR (nzC (leK u) (leF bwF u)) 0 = leNd u := by kernel_rfl
theorem okNd_row {u : U8} {n : Nat} (hu : prgB NprR u = true) (h1 : 1 ≤ n) (h8 : n ≤ 8) : okNd (ndR (rowN NprR u n) 0) n = true := by
  unfold prgB at hu
  simp only [Bool.and_eq_true] at hu
  obtain ⟨o, w3, w4, w5, w6⟩ := hu
  have ok : u.ok = true := o
  unfold U8.ok at ok
  simp only [Bool.and_eq_true] at ok
  obtain ⟨_, a1, a2, _⟩ := ok
  have m1 := tmod_in (w32_nn a1) h1 h8
  have m2 := tmod_in (w32_nn a2) h1 h8
  unfold rowN
  cases decide (prT u = 0)
  · cases decide (prT u = 1) || decide (prT u = 2)
    · show okNd (ndR (coC (bwF minIo four64 u.a3) (frT u.a4) (frT u.a5) (frT u.a6) (prA u n)) 0) n = true
      rw [nd_co]
      exact okNd_6 (bw_rn rk_le.2.2.1) (fr_rn w4) (fr_rn w5) (fr_rn w6) m1.1 m1.2
    · show okNd (ndR (mxC (frT u.a3) (prA u n) (prB u n)) 0) n = true
      rw [nd_mx]
      exact okNd_5 (fr_rn w3) m1.1 m1.2 m2.1 m2.2
  · show okNd (ndR (nzC (leK u) (leF bwF u)) 0) n = true
    rw [nd_lf]
    exact okNd_le u n
theorem okPg_prg {U : Nat → U8} {k : Nat} (hk : k ≤ 8) (hU : ∀ j, j ≤ k → prgB NprR (U j) = true) : okPg (prgC NprR U k) (k + 1) = true := by
  obtain ⟨vs, hv⟩ := prgC_pl NprR U k
  refine okPg_mk (by rw [hv]; rfl) (by omega) (by omega) fun i hi => ?_
  obtain ⟨c1, c2⟩ := nd_of (prgC_row NprR U (k := k) (j := i) (by omega)) (rowP_ck NprR U i)
  refine okAt_n c1 c2 ?_
  cases i with
  | zero =>
    show okNd (ndR (nzC (leK (U 0)) (leF bwF (U 0))) 0) _ = true
    rw [nd_lf]
    exact okNd_le _ _
  | succ i => exact okNd_row (hU (i + 1) (by omega)) (by omega) (by omega)
theorem u8Z_B : prgB NprR u8Z = true := by decide +kernel
theorem prog_ok {cs : List SV} {len : Nat} (h : prInB NprR cs len = true) : okPg (prgC NprR (prU cs len) (prK len)) (prK len + 1) = true ∧ prK len ≤ 7 := by
  have K := prInB_ok h
  have h7 : prK len ≤ 7 := by
    rcases Nat.eq_zero_or_pos len with h0 | h0
    · subst h0; rw [prK_0]; omega
    · have := (prK_s h0).1; omega
  refine ⟨okPg_prg (by omega) fun j hj => ?_, h7⟩
  unfold prU
  cases len with
  | zero => exact u8Z_B
  | succ n =>
    have := (prK_s (len := n + 1) (by omega)).1
    exact K.ok j (by omega) (by omega)
end Go.Proofs.YtgjohjgmlleebaaGreat
namespace Bu
set_option linter.all false
open Rx Go
/-- what is sent, what is sent back, of each channel -/
structure Lt where
  f0 : I
  f1 : I
  f2 : I
  r0 : I
  r1 : I
  r2 : I
def Lt.cells (t : Lt) : List SV := [.fl t.f0.lo, .fl t.f0.hi, .fl t.f1.lo, .fl t.f1.hi, .fl t.f2.lo, .fl t.f2.hi, .fl t.r0.lo, .fl t.r0.hi, .fl t.r1.lo, .fl t.r1.hi, .fl t.r2.lo, .fl t.r2.hi]
def Lt.sv (t : Lt) : SV := .agg t.cells
def Lt.zero : Lt := ⟨I.zero, I.zero, I.zero, I.zero, I.zero, I.zero⟩
end Bu
namespace Go.Proofs.YtgjohjgmlleebaaGreat
set_option linter.all false
open Go.RowKit Bu Rx
/-- pairs.Value of a node of a program -/
def kVn (g : Lf → I × Int) (o : Lf → Obs) : List SV → Dec → Option (SV × Dec × Obs)
  | [x, ch, .agg [.fl p0, .fl p1, .fl p2, .fl p3, .fl p4, .fl p5], .agg [.fl r0, .fl r1, .fl r2, .fl r3, .fl r4, .fl r5]], ds => match ndOf x, intS ch with
    | some n, some (.i64, c) => some (.tup [.agg [.fl (g ⟨n.k, etaF n.f, c, ⟨⟨p0, p1⟩, ⟨p2, p3⟩, ⟨p4, p5⟩⟩, ⟨⟨r0, r1⟩, ⟨r2, r3⟩, ⟨r4, r5⟩⟩⟩).1.lo, .fl (g ⟨n.k, etaF n.f, c, ⟨⟨p0, p1⟩, ⟨p2, p3⟩, ⟨p4, p5⟩⟩, ⟨⟨r0, r1⟩, ⟨r2, r3⟩, ⟨r4, r5⟩⟩⟩).1.hi], .si .i64 (g ⟨n.k, etaF n.f, c, ⟨⟨p0, p1⟩, ⟨p2, p3⟩, ⟨p4, p5⟩⟩, ⟨⟨r0, r1⟩, ⟨r2, r3⟩, ⟨r4, r5⟩⟩⟩).2], ds, (decide (n.a = 0), true) :: (decide (n.b = 0), true) :: o ⟨n.k, etaF n.f, c, ⟨⟨p0, p1⟩, ⟨p2, p3⟩, ⟨p4, p5⟩⟩, ⟨⟨r0, r1⟩, ⟨r2, r3⟩, ⟨r4, r5⟩⟩⟩)
    | _, _ => none
  | _, _ => none
def OE (o : List SV → Nat → Bool) (N : Nde) : OracleF := lookO (OCL N.K ++ [(31, kRd 19 (kRgt o)), (27, plainO (kI2 N.D N.dO)), (142, plainO (kVn N.g N.go))])
end Go.Proofs.YtgjohjgmlleebaaGreat
namespace Bu
set_option linter.all false
open Rx Go
/-- a coat over a light -/
def overC (K : Kk) (i o : I) (w : F) (a : Ch) : Ch × Int :=
  let q1 := K.num 0 one_
  let qw := K.num q1.2 w
  let s := K.sub qw.2 q1.1 o
  let h := K.sub s.2 q1.1 i
  let x := K.mul h.2 h.1 s.1
  let y := K.mul x.2 x.1 qw.1
  let f := K.mul y.2 y.1 a.p
  let q := K.sqr f.2 s.1
  let t := K.mul q.2 q.1 qw.1
  let z := K.mul t.2 t.1 a.m
  let r := K.add z.2 o z.1
  (⟨f.1, r.1⟩, r.2)
end Bu
namespace Go.Proofs.YtgjohjgmlleebaaGreat
set_option linter.all false
open Go.RowKit Bu Rx
def lfE (v u : V3) (k : Nat) (n : Nd) : Lf := ⟨n.k, etaF n.f, (k : Int), v, u⟩
/-- a channel of a node, of those ahead of it -/
def evN (N : Nde) (v u : V3) (k : Nat) (l : Nat → Ch) (n : Nd) : Ch × Int :=
  bif decide (n.k = 5) then mixC N.K (n.f 15) (l n.a.toNat) (l n.b.toNat)
  else bif decide (n.k = 6) then overC N.K (N.D v.z ⟨n.f 14, n.f 14⟩).1 (N.D u.z ⟨n.f 14, n.f 14⟩).1 (n.f (3 + k)) (l n.a.toNat)
  else (⟨(N.g (lfE v u k n)).1, I.zero⟩, (N.g (lfE v u k n)).2)
def lfOb (N : Nde) (v u : V3) (n : Nd) (k : Nat) : Obs := (decide (n.a = 0), true) :: (decide (n.b = 0), true) :: N.go (lfE v u k n)
def nd0 (cells : List SV) (off : Nat) (i : Int) : Nd := ndR cells (off + i.toNat * 19)
section
variable (N : Nde) (o : List SV → Nat → Bool) (e : TypeId) (cells lc : List SV) (v u : V3) (off len cap n : Nat) (i : Int) (x : Nat → SV)
end
end Go.Proofs.YtgjohjgmlleebaaGreat
namespace Go.Proofs.YtgjohjgmlleebaaGreat
set_option linter.all false
open Go.RowKit Bu Rx
section
variable (N : Nde) (o : List SV → Nat → Bool) (e : TypeId) (cells lc : List SV) (v u : V3) (off len cap n : Nat) (i : Int) (x : Nat → SV)
end
end Go.Proofs.YtgjohjgmlleebaaGreat
namespace Bu
set_option linter.all false
open Rx Go
end Bu
namespace Go.Proofs.YtgjohjgmlleebaaGreat
set_option linter.all false
open Go.RowKit Bu Rx
def allE (N : Nde) (v u : V3) (cs : List SV) (k : Nat) : (Nat → Ch) → Nat → Ch × Int := fun l i => evN N v u k l (ndR cs (i * 19))
/-- no error, and what is asked of the parts of a node -/
def evNB (N : Nde) (v u : V3) (l : Nat → Nat → Ch) (n : Nd) : Bool :=
  (bif decide (n.k = 5) then true
  else bif decide (n.k = 6) then (Bu.obsB (N.dO v.z ⟨n.f 14, n.f 14⟩) && decide ((N.D v.z ⟨n.f 14, n.f 14⟩).2 = 0)) && (Bu.obsB (N.dO u.z ⟨n.f 14, n.f 14⟩) && decide ((N.D u.z ⟨n.f 14, n.f 14⟩).2 = 0))
  else Bu.obsB (lfOb N v u n 0) && (Bu.obsB (lfOb N v u n 1) && Bu.obsB (lfOb N v u n 2))) &&
  (decide ((evN N v u 0 (l 0) n).2 = 0) && (decide ((evN N v u 1 (l 1) n).2 = 0) && decide ((evN N v u 2 (l 2) n).2 = 0)))
def evB (N : Nde) (v u : V3) (cs : List SV) (len : Nat) : Bool :=
  (List.range len).all fun i => evNB N v u (fun k j => (chL (allE N v u cs k) i).getD j Ch.zero) (ndR cs (i * 19))
theorem beq_t {a b : Int} (h : a = b) : (a == b) = true := by rw [h]; exact beq_self_eq_true b
theorem beq_f {a b : Int} (h : a ≠ b) : (a == b) = false := by simpa using h
section
variable {N : Nde} {o : List SV → Nat → Bool} (hO : OracleOk Tryz.prog (OE o N)) {e : TypeId} {cells cs : List SV} {v u : V3} {off len cap i : Nat} {x : Nat → SV} {B : Bs} (hB1 : B.M.length = 1) (K : OkPg cs len) (hca : CellsAt cells off cs) (hB : evB N v u cs len = true) (hi : i < len)
include hO hB1 K hca hB hi
end
end Go.Proofs.YtgjohjgmlleebaaGreat
namespace Rx
set_option linter.all false
open Go Go.RowKit
theorem RunsB.keep {P : Program} {B : Bs} {d : Code} {t : St} {ex : Ex} {Φ : St → Prop} {ids : List Nat} {M' : List Blk} (hn : nodupB ids = true) (hM : selM t.M ids = some M') (hk : ∀ (n : Nat), n < B.M.length → ids[n]? = some n) (h : ∀ v, RunsB P B d (t.sel ids M' v) ex Φ) : RunsB P B d t ex Φ :=
  fun m _ w Q hs hg hq => h _ (m.sel ids) _ w Q (hs.sel hn hM) (hg.sel hn hM hk) hq
theorem rd_of_runsB {P : Program} {g : FuncId} {fn : Func} {c : Code} (hg : P.funcs[g]? = some fn) (hb : fn.body = some c) {cs l : List SV} {len : Nat} {vc vs : List Value} {x : SV} {v : Value} (hc : plains cs = some vc) (hl : plains l = some vs) (hx : plain x = some v) {d : Dec}
    (h : ∀ (e : TypeId) (cells : List SV) (off cap : Nat), CellsAt cells off cs → idsLts 0 cells = true → ∀ B : Bs, B.M = [⟨e, cells, .num⟩] →
      RunsB P B c ⟨(.ssl 0 off len cap :: l) ++ List.replicate (fn.ntmps - (l.length + 1)) (.tup []), [⟨e, cells, .num⟩], d, []⟩ .ret (fun t => resultS P fn t = some x ∧ ∃ rest, t.M = ⟨e, cells, .num⟩ :: rest))
    (w : World) (r off cap : Nat) (hw : RowAt w r off vc) : Calls P g (Value.slice (some ⟨r, off, none⟩) len cap :: vs).toArray w fun e w' => e = .returned v ∧ Below w.heap.size w w' := by
  obtain ⟨m, e, cells, hM, h0, hca, hid⟩ := rd_cells hc hw
  have hd : dens m (.ssl 0 off len cap :: l) = some (Value.slice (some ⟨r, off, none⟩) len cap :: vs) := dens_cons (by simp only [den, h0, Option.map_some]) (dens_plains hl)
  refine Calls.mono (RunsB.call hg hb (args := .ssl 0 off len cap :: l) (x := fun _ => x) hd hM (h e cells off cap hca hid ⟨m, [⟨e, cells, .num⟩], w, hM⟩ rfl) (fun t ht => ht.1)) fun ex w' ⟨t, m', u, ⟨_, rest, hr⟩, he, hv, hM', hgo⟩ => ?_
  rw [den_plain hx] at hv
  have := Option.some.inj hv
  subst this
  rw [hr] at hM' hgo
  exact ⟨he, Goes.read hM hgo hM'⟩
end Rx
namespace Bu
set_option linter.all false
open Rx Go
end Bu
namespace Go.Proofs.YtgjohjgmlleebaaGreat
set_option linter.all false
open Go.RowKit Bu Rx
section
variable {N : Nde} {o : List SV → Nat → Bool} (hO : OracleOk Tryz.prog (OE o N)) {e : TypeId} {cells cs : List SV} {v u : V3} {off len cap : Nat} {B : Bs} (hB1 : B.M.length = 1) (K : OkPg cs len) (hca : CellsAt cells off cs) (hB : evB N v u cs len = true)
include hO hB1 K hca hB
end
end Go.Proofs.YtgjohjgmlleebaaGreat
namespace Go.Proofs.YtgjohjgmlleebaaGreat
set_option linter.all false
open Go.RowKit Bu Rx
/-- names -/
structure Nee where
  o : List SV → Nat → Bool
  g : V3 → V3 → List SV → Nat → Nat → Ch
  b : V3 → V3 → List SV → Nat → Bool
section
variable (E : Nee) (un : F → F → F → V3) (ub : F → F → F → Bool) (e : TypeId) (cells : List SV) (off len cap : Nat) (x y z r s t : F)
end
end Go.Proofs.YtgjohjgmlleebaaGreat
namespace Go.Proofs.YtgjohjgmlleebaaGreat
set_option linter.all false
open Go.RowKit Bu Rx
end Go.Proofs.YtgjohjgmlleebaaGreat
namespace Go.Proofs.YtgjohjgmlleebaaGreat
set_option linter.all false
open Go.RowKit Bu Rx
end Go.Proofs.YtgjohjgmlleebaaGreat
namespace Go.Proofs.YtgjohjgmlleebaaGreat
set_option linter.all false
open Go.RowKit Bu Rx
structure Nlb where
  N : Npr
  g : List SV → Nat → List SV
  b : List SV → Nat → Bool
  E : Nee
  un : F → F → F → V3
  ub : F → F → F → Bool
  me : I → I → Bool
def prgB_O (g : List SV → Nat → List SV) (b : List SV → Nat → Bool) : OF := eiO (kPr g b) (kPz g)
section
variable (W : Nlb) (el : TypeId) (z : Nat × Nat) (cells : List SV) (off len cap : Nat) (u : U6) (i : Int)
end
end Go.Proofs.YtgjohjgmlleebaaGreat
namespace Go.Proofs.YtgjohjgmlleebaaGreat
set_option linter.all false
open Go.RowKit Bu Rx

def ODR (K : Kk) (N : Kq) : OracleF := lookO (OCL K ++ [(167, plainO (kSC N.ib N.si N.co)), (26, plainO (kOf N.uo N.u))])
def drA0 (v : V3) (al : I) (a b : Int) : List SV := [v.sv, ivS al, .si .u64 a, .si .u64 b]
def t13 : List Bool := [true, true, true, true, true, true, true, true, true, true, true, true, true]
/-- what comes ahead of the draw of the first number -/
def drOq (N : Kq) (v : V3) (al : I) (b : Int) : Obs := (N.ib (N.uo b), true) :: (N.u b, true) :: (dirO v ++ alO al)
theorem drRunA0 (K : Kk) (N : Kq) (v : V3) (al : I) (a b : Int) : valR ((run Tryz.prog EG (ODR K N) 80).1 117 (drA0 v al a b) [] (some (t13 ++ [true, true, false]))) =
    some (.tup [V3.zero.sv, .si .i64 (evalK K drTa (drEnv N v al a b) 0).2], some [], (decide ((evalK K drTa (drEnv N v al a b) 0).2 = 0), false) :: (neB (evalK K drTa (drEnv N v al a b) 0).2, true) :: (decide ((drQ K (drEnv N v al a b)).hi.k = z64.k), true) :: drOq N v al b) := by kernel_rfl
theorem drRunA1 (K : Kk) (N : Kq) (v : V3) (al : I) (a b : Int) : valR ((run Tryz.prog EG (ODR K N) 80).1 117 (drA0 v al a b) [] (some (t13 ++ [true, false, true]))) =
    some (.tup [V3.zero.sv, .si .i64 (evalK K drA (drEnv N v al a b) 0).2], some [], (neB (evalK K drA (drEnv N v al a b) 0).2, true) :: (N.u a, true) :: (neB (evalK K drTa (drEnv N v al a b) 0).2, false) :: (decide ((drQ K (drEnv N v al a b)).hi.k = z64.k), true) :: drOq N v al b) := by kernel_rfl
theorem drRunA2 (K : Kk) (N : Kq) (v : V3) (al : I) (a b : Int) : valR ((run Tryz.prog EG (ODR K N) 80).1 117 (drA0 v al a b) [] (some (t13 ++ [true, false, false]))) =
    some (.tup [(drV K drA (drEnv N v al a b)).sv, .i .i64 0], some [], (neB (evalK K drA (drEnv N v al a b) 0).2, false) :: (N.u a, true) :: (neB (evalK K drTa (drEnv N v al a b) 0).2, false) :: (decide ((drQ K (drEnv N v al a b)).hi.k = z64.k), true) :: drOq N v al b) := by kernel_rfl
theorem drRunB0 (K : Kk) (N : Kq) (v : V3) (al : I) (a b : Int) : valR ((run Tryz.prog EG (ODR K N) 80).1 117 (drA0 v al a b) [] (some (t13 ++ [false, true, true, false]))) =
    some (.tup [V3.zero.sv, .si .i64 (evalK K drTb (drEnv N v al a b) 0).2], some [], (decide ((evalK K drTb (drEnv N v al a b) 0).2 = 0), false) :: (neB (evalK K drTb (drEnv N v al a b) 0).2, true) :: (decide (z64.k < (drQ K (drEnv N v al a b)).lo.k), true) :: (decide ((drQ K (drEnv N v al a b)).hi.k = z64.k), false) :: drOq N v al b) := by kernel_rfl
theorem drRunB1 (K : Kk) (N : Kq) (v : V3) (al : I) (a b : Int) : valR ((run Tryz.prog EG (ODR K N) 80).1 117 (drA0 v al a b) [] (some (t13 ++ [false, true, false, true]))) =
    some (.tup [V3.zero.sv, .si .i64 (evalK K drB (drEnv N v al a b) 0).2], some [], (neB (evalK K drB (drEnv N v al a b) 0).2, true) :: (N.u a, true) :: (neB (evalK K drTb (drEnv N v al a b) 0).2, false) :: (decide (z64.k < (drQ K (drEnv N v al a b)).lo.k), true) :: (decide ((drQ K (drEnv N v al a b)).hi.k = z64.k), false) :: drOq N v al b) := by kernel_rfl
theorem drRunB2 (K : Kk) (N : Kq) (v : V3) (al : I) (a b : Int) : valR ((run Tryz.prog EG (ODR K N) 80).1 117 (drA0 v al a b) [] (some (t13 ++ [false, true, false, false]))) =
    some (.tup [(drV K drB (drEnv N v al a b)).sv, .i .i64 0], some [], (neB (evalK K drB (drEnv N v al a b) 0).2, false) :: (N.u a, true) :: (neB (evalK K drTb (drEnv N v al a b) 0).2, false) :: (decide (z64.k < (drQ K (drEnv N v al a b)).lo.k), true) :: (decide ((drQ K (drEnv N v al a b)).hi.k = z64.k), false) :: drOq N v al b) := by kernel_rfl
theorem drRunN0 (K : Kk) (N : Kq) (v : V3) (al : I) (a b : Int) : valR ((run Tryz.prog EG (ODR K N) 80).1 117 (drA0 v al a b) [] (some (t13 ++ [false, false, true, false]))) =
    some (.tup [V3.zero.sv, .si .i64 (evalK K drP1 (drEnv N v al a b) 0).2], some [], (decide ((evalK K drP1 (drEnv N v al a b) 0).2 = 0), false) :: (neB (evalK K drP1 (drEnv N v al a b) 0).2, true) :: (decide (z64.k < (drQ K (drEnv N v al a b)).lo.k), false) :: (decide ((drQ K (drEnv N v al a b)).hi.k = z64.k), false) :: drOq N v al b) := by kernel_rfl
theorem drRunN1 (K : Kk) (N : Kq) (v : V3) (al : I) (a b : Int) : valR ((run Tryz.prog EG (ODR K N) 80).1 117 (drA0 v al a b) [] (some (t13 ++ [false, false, false, true]))) =
    some (.tup [V3.zero.sv, .i .i64 11], some [], (decide ((evalK K drP1 (drEnv N v al a b) 0).2 = 0), true) :: (neB (evalK K drP1 (drEnv N v al a b) 0).2, false) :: (decide (z64.k < (drQ K (drEnv N v al a b)).lo.k), false) :: (decide ((drQ K (drEnv N v al a b)).hi.k = z64.k), false) :: drOq N v al b) := by kernel_rfl
/-- alpha beyond 1 -/
theorem drRunW (K : Kk) (N : Kq) (v : V3) (al : I) (a b : Int) : valR ((run Tryz.prog EG (ODR K N) 80).1 117 (drA0 v al a b) [] (some [true, true, false, true, true, true])) =
    some (.tup [V3.zero.sv, .i .i64 2], some [], [(rt v.z, true), (rt v.y, true), (rt v.x, true), (decide (al.hi.k ≤ one64.k), false), (decide (minA.k ≤ al.lo.k), true), (rt al, true)]) := by kernel_rfl
end Go.Proofs.YtgjohjgmlleebaaGreat
namespace Go.Proofs.YtgjohjgmlleebaaGreat
set_option linter.all false
open Go.RowKit Bu Rx

theorem oracleDR : OracleOk Tryz.prog (ODR KkR (KqR atR)) := .cons addC (.cons subC (.cons mulC (.cons divC (.cons cmax_I (.cons sqrC (.cons csqrt_I (.cons negC (.cons numC (.cons irtK.of (.cons rightG.of (.cons absG.of (.cons vwG.of (.cons piG.of (.cons scK.of (.cons unitG.of (.nil _))))))))))))))))
theorem neB_d {e : Int} : decide (e = 0) = !neB e := by unfold neB; by_cases h : e = 0 <;> simp [h]
theorem obsK_c {c b : Bool} {ob : Obs} (h : c = b) (k : ObsOk ob) : ObsOk ((c, b) :: ob) := fun q hq => by
  rcases List.mem_cons.1 hq with rfl | hq
  · exact h
  · exact k q hq
theorem pvT (V : V3) (k : Int) : plain (.tup [V.sv, .i .i64 k]) = some (.tuple #[.agg #[.float .f64 V.x.lo.b, .float .f64 V.x.hi.b, .float .f64 V.y.lo.b, .float .f64 V.y.hi.b, .float .f64 V.z.lo.b, .float .f64 V.z.hi.b], .int .i64 k]) := rfl
def vdG (K : Kk) (N : Kq) (v : V3) (al : I) (a b : Int) : V3 × Int := drR K (drEnv N v al a b)
theorem drG_of (K : Kk) (N : Kq) (hO0 : OracleOk Tryz.prog (ODR K N)) : PlainOk Tryz.prog 117 (kVd (vdG K N) (drO N)) := by
  intro args ds x ds' ob h ho
  unfold kVd at h
  split at h
  · rename_i x1 x2 y1 y2 z1 z2 g1 g2 p1 p2
    split at h
    · rename_i n m hn hm
      simp only [Option.map_eq_some_iff, Prod.mk.injEq] at h
      obtain ⟨⟨r, e, o⟩, h1, rfl, rfl, rfl⟩ := h
      have hd : r = decide (g2.k ≤ one64.k) := takeB_ok h1 fun q hq => ho q (List.mem_append_right _ hq)
      have hO := fun q (hq : q ∈ (bif r then drO N ⟨⟨x1, x2⟩, ⟨y1, y2⟩, ⟨z1, z2⟩⟩ ⟨g1, g2⟩ n m else drOw ⟨⟨x1, x2⟩, ⟨y1, y2⟩, ⟨z1, z2⟩⟩ ⟨g1, g2⟩)) => ho q (List.mem_append_left _ hq)
      generalize hv : (⟨⟨x1, x2⟩, ⟨y1, y2⟩, ⟨z1, z2⟩⟩ : V3) = v at *
      generalize hal : (⟨g1, g2⟩ : I) = al at *
      have e1 : (.agg [.fl x1, .fl x2, .fl y1, .fl y2, .fl z1, .fl z2] : SV) = v.sv := by subst hv; rfl
      have e2 : (.agg [.fl g1, .fl g2] : SV) = ivS al := by subst hal; rfl
      rw [e1, e2]
      have pv : ∀ v : V3, plain v.sv = some (.agg #[.float .f64 v.x.lo.b, .float .f64 v.x.hi.b, .float .f64 v.y.lo.b, .float .f64 v.y.hi.b, .float .f64 v.z.lo.b, .float .f64 v.z.hi.b]) := fun _ => rfl
      have hargs : plains [v.sv, ivS al, p1, p2] = some [.agg #[.float .f64 v.x.lo.b, .float .f64 v.x.hi.b, .float .f64 v.y.lo.b, .float .f64 v.y.hi.b, .float .f64 v.z.lo.b, .float .f64 v.z.hi.b], .agg #[.float .f64 al.lo.b, .float .f64 al.hi.b], .int .u64 n, .int .u64 m] :=
        plains_cons (pv v) (plains_cons rfl (plains_cons (intS_plain hn) (plains_cons (intS_plain hm) plains_nil)))
      have hal2 : al.hi.k = g2.k := by subst hal; rfl
      cases r
      · refine ⟨_, _, hargs, rfl, fun w => ?_⟩
        refine calls_of_val goodG hO0 80 (drRunW K N v al n m) (fun q hq => ?_) rfl rfl w
        simp only [List.mem_cons, List.not_mem_nil, or_false] at hq
        rcases hq with rfl | rfl | rfl | rfl | rfl | rfl
        · exact hO (_, true) (by simp [drOw])
        · exact hO (_, true) (by simp [drOw])
        · exact hO (_, true) (by simp [drOw])
        · show decide (al.hi.k ≤ one64.k) = false
          rw [hal2]; exact hd.symm
        · exact hO (_, true) (by simp [drOw])
        · exact hO (_, true) (by simp [drOw])
      · have hu : N.u n = true := hO (_, true) (by simp [drO])
        have hq0 : ObsOk (drOq N v al m) := fun q hq => hO q (by
          simp only [cond_true, drO]
          simp only [drOq, List.mem_cons] at hq
          simp only [List.cons_append, List.nil_append, List.append_assoc, List.mem_cons]
          exact .inr hq)
        have pvR : plain (.tup [(vdG K N v al n m).1.sv, .si .i64 (vdG K N v al n m).2]) = some (.tuple #[.agg #[.float .f64 (vdG K N v al n m).1.x.lo.b, .float .f64 (vdG K N v al n m).1.x.hi.b, .float .f64 (vdG K N v al n m).1.y.lo.b, .float .f64 (vdG K N v al n m).1.y.hi.b, .float .f64 (vdG K N v al n m).1.z.lo.b, .float .f64 (vdG K N v al n m).1.z.hi.b], .int .i64 (vdG K N v al n m).2]) := rfl
        refine ⟨_, _, hargs, pvR, fun w => ?_⟩
        unfold vdG drR
        have hE : drEnv N v al n m = drEnv N v al n m := rfl
        cases c1 : decide ((drQ K (drEnv N v al n m)).hi.k = z64.k)
        · cases c2 : decide (z64.k < (drQ K (drEnv N v al n m)).lo.k)
          · simp only [cond_false, drN]
            cases c3 : neB (evalK K drP1 (drEnv N v al n m) 0).2
            · simp only [cond_false]
              exact calls_of_val goodG hO0 80 (drRunN1 K N v al n m) (obsK_c (by rw [neB_d, c3]; rfl) (obsK_c c3 (obsK_c c2 (obsK_c c1 hq0)))) rfl rfl w
            · simp only [cond_true]
              exact calls_of_val goodG hO0 80 (drRunN0 K N v al n m) (obsK_c (by rw [neB_d, c3]; rfl) (obsK_c c3 (obsK_c c2 (obsK_c c1 hq0)))) rfl rfl w
          · simp only [cond_false, cond_true, drX]
            cases c3 : neB (evalK K drTb (drEnv N v al n m) 0).2
            · simp only [cond_false]
              cases c4 : neB (evalK K drB (drEnv N v al n m) 0).2
              · simp only [cond_false]
                have r := drRunB2 K N v al n m
                generalize drV K drB (drEnv N v al n m) = V at r ⊢
                exact calls_of_val goodG hO0 80 r (obsK_c c4 (obsK_c hu (obsK_c c3 (obsK_c c2 (obsK_c c1 hq0))))) rfl (pvT V 0) w
              · simp only [cond_true]
                exact calls_of_val goodG hO0 80 (drRunB1 K N v al n m) (obsK_c c4 (obsK_c hu (obsK_c c3 (obsK_c c2 (obsK_c c1 hq0))))) rfl rfl w
            · simp only [cond_true]
              exact calls_of_val goodG hO0 80 (drRunB0 K N v al n m) (obsK_c (by rw [neB_d, c3]; rfl) (obsK_c c3 (obsK_c c2 (obsK_c c1 hq0)))) rfl rfl w
        · simp only [cond_true, drX]
          cases c3 : neB (evalK K drTa (drEnv N v al n m) 0).2
          · simp only [cond_false]
            cases c4 : neB (evalK K drA (drEnv N v al n m) 0).2
            · simp only [cond_false]
              have r := drRunA2 K N v al n m
              generalize drV K drA (drEnv N v al n m) = V at r ⊢
              exact calls_of_val goodG hO0 80 r (obsK_c c4 (obsK_c hu (obsK_c c3 (obsK_c c1 hq0)))) rfl (pvT V 0) w
            · simp only [cond_true]
              exact calls_of_val goodG hO0 80 (drRunA1 K N v al n m) (obsK_c c4 (obsK_c hu (obsK_c c3 (obsK_c c1 hq0)))) rfl rfl w
          · simp only [cond_true]
            exact calls_of_val goodG hO0 80 (drRunA0 K N v al n m) (obsK_c (by rw [neB_d, c3]; rfl) (obsK_c c3 (obsK_c c1 hq0))) rfl rfl w
    · cases h
  · cases h
def vdR : V3 → I → Int → Int → V3 × Int := vdG KkR (KqR atR)
theorem drG : PlainOk Tryz.prog 117 (kVd vdR (drO (KqR atR))) := drG_of KkR (KqR atR) oracleDR
end Go.Proofs.YtgjohjgmlleebaaGreat
namespace Go.Proofs.YtgjohjgmlleebaaGreat
set_option linter.all false
open Go.RowKit Bu Rx

def OMI (r : I → Bool) (fs fm fa : Bool → F → F → F × Int) : OracleF := lookO [(42, plainO (kBI r)), (103, plainO (kTwo fs)), (107, plainO (kTwo fm)), (101, plainO (kTwo fa))]
theorem irtK2 : PlainOk Tryz.prog 42 (kBI rt) := irightG
theorem oracleMI : OracleOk Tryz.prog (OMI rt dSub dMul dAdd) := .cons irtK2.of (.cons (two_ok sub_F_w).of (.cons (two_ok mul_F_w).of (.cons (two_ok add_F_w).of (.nil _))))
def noMid : SV := .tup [.agg [.fl F.zero, .fl F.zero, .fl F.zero], .i .i64 20]
theorem miRun0 (r : I → Bool) (fs fm fa : Bool → F → F → F × Int) (a b c d e f : F) : valR ((run Tryz.prog EG (OMI r fs fm fa) 80).1 71 [.agg [.fl a, .fl b, .fl c, .fl d, .fl e, .fl f]] [] (some [false])) = some (noMid, some [], [(r ⟨a, b⟩, false)]) := by kernel_rfl
theorem miRun1 (r : I → Bool) (fs fm fa : Bool → F → F → F × Int) (a b c d e f : F) : valR ((run Tryz.prog EG (OMI r fs fm fa) 80).1 71 [.agg [.fl a, .fl b, .fl c, .fl d, .fl e, .fl f]] [] (some [true, false])) = some (noMid, some [], [(r ⟨c, d⟩, false), (r ⟨a, b⟩, true)]) := by kernel_rfl
theorem miRun2 (r : I → Bool) (fs fm fa : Bool → F → F → F × Int) (a b c d e f : F) : valR ((run Tryz.prog EG (OMI r fs fm fa) 80).1 71 [.agg [.fl a, .fl b, .fl c, .fl d, .fl e, .fl f]] [] (some [true, true, false])) = some (noMid, some [], [(r ⟨e, f⟩, false), (r ⟨c, d⟩, true), (r ⟨a, b⟩, true)]) := by kernel_rfl
def m1 (fs : Bool → F → F → F × Int) (a b : F) : F × Int := fs false b a
def m2 (fs fm : Bool → F → F → F × Int) (a b : F) : F × Int := fm false q2 (m1 fs a b).1
def m3 (fs fm fa : Bool → F → F → F × Int) (a b : F) : F × Int := fa false a (m2 fs fm a b).1
def obM (fs fm fa : Bool → F → F → F × Int) (a b : F) : Obs := [(decide ((m3 fs fm fa a b).2 = 0), true), (decide ((m2 fs fm a b).2 = 0), true), (decide ((m1 fs a b).2 = 0), true)]
theorem miRun3 (r : I → Bool) (fs fm fa : Bool → F → F → F × Int) (a b c d e f : F) : valR ((run Tryz.prog EG (OMI r fs fm fa) 80).1 71 [.agg [.fl a, .fl b, .fl c, .fl d, .fl e, .fl f]] [] (some [true, true, true, true, true, true, true, true, true, true, true, false])) =
    some (.tup [.agg [.fl (m3 fs fm fa a b).1, .fl (m3 fs fm fa c d).1, .fl (m3 fs fm fa e f).1], .i .i64 0], some [],
      [(!((m3 fs fm fa e f).2 == 0), false), (decide ((m2 fs fm e f).2 = 0), true), (decide ((m1 fs e f).2 = 0), true)] ++ obM fs fm fa c d ++ obM fs fm fa a b ++ [(r ⟨e, f⟩, true), (r ⟨c, d⟩, true), (r ⟨a, b⟩, true)]) := by kernel_rfl
theorem mid_no {a b : F} (h : rt ⟨a, b⟩ = true) : (m1 dSub a b).2 = 0 ∧ (m2 dSub dMul a b).2 = 0 ∧ (m3 dSub dMul dAdd a b).2 = 0 ∧ a.q ≤ (m3 dSub dMul dAdd a b).1.q ∧ (m3 dSub dMul dAdd a b).1.q ≤ b.q := by
  have hq := q_le.2 (of_decide_eq_true h)
  simp only at hq
  have k2 := consts.2.2.2.2.2.1
  obtain ⟨r1, e1, h1⟩ := @dSub_dn b a F.zero (by rw [q_zero]; grind)
  have g1 : 0 ≤ r1.q := by rw [← q_zero]; exact h1.top F.zero (by rw [q_zero]; grind)
  have p1 : 0 ≤ q2.q * r1.q := Rat.mul_nonneg (by grind) g1
  obtain ⟨r2, e2, h2⟩ := @dMul_dn q2 r1 F.zero (by rw [q_zero]; exact p1)
  have g2 : 0 ≤ r2.q := by rw [← q_zero]; exact h2.top F.zero (by rw [q_zero]; exact p1)
  obtain ⟨r3, e3, h3⟩ := @dAdd_dn a r2 a (by grind)
  have f1 : m1 dSub a b = (r1, 0) := e1
  have f2 : m2 dSub dMul a b = (r2, 0) := by unfold m2; rw [f1]; exact e2
  have f3 : m3 dSub dMul dAdd a b = (r3, 0) := by unfold m3; rw [f2]; exact e3
  rw [f1, f2, f3]
  refine ⟨rfl, rfl, rfl, h3.top a (by grind), ?_⟩
  have l1 := h1.le; have l2 := h2.le; have l3 := h3.le
  have e : q2.q = 1 / 2 := by grind
  rw [e] at l2
  show r3.q ≤ b.q
  grind
theorem midG : PlainOk Tryz.prog 71 (kMid rt3 midM) := by
  intro args ds x ds' ob h ho
  unfold kMid at h
  split at h
  · rename_i a b c d e f
    simp only [Option.map_eq_some_iff, Prod.mk.injEq] at h
    obtain ⟨⟨r, ee, o⟩, h1, rfl, rfl, rfl⟩ := h
    have hd : r = rt3 a b c d e f := takeB_ok h1 ho
    refine ⟨[.agg #[.float .f64 a.b, .float .f64 b.b, .float .f64 c.b, .float .f64 d.b, .float .f64 e.b, .float .f64 f.b]], ?_⟩
    unfold rt3 at hd
    cases g1 : rt ⟨a, b⟩
    · rw [g1, Bool.false_and] at hd; subst hd
      exact ⟨_, rfl, rfl, fun w => calls_of_val goodG oracleMI 80 (miRun0 rt dSub dMul dAdd a b c d e f) (ObsOk.of_B (obsB_yes g1 obsB_nil)) rfl rfl w⟩
    · cases g2 : rt ⟨c, d⟩
      · rw [g1, g2, Bool.false_and, Bool.and_false] at hd; subst hd
        exact ⟨_, rfl, rfl, fun w => calls_of_val goodG oracleMI 80 (miRun1 rt dSub dMul dAdd a b c d e f) (ObsOk.of_B (obsB_yes g2 (obsB_yes g1 obsB_nil))) rfl rfl w⟩
      · cases g3 : rt ⟨e, f⟩
        · rw [g1, g2, g3, Bool.true_and, Bool.true_and] at hd; subst hd
          exact ⟨_, rfl, rfl, fun w => calls_of_val goodG oracleMI 80 (miRun2 rt dSub dMul dAdd a b c d e f) (ObsOk.of_B (obsB_yes g3 (obsB_yes g2 (obsB_yes g1 obsB_nil)))) rfl rfl w⟩
        · rw [g1, g2, g3, Bool.true_and, Bool.true_and] at hd; subst hd
          obtain ⟨a1, a2, a3, _⟩ := mid_no g1
          obtain ⟨b1, b2, b3, _⟩ := mid_no g2
          obtain ⟨c1, c2, c3, _⟩ := mid_no g3
          refine ⟨_, rfl, rfl, fun w => calls_of_val goodG oracleMI 80 (miRun3 rt dSub dMul dAdd a b c d e f) (ObsOk.of_B ?_) rfl rfl w⟩
          have y : ∀ {n : Int}, n = 0 → decide (n = 0) = true := fun h => decide_eq_true h
          exact obsB_yes (by rw [c3]; rfl) (obsB_yes (y c2) (obsB_yes (y c1) (obsB_yes (y b3) (obsB_yes (y b2) (obsB_yes (y b1) (obsB_yes (y a3) (obsB_yes (y a2) (obsB_yes (y a1) (obsB_yes g3 (obsB_yes g2 (obsB_yes g1 obsB_nil)))))))))))
  · cases h
end Go.Proofs.YtgjohjgmlleebaaGreat
namespace Bu
set_option linter.all false
open Rx Go
/-- of X, Y, Z, U, V, W -/
def reP : List Op := [.num (two64), .mul 6 3, .mul 6 3, .add 1 0, .mul 7 4, .add 1 0, .mul 5 0, .mul 0 9, .mul 1 9, .mul 2 9, .sub 2 15, .sub 2 15, .sub 2 15, .kept mone64 one64 2, .kept mone64 one64 2, .kept mone64 one64 2]
def reE (K : Kk) (v w : V3) : List I × Int := evalK K reP [w.z, w.y, w.x, v.z, v.y, v.x] 0
def reR (K : Kk) (v w : V3) : V3 × Int := bif neB (reE K v w).2 then (V3.zero, (reE K v w).2) else (⟨gt (reE K v w).1 2, gt (reE K v w).1 1, gt (reE K v w).1 0⟩, 0)
def in1O (a : I) : Obs := [(decide (a.hi.k ≤ one64.k), true), (decide (mone64.k ≤ a.lo.k), true), (rt a, true)]
def reO (v w : V3) : Obs := in1O w.z ++ (in1O w.y ++ (in1O w.x ++ (in1O v.z ++ (in1O v.y ++ in1O v.x))))
def kRe (f : V3 → V3 → V3 × Int) : List SV → Dec → Option (SV × Dec × Obs)
  | [.agg [.fl a, .fl b, .fl c, .fl d, .fl e, .fl f'], .agg [.fl a2, .fl b2, .fl c2, .fl d2, .fl e2, .fl f2]], ds =>
    some (.tup [(f ⟨⟨a, b⟩, ⟨c, d⟩, ⟨e, f'⟩⟩ ⟨⟨a2, b2⟩, ⟨c2, d2⟩, ⟨e2, f2⟩⟩).1.sv, .si .i64 (f ⟨⟨a, b⟩, ⟨c, d⟩, ⟨e, f'⟩⟩ ⟨⟨a2, b2⟩, ⟨c2, d2⟩, ⟨e2, f2⟩⟩).2], ds, reO ⟨⟨a, b⟩, ⟨c, d⟩, ⟨e, f'⟩⟩ ⟨⟨a2, b2⟩, ⟨c2, d2⟩, ⟨e2, f2⟩⟩)
  | _, _ => none
/-- straight on: turned, turned, kept -/
def ngF (x : F) : F := toF ((Ieee.double.sub (toF 0).b x.b).getD 0)
def kpF (x : F) : F := toF ((Ieee.double.add x.b (toF 0).b).getD 0)
def ngO (x : F) : Obs := [((Ieee.double.sub (toF 0).b x.b).isSome, true), (rightB ((Ieee.double.sub (toF 0).b x.b).getD 0), true)]
def kpO (x : F) : Obs := [((Ieee.double.add x.b (toF 0).b).isSome, true), (rightB ((Ieee.double.add x.b (toF 0).b).getD 0), true)]
end Bu
namespace Go.Proofs.YtgjohjgmlleebaaGreat
set_option linter.all false
open Go.RowKit Bu Rx
theorem ngF_eq (x : F) : ngF x = x.neg := by unfold ngF; rw [toF0, sub_zero_F, Option.getD_some, toF_F]
theorem kpF_eq (x : F) : kpF x = x := by unfold kpF; rw [add_zero_F, Option.getD_some, toF_F]
theorem ngO_ok (x : F) : ObsOk (ngO x) := by
  unfold ngO
  rw [toF0, sub_zero_F]
  exact ob_c rfl (ob_c (right_F _) ob_n)
theorem kpO_ok (x : F) : ObsOk (kpO x) := by
  unfold kpO
  rw [add_zero_F]
  exact ob_c rfl (ob_c (right_F _) ob_n)
def t18 : List Bool := List.replicate 18 true
theorem reRun0 (K : Kk) (v w : V3) : valR ((run Tryz.prog EG (lookO (OCL K)) 80).1 118 [v.sv, w.sv] [] (some (t18 ++ [false]))) = some (.tup [V3.sv ⟨gt (reE K v w).1 2, gt (reE K v w).1 1, gt (reE K v w).1 0⟩, .i .i64 0], some [], (neB (reE K v w).2, false) :: reO v w) := by kernel_rfl
theorem reRun1 (K : Kk) (v w : V3) : valR ((run Tryz.prog EG (lookO (OCL K)) 80).1 118 [v.sv, w.sv] [] (some (t18 ++ [true]))) = some (.tup [V3.zero.sv, .si .i64 (reE K v w).2], some [], (neB (reE K v w).2, true) :: reO v w) := by kernel_rfl
def OSt (un : F → F → F → V3) (ub : F → F → F → Bool) : OracleF := lookO [(33, plainO (kUn un ub))]
theorem stRun (un : F → F → F → V3) (ub : F → F → F → Bool) (x y z : F) : valR ((run Tryz.prog EG (OSt un ub) 80).1 69 [.agg [.fl x, .fl y, .fl z]] [] (some [true])) = some (.tup [.agg [.fl (ngF x), .fl (ngF y), .fl (kpF z)], .i .i64 0], some [], kpO z ++ (ngO y ++ (ngO x ++ [(ub x y z, true)]))) := by kernel_rfl
theorem reG_of (K : Kk) (hO : OracleOk Tryz.prog (lookO (OCL K))) : PlainOk Tryz.prog 118 (kRe (reR K)) := by
  intro args ds x ds' ob h ho
  unfold kRe at h
  split at h
  · rename_i x1 x2 y1 y2 z1 z2 u1 u2 v1 v2 w1 w2
    simp only [Option.some.injEq, Prod.mk.injEq] at h
    obtain ⟨rfl, _, rfl⟩ := h
    generalize hv : (⟨⟨x1, x2⟩, ⟨y1, y2⟩, ⟨z1, z2⟩⟩ : V3) = v at *
    generalize hw : (⟨⟨u1, u2⟩, ⟨v1, v2⟩, ⟨w1, w2⟩⟩ : V3) = u at *
    have e1 : (.agg [.fl x1, .fl x2, .fl y1, .fl y2, .fl z1, .fl z2] : SV) = v.sv := by subst hv; rfl
    have e2 : (.agg [.fl u1, .fl u2, .fl v1, .fl v2, .fl w1, .fl w2] : SV) = u.sv := by subst hw; rfl
    rw [e1, e2]
    have hargs : plains [v.sv, u.sv] = some [.agg #[.float .f64 v.x.lo.b, .float .f64 v.x.hi.b, .float .f64 v.y.lo.b, .float .f64 v.y.hi.b, .float .f64 v.z.lo.b, .float .f64 v.z.hi.b], .agg #[.float .f64 u.x.lo.b, .float .f64 u.x.hi.b, .float .f64 u.y.lo.b, .float .f64 u.y.hi.b, .float .f64 u.z.lo.b, .float .f64 u.z.hi.b]] := rfl
    unfold reR
    cases k : neB (reE K v u).2
    · refine ⟨_, _, hargs, rfl, fun w => ?_⟩
      exact calls_of_val goodG hO 80 (reRun0 K v u) (fun q hq => by
        rcases List.mem_cons.1 hq with rfl | hq
        · exact k
        · exact ho q hq) hargs rfl w
    · refine ⟨_, _, hargs, rfl, fun w => ?_⟩
      exact calls_of_val goodG hO 80 (reRun1 K v u) (fun q hq => by
        rcases List.mem_cons.1 hq with rfl | hq
        · exact k
        · exact ho q hq) hargs rfl w
  · cases h
theorem reG : PlainOk Tryz.prog 118 (kRe (reR KkR)) := reG_of KkR oracleCL
/-- straight on, of a triple with a unit vector -/
def kSt (ub : F → F → F → Bool) : List SV → Dec → Option (SV × Dec × Obs)
  | [.agg [.fl x, .fl y, .fl z]], ds => some (.tup [.agg [.fl x.neg, .fl y.neg, .fl z], .i .i64 0], ds, [(ub x y z, true)])
  | _, _ => none
theorem stG : PlainOk Tryz.prog 69 (kSt unB) := by
  intro args ds x ds' ob h ho
  unfold kSt at h
  split at h
  · rename_i x y z
    simp only [Option.some.injEq, Prod.mk.injEq] at h
    obtain ⟨rfl, _, rfl⟩ := h
    refine ⟨[.agg #[.float .f64 x.b, .float .f64 y.b, .float .f64 z.b]], _, rfl, rfl, fun w => ?_⟩
    have hr := stRun (unV KkR) unB x y z
    rw [ngF_eq, ngF_eq, kpF_eq] at hr
    exact calls_of_val goodG (.cons unG.of (.nil _)) 80 hr (ob_a (kpO_ok z) (ob_a (ngO_ok y) (ob_a (ngO_ok x) ho))) rfl rfl w
  · cases h
end Go.Proofs.YtgjohjgmlleebaaGreat
namespace Rx
set_option linter.all false
open Go Go.RowKit
section
variable {P : Program} {B : Bs}
theorem RoundsB.ret {n : Nat} {c : Code} {s : St} {Φ : St → Prop} (h : RunsB P B c s .ret Φ) : RoundsB P B c (n + 1) s .ret Φ := by
  intro m a w Q hs hg hq
  rw [rounds_succ]
  exact h m a w _ hs hg fun s1 m' a' w' h1 hs' hg' => hq s1 m' a' w' h1 hs' hg'
/-- a loop with a measure, which leaves -/
theorem loop_outB {body : Code} {id : Nat} {Φ : St → Prop} {α : Type} (S : α → St) (μ : α → Nat) (I : α → Prop)
    (h : ∀ x, I x → RunsB P B body (S x) (.exit id) Φ ∨ RunsB P B body (S x) .normal (fun t => ∃ x', I x' ∧ μ x' < μ x ∧ t = S x')) (x : α) (h0 : I x) : RunsB P B (.block id (.loop body)) (S x) .normal Φ := by
  refine RunsB.block (RunsB.loop (n := μ x + 1) ?_)
  have key : ∀ n x, μ x ≤ n → I x → RoundsB P B body (n + 1) (S x) (.exit id) Φ := by
    intro n
    induction n with
    | zero =>
      intro x h1 hi
      rcases h x hi with g | g
      · exact RoundsB.out g
      · exact RoundsB.next g fun t ⟨x', _, h2, _⟩ => absurd h2 (by omega)
    | succ n ih =>
      intro x h1 hi
      rcases h x hi with g | g
      · exact RoundsB.out g
      · exact RoundsB.next g fun t ⟨x', hx, h2, ht⟩ => by subst ht; exact ih x' (by omega) hx
  exact key (μ x) x (Nat.le_refl _) h0
end
end Rx
namespace Go.Proofs.YtgjohjgmlleebaaGreat
set_option linter.all false
open Go.RowKit Bu Rx
/-- names -/
structure Npa where
  K : Kk
  o : List SV → Nat → Bool
  D : I → I → I × Int
  dO : I → I → Obs
  uo : Int → I
  u : Int → Bool
def OPa (W : Npa) : OracleF := lookO (OCL W.K ++ [(31, kRd 19 (kRgt W.o)), (27, plainO (kI2 W.D W.dO)), (26, plainO (kOf W.uo W.u))])
noncomputable def paC : Code := bodyOf Tryz.prog 28
theorem paBody : Tryz.f28.body = some paC := by kernel_rfl
noncomputable def paIn : Code := inner (seqR paC)
theorem paC_cut : paC = .seq (seqL paC) (.scope paIn) := by kernel_rfl
noncomputable def paE (e : TypeId) (cells : List SV) (off len cap : Nat) (c : I) (u : Int) (d : Dec) : St := ⟨([.ssl 0 off len cap, ivS c, .si .u64 u] : List SV) ++ List.replicate (Tryz.f28.ntmps - 3) (.tup []), [⟨e, cells, .num⟩], d, []⟩
def paT (off len cap : Nat) (g : SV) (x : Nat → SV) : List SV :=
  [.ssl 0 off len cap, x 1, x 2, x 3, .p 1 0, x 5, x 6, x 7, x 8, x 9, .p 3 0, .p 4 0, g, x 13, x 14, x 15, x 16, x 17, x 18, x 19, x 20, x 21, x 22, x 23, x 24, x 25, x 26, x 27, x 28, x 29, x 30, x 31, x 32, x 33, x 34, x 35, x 36, x 37, x 38, x 39, x 40, x 41, x 42, x 43, x 44, x 45, x 46, x 47, x 48, x 49, x 50, x 51, x 52, x 53, x 54, x 55, x 56, x 57, x 58, x 59, x 60, x 61, x 62, x 63, x 64, x 65, x 66, x 67, x 68, x 69, x 70, x 71, x 72, x 73, x 74, x 75, x 76, x 77, x 78, x 79, x 80, x 81, x 82, x 83, x 84, x 85, x 86, x 87, x 88, x 89, x 90, x 91, x 92, x 93, x 94, x 95, x 96, x 97, x 98, x 99, x 100, x 101, x 102, x 103, x 104, x 105, x 106, x 107, x 108, x 109, x 110, x 111, x 112, x 113, x 114, x 115, x 116, x 117, x 118, x 119, x 120, x 121, x 122, x 123, x 124, x 125, x 126, x 127, x 128, x 129, x 130, x 131, x 132, x 133, x 134, x 135, x 136, x 137, x 138, x 139, x 140, x 141, x 142, x 143, x 144, x 145, x 146, x 147, x 148, x 149, x 150, x 151, x 152, x 153, x 154, x 155]
def paM (e : TypeId) (cells : List SV) (c : I) (a er : Int) (s : I) (sure : Bool) : List Blk := [⟨e, cells, .num⟩, ⟨29, [.fl c.lo, .fl c.hi], .ex⟩, ⟨108, [.si .i64 er], .ex⟩, ⟨114, [.p 2 0, .si .i64 a, .fl s.lo, .fl s.hi, .b sure], .ex⟩, ⟨29, [.fl one64, .fl one64], .ex⟩]
def paS (e : TypeId) (cells : List SV) (off len cap : Nat) (c : I) (a er : Int) (s : I) (sure : Bool) (g : SV) (x : Nat → SV) (d : Dec) : St := ⟨paT off len cap g x, paM e cells c a er s sure, d, []⟩
noncomputable def paBd : Code := inner (inner (seqL (post 4 paIn)))
noncomputable def paTl : Code := seqR (post 4 paIn)
theorem paIn_cut : post 4 paIn = .seq (.block 1 (.loop paBd)) paTl := by kernel_rfl
end Go.Proofs.YtgjohjgmlleebaaGreat
