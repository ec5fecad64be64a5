/- DensMix by the reckoner; right programs of numbers. The chapter's examples of layer 22. DensMix, plain. Rows whose arguments lie in memory: what is read there; a function that changes nothing. A drawn region whose first operations alone the reckoner can run: the rest goes on by hand. The greatest of any words: some word, by a choice or none. vec.Unit of any words: what is no number is refused. Pieces. vec.Unit of any words: by hand. vec.Unit of any words: the region with the greatest of them. vec.Unit of any words: what is no number is refused. The known function. Package vndf by the reckoner: Draw, Density. Package vndf by the reckoner: Draw and Density as known functions. Package cosine by the reckoner: Mid; the examples of layer 12; CosineFalls. Package mirror by the reckoner: Reflect, Straight. The reckoner: loops that return, or leave, at some round, seen from where the function began. eval.Eval: what a program sends. eval.Eval: the rounds. draw.Path by the reckoner: pieces. draw.Path by the reckoner: the rounds. eval.Eval: entry, slots, the end. -/
import Derived.Test.YthclipfgcgoofaaGreatQ13
import Derived.Test.YthclipfgcgoofaaGreatQ01
import Derived.OpenVars
import Derived.Deep.Slices
import Derived.Test.YthclipfgcgoofaaGreatQ04
import Derived.Test.YthclipfgcgoofaaGreatQ10
import Derived.Test.YthclipfgcgoofaaGreatQ08
import Derived.Test.YthclipfgcgoofaaGreatQ11
import Derived.Test.YthclipfgcgoofaaGreatQ12
namespace Bu
set_option linter.all false
open Rx Go
theorem bw_rn {l h : F} {n : Int} (hl : l.k ≤ h.k) : rnB l h (bwF l h n) = true := by
  have := bwF_in (n := n) hl
  unfold rnB
  rw [decide_eq_true this.1, decide_eq_true this.2]; rfl
theorem zs_c (js : List Nat) : zsB (fun _ => z64) js = true := List.all_eq_true.2 fun _ _ => decide_eq_true zz_k.symm
theorem okNd_1 {x y z : F} (hx : rnB z64 one64 x = true) (hy : rnB z64 one64 y = true) (hz : rnB z64 one64 z = true) (p : Int) : okNd ⟨1, ndM x y z z64 z64 z64 z64 z64 z64 z64 z64 z64 z64 z64 z64 z64, 0, 0⟩ p = true := by
  show ((rnB z64 one64 x && (rnB z64 one64 y && (rnB z64 one64 z && true))) && (zsB (fun _ => z64) [3, 4, 5, 6, 7, 8, 9, 10, 11, 12, 13, 14, 15] && (decide ((0 : Int) = 0) && decide ((0 : Int) = 0)))) = true
  rw [hx, hy, hz, zs_c]; rfl
theorem okNd_2 {x y z s : F} (hx : rnB z64 one64 x = true) (hy : rnB z64 one64 y = true) (hz : rnB z64 one64 z = true) (hs : rnB z64 one64 s = true) (p : Int) : okNd ⟨2, ndM x y z z64 z64 z64 z64 z64 z64 z64 z64 z64 s z64 z64 z64, 0, 0⟩ p = true := by
  show ((rnB z64 one64 s && (rnB z64 one64 x && (rnB z64 one64 y && (rnB z64 one64 z && true)))) && (zsB (fun _ => z64) [3, 4, 5, 6, 7, 8, 9, 10, 11, 13, 14, 15] && (decide ((0 : Int) = 0) && decide ((0 : Int) = 0)))) = true
  rw [hx, hy, hz, hs, zs_c]; rfl
theorem okNd_3 {a n : F} (ha : rnB minA one64 a = true) (hn : rnB minIo four64 n = true) (p : Int) : okNd ⟨3, ndM z64 z64 z64 z64 z64 z64 z64 z64 z64 z64 z64 z64 z64 a n z64, 0, 0⟩ p = true := by
  show (rnB minA one64 a && (rnB minIo four64 n && (zsB (fun _ => z64) [0, 1, 2, 3, 4, 5, 6, 7, 8, 9, 10, 11, 12, 15] && (decide ((0 : Int) = 0) && decide ((0 : Int) = 0))))) = true
  rw [ha, hn, zs_c]; rfl
theorem okNd_4 {a e0 e1 e2 k0 k1 k2 : F} (ha : rnB minA one64 a = true) (h0 : rnB minMt maxMt e0 = true) (h1 : rnB minMt maxMt e1 = true) (h2 : rnB minMt maxMt e2 = true) (h3 : rnB minMt maxMt k0 = true) (h4 : rnB minMt maxMt k1 = true) (h5 : rnB minMt maxMt k2 = true) (p : Int) : okNd ⟨4, ndM z64 z64 z64 z64 z64 z64 e0 e1 e2 k0 k1 k2 z64 a z64 z64, 0, 0⟩ p = true := by
  show (rnB minA one64 a && ((rnB minMt maxMt e0 && (rnB minMt maxMt e1 && (rnB minMt maxMt e2 && (rnB minMt maxMt k0 && (rnB minMt maxMt k1 && (rnB minMt maxMt k2 && true)))))) && (zsB (fun _ => z64) [0, 1, 2, 3, 4, 5, 12, 14, 15] && (decide ((0 : Int) = 0) && decide ((0 : Int) = 0))))) = true
  rw [ha, h0, h1, h2, h3, h4, h5, zs_c]; rfl
def leNd (u : U8) : Nd := ⟨leK u, ndM (leF bwF u 0) (leF bwF u 1) (leF bwF u 2) (leF bwF u 3) (leF bwF u 4) (leF bwF u 5) (leF bwF u 6) (leF bwF u 7) (leF bwF u 8) (leF bwF u 9) (leF bwF u 10) (leF bwF u 11) (leF bwF u 12) (leF bwF u 13) (leF bwF u 14) (leF bwF u 15), 0, 0⟩
theorem okNd_le (u : U8) (p : Int) : okNd (leNd u) p = true := by
  obtain ⟨e1, e2, e3, e4⟩ := rk_le
  unfold leNd leK leF
  cases decide (u.a0.tmod 4 = 0)
  · cases decide (u.a0.tmod 4 = 1)
    · cases decide (u.a0.tmod 4 = 2)
      · exact okNd_4 (bw_rn e2) (bw_rn e4) (bw_rn e4) (bw_rn e4) (bw_rn e4) (bw_rn e4) (bw_rn e4) p
      · exact okNd_3 (bw_rn e2) (bw_rn e3) p
    · exact okNd_2 (bw_rn e1) (bw_rn e1) (bw_rn e1) (bw_rn e1) p
  · exact okNd_1 (bw_rn e1) (bw_rn e1) (bw_rn e1) p
theorem okNd_5 {w : F} {a b p : Int} (hw : rnB z64 one64 w = true) (a0 : 0 ≤ a) (a1 : a < p) (b0 : 0 ≤ b) (b1 : b < p) : okNd ⟨5, ndM z64 z64 z64 z64 z64 z64 z64 z64 z64 z64 z64 z64 z64 z64 z64 w, a, b⟩ p = true := by
  show (rnB z64 one64 w && (zsB (fun _ => z64) [0, 1, 2, 3, 4, 5, 6, 7, 8, 9, 10, 11, 12, 13, 14] && (decide (0 ≤ a) && (decide (a < p) && (decide (0 ≤ b) && decide (b < p)))))) = true
  rw [hw, zs_c, decide_eq_true a0, decide_eq_true a1, decide_eq_true b0, decide_eq_true b1]; rfl
theorem okNd_6 {n t0 t1 t2 : F} {a p : Int} (hn : rnB minIo four64 n = true) (h0 : rnB z64 one64 t0 = true) (h1 : rnB z64 one64 t1 = true) (h2 : rnB z64 one64 t2 = true) (a0 : 0 ≤ a) (a1 : a < p) : okNd ⟨6, ndM z64 z64 z64 t0 t1 t2 z64 z64 z64 z64 z64 z64 z64 z64 n z64, a, 0⟩ p = true := by
  show (decide ((6 : Int) = 6) && (rnB minIo four64 n && ((rnB z64 one64 t0 && (rnB z64 one64 t1 && (rnB z64 one64 t2 && true))) && (zsB (fun _ => z64) [0, 1, 2, 6, 7, 8, 9, 10, 11, 12, 13, 15] && (decide (0 ≤ a) && (decide (a < p) && decide ((0 : Int) = 0))))))) = true
  rw [hn, h0, h1, h2, zs_c, decide_eq_true a0, decide_eq_true a1]; rfl
theorem okPg_mk {cs : List SV} {len : Nat} (h1 : (plains cs).isSome = true) (h2 : 1 ≤ len) (h3 : len ≤ 4096) (h4 : ∀ i, i < len → okAt cs i = true) : okPg cs len = true := by
  unfold okPg
  rw [h1, decide_eq_true h2, decide_eq_true h3, List.all_eq_true.2 fun i hi => h4 i (List.mem_range.1 hi)]; rfl
theorem okAt_mk {cs : List SV} {i : Nat} (h1 : ckAll cs (i * 19) ndCK = true) (h2 : okNd (ndR cs (i * 19)) i = true) : okAt cs i = true := by
  unfold okAt; rw [h1, h2]; rfl
end Bu
namespace Go.Proofs.YthclipfgcgoofaaGreat
set_option linter.all false
open Go.RowKit Bu Rx
def eqIv (a b : I) : Bool := decide (a.lo.k = b.lo.k) && (decide (a.hi.k = b.hi.k) && true)
def eiO (f g : OF) : OF := fun a M ds => match f a M ds with
  | some r => some r
  | none => g a M ds
theorem eiO_ok {P : Program} {g : FuncId} {f h : OF} (hf : OfOk P g f) (hh : OfOk P g h) : OfOk P g (eiO f h) := by
  intro args M ds x M' ds' ob hk ho
  unfold eiO at hk
  split at hk
  · rename_i r hr
    cases hk
    exact hf args M ds x M' ds' ob hr ho
  · exact hh args M ds x M' ds' ob hk ho
def kNilR : List SV → Dec → Option (SV × Dec × Obs)
  | [.o (.slice none 0 0)], ds => some (.b false, ds, [])
  | _, _ => none
theorem rgtNil : valR ((run Tryz.prog EG (lookO []) 60).1 39 [.o (.slice none 0 0)] [] (some [])) = some (.b false, some [], []) := by kernel_rfl
theorem nilRG : PlainOk Tryz.prog 39 kNilR := by
  intro args ds x ds' ob h ho
  unfold kNilR at h
  split at h
  · simp only [Option.some.injEq, Prod.mk.injEq] at h
    obtain ⟨rfl, _, rfl⟩ := h
    exact ⟨[.slice none 0 0], _, rfl, rfl, fun w => calls_of_val goodG (OracleOk.nil _) 60 rgtNil ob_n rfl rfl w⟩
  · cases h
end Go.Proofs.YthclipfgcgoofaaGreat
namespace Bu
set_option linter.all false
open Rx Go
theorem okAt_n {cs : List SV} {i : Nat} {n : Nd} (h1 : ckAll cs (i * 19) ndCK = true) (hn : ndR cs (i * 19) = n) (h2 : okNd n i = true) : okAt cs i = true := okAt_mk h1 (by rw [hn]; exact h2)
end Bu
namespace Go.Proofs.YthclipfgcgoofaaGreat
set_option linter.all false
open Go.RowKit Bu Rx
theorem fr_rn {n : Int} (h : wN32 n = true) : rnB z64 one64 (frT n) = true := by
  obtain ⟨t, e1, t0, t1, _⟩ := frT_ok h
  have eT : frT n = t := by
    unfold frT
    rw [e1]
    exact toF_F t
  rw [eT]
  have zk : z64.k = 0 := z64_0
  unfold rnB
  rw [decide_eq_true (show z64.k ≤ t.k by omega), decide_eq_true t1]; rfl
theorem u32_w {n : Int} (h : (Lit.int .u32 n).wf = true) : wN32 n = true := by
  have : 0 ≤ n ∧ n ≤ 4294967295 := by simpa [Lit.wf, IntKind.min, IntKind.max, IntKind.signed, IntKind.bits] using h
  exact decide_eq_true this
end Go.Proofs.YthclipfgcgoofaaGreat
namespace Go.Proofs.YthclipfgcgoofaaGreat
set_option linter.all false
open Go.ChangeShapes Go.WideShapes Go.ChangeAt Go.RowKit Go.Deep Go.WideElems
section
variable {H : Type} {enc : TypeId × Value → H} {P : Program}
theorem all_stays (hl : laidOutB P = true) {W W' : World} (hb : Below W.heap.size W W') {sp : Nat → Bool} : ∀ {ts : List TypeId} {vs : List Value} {ds : List (DataW H)} {ps : List MemPlace},
    (∀ t ∈ ts, P.readableRec t = true ∧ t < P.types.size) → DataW.TrodAll enc P W 0 (fun _ => true) true ts vs ds ps → (∀ p ∈ ps, sp p.block = true) → DataW.TrodAll enc P W' 0 sp true ts vs ds ps
  | [], _, _, _, _, h, _ => by
    obtain ⟨rfl, rfl, rfl⟩ := trodAll_nil h
    exact trodAll_mk0
  | t :: ts, _, _, _, ht, h, hs => by
    have hlt := h.lt
    obtain ⟨v, vs1, d, ds1, a, b, rfl, rfl, rfl, ⟨n, h1⟩, h2⟩ := trodAll_cons h
    have hr := ht t (List.mem_cons_self ..)
    exact ⟨a, b, ⟨n, DataW.trod_stays (kids_book hl hr.1) (book_sized hr.1) (fun h => by cases h) ⟨hr.2, book_self t⟩ h1 (fun x hx => hb.same (hlt x (List.mem_append_left _ hx))) (fun x hx => hs x (List.mem_append_left _ hx))⟩,
      all_stays hl hb (fun t h => ht t (List.mem_cons_of_mem _ h)) h2 (fun p hp => hs p (List.mem_append_right _ hp)), rfl⟩
theorem post_kept {f : Func} {s : ChangeSpec} {apart fresh handsOn again : Bool} {W W' : World} {args : Array Value} {v : Value} {ds gs : List (DataW H)} {before : List MemPlace}
    (hl : laidOutB P = true) (hts : ∀ t ∈ f.params.toList, P.readableRec t = true ∧ t < P.types.size) (hvs : s.vars = [])
    (hW : DataW.Whole enc P f.params.toList s.vars apart W args.toList ds gs before)
    (hres : ∀ (b : Nat) (sp : Nat → Bool) (hd : Bool), DataW.TrodAll enc P W' b sp hd f.resultTypes.toList (v.resultList f.resultTypes.size) (s.fn H (ds ++ gs)).results [])
    (hda : (s.fn H (ds ++ gs)).args = ds) (hdv : (s.fn H (ds ++ gs)).vars = [])
    (hb : Below W.heap.size W W')
    (hok : ∀ (j : Nat) (t : TypeId) (r : Value), f.resultTypes[j]? = some t → (v.resultList f.resultTypes.size)[j]? = some r → Value.okWide P W' .any 0 t r) :
    s.post enc P f apart fresh handsOn again W args v W' := by
  have hW' := hW
  obtain ⟨p, q, hA, hV, rfl, hfz, hnd⟩ := hW
  rw [hvs] at hV
  obtain ⟨rfl, rfl⟩ := trodVars_none hV
  have hlt : ∀ x ∈ p, x.block < W.heap.size := hA.lt
  have stay : ∀ sp : Nat → Bool, (∀ x ∈ p, sp x.block = true) → DataW.TrodAll enc P W' 0 sp true f.params.toList args.toList ds p := fun sp h => all_stays hl hb hts hA h
  have none_ : ∀ sp : Nat → Bool, DataW.TrodVars enc P W' sp s.vars [] [] := fun sp => by rw [hvs]; rfl
  refine ⟨ds, [], p ++ [], [], p, [], hW', hres _ _ _, ?_, ?_, World.keptBut_mono (fun x hx => ⟨hx, ?_⟩) (hb.frame (· ∈ p ++ [])), fun _ => ?_⟩
  · rw [hda]; exact stay _ (fun x hx => by simpa using hlt x hx)
  · rw [hdv]; exact none_ _
  · rw [List.append_nil] at hx
    exact .inr (.inl hx)
  · refine ⟨hok, _, _, ([] ++ p) ++ [], ⟨[] ++ p, [], trodAll_append (stay _ (fun _ _ => rfl)) (hres _ _ _), none_ _, rfl, ?_, ?_⟩, ?_⟩
    · intro b off hp
      have hp' : MemPlace.cell b off ∈ p ++ [] := by simpa using hp
      rw [hb.frozen (hlt _ (by simpa using hp))]
      exact hfz b off hp'
    · intro ha
      have := hnd ha
      simpa using this
    · intro x hx _
      simpa using hx
theorem open_rows {t a e : TypeId} {n : Nat} {k : IntKind} (ht : P.underlying t = some (.slice a)) (hT : ArrT P a e n k) {W : World} {base : Nat} {v : Value} {d : DataW H} {ps : List MemPlace} (hval : Value.okWide P W .any base t v) (hd : DataW.Trod enc P W 0 (fun _ => true) true t v d ps) :
    v = .slice none 0 0 ∨ ∃ (r off len cap : Nat) (cv : Array Value) (el : TypeId) (z : Nat × Nat), v = .slice (some ⟨r, off, none⟩) len cap ∧ len ≤ cap ∧ W.heap[r]? = some (.cells cv el z) ∧ ∀ i, i < len → ∀ j, j < n → ∃ x : Int, cv[off + (i * n + j)]? = some (.int k x) ∧ (Lit.int k x).wf = true := by
  obtain ⟨fuel, hf⟩ := hd
  simp only [Value.okWide, ht] at hval
  rcases open_slice ht hf with ⟨hc, _⟩ | ⟨ad, len, cap, m, n', D, Pl, hc, hb, hlc, hm, hmm, hx, hel⟩
  · left
    cases v <;> simp_all [Cell.okWide, Cell.ok, Value.cells]
  · right
    have hv : v = .slice (some ad) len cap := by
      cases v <;> simp_all [Cell.okWide, Cell.ok, Value.cells]
    subst hv
    have hh : W.has P .any base ad a cap := by
      have : Cell.ok P W .any base t (.slice (some ad) len cap) := by simpa [Cell.okWide, ht] using hval
      simp only [Cell.ok, ht] at this
      exact this.2.2
    obtain ⟨_, hspot, row, cells, hshape, _⟩ := hh
    obtain ⟨r, off, spot⟩ := ad
    simp only at hspot
    subst hspot
    unfold World.shape? at hshape
    split at hshape
    · rename_i cv el z hheap
      refine ⟨r, off, len, cap, cv, el, z, rfl, hlc, hheap, fun i hi j hj => ?_⟩
      have hm' : m = cap := by simpa using hmm
      obtain ⟨cs', h1, h2⟩ := hel i (by omega)
      rw [hT.ct] at h1
      obtain ⟨_, hlen, hcell⟩ := World.cells?_some h1
      obtain ⟨xs, m2, _, hx2, hl2, hn2, he2⟩ := DataW.trod_array hT.ar h2
      have h3 := he2 j hj
      rw [hT.ce, Nat.mul_one] at h3
      obtain ⟨x, hx3⟩ : ∃ x, xs[j]? = some x := ⟨xs[j], List.getElem?_eq_getElem (by omega)⟩
      rw [hx3] at h3
      obtain ⟨y, c1, c2, c3⟩ := DataW.trod_int hT.el h3
      refine ⟨y, ?_, c3⟩
      have h4 := hcell j hj
      have h5 : cs'[j]? = some (.int k y) := by
        have := congrArg (·[0]?) c1
        simpa using this
      rw [h5, add_add] at h4
      have h6 : (⟨r, off, none⟩ : Addr).add (i * n + j) = ⟨r, off + (i * n + j), none⟩ := Rx.Addr_add _ _ _
      rw [h6] at h4
      simpa [World.cell?, hheap] using h4
    · cases hshape
end
end Go.Proofs.YthclipfgcgoofaaGreat
namespace Go.Proofs.YthclipfgcgoofaaGreat
set_option linter.all false
open Go.RowKit Bu Rx
theorem ofVs_get : ∀ (l : List Value) (j : Nat), (ofVs l)[j]? = (l[j]?).map ofV
  | [], j => by simp [ofVs]
  | v :: l, 0 => by simp [ofVs]
  | v :: l, j + 1 => by simp only [ofVs, List.getElem?_cons_succ]; exact ofVs_get l j
theorem u8_cells {cs : List SV} {o : Nat} (h : ∀ t, t < 8 → ∃ x : Int, cs[o + t]? = some (.i .u32 x) ∧ wN32 x = true) : ckAll cs o u8CK = true ∧ (u8At cs o).ok = true := by
  obtain ⟨x0, e0, w0⟩ := h 0 (by omega)
  obtain ⟨x1, e1, w1⟩ := h 1 (by omega)
  obtain ⟨x2, e2, w2⟩ := h 2 (by omega)
  obtain ⟨x3, e3, w3⟩ := h 3 (by omega)
  obtain ⟨x4, e4, w4⟩ := h 4 (by omega)
  obtain ⟨x5, e5, w5⟩ := h 5 (by omega)
  obtain ⟨x6, e6, w6⟩ := h 6 (by omega)
  obtain ⟨x7, e7, w7⟩ := h 7 (by omega)
  rw [Nat.add_zero] at e0
  constructor
  · unfold u8CK
    simp only [ckAll, ckOk, Nat.add_assoc, Nat.reduceAdd, e0, e1, e2, e3, e4, e5, e6, e7, decide_true, Bool.and_self]
  · unfold u8At U8.ok
    simp only [inAt, e0, e1, e2, e3, e4, e5, e6, e7, w0, w1, w2, w3, w4, w5, w6, w7, Bool.and_self]
theorem rows_mem {W : World} {r off len cap : Nat} {cv : Array Value} {el : TypeId} {z : Nat × Nat} (hh : W.heap[r]? = some (.cells cv el z)) (hc : ∀ i, i < len → ∀ j, j < 8 → ∃ x : Int, cv[off + (i * 8 + j)]? = some (.int .u32 x) ∧ (Lit.int .u32 x).wf = true) :
    ∃ (m : Nms) (cells : List SV), MemAt m W [⟨el, cells, .ro z⟩] ∧ m 0 = some r ∧ prInB NprR ((cells.drop off).take (len * 8)) len = true := by
  have hr : r < W.heap.size := (Array.getElem?_eq_some_iff.1 hh).1
  refine ⟨⟨fun n => if n = 0 then some r else none, fun _ => 0⟩, ofVs cv.toList, ⟨⟨fun n q hq => ?_⟩, fun n n' q _ _ h1 h2 => ?_, fun n b hb => ?_, fun n q hq => ?_⟩, rfl, ?_⟩
  · have hq' : (if n = 0 then some r else none) = some q := hq
    split at hq'
    · cases hq'; exact hr
    · cases hq'
  · have h1' : (if n = 0 then some r else none) = some q := h1
    have h2' : (if n' = 0 then some r else none) = some q := h2
    by_cases e1 : n = 0
    · by_cases e2 : n' = 0
      · rw [e1, e2]
      · rw [if_neg e2] at h2'; cases h2'
    · rw [if_neg e1] at h1'; cases h1'
  · have hn : n = 0 := by
      rcases Nat.lt_or_ge n 1 with h' | h'
      · omega
      · rw [List.getElem?_eq_none (by simpa using h')] at hb; cases hb
    subst hn
    simp only [List.getElem?_cons_zero, Option.some.injEq] at hb
    subst hb
    exact ⟨r, rfl, BlkAt.mk_ro (ofVs_ids _) (dens_ofVs _) (by simpa using hh)⟩
  · have hq' : (if n = 0 then some r else none) = some q := hq
    split at hq'
    · rename_i h0; subst h0; exact Nat.lt_add_one 0
    · cases hq'
  · refine List.all_eq_true.2 fun j hj => ?_
    have hj' := List.mem_range.1 hj
    have h := u8_cells (cs := ((ofVs cv.toList).drop off).take (len * 8)) (o := j * 8) fun t ht => by
      obtain ⟨x, h1, h2⟩ := hc j (by omega) t ht
      refine ⟨x, ?_, u32_w h2⟩
      rw [List.getElem?_take, if_pos (by omega), List.getElem?_drop, ofVs_get]
      have h3 : cv.toList[off + (j * 8 + t)]? = some (.int .u32 x) := by simpa using h1
      rw [h3]; rfl
    rw [Bool.and_eq_true]
    refine ⟨h.1, ?_⟩
    have h2 := h.2
    unfold prgB
    generalize u8At (((ofVs cv.toList).drop off).take (len * 8)) (j * 8) = u at h2
    have h3 := h2
    unfold U8.ok at h2
    simp only [Bool.and_eq_true] at h2
    obtain ⟨w0, w1, w2, w3, w4, w5, w6, w7⟩ := h2
    show (u.ok && (wN32 u.a3 && (wN32 u.a4 && (wN32 u.a5 && wN32 u.a6)))) = true
    rw [h3, w3, w4, w5, w6]; rfl
end Go.Proofs.YthclipfgcgoofaaGreat
namespace Rx
set_option linter.all false
open Go
theorem runDrawK_ok {P : Program} {E : ExtF} {call : CallF} {Q : Exit → Act → World → Prop} (hP : Good P E) (hcall : CallOk P call) {ops : Array Oper} {k : Nat} {A : List Nat} {s s2 : St} {crs : List CR} (hk : k ≤ ops.size) (hrec : runRec P E call ops (ops.toList.take k) s = some (s2, crs)) (hA : okAnc A ops.toList 0 = true) (hpairs : okPairs A ops s.T.length crs 0 [] = true)
    (hall : ∀ j, k ≤ j → j < ops.size → ∀ i, i < k → (A.getD j 0).testBit i = true) (ho : ObsOk s2.ob) {m : Nms} {a : Act} {w : World} (hs : StAt m s a w) {id : Nat}
    (hq : ∀ m' a' w' fuel listed, listed.size = ops.size → (∀ j, j < ops.size → listed.getD j false = decide (j < k)) → ops.size ≤ fuel + k → StAt m' s2 a' w' → Goes m s.M w m' s2.M w' → wpAny P .any ops Q fuel listed a' w') : (Code.region id ops true).wp P Q a w := by
      obtain ⟨p1, _, p3⟩ := okPairs_ok hpairs
      have hos := runRec_os hrec
      have hdst : ∀ o ∈ ops.toList.take k, ∀ d, o.dst = some d → d < s.T.length := by
        intro o ho d hd
        rw [← hos] at ho
        obtain ⟨c, hc, rfl⟩ := List.mem_map.1 ho
        obtain ⟨i, hi⟩ := List.getElem?_of_mem hc
        exact p1 i c hi d hd
      obtain ⟨hlen, hTl, _, hfin, hcr⟩ := runRec_ok hrec hdst
      have hlen' : crs.length = k := by rw [hlen, List.length_take]; simp; omega
      have hex : ∀ i, i < k → ∃ c, crs[i]? = some c := fun i hi => ⟨crs[i]'(by omega), by simp [hlen', hi]⟩
      refine wp_region_any hP.mixed ?_
      have getIn : ∀ (listed : Array Bool) (j : Nat), listed.getD j false = true → j < listed.size := by
        intro listed j hj
        rcases Nat.lt_or_ge j listed.size with h' | h'
        · exact h'
        · simp [Array.getElem?_eq_none h'] at hj
      have done : ∀ (fuel : Nat) (listed : Array Bool) (m1 : Nms) (a1 : Act) (w1 : World), listed.size = ops.size → (∀ j, j < k → listed.getD j false = true) → (∀ j, k ≤ j → listed.getD j false = false) → ops.size ≤ fuel + k →
          StoreAt m1 (FD crs (fun i => listed.getD i false) (storeOf s)) s.T.length a1 w1 → GoesL m (liveM s.M) w m1 (liveF (FD crs (fun i => listed.getD i false) (storeOf s))) w1 → wpAny P .any ops Q fuel listed a1 w1 := by
        intro fuel listed m1 a1 w1 hsz hp hlast hf hS hg
        have hF : FD crs (fun i => listed.getD i false) (storeOf s) = storeOf s2 := by
          rw [hfin]
          funext kk
          refine FD_congr (fun i c hc _ => ?_) rfl
          refine hp i ?_
          rcases Nat.lt_or_ge i crs.length with h' | h'
          · omega
          · rw [List.getElem?_eq_none h'] at hc; cases hc
        rw [hF, ← hTl] at hS
        rw [hF, liveF_eq] at hg
        refine hq m1 a1 w1 fuel listed hsz (fun j _ => ?_) hf hS.to hg
        by_cases hj : j < k
        · rw [hp j hj, decide_eq_true hj]
        · rw [hlast j (by omega), decide_eq_false hj]
      have allIn : ∀ (listed : Array Bool), listed.size = ops.size → Region.ready .any ops listed = [] → ∀ j, j < ops.size → listed.getD j false = true := by
        intro listed hsz hr j
        induction j using Nat.strongRecOn with
        | _ j ihj =>
          intro hj
          cases hD : listed.getD j false with
          | true => rfl
          | false =>
            exfalso
            have hmem : j ∈ Region.ready .any ops listed := by
              refine mem_ready.2 ⟨?_, ops[j], by simp [hj], fun e he hb => ?_⟩
              · have : j < listed.size := by omega
                simp [this] at hD ⊢
                exact hD
              · have h1 := okAnc_ok hA j ops[j] (by simp [hj])
                rw [Nat.zero_add] at h1
                have hlt := h1.2 e he hb
                exact ihj e.on hlt (by omega)
            rw [hr] at hmem; cases hmem
      have main : ∀ (fuel : Nat) (listed : Array Bool) (R : List Nat) (m1 : Nms) (a1 : Act) (w1 : World), listed.size = ops.size →
          (∀ (j : Nat) (o : Oper), ops[j]? = some o → listed.getD j false = true → ∀ e ∈ o.after, Region.binds .any e = true → listed.getD e.on false = true) →
          (∀ j, j < k → listed.getD j false = true ∨ j ∈ R) → (∀ j, k ≤ j → listed.getD j false = false) → R.length + (ops.size - k) ≤ fuel →
          StoreAt m1 (FD crs (fun i => listed.getD i false) (storeOf s)) s.T.length a1 w1 → GoesL m (liveM s.M) w m1 (liveF (FD crs (fun i => listed.getD i false) (storeOf s))) w1 → wpAny P .any ops Q fuel listed a1 w1 := by
        intro fuel
        induction fuel with
        | zero =>
          intro listed R m1 a1 w1 hsz hcl hrem hlast hR hS hg
          have hR0 : R = [] := by cases R with | nil => rfl | cons x l => simp at hR
          exact done 0 listed m1 a1 w1 hsz (fun j hj => (hrem j hj).resolve_right (by rw [hR0]; simp)) hlast (by omega) hS hg
        | succ fuel ih =>
          intro listed R m1 a1 w1 hsz hcl hrem hlast hR hS hg
          by_cases hp : ∀ j, j < k → listed.getD j false = true
          · exact done (fuel + 1) listed m1 a1 w1 hsz hp hlast (by omega) hS hg
          refine ⟨fun hr => absurd (fun j hj => allIn listed hsz hr j (by omega)) hp, fun i hi => ?_⟩
          obtain ⟨hun, o, hio, hpre⟩ := mem_ready.1 hi
          have hlt : i < ops.size := (Array.getElem?_eq_some_iff.1 hio).1
          have hltl : i < listed.size := by omega
          have hDi : listed.getD i false = false := by simp [hltl] at hun ⊢; exact hun
          have hanc := ancs_in (D := fun i => listed.getD i false) (listed := listed) hA (fun _ => rfl) hsz hcl
          have hik : i < k := by
            rcases Nat.lt_or_ge i k with h' | h'
            · exact h'
            · exact absurd (fun j hj => hanc i o hio hpre j (hall i h' hlt j hj)) hp
          obtain ⟨c, hc⟩ := hex i hik
          obtain ⟨g1, g2, g3, s1, g4, g5, g6⟩ := hcr i c hc
          have hco : ops[i]? = some c.o := by
            rw [List.getElem?_take, if_pos hik] at g1
            simpa using g1
          have hoc : o = c.o := by rw [hio] at hco; exact Option.some.inj hco
          subst hoc
          have order : ∀ k, (k ∈ usesOf ops c ∨ k ∈ wKeys c) → ∀ (i' : Nat) (c' : CR), crs[i']? = some c' → k ∈ wKeys c' → i' ≠ i → listed.getD i' false = decide (i' < i) := by
            intro k hk i' c' hc' hk' hne
            have hlt' : i' < ops.size := by
              rcases Nat.lt_or_ge i' crs.length with h' | h'
              · omega
              · rw [List.getElem?_eq_none h'] at hc'; cases hc'
            rcases Nat.lt_or_gt_of_ne hne with hl | hl
            · rw [decide_eq_true hl]
              rcases p3 i' i c' c hl hc' hc with h1 | h1
              · rw [Nat.zero_add, Nat.zero_add] at h1
                exact hanc i _ hio hpre i' h1
              · exact ((h1 k).1 hk' hk).elim
            · rw [decide_eq_false (by omega)]
              cases hD' : listed.getD i' false with
              | false => rfl
              | true =>
                exfalso
                have hio' : ops[i']? = some ops[i'] := by simp [hlt']
                rcases p3 i i' c c' hl hc hc' with h1 | h1
                · rw [Nat.zero_add, Nat.zero_add] at h1
                  have := hanc i' _ hio' (hcl i' _ hio' hD') i h1
                  exact absurd (hDi.symm.trans this) (by decide)
                · rcases hk with hk | hk
                  · exact (h1 k).2 hk hk'
                  · exact (h1 k).1 hk (.inr hk')
          have hag : ∀ k, k ∈ usesOf ops c ∨ k ∈ wKeys c → FD crs (fun i => listed.getD i false) (storeOf s) k = storeOf c.s k := by
            intro k hk
            rw [g3]
            refine FD_congr (fun i' c' hc' hk' => ?_) rfl
            by_cases hne : i' = i
            · subst hne; rw [hDi]; simp
            · exact order k hk i' c' hc' hk' hne
          have hds : ∀ d, c.o.dst = some d → d < s.T.length := fun d hd => p1 i c hc d hd
          obtain ⟨hs1, _⟩ := stepOp_store g4 (by rw [g2]; exact hds)
          have hset : ∀ j, (listed.setIfInBounds i true).getD j false = if j = i then true else listed.getD j false := by
            intro j
            by_cases e : j = i
            · subst e; simp [hltl]
            · rw [if_neg e, getD_set_ne false (fun h => e h.symm)]
          have hFD : FD crs (fun j => (listed.setIfInBounds i true).getD j false) (storeOf s) = upd (writes c) (FD crs (fun i => listed.getD i false) (storeOf s)) := by
            funext k
            by_cases hk : k ∈ wKeys c
            · have h1 : k ∈ (writes c).map (·.1) := by rw [wKeys_eq]; exact hk
              have h2 : upd (writes c) (FD crs (fun i => listed.getD i false) (storeOf s)) k = storeOf s1 k := by
                rw [hs1]; exact upd_same h1
              rw [h2, g5]
              refine FD_congr (fun i' c' hc' hk' => ?_) rfl
              rw [hset]
              by_cases hne : i' = i
              · subst hne; simp
              · rw [if_neg hne, order k (.inr hk) i' c' hc' hk' hne]
                by_cases hl : i' < i
                · simp [hl, Nat.le_of_lt hl]
                · have : ¬ i' ≤ i := by omega
                  simp [hl, this]
            · have h1 : k ∉ (writes c).map (·.1) := by rw [wKeys_eq]; exact hk
              rw [upd_other h1]
              refine FD_congr (fun i' c' hc' hk' => ?_) rfl
              rw [hset]
              by_cases hne : i' = i
              · subst hne
                rw [hc] at hc'
                simp only [Option.some.injEq] at hc'; subst hc'
                exact absurd hk' hk
              · rw [if_neg hne]
          have ho1 : ObsOk s1.ob := g6.ok ho
          refine draw_step hP hcall hco g4 ho1 g2 hds hS hag fun m' a' w' hS' hg' => ?_
          rw [← hFD] at hS' hg'
          refine ih (listed.setIfInBounds i true) (R.erase i) m' a' w' (by simpa using hsz) ?_ ?_ ?_ ?_ hS' (hg.trans hg')
          · intro j oj hj hDj e he hb
            rw [hset]
            by_cases e1 : e.on = i
            · rw [if_pos e1]
            · rw [if_neg e1]
              rw [hset] at hDj
              by_cases e2 : j = i
              · subst e2
                rw [hio] at hj
                simp only [Option.some.injEq] at hj; subst hj
                exact hpre e he hb
              · rw [if_neg e2] at hDj
                exact hcl j oj hj hDj e he hb
          · intro j hj
            rw [hset]
            by_cases e2 : j = i
            · left; rw [if_pos e2]
            · rw [if_neg e2]
              rcases hrem j hj with h1 | h1
              · exact .inl h1
              · exact .inr ((List.mem_erase_of_ne e2).2 h1)
          · intro j hj
            rw [hset, if_neg (by omega)]
            exact hlast j hj
          · have hin : i ∈ R := (hrem i hik).resolve_left (by rw [hDi]; simp)
            have hR' := List.length_pos_of_mem hin
            rw [List.length_erase_of_mem hin]; omega
      have hnone : ∀ (crs : List CR) (D : Nat → Bool) (F : Nat → Option Val), (∀ i, D i = false) → FD crs D F = F := by
        intro crs
        induction crs with
        | nil => intro D F _; rfl
        | cons c r ih => intro D F hD; unfold FD; rw [hD 0]; exact ih _ _ fun i => hD (i + 1)
      have hfalse : ∀ j, (Array.replicate ops.size false).getD j false = false := by
        intro j
        rcases Nat.lt_or_ge j ops.size with h' | h' <;> simp [h']
      have hs' : StAt m s a { w with drawn := w.drawn + 1 } := ⟨hs.tm, hs.df, ⟨⟨hs.mem.ok.lt⟩, hs.mem.inj, fun n b hb => let ⟨r, hr, hat⟩ := hs.mem.blk n b hb; ⟨r, hr, hat.ext (Ext.refl m) hr rfl⟩, hs.mem.dom⟩⟩
      refine main ops.size _ (List.range k) m a _ (by simp) ?_ ?_ (fun j _ => hfalse j) (by simp; omega) ?_ ?_
      · intro j o _ hD
        rw [hfalse] at hD; cases hD
      · intro j hj; right; simpa using hj
      · rw [hnone _ _ _ hfalse]
        exact StoreAt.of hs'
      · rw [hnone _ _ _ hfalse, liveF_eq]
        exact ⟨Ext.refl m, Fr.drew _ w, fun n r h => .inl h, fun _ _ _ h => h⟩
theorem run_bind_ok {α β : Type} {P : Program} {x : Sem α} {f : α → Sem β} {w w' : World} {v : α} (h : x.run P w = .ok v w') : (x >>= f).run P w = (f v).run P w' := by
  rw [Sem.run_bind, h]; rfl
theorem max2_any (P : Program) (x y : Nat) (w : World) : ∃ b n, (Builtin.max2 (.float .f64 x) (.float .f64 y)).run P w = .ok (.float .f64 b) { w with drawn := w.drawn + n } := by
  unfold Builtin.max2
  simp only []
  cases FloatKind.f64.format.order x y with
  | none =>
    by_cases q : (Question.nanMinMax FloatKind.f64 true x y).forced = true
    · exact ⟨0, 0, by simp only [choose, bind, pure, Sem.bind, Sem.run, q, if_true, Nat.add_zero]⟩
    · exact ⟨_, 1, by simp only [choose, bind, pure, Sem.bind, Sem.run, q]; rfl⟩
  | some o => cases o <;> exact ⟨_, 0, rfl⟩
theorem max3_any (P : Program) (ts : Array TypeId) (t : TypeId) (x y z : Nat) (w : World) : ∃ b n, (Builtin.max_ ts t #[.float .f64 x, .float .f64 y, .float .f64 z]).run P w = .ok (.float .f64 b) { w with drawn := w.drawn + n } := by
  obtain ⟨b, n, h⟩ := max2_any P x y w
  obtain ⟨c, k, h'⟩ := max2_any P b z { w with drawn := w.drawn + n }
  refine ⟨c, n + k, ?_⟩
  show (([.float .f64 y, .float .f64 z] : List Value).foldlM Builtin.max2 (.float .f64 x)).run P w = _
  simp only [List.foldlM]
  rw [run_bind_ok h, run_bind_ok h']
  simp only [pure, Sem.run, Nat.add_assoc]
end Rx
namespace Go.Proofs.YthclipfgcgoofaaGreat
set_option linter.all false
open Go.RowKit Bu Rx
def kAbsW : List SV → Dec → Option (SV × Dec × Obs)
  | [.f x], ds => some (.f (x % 9223372036854775808), ds, [(Nat.blt x 18446744073709551616, true)])
  | _, _ => none
theorem absWG : PlainOk Tryz.prog 50 kAbsW := by
  intro args ds x ds' ob h ho
  unfold kAbsW at h
  split at h
  · rename_i x
    simp only [Option.some.injEq, Prod.mk.injEq] at h
    obtain ⟨rfl, _, rfl⟩ := h
    have hx : x < 18446744073709551616 := by have h := ho _ (List.mem_singleton.2 rfl); rw [Nat.blt_eq] at h; exact h
    exact ⟨[.float .f64 x], _, rfl, rfl, fun w => (abs_w x w hx).mono fun e w' ⟨h1, h2⟩ => ⟨h1, h2 ▸ Below.refl _ _⟩⟩
  · cases h
def OUw : OracleF := lookO [(50, plainO kAbsW), (51, plainO oRight)]
theorem oracleUw : OracleOk Tryz.prog OUw := .cons absWG.of (.cons rightG.of (.nil _))
noncomputable def uwC : Code := bodyOf Tryz.prog 16
theorem uwBody : Tryz.f16.body = some uwC := by kernel_rfl
def opsOf : Code → Array Oper | .region _ o _ => o | _ => #[]
def idOf : Code → Nat | .region i _ _ => i | _ => 0
noncomputable def uwR0 : Code := seqL uwC
noncomputable def uwR1 : Code := seqL (seqR uwC)
noncomputable def uwTl : Code := seqR (seqR uwC)
noncomputable def uwOps : Array Oper := opsOf uwR1
theorem uwCut : uwC = .seq uwR0 (.seq (.region (idOf uwR1) uwOps true) uwTl) := by kernel_rfl
noncomputable def uwS (x y z : Nat) (d : Dec) : St := ⟨[.agg [.f x, .f y, .f z]] ++ List.replicate (Tryz.f16.ntmps - 1) (.tup []), [], d, []⟩
noncomputable abbrev uw0 (x y z : Nat) : St := aft Tryz.prog EG OUw 60 uwR0 (uwS x y z none)
theorem uwL0 (x y z : Nat) : Lands Tryz.prog EG OUw 60 uwR0 (uwS x y z none) .normal := by unfold Lands; kernel_rfl
theorem uwO0 (x y z : Nat) : (uw0 x y z).ob = [] := by kernel_rfl
noncomputable def uwRec (x y z : Nat) : Option (St × List CR) := runRec Tryz.prog EG (run Tryz.prog EG OUw 60).1 uwOps (uwOps.toList.take 9) (uw0 x y z)
noncomputable def uw1 (x y z : Nat) : St := match uwRec x y z with | some (s, _) => s | none => uw0 x y z
noncomputable def uwCr (x y z : Nat) : List CR := match uwRec x y z with | some (_, c) => c | none => []
theorem uwRec_eq (x y z : Nat) : uwRec x y z = some (uw1 x y z, uwCr x y z) := by kernel_rfl
noncomputable def uwA : List Nat := ancs uwOps.toList []
theorem uwA_ok : okAnc uwA uwOps.toList 0 = true := by kernel_rfl
theorem uwPairs (x y z : Nat) : okPairs uwA uwOps (uw0 x y z).T.length (uwCr x y z) 0 [] = true := by kernel_rfl
theorem uw1_ob (x y z : Nat) : (uw1 x y z).ob = [(Nat.blt z 18446744073709551616, true), (Nat.blt y 18446744073709551616, true), (Nat.blt x 18446744073709551616, true)] := by kernel_rfl
theorem uwSz : uwOps.size = 11 := by kernel_rfl
theorem uwAll : ((List.range 11).all fun j => Nat.blt j 9 || (List.range 9).all fun i => (uwA.getD j 0).testBit i) = true := by kernel_rfl
end Go.Proofs.YthclipfgcgoofaaGreat
namespace Rx
set_option linter.all false
open Go
theorem exec_max3 {P : Program} {ρ : Operand → Value} {c : Call} {o : Oper} {x y z : Nat} {w : World} (hop : o.op = .call c) (hc : c.callee = .builtin .max) (p q r : Operand) (ha : c.args = #[p, q, r]) (h1 : ρ p = .float .f64 x) (h2 : ρ q = .float .f64 y) (h3 : ρ r = .float .f64 z) :
    ∃ b n, (execOp ρ o).run P w = .ok (.value (.float .f64 b)) { w with drawn := w.drawn + n } := by
  obtain ⟨b, n, h⟩ := max3_any P c.argTypes o.type x y z w
  refine ⟨b, n, ?_⟩
  simp only [execOp, hop, resolve, hc, ha, invoke, builtin, Sem.run_bind, Sem.run_pure, Result.andThen_ok, List.map_toArray, List.map_cons, List.map_nil, h1, h2, h3, h]
theorem mem_drew {m : Nms} {w : World} {M : List Blk} (h : MemAt m w M) (n : Nat) : MemAt m { w with drawn := n } M :=
  ⟨⟨h.ok.lt⟩, h.inj, fun k b hb => let ⟨r, hr, hat⟩ := h.blk k b hb; ⟨r, hr, hat.ext (Ext.refl m) hr rfl⟩, h.dom⟩
theorem goes_drew (m : Nms) (M : List Blk) (w : World) (n : Nat) : Goes m M w m M { w with drawn := n } :=
  ⟨Ext.refl m, ⟨rfl, rfl, rfl, Nat.le_refl _, fun _ _ _ => rfl⟩, fun _ _ h => .inl h, fun _ _ _ h => h⟩
theorem st_put {m : Nms} {s : St} {a : Act} {w : World} (h : StAt m s a w) {x : SV} {v : Value} (hx : den m x = some v) (dst : Option Tmp) (n : Nat) : StAt m ⟨putT dst x s.T, s.M, s.ds, s.ob⟩ (a.put dst v) { w with drawn := n } :=
  ⟨putT_ok h.tm hx dst, by cases dst <;> exact h.df, mem_drew h.mem n⟩
theorem den_f (m : Nms) (n : Nat) : den m (.f n) = some (.float .f64 n) := rfl
theorem st_ev {m : Nms} {s : St} {a : Act} {w : World} (h : StAt m s a w) {t : Nat} {v : SV} {u : Value} (h1 : s.T[t]? = some v) (h2 : den m v = some u) : a.eval (.tmp t) = u := by
  obtain ⟨u', h3, h4⟩ := dens_get h.tm h1
  rw [h2] at h4
  obtain rfl := Option.some.inj h4
  have h5 : a.tmps[t]? = some u := by simpa using h3
  simp [Act.eval, h5]
theorem tail_max {P : Program} {Q : Exit → Act → World → Prop} {ops : Array Oper} {ls : Array Bool} {i j f p q r d e : Nat} {oi oj : Oper} {c : Call} (h1 : ops[i]? = some oi) (h2 : ops[j]? = some oj) (r1 : Region.ready .any ops ls = [i]) (r2 : Region.ready .any ops (ls.setIfInBounds i true) = [j]) (r3 : Region.ready .any ops ((ls.setIfInBounds i true).setIfInBounds j true) = [])
    (op1 : oi.op = .call c) (cal : c.callee = .builtin .max) (ar : c.args = #[.tmp p, .tmp q, .tmp r]) (d1 : oi.dst = some d) (g1 : oi.guard = none) (op2 : oj.op = .assign (.tmp d)) (d2 : oj.dst = some e) (g2 : oj.guard = none)
    {m : Nms} {s : St} {a : Act} {w : World} {x y z : Nat} (hs : StAt m s a w) (t1 : s.T[p]? = some (.f x)) (t2 : s.T[q]? = some (.f y)) (t3 : s.T[r]? = some (.f z)) (t4 : ∀ b, (putT (some d) (.f b) s.T)[d]? = some (.f b))
    (fin : ∀ b n a', StAt m ⟨putT (some e) (.f b) (putT (some d) (.f b) s.T), s.M, s.ds, s.ob⟩ a' { w with drawn := n } → Q .normal a' { w with drawn := n }) : wpAny P .any ops Q (f + 2) ls a w := by
  refine ⟨fun hr => absurd (hr.symm.trans r1) (by simp), fun k hk => ?_⟩
  rw [r1, List.mem_singleton] at hk
  subst hk
  unfold wpOp
  simp only [h1]
  rw [if_pos (by unfold Region.wanted; rw [g1])]
  left
  obtain ⟨b, n, he⟩ := exec_max3 (P := P) (ρ := a.eval) (w := w) op1 cal (.tmp p) (.tmp q) (.tmp r) ar (st_ev hs t1 (den_f _ _)) (st_ev hs t2 (den_f _ _)) (st_ev hs t3 (den_f _ _))
  unfold Oper.wp
  rw [he, Oper.upon_value, d1]
  have s2 : StAt m ⟨putT (some d) (.f b) s.T, s.M, s.ds, s.ob⟩ (a.put (some d) (.float .f64 b)) { w with drawn := w.drawn + n } := st_put (x := .f b) (v := .float .f64 b) hs (den_f _ _) (some d) (w.drawn + n)
  refine ⟨fun hr => absurd (hr.symm.trans r2) (by simp), fun k hk => ?_⟩
  rw [r2, List.mem_singleton] at hk
  subst hk
  unfold wpOp
  simp only [h2]
  rw [if_pos (by unfold Region.wanted; rw [g2])]
  left
  have e17 : (a.put (some d) (.float .f64 b)).eval (.tmp d) = .float .f64 b := st_ev s2 (t4 b) (den_f _ _)
  unfold Oper.wp
  have he2 : (execOp (a.put (some d) (.float .f64 b)).eval oj).run P { w with drawn := w.drawn + n } = .ok (.value (.float .f64 b)) { w with drawn := w.drawn + n } := by
    simp only [execOp, op2, e17, Sem.run_pure]
  rw [he2, Oper.upon_value, d2]
  have s3 := st_put (x := .f b) (v := .float .f64 b) s2 (den_f _ _) (some e) (w.drawn + n)
  have fn := fin b (w.drawn + n) _ s3
  cases f with
  | zero => exact ⟨r3, fn⟩
  | succ f =>
    refine ⟨fun _ => fn, fun k hk => ?_⟩
    rw [r3] at hk; cases hk
end Rx
namespace Go.Proofs.YthclipfgcgoofaaGreat
set_option linter.all false
open Go.RowKit Bu Rx
theorem uw9s : (uwOps[9]?).isSome = true := by kernel_rfl
theorem uw10s : (uwOps[10]?).isSome = true := by kernel_rfl
noncomputable def uw9 : Oper := (uwOps[9]?).get uw9s
noncomputable def uw10 : Oper := (uwOps[10]?).get uw10s
def callOf : Op → Option Call | .call c => some c | _ => none
theorem uw9c : (callOf uw9.op).isSome = true := by kernel_rfl
noncomputable def uw9k : Call := (callOf uw9.op).get uw9c
theorem uw9op : uw9.op = .call uw9k := by kernel_rfl
theorem uw9ca : uw9k.callee = .builtin .max := by kernel_rfl
theorem uw9ar : uw9k.args = #[.tmp 10, .tmp 13, .tmp 16] := by kernel_rfl
theorem uw9d : uw9.dst = some 17 := by kernel_rfl
theorem uw9g : uw9.guard = none := by kernel_rfl
theorem uw10op : uw10.op = .assign (.tmp 17) := by kernel_rfl
theorem uw10d : uw10.dst = some 4 := by kernel_rfl
theorem uw10g : uw10.guard = none := by kernel_rfl
def uwLs : Array Bool := #[true, true, true, true, true, true, true, true, true, false, false]
theorem uwRdy : Region.ready .any uwOps uwLs = [9] := by kernel_rfl
theorem uwRdy2 : Region.ready .any uwOps (uwLs.setIfInBounds 9 true) = [10] := by kernel_rfl
theorem uwRdy3 : Region.ready .any uwOps ((uwLs.setIfInBounds 9 true).setIfInBounds 10 true) = [] := by kernel_rfl
theorem uwT10 (x y z : Nat) : (uw1 x y z).T[10]? = some (.f (x % 9223372036854775808)) := by kernel_rfl
theorem uwT13 (x y z : Nat) : (uw1 x y z).T[13]? = some (.f (y % 9223372036854775808)) := by kernel_rfl
theorem uwT16 (x y z : Nat) : (uw1 x y z).T[16]? = some (.f (z % 9223372036854775808)) := by kernel_rfl
theorem uwT17 (x y z b : Nat) : (putT (some 17) (.f b) (uw1 x y z).T)[17]? = some (.f b) := by kernel_rfl
def uwBs (s : St) (b : Nat) : St := ⟨putT (some 4) (.f b) (putT (some 17) (.f b) s.T), s.M, s.ds, s.ob⟩
noncomputable def uwB (x y z b : Nat) : St := uwBs (uw1 x y z) b
theorem uwAll_at {j i : Nat} (hj : 9 ≤ j) (hj2 : j < uwOps.size) (hi : i < 9) : (uwA.getD j 0).testBit i = true := by
  rw [uwSz] at hj2
  have h := List.all_eq_true.1 uwAll j (List.mem_range.2 hj2)
  rw [Bool.or_eq_true] at h
  rcases h with h | h
  · rw [Nat.blt_eq] at h; omega
  · exact List.all_eq_true.1 h i (List.mem_range.2 hi)
theorem uwLs_of {l : Array Bool} (hs : l.size = uwOps.size) (h : ∀ j, j < uwOps.size → l.getD j false = decide (j < 9)) : l = uwLs := by
  rw [uwSz] at hs h
  refine Array.ext hs fun i h1 h2 => ?_
  have e := h i (by omega)
  rw [Array.getD_eq_getD_getElem?, Array.getElem?_eq_getElem h1, Option.getD_some] at e
  rw [e]
  have h3 : i < 11 := by omega
  clear e h1
  match i, h3 with
  | 0, _ | 1, _ | 2, _ | 3, _ | 4, _ | 5, _ | 6, _ | 7, _ | 8, _ | 9, _ | 10, _ => rfl
set_option maxRecDepth 100000 in
set_option maxHeartbeats 4000000 in
theorem uwMax {x y z : Nat} (hx : x < 18446744073709551616) (hy : y < 18446744073709551616) (hz : z < 18446744073709551616) : RunsP Tryz.prog (.region (idOf uwR1) uwOps true) (uw0 x y z) .normal (fun t => ∃ b, t = uwB x y z b) := by
  intro m a w Q hs hq
  have hob : ObsOk (uw1 x y z).ob := by
    rw [uw1_ob]
    intro p hp
    simp only [List.mem_cons, List.not_mem_nil, or_false] at hp
    rcases hp with rfl | rfl | rfl <;> (rw [Nat.blt_eq]; assumption)
  refine runDrawK_ok goodG (run_ok goodG oracleUw 60).1 (k := 9) (by rw [uwSz]; decide) (uwRec_eq x y z) uwA_ok (uwPairs x y z) (fun j h1 h2 i h3 => uwAll_at h1 h2 h3) hob hs (fun m' a' w' fuel listed hsz hl hf hs' hg' => ?_)
  obtain rfl := uwLs_of hsz hl
  rw [uwSz] at hf
  obtain ⟨f, rfl⟩ : ∃ f, fuel = f + 2 := ⟨fuel - 2, by omega⟩
  have h9 : uwOps[9]? = some uw9 := (Option.some_get uw9s).symm
  have h10 : uwOps[10]? = some uw10 := (Option.some_get uw10s).symm
  have t10 := uwT10 x y z; have t13 := uwT13 x y z; have t16 := uwT16 x y z; have t17 := uwT17 x y z
  have hq' : ∀ b a'' n, StAt m' (uwBs (uw1 x y z) b) a'' { w' with drawn := n } → Goes m (uw0 x y z).M w m' (uwBs (uw1 x y z) b).M { w' with drawn := n } → Q (exOf .normal) a'' { w' with drawn := n } := fun b a'' n h1 h2 => hq _ m' a'' _ ⟨b, rfl⟩ h1 h2
  generalize uw1 x y z = s at hs' hg' t10 t13 t16 t17 hq'
  clear hob hq hs
  generalize (uw0 x y z).M = M0 at *
  exact tail_max h9 h10 uwRdy uwRdy2 uwRdy3 uw9op uw9ca uw9ar uw9d uw9g uw10op uw10d uw10g hs' t10 t13 t16 t17 fun b n a'' s3 => hq' b a'' n s3 (hg'.trans (goes_drew m' _ w' n))
end Go.Proofs.YthclipfgcgoofaaGreat
namespace Rx
set_option linter.all false
open Go Go.RowKit
theorem calls_of_runsP {P : Program} {g : FuncId} {fn : Func} {c : Code} {args : List SV} {Φ : St → Prop} {x : SV} {vs : List Value} {v : Value} (hg : P.funcs[g]? = some fn) (hb : fn.body = some c)
    (h : RunsP P c ⟨args ++ List.replicate (fn.ntmps - args.length) (.tup []), [], none, []⟩ .ret Φ) (hx : ∀ t, Φ t → resultS P fn t = some x) (hvs : plains args = some vs) (hv : plain x = some v) (w : World) :
    Calls P g vs.toArray w fun e w' => e = .returned v ∧ Below w.heap.size w w' :=
  (RunsP.call (x := fun _ => x) hg hb h hx (dens_plains (m := Nms.no) hvs) (MemAt.no w)).mono fun e w' ⟨t, m', u, _, h2, h3, _, h5⟩ => by
    have h6 := den_plain (m := m') hv
    rw [h3] at h6
    obtain rfl := Option.some.inj h6
    exact ⟨h2, h5.none⟩
theorem RunsP.any {P : Program} {c : Code} {s : St} {d : Dec} {ex : Ex} {Φ : St → Prop} (k : RunsP P c ⟨s.T, s.M, d, []⟩ ex Φ) : RunsP P c s ex Φ := k.retell (SameSt.same s.T s.M d s.ds [] s.ob)
end Rx
namespace Go.Proofs.YthclipfgcgoofaaGreat
set_option linter.all false
open Go.RowKit Bu Rx
noncomputable def uwQ (x y z b : Nat) (d : Dec) : St := ⟨(uwB x y z b).T, (uwB x y z b).M, d, []⟩
def uw50 : SV := .tup [V3.zero.sv, .i .i64 50]
def uwD0 : Dec := some [false]
def uwD1 : Dec := some [true, false]
def uwD2 : Dec := some [true, true, false]
theorem uwF0 (x y z b : Nat) : Lands Tryz.prog EG OUw 60 uwTl (uwQ x y z b uwD0) .ret := by unfold Lands; kernel_rfl
theorem uwF1 (x y z b : Nat) : Lands Tryz.prog EG OUw 60 uwTl (uwQ x y z b uwD1) .ret := by unfold Lands; kernel_rfl
theorem uwF2 (x y z b : Nat) : Lands Tryz.prog EG OUw 60 uwTl (uwQ x y z b uwD2) .ret := by unfold Lands; kernel_rfl
theorem uwE0 (x y z b : Nat) : (aft Tryz.prog EG OUw 60 uwTl (uwQ x y z b uwD0)).ob = [(Nat.blt x 18446744073709551616, true), (rightB x, false)] := by kernel_rfl
theorem uwE1 (x y z b : Nat) : (aft Tryz.prog EG OUw 60 uwTl (uwQ x y z b uwD1)).ob = [(Nat.blt y 18446744073709551616, true), (rightB y, false), (rightB x, true)] := by kernel_rfl
theorem uwE2 (x y z b : Nat) : (aft Tryz.prog EG OUw 60 uwTl (uwQ x y z b uwD2)).ob = [(Nat.blt z 18446744073709551616, true), (rightB z, false), (rightB y, true), (rightB x, true)] := by kernel_rfl
theorem uwV0 (x y z b : Nat) : resultS Tryz.prog Tryz.f16 (aft Tryz.prog EG OUw 60 uwTl (uwQ x y z b uwD0)) = some uw50 := by kernel_rfl
theorem uwV1 (x y z b : Nat) : resultS Tryz.prog Tryz.f16 (aft Tryz.prog EG OUw 60 uwTl (uwQ x y z b uwD1)) = some uw50 := by kernel_rfl
theorem uwV2 (x y z b : Nat) : resultS Tryz.prog Tryz.f16 (aft Tryz.prog EG OUw 60 uwTl (uwQ x y z b uwD2)) = some uw50 := by kernel_rfl
def rt3W (x y z : Nat) : Bool := rightB x && rightB y && rightB z
set_option maxRecDepth 100000 in
theorem uwTail {x y z : Nat} (hx : x < 18446744073709551616) (hy : y < 18446744073709551616) (hz : z < 18446744073709551616) (h : rt3W x y z = false) (b : Nat) : RunsP Tryz.prog uwTl (uwB x y z b) .ret (fun t => resultS Tryz.prog Tryz.f16 t = some uw50) := by
  have bl : ∀ {n : Nat}, n < 18446744073709551616 → Nat.blt n 18446744073709551616 = true := fun h => by rw [Nat.blt_eq]; exact h
  have q : ∀ d, RunsP Tryz.prog uwTl (uwQ x y z b d) .ret (fun t => resultS Tryz.prog Tryz.f16 t = some uw50) → RunsP Tryz.prog uwTl (uwB x y z b) .ret (fun t => resultS Tryz.prog Tryz.f16 t = some uw50) := fun d k => RunsP.any (d := d) k
  unfold rt3W at h
  cases h1 : rightB x
  · exact q uwD0 ((Lands.runs goodG oracleUw (uwF0 x y z b) (by rw [uwE0]; exact ObsOk.of_B (obsB_yes (bl hx) (obsB_yes h1 obsB_nil)))).mono fun t ht => by rw [ht]; exact uwV0 x y z b)
  cases h2 : rightB y
  · exact q uwD1 ((Lands.runs goodG oracleUw (uwF1 x y z b) (by rw [uwE1]; exact ObsOk.of_B (obsB_yes (bl hy) (obsB_yes h2 (obsB_yes h1 obsB_nil))))).mono fun t ht => by rw [ht]; exact uwV1 x y z b)
  cases h3 : rightB z
  · exact q uwD2 ((Lands.runs goodG oracleUw (uwF2 x y z b) (by rw [uwE2]; exact ObsOk.of_B (obsB_yes (bl hz) (obsB_yes h3 (obsB_yes h2 (obsB_yes h1 obsB_nil)))))).mono fun t ht => by rw [ht]; exact uwV2 x y z b)
  rw [h1, h2, h3] at h
  cases h
def kUw : List SV → Dec → Option (SV × Dec × Obs)
  | [.agg [.f x, .f y, .f z]], ds => some (uw50, ds, [(Nat.blt x 18446744073709551616, true), (Nat.blt y 18446744073709551616, true), (Nat.blt z 18446744073709551616, true), (rt3W x y z, false)])
  | _, _ => none
set_option maxRecDepth 100000 in
theorem unWG : PlainOk Tryz.prog 16 kUw := by
  intro args ds r ds' ob h ho
  unfold kUw at h
  split at h
  · rename_i x y z
    simp only [Option.some.injEq, Prod.mk.injEq] at h
    obtain ⟨rfl, _, rfl⟩ := h
    have bl : ∀ {n : Nat}, Nat.blt n 18446744073709551616 = true → n < 18446744073709551616 := fun h => by rw [Nat.blt_eq] at h; exact h
    have hx := bl (ho _ (List.mem_cons_self ..))
    have hy := bl (ho _ (List.mem_cons_of_mem _ (List.mem_cons_self ..)))
    have hz := bl (ho _ (List.mem_cons_of_mem _ (List.mem_cons_of_mem _ (List.mem_cons_self ..))))
    have hr : rt3W x y z = false := ho _ (List.mem_cons_of_mem _ (List.mem_cons_of_mem _ (List.mem_cons_of_mem _ (List.mem_cons_self ..))))
    refine ⟨[.agg #[.float .f64 x, .float .f64 y, .float .f64 z]], .tuple #[.agg #[.float .f64 F.zero.b, .float .f64 F.zero.b, .float .f64 F.zero.b, .float .f64 F.zero.b, .float .f64 F.zero.b, .float .f64 F.zero.b], .int .i64 50], rfl, rfl, fun w => ?_⟩
    refine calls_of_runsP (x := uw50) (args := [.agg [.f x, .f y, .f z]]) Tryz.func16 uwBody (Φ := fun t => resultS Tryz.prog Tryz.f16 t = some uw50) ?_ (fun t h => h) rfl rfl w
    rw [uwCut]
    show RunsP Tryz.prog _ (uwS x y z none) .ret _
    refine Lands.seq goodG oracleUw (uwL0 x y z) (show ObsOk (uw0 x y z).ob by rw [uwO0]; exact ObsOk.of_B obsB_nil) ?_
    exact RunsP.seq (uwMax hx hy hz) fun t ⟨b, ht⟩ => by rw [ht]; exact uwTail hx hy hz hr b
  · cases h
def ODR (K : Kk) (N : Kq) : OracleF := lookO (OCL K ++ [(178, plainO (kSC N.ib N.si N.co)), (63, plainO (kOf N.uo N.u))])
def drA0 (v : V3) (al : I) (a b : Int) : List SV := [v.sv, ivS al, .si .u64 a, .si .u64 b]
def t13 : List Bool := [true, true, true, true, true, true, true, true, true, true, true, true, true]
def drOq (N : Kq) (v : V3) (al : I) (b : Int) : Obs := (N.ib (N.uo b), true) :: (N.u b, true) :: (dirO v ++ alO al)
theorem drRunA0 (K : Kk) (N : Kq) (v : V3) (al : I) (a b : Int) : valR ((run Tryz.prog EG (ODR K N) 80).1 121 (drA0 v al a b) [] (some (t13 ++ [true, true, false]))) =
    some (.tup [V3.zero.sv, .si .i64 (evalK K drTa (drEnv N v al a b) 0).2], some [], (decide ((evalK K drTa (drEnv N v al a b) 0).2 = 0), false) :: (neB (evalK K drTa (drEnv N v al a b) 0).2, true) :: (decide ((drQ K (drEnv N v al a b)).hi.k = z64.k), true) :: drOq N v al b) := by kernel_rfl
theorem drRunA1 (K : Kk) (N : Kq) (v : V3) (al : I) (a b : Int) : valR ((run Tryz.prog EG (ODR K N) 80).1 121 (drA0 v al a b) [] (some (t13 ++ [true, false, true]))) =
    some (.tup [V3.zero.sv, .si .i64 (evalK K drA (drEnv N v al a b) 0).2], some [], (neB (evalK K drA (drEnv N v al a b) 0).2, true) :: (N.u a, true) :: (neB (evalK K drTa (drEnv N v al a b) 0).2, false) :: (decide ((drQ K (drEnv N v al a b)).hi.k = z64.k), true) :: drOq N v al b) := by kernel_rfl
theorem drRunA2 (K : Kk) (N : Kq) (v : V3) (al : I) (a b : Int) : valR ((run Tryz.prog EG (ODR K N) 80).1 121 (drA0 v al a b) [] (some (t13 ++ [true, false, false]))) =
    some (.tup [(drV K drA (drEnv N v al a b)).sv, .i .i64 0], some [], (neB (evalK K drA (drEnv N v al a b) 0).2, false) :: (N.u a, true) :: (neB (evalK K drTa (drEnv N v al a b) 0).2, false) :: (decide ((drQ K (drEnv N v al a b)).hi.k = z64.k), true) :: drOq N v al b) := by kernel_rfl
theorem drRunB0 (K : Kk) (N : Kq) (v : V3) (al : I) (a b : Int) : valR ((run Tryz.prog EG (ODR K N) 80).1 121 (drA0 v al a b) [] (some (t13 ++ [false, true, true, false]))) =
    some (.tup [V3.zero.sv, .si .i64 (evalK K drTb (drEnv N v al a b) 0).2], some [], (decide ((evalK K drTb (drEnv N v al a b) 0).2 = 0), false) :: (neB (evalK K drTb (drEnv N v al a b) 0).2, true) :: (decide (z64.k < (drQ K (drEnv N v al a b)).lo.k), true) :: (decide ((drQ K (drEnv N v al a b)).hi.k = z64.k), false) :: drOq N v al b) := by kernel_rfl
theorem drRunB1 (K : Kk) (N : Kq) (v : V3) (al : I) (a b : Int) : valR ((run Tryz.prog EG (ODR K N) 80).1 121 (drA0 v al a b) [] (some (t13 ++ [false, true, false, true]))) =
    some (.tup [V3.zero.sv, .si .i64 (evalK K drB (drEnv N v al a b) 0).2], some [], (neB (evalK K drB (drEnv N v al a b) 0).2, true) :: (N.u a, true) :: (neB (evalK K drTb (drEnv N v al a b) 0).2, false) :: (decide (z64.k < (drQ K (drEnv N v al a b)).lo.k), true) :: (decide ((drQ K (drEnv N v al a b)).hi.k = z64.k), false) :: drOq N v al b) := by kernel_rfl
theorem drRunB2 (K : Kk) (N : Kq) (v : V3) (al : I) (a b : Int) : valR ((run Tryz.prog EG (ODR K N) 80).1 121 (drA0 v al a b) [] (some (t13 ++ [false, true, false, false]))) =
    some (.tup [(drV K drB (drEnv N v al a b)).sv, .i .i64 0], some [], (neB (evalK K drB (drEnv N v al a b) 0).2, false) :: (N.u a, true) :: (neB (evalK K drTb (drEnv N v al a b) 0).2, false) :: (decide (z64.k < (drQ K (drEnv N v al a b)).lo.k), true) :: (decide ((drQ K (drEnv N v al a b)).hi.k = z64.k), false) :: drOq N v al b) := by kernel_rfl
theorem drRunN0 (K : Kk) (N : Kq) (v : V3) (al : I) (a b : Int) : valR ((run Tryz.prog EG (ODR K N) 80).1 121 (drA0 v al a b) [] (some (t13 ++ [false, false, true, false]))) =
    some (.tup [V3.zero.sv, .si .i64 (evalK K drP1 (drEnv N v al a b) 0).2], some [], (decide ((evalK K drP1 (drEnv N v al a b) 0).2 = 0), false) :: (neB (evalK K drP1 (drEnv N v al a b) 0).2, true) :: (decide (z64.k < (drQ K (drEnv N v al a b)).lo.k), false) :: (decide ((drQ K (drEnv N v al a b)).hi.k = z64.k), false) :: drOq N v al b) := by kernel_rfl
theorem drRunN1 (K : Kk) (N : Kq) (v : V3) (al : I) (a b : Int) : valR ((run Tryz.prog EG (ODR K N) 80).1 121 (drA0 v al a b) [] (some (t13 ++ [false, false, false, true]))) =
    some (.tup [V3.zero.sv, .i .i64 11], some [], (decide ((evalK K drP1 (drEnv N v al a b) 0).2 = 0), true) :: (neB (evalK K drP1 (drEnv N v al a b) 0).2, false) :: (decide (z64.k < (drQ K (drEnv N v al a b)).lo.k), false) :: (decide ((drQ K (drEnv N v al a b)).hi.k = z64.k), false) :: drOq N v al b) := by kernel_rfl
theorem drRunW (K : Kk) (N : Kq) (v : V3) (al : I) (a b : Int) : valR ((run Tryz.prog EG (ODR K N) 80).1 121 (drA0 v al a b) [] (some [true, true, false, true, true, true])) =
    some (.tup [V3.zero.sv, .i .i64 2], some [], [(rt v.z, true), (rt v.y, true), (rt v.x, true), (decide (al.hi.k ≤ one64.k), false), (decide (minA.k ≤ al.lo.k), true), (rt al, true)]) := by kernel_rfl
theorem oracleDR : OracleOk Tryz.prog (ODR KkR (KqR atR)) := .cons addC (.cons subC (.cons mulC (.cons divC (.cons cmax_I (.cons sqrC (.cons csqrt_I (.cons negC (.cons numC (.cons irtK.of (.cons rightG.of (.cons absG.of (.cons vwG.of (.cons piG.of (.cons scK.of (.cons unitG.of (.nil _))))))))))))))))
theorem neB_d {e : Int} : decide (e = 0) = !neB e := by unfold neB; by_cases h : e = 0 <;> simp [h]
theorem obsK_c {c b : Bool} {ob : Obs} (h : c = b) (k : ObsOk ob) : ObsOk ((c, b) :: ob) := fun q hq => by
  rcases List.mem_cons.1 hq with rfl | hq
  · exact h
  · exact k q hq
theorem pvT (V : V3) (k : Int) : plain (.tup [V.sv, .i .i64 k]) = some (.tuple #[.agg #[.float .f64 V.x.lo.b, .float .f64 V.x.hi.b, .float .f64 V.y.lo.b, .float .f64 V.y.hi.b, .float .f64 V.z.lo.b, .float .f64 V.z.hi.b], .int .i64 k]) := rfl
def vdG (K : Kk) (N : Kq) (v : V3) (al : I) (a b : Int) : V3 × Int := drR K (drEnv N v al a b)
theorem drG_of (K : Kk) (N : Kq) (hO0 : OracleOk Tryz.prog (ODR K N)) : PlainOk Tryz.prog 121 (kVd (vdG K N) (drO N)) := by
  intro args ds x ds' ob h ho
  unfold kVd at h
  split at h
  · rename_i x1 x2 y1 y2 z1 z2 g1 g2 p1 p2
    split at h
    · rename_i n m hn hm
      simp only [Option.map_eq_some_iff, Prod.mk.injEq] at h
      obtain ⟨⟨r, e, o⟩, h1, rfl, rfl, rfl⟩ := h
      have hd : r = decide (g2.k ≤ one64.k) := takeB_ok h1 fun q hq => ho q (List.mem_append_right _ hq)
      have hO := fun q (hq : q ∈ (bif r then drO N ⟨⟨x1, x2⟩, ⟨y1, y2⟩, ⟨z1, z2⟩⟩ ⟨g1, g2⟩ n m else drOw ⟨⟨x1, x2⟩, ⟨y1, y2⟩, ⟨z1, z2⟩⟩ ⟨g1, g2⟩)) => ho q (List.mem_append_left _ hq)
      generalize hv : (⟨⟨x1, x2⟩, ⟨y1, y2⟩, ⟨z1, z2⟩⟩ : V3) = v at *
      generalize hal : (⟨g1, g2⟩ : I) = al at *
      have e1 : (.agg [.fl x1, .fl x2, .fl y1, .fl y2, .fl z1, .fl z2] : SV) = v.sv := by subst hv; rfl
      have e2 : (.agg [.fl g1, .fl g2] : SV) = ivS al := by subst hal; rfl
      rw [e1, e2]
      have pv : ∀ v : V3, plain v.sv = some (.agg #[.float .f64 v.x.lo.b, .float .f64 v.x.hi.b, .float .f64 v.y.lo.b, .float .f64 v.y.hi.b, .float .f64 v.z.lo.b, .float .f64 v.z.hi.b]) := fun _ => rfl
      have hargs : plains [v.sv, ivS al, p1, p2] = some [.agg #[.float .f64 v.x.lo.b, .float .f64 v.x.hi.b, .float .f64 v.y.lo.b, .float .f64 v.y.hi.b, .float .f64 v.z.lo.b, .float .f64 v.z.hi.b], .agg #[.float .f64 al.lo.b, .float .f64 al.hi.b], .int .u64 n, .int .u64 m] :=
        plains_cons (pv v) (plains_cons rfl (plains_cons (intS_plain hn) (plains_cons (intS_plain hm) plains_nil)))
      have hal2 : al.hi.k = g2.k := by subst hal; rfl
      cases r
      · refine ⟨_, _, hargs, rfl, fun w => ?_⟩
        refine calls_of_val goodG hO0 80 (drRunW K N v al n m) (fun q hq => ?_) rfl rfl w
        simp only [List.mem_cons, List.not_mem_nil, or_false] at hq
        rcases hq with rfl | rfl | rfl | rfl | rfl | rfl
        · exact hO (_, true) (by simp [drOw])
        · exact hO (_, true) (by simp [drOw])
        · exact hO (_, true) (by simp [drOw])
        · show decide (al.hi.k ≤ one64.k) = false
          rw [hal2]; exact hd.symm
        · exact hO (_, true) (by simp [drOw])
        · exact hO (_, true) (by simp [drOw])
      · have hu : N.u n = true := hO (_, true) (by simp [drO])
        have hq0 : ObsOk (drOq N v al m) := fun q hq => hO q (by
          simp only [cond_true, drO]
          simp only [drOq, List.mem_cons] at hq
          simp only [List.cons_append, List.nil_append, List.append_assoc, List.mem_cons]
          exact .inr hq)
        have pvR : plain (.tup [(vdG K N v al n m).1.sv, .si .i64 (vdG K N v al n m).2]) = some (.tuple #[.agg #[.float .f64 (vdG K N v al n m).1.x.lo.b, .float .f64 (vdG K N v al n m).1.x.hi.b, .float .f64 (vdG K N v al n m).1.y.lo.b, .float .f64 (vdG K N v al n m).1.y.hi.b, .float .f64 (vdG K N v al n m).1.z.lo.b, .float .f64 (vdG K N v al n m).1.z.hi.b], .int .i64 (vdG K N v al n m).2]) := rfl
        refine ⟨_, _, hargs, pvR, fun w => ?_⟩
        unfold vdG drR
        have hE : drEnv N v al n m = drEnv N v al n m := rfl
        cases c1 : decide ((drQ K (drEnv N v al n m)).hi.k = z64.k)
        · cases c2 : decide (z64.k < (drQ K (drEnv N v al n m)).lo.k)
          · simp only [cond_false, drN]
            cases c3 : neB (evalK K drP1 (drEnv N v al n m) 0).2
            · simp only [cond_false]
              exact calls_of_val goodG hO0 80 (drRunN1 K N v al n m) (obsK_c (by rw [neB_d, c3]; rfl) (obsK_c c3 (obsK_c c2 (obsK_c c1 hq0)))) rfl rfl w
            · simp only [cond_true]
              exact calls_of_val goodG hO0 80 (drRunN0 K N v al n m) (obsK_c (by rw [neB_d, c3]; rfl) (obsK_c c3 (obsK_c c2 (obsK_c c1 hq0)))) rfl rfl w
          · simp only [cond_false, cond_true, drX]
            cases c3 : neB (evalK K drTb (drEnv N v al n m) 0).2
            · simp only [cond_false]
              cases c4 : neB (evalK K drB (drEnv N v al n m) 0).2
              · simp only [cond_false]
                have r := drRunB2 K N v al n m
                generalize drV K drB (drEnv N v al n m) = V at r ⊢
                exact calls_of_val goodG hO0 80 r (obsK_c c4 (obsK_c hu (obsK_c c3 (obsK_c c2 (obsK_c c1 hq0))))) rfl (pvT V 0) w
              · simp only [cond_true]
                exact calls_of_val goodG hO0 80 (drRunB1 K N v al n m) (obsK_c c4 (obsK_c hu (obsK_c c3 (obsK_c c2 (obsK_c c1 hq0))))) rfl rfl w
            · simp only [cond_true]
              exact calls_of_val goodG hO0 80 (drRunB0 K N v al n m) (obsK_c (by rw [neB_d, c3]; rfl) (obsK_c c3 (obsK_c c2 (obsK_c c1 hq0)))) rfl rfl w
        · simp only [cond_true, drX]
          cases c3 : neB (evalK K drTa (drEnv N v al n m) 0).2
          · simp only [cond_false]
            cases c4 : neB (evalK K drA (drEnv N v al n m) 0).2
            · simp only [cond_false]
              have r := drRunA2 K N v al n m
              generalize drV K drA (drEnv N v al n m) = V at r ⊢
              exact calls_of_val goodG hO0 80 r (obsK_c c4 (obsK_c hu (obsK_c c3 (obsK_c c1 hq0)))) rfl (pvT V 0) w
            · simp only [cond_true]
              exact calls_of_val goodG hO0 80 (drRunA1 K N v al n m) (obsK_c c4 (obsK_c hu (obsK_c c3 (obsK_c c1 hq0)))) rfl rfl w
          · simp only [cond_true]
            exact calls_of_val goodG hO0 80 (drRunA0 K N v al n m) (obsK_c (by rw [neB_d, c3]; rfl) (obsK_c c3 (obsK_c c1 hq0))) rfl rfl w
    · cases h
  · cases h
def vdR : V3 → I → Int → Int → V3 × Int := vdG KkR (KqR atR)
theorem drG : PlainOk Tryz.prog 121 (kVd vdR (drO (KqR atR))) := drG_of KkR (KqR atR) oracleDR
def OMI (r : I → Bool) (fs fm fa : Bool → F → F → F × Int) : OracleF := lookO [(62, plainO (kBI r)), (97, plainO (kTwo fs)), (85, plainO (kTwo fm)), (96, plainO (kTwo fa))]
theorem irtK2 : PlainOk Tryz.prog 62 (kBI rt) := irightG
theorem oracleMI : OracleOk Tryz.prog (OMI rt dSub dMul dAdd) := .cons irtK2.of (.cons (two_ok sub_F_w).of (.cons (two_ok mul_F_w).of (.cons (two_ok add_F_w).of (.nil _))))
def noMid : SV := .tup [.agg [.fl F.zero, .fl F.zero, .fl F.zero], .i .i64 20]
theorem miRun0 (r : I → Bool) (fs fm fa : Bool → F → F → F × Int) (a b c d e f : F) : valR ((run Tryz.prog EG (OMI r fs fm fa) 80).1 61 [.agg [.fl a, .fl b, .fl c, .fl d, .fl e, .fl f]] [] (some [false])) = some (noMid, some [], [(r ⟨a, b⟩, false)]) := by kernel_rfl
theorem miRun1 (r : I → Bool) (fs fm fa : Bool → F → F → F × Int) (a b c d e f : F) : valR ((run Tryz.prog EG (OMI r fs fm fa) 80).1 61 [.agg [.fl a, .fl b, .fl c, .fl d, .fl e, .fl f]] [] (some [true, false])) = some (noMid, some [], [(r ⟨c, d⟩, false), (r ⟨a, b⟩, true)]) := by kernel_rfl
theorem miRun2 (r : I → Bool) (fs fm fa : Bool → F → F → F × Int) (a b c d e f : F) : valR ((run Tryz.prog EG (OMI r fs fm fa) 80).1 61 [.agg [.fl a, .fl b, .fl c, .fl d, .fl e, .fl f]] [] (some [true, true, false])) = some (noMid, some [], [(r ⟨e, f⟩, false), (r ⟨c, d⟩, true), (r ⟨a, b⟩, true)]) := by kernel_rfl
def m1 (fs : Bool → F → F → F × Int) (a b : F) : F × Int := fs false b a
def m2 (fs fm : Bool → F → F → F × Int) (a b : F) : F × Int := fm false q2 (m1 fs a b).1
def m3 (fs fm fa : Bool → F → F → F × Int) (a b : F) : F × Int := fa false a (m2 fs fm a b).1
def obM (fs fm fa : Bool → F → F → F × Int) (a b : F) : Obs := [(decide ((m3 fs fm fa a b).2 = 0), true), (decide ((m2 fs fm a b).2 = 0), true), (decide ((m1 fs a b).2 = 0), true)]
theorem miRun3 (r : I → Bool) (fs fm fa : Bool → F → F → F × Int) (a b c d e f : F) : valR ((run Tryz.prog EG (OMI r fs fm fa) 80).1 61 [.agg [.fl a, .fl b, .fl c, .fl d, .fl e, .fl f]] [] (some [true, true, true, true, true, true, true, true, true, true, true, false])) =
    some (.tup [.agg [.fl (m3 fs fm fa a b).1, .fl (m3 fs fm fa c d).1, .fl (m3 fs fm fa e f).1], .i .i64 0], some [],
      [(!((m3 fs fm fa e f).2 == 0), false), (decide ((m2 fs fm e f).2 = 0), true), (decide ((m1 fs e f).2 = 0), true)] ++ obM fs fm fa c d ++ obM fs fm fa a b ++ [(r ⟨e, f⟩, true), (r ⟨c, d⟩, true), (r ⟨a, b⟩, true)]) := by kernel_rfl
theorem mid_no {a b : F} (h : rt ⟨a, b⟩ = true) : (m1 dSub a b).2 = 0 ∧ (m2 dSub dMul a b).2 = 0 ∧ (m3 dSub dMul dAdd a b).2 = 0 ∧ a.q ≤ (m3 dSub dMul dAdd a b).1.q ∧ (m3 dSub dMul dAdd a b).1.q ≤ b.q := by
  have hq := q_le.2 (of_decide_eq_true h)
  simp only at hq
  have k2 := consts.2.2.2.2.2.1
  obtain ⟨r1, e1, h1⟩ := @dSub_dn b a F.zero (by rw [q_zero]; grind)
  have g1 : 0 ≤ r1.q := by rw [← q_zero]; exact h1.top F.zero (by rw [q_zero]; grind)
  have p1 : 0 ≤ q2.q * r1.q := Rat.mul_nonneg (by grind) g1
  obtain ⟨r2, e2, h2⟩ := @dMul_dn q2 r1 F.zero (by rw [q_zero]; exact p1)
  have g2 : 0 ≤ r2.q := by rw [← q_zero]; exact h2.top F.zero (by rw [q_zero]; exact p1)
  obtain ⟨r3, e3, h3⟩ := @dAdd_dn a r2 a (by grind)
  have f1 : m1 dSub a b = (r1, 0) := e1
  have f2 : m2 dSub dMul a b = (r2, 0) := by unfold m2; rw [f1]; exact e2
  have f3 : m3 dSub dMul dAdd a b = (r3, 0) := by unfold m3; rw [f2]; exact e3
  rw [f1, f2, f3]
  refine ⟨rfl, rfl, rfl, h3.top a (by grind), ?_⟩
  have l1 := h1.le; have l2 := h2.le; have l3 := h3.le
  have e : q2.q = 1 / 2 := by grind
  rw [e] at l2
  show r3.q ≤ b.q
  grind
theorem midG : PlainOk Tryz.prog 61 (kMid rt3 midM) := by
  intro args ds x ds' ob h ho
  unfold kMid at h
  split at h
  · rename_i a b c d e f
    simp only [Option.map_eq_some_iff, Prod.mk.injEq] at h
    obtain ⟨⟨r, ee, o⟩, h1, rfl, rfl, rfl⟩ := h
    have hd : r = rt3 a b c d e f := takeB_ok h1 ho
    refine ⟨[.agg #[.float .f64 a.b, .float .f64 b.b, .float .f64 c.b, .float .f64 d.b, .float .f64 e.b, .float .f64 f.b]], ?_⟩
    unfold rt3 at hd
    cases g1 : rt ⟨a, b⟩
    · rw [g1, Bool.false_and] at hd; subst hd
      exact ⟨_, rfl, rfl, fun w => calls_of_val goodG oracleMI 80 (miRun0 rt dSub dMul dAdd a b c d e f) (ObsOk.of_B (obsB_yes g1 obsB_nil)) rfl rfl w⟩
    · cases g2 : rt ⟨c, d⟩
      · rw [g1, g2, Bool.false_and, Bool.and_false] at hd; subst hd
        exact ⟨_, rfl, rfl, fun w => calls_of_val goodG oracleMI 80 (miRun1 rt dSub dMul dAdd a b c d e f) (ObsOk.of_B (obsB_yes g2 (obsB_yes g1 obsB_nil))) rfl rfl w⟩
      · cases g3 : rt ⟨e, f⟩
        · rw [g1, g2, g3, Bool.true_and, Bool.true_and] at hd; subst hd
          exact ⟨_, rfl, rfl, fun w => calls_of_val goodG oracleMI 80 (miRun2 rt dSub dMul dAdd a b c d e f) (ObsOk.of_B (obsB_yes g3 (obsB_yes g2 (obsB_yes g1 obsB_nil)))) rfl rfl w⟩
        · rw [g1, g2, g3, Bool.true_and, Bool.true_and] at hd; subst hd
          obtain ⟨a1, a2, a3, _⟩ := mid_no g1
          obtain ⟨b1, b2, b3, _⟩ := mid_no g2
          obtain ⟨c1, c2, c3, _⟩ := mid_no g3
          refine ⟨_, rfl, rfl, fun w => calls_of_val goodG oracleMI 80 (miRun3 rt dSub dMul dAdd a b c d e f) (ObsOk.of_B ?_) rfl rfl w⟩
          have y : ∀ {n : Int}, n = 0 → decide (n = 0) = true := fun h => decide_eq_true h
          exact obsB_yes (by rw [c3]; rfl) (obsB_yes (y c2) (obsB_yes (y c1) (obsB_yes (y b3) (obsB_yes (y b2) (obsB_yes (y b1) (obsB_yes (y a3) (obsB_yes (y a2) (obsB_yes (y a1) (obsB_yes g3 (obsB_yes g2 (obsB_yes g1 obsB_nil)))))))))))
  · cases h
end Go.Proofs.YthclipfgcgoofaaGreat
namespace Bu
set_option linter.all false
open Rx Go
def reP : List Op := [.num (two64), .mul 6 3, .mul 6 3, .add 1 0, .mul 7 4, .add 1 0, .mul 5 0, .mul 0 9, .mul 1 9, .mul 2 9, .sub 2 15, .sub 2 15, .sub 2 15, .kept mone64 one64 2, .kept mone64 one64 2, .kept mone64 one64 2]
def reE (K : Kk) (v w : V3) : List I × Int := evalK K reP [w.z, w.y, w.x, v.z, v.y, v.x] 0
def reR (K : Kk) (v w : V3) : V3 × Int := bif neB (reE K v w).2 then (V3.zero, (reE K v w).2) else (⟨gt (reE K v w).1 2, gt (reE K v w).1 1, gt (reE K v w).1 0⟩, 0)
def in1O (a : I) : Obs := [(decide (a.hi.k ≤ one64.k), true), (decide (mone64.k ≤ a.lo.k), true), (rt a, true)]
def reO (v w : V3) : Obs := in1O w.z ++ (in1O w.y ++ (in1O w.x ++ (in1O v.z ++ (in1O v.y ++ in1O v.x))))
def kRe (f : V3 → V3 → V3 × Int) : List SV → Dec → Option (SV × Dec × Obs)
  | [.agg [.fl a, .fl b, .fl c, .fl d, .fl e, .fl f'], .agg [.fl a2, .fl b2, .fl c2, .fl d2, .fl e2, .fl f2]], ds =>
    some (.tup [(f ⟨⟨a, b⟩, ⟨c, d⟩, ⟨e, f'⟩⟩ ⟨⟨a2, b2⟩, ⟨c2, d2⟩, ⟨e2, f2⟩⟩).1.sv, .si .i64 (f ⟨⟨a, b⟩, ⟨c, d⟩, ⟨e, f'⟩⟩ ⟨⟨a2, b2⟩, ⟨c2, d2⟩, ⟨e2, f2⟩⟩).2], ds, reO ⟨⟨a, b⟩, ⟨c, d⟩, ⟨e, f'⟩⟩ ⟨⟨a2, b2⟩, ⟨c2, d2⟩, ⟨e2, f2⟩⟩)
  | _, _ => none
def ngF (x : F) : F := toF ((Ieee.double.sub (toF 0).b x.b).getD 0)
def kpF (x : F) : F := toF ((Ieee.double.add x.b (toF 0).b).getD 0)
def ngO (x : F) : Obs := [((Ieee.double.sub (toF 0).b x.b).isSome, true), (rightB ((Ieee.double.sub (toF 0).b x.b).getD 0), true)]
def kpO (x : F) : Obs := [((Ieee.double.add x.b (toF 0).b).isSome, true), (rightB ((Ieee.double.add x.b (toF 0).b).getD 0), true)]
end Bu
namespace Go.Proofs.YthclipfgcgoofaaGreat
set_option linter.all false
open Go.RowKit Bu Rx
theorem ngF_eq (x : F) : ngF x = x.neg := by unfold ngF; rw [toF0, sub_zero_F, Option.getD_some, toF_F]
theorem kpF_eq (x : F) : kpF x = x := by unfold kpF; rw [add_zero_F, Option.getD_some, toF_F]
theorem ngO_ok (x : F) : ObsOk (ngO x) := by
  unfold ngO
  rw [toF0, sub_zero_F]
  exact ob_c rfl (ob_c (right_F _) ob_n)
theorem kpO_ok (x : F) : ObsOk (kpO x) := by
  unfold kpO
  rw [add_zero_F]
  exact ob_c rfl (ob_c (right_F _) ob_n)
def t18 : List Bool := List.replicate 18 true
theorem reRun0 (K : Kk) (v w : V3) : valR ((run Tryz.prog EG (lookO (OCL K)) 80).1 122 [v.sv, w.sv] [] (some (t18 ++ [false]))) = some (.tup [V3.sv ⟨gt (reE K v w).1 2, gt (reE K v w).1 1, gt (reE K v w).1 0⟩, .i .i64 0], some [], (neB (reE K v w).2, false) :: reO v w) := by kernel_rfl
theorem reRun1 (K : Kk) (v w : V3) : valR ((run Tryz.prog EG (lookO (OCL K)) 80).1 122 [v.sv, w.sv] [] (some (t18 ++ [true]))) = some (.tup [V3.zero.sv, .si .i64 (reE K v w).2], some [], (neB (reE K v w).2, true) :: reO v w) := by kernel_rfl
def OSt (un : F → F → F → V3) (ub : F → F → F → Bool) : OracleF := lookO [(16, plainO (kUn un ub))]
theorem stRun (un : F → F → F → V3) (ub : F → F → F → Bool) (x y z : F) : valR ((run Tryz.prog EG (OSt un ub) 80).1 59 [.agg [.fl x, .fl y, .fl z]] [] (some [true])) = some (.tup [.agg [.fl (ngF x), .fl (ngF y), .fl (kpF z)], .i .i64 0], some [], kpO z ++ (ngO y ++ (ngO x ++ [(ub x y z, true)]))) := by kernel_rfl
theorem reG_of (K : Kk) (hO : OracleOk Tryz.prog (lookO (OCL K))) : PlainOk Tryz.prog 122 (kRe (reR K)) := by
  intro args ds x ds' ob h ho
  unfold kRe at h
  split at h
  · rename_i x1 x2 y1 y2 z1 z2 u1 u2 v1 v2 w1 w2
    simp only [Option.some.injEq, Prod.mk.injEq] at h
    obtain ⟨rfl, _, rfl⟩ := h
    generalize hv : (⟨⟨x1, x2⟩, ⟨y1, y2⟩, ⟨z1, z2⟩⟩ : V3) = v at *
    generalize hw : (⟨⟨u1, u2⟩, ⟨v1, v2⟩, ⟨w1, w2⟩⟩ : V3) = u at *
    have e1 : (.agg [.fl x1, .fl x2, .fl y1, .fl y2, .fl z1, .fl z2] : SV) = v.sv := by subst hv; rfl
    have e2 : (.agg [.fl u1, .fl u2, .fl v1, .fl v2, .fl w1, .fl w2] : SV) = u.sv := by subst hw; rfl
    rw [e1, e2]
    have hargs : plains [v.sv, u.sv] = some [.agg #[.float .f64 v.x.lo.b, .float .f64 v.x.hi.b, .float .f64 v.y.lo.b, .float .f64 v.y.hi.b, .float .f64 v.z.lo.b, .float .f64 v.z.hi.b], .agg #[.float .f64 u.x.lo.b, .float .f64 u.x.hi.b, .float .f64 u.y.lo.b, .float .f64 u.y.hi.b, .float .f64 u.z.lo.b, .float .f64 u.z.hi.b]] := rfl
    unfold reR
    cases k : neB (reE K v u).2
    · refine ⟨_, _, hargs, rfl, fun w => ?_⟩
      exact calls_of_val goodG hO 80 (reRun0 K v u) (fun q hq => by
        rcases List.mem_cons.1 hq with rfl | hq
        · exact k
        · exact ho q hq) hargs rfl w
    · refine ⟨_, _, hargs, rfl, fun w => ?_⟩
      exact calls_of_val goodG hO 80 (reRun1 K v u) (fun q hq => by
        rcases List.mem_cons.1 hq with rfl | hq
        · exact k
        · exact ho q hq) hargs rfl w
  · cases h
theorem reG : PlainOk Tryz.prog 122 (kRe (reR KkR)) := reG_of KkR oracleCL
def kSt (ub : F → F → F → Bool) : List SV → Dec → Option (SV × Dec × Obs)
  | [.agg [.fl x, .fl y, .fl z]], ds => some (.tup [.agg [.fl x.neg, .fl y.neg, .fl z], .i .i64 0], ds, [(ub x y z, true)])
  | _, _ => none
theorem stG : PlainOk Tryz.prog 59 (kSt unB) := by
  intro args ds x ds' ob h ho
  unfold kSt at h
  split at h
  · rename_i x y z
    simp only [Option.some.injEq, Prod.mk.injEq] at h
    obtain ⟨rfl, _, rfl⟩ := h
    refine ⟨[.agg #[.float .f64 x.b, .float .f64 y.b, .float .f64 z.b]], _, rfl, rfl, fun w => ?_⟩
    have hr := stRun (unV KkR) unB x y z
    rw [ngF_eq, ngF_eq, kpF_eq] at hr
    exact calls_of_val goodG (.cons unG.of (.nil _)) 80 hr (ob_a (kpO_ok z) (ob_a (ngO_ok y) (ob_a (ngO_ok x) ho))) rfl rfl w
  · cases h
end Go.Proofs.YthclipfgcgoofaaGreat
namespace Rx
set_option linter.all false
open Go Go.RowKit
section
variable {P : Program} {B : Bs}
theorem RoundsB.ret {n : Nat} {c : Code} {s : St} {Φ : St → Prop} (h : RunsB P B c s .ret Φ) : RoundsB P B c (n + 1) s .ret Φ := by
  intro m a w Q hs hg hq
  rw [rounds_succ]
  exact h m a w _ hs hg fun s1 m' a' w' h1 hs' hg' => hq s1 m' a' w' h1 hs' hg'
theorem loop_outB {body : Code} {id : Nat} {Φ : St → Prop} {α : Type} (S : α → St) (μ : α → Nat) (I : α → Prop)
    (h : ∀ x, I x → RunsB P B body (S x) (.exit id) Φ ∨ RunsB P B body (S x) .normal (fun t => ∃ x', I x' ∧ μ x' < μ x ∧ t = S x')) (x : α) (h0 : I x) : RunsB P B (.block id (.loop body)) (S x) .normal Φ := by
  refine RunsB.block (RunsB.loop (n := μ x + 1) ?_)
  have key : ∀ n x, μ x ≤ n → I x → RoundsB P B body (n + 1) (S x) (.exit id) Φ := by
    intro n
    induction n with
    | zero =>
      intro x h1 hi
      rcases h x hi with g | g
      · exact RoundsB.out g
      · exact RoundsB.next g fun t ⟨x', _, h2, _⟩ => absurd h2 (by omega)
    | succ n ih =>
      intro x h1 hi
      rcases h x hi with g | g
      · exact RoundsB.out g
      · exact RoundsB.next g fun t ⟨x', hx, h2, ht⟩ => by subst ht; exact ih x' (by omega) hx
  exact key (μ x) x (Nat.le_refl _) h0
end
end Rx
namespace Bu
set_option linter.all false
open Rx Go
structure Lt where
  f0 : I
  f1 : I
  f2 : I
  r0 : I
  r1 : I
  r2 : I
def Lt.cells (t : Lt) : List SV := [.fl t.f0.lo, .fl t.f0.hi, .fl t.f1.lo, .fl t.f1.hi, .fl t.f2.lo, .fl t.f2.hi, .fl t.r0.lo, .fl t.r0.hi, .fl t.r1.lo, .fl t.r1.hi, .fl t.r2.lo, .fl t.r2.hi]
def Lt.sv (t : Lt) : SV := .agg t.cells
def Lt.zero : Lt := ⟨I.zero, I.zero, I.zero, I.zero, I.zero, I.zero⟩
end Bu
namespace Go.Proofs.YthclipfgcgoofaaGreat
set_option linter.all false
open Go.RowKit Bu Rx
def kVn (g : Lf → I × Int) (o : Lf → Obs) : List SV → Dec → Option (SV × Dec × Obs)
  | [x, ch, .agg [.fl p0, .fl p1, .fl p2, .fl p3, .fl p4, .fl p5], .agg [.fl r0, .fl r1, .fl r2, .fl r3, .fl r4, .fl r5]], ds => match ndOf x, intS ch with
    | some n, some (.i64, c) => some (.tup [.agg [.fl (g ⟨n.k, etaF n.f, c, ⟨⟨p0, p1⟩, ⟨p2, p3⟩, ⟨p4, p5⟩⟩, ⟨⟨r0, r1⟩, ⟨r2, r3⟩, ⟨r4, r5⟩⟩⟩).1.lo, .fl (g ⟨n.k, etaF n.f, c, ⟨⟨p0, p1⟩, ⟨p2, p3⟩, ⟨p4, p5⟩⟩, ⟨⟨r0, r1⟩, ⟨r2, r3⟩, ⟨r4, r5⟩⟩⟩).1.hi], .si .i64 (g ⟨n.k, etaF n.f, c, ⟨⟨p0, p1⟩, ⟨p2, p3⟩, ⟨p4, p5⟩⟩, ⟨⟨r0, r1⟩, ⟨r2, r3⟩, ⟨r4, r5⟩⟩⟩).2], ds, (decide (n.a = 0), true) :: (decide (n.b = 0), true) :: o ⟨n.k, etaF n.f, c, ⟨⟨p0, p1⟩, ⟨p2, p3⟩, ⟨p4, p5⟩⟩, ⟨⟨r0, r1⟩, ⟨r2, r3⟩, ⟨r4, r5⟩⟩⟩)
    | _, _ => none
  | _, _ => none
def OE (o : List SV → Nat → Bool) (N : Nde) : OracleF := lookO (OCL N.K ++ [(39, kRd 19 (kRgt o)), (68, plainO (kI2 N.D N.dO)), (148, plainO (kVn N.g N.go))])
end Go.Proofs.YthclipfgcgoofaaGreat
namespace Bu
set_option linter.all false
open Rx Go
def overC (K : Kk) (i o : I) (w : F) (a : Ch) : Ch × Int :=
  let q1 := K.num 0 one_
  let qw := K.num q1.2 w
  let s := K.sub qw.2 q1.1 o
  let h := K.sub s.2 q1.1 i
  let x := K.mul h.2 h.1 s.1
  let y := K.mul x.2 x.1 qw.1
  let f := K.mul y.2 y.1 a.p
  let q := K.sqr f.2 s.1
  let t := K.mul q.2 q.1 qw.1
  let z := K.mul t.2 t.1 a.m
  let r := K.add z.2 o z.1
  (⟨f.1, r.1⟩, r.2)
end Bu
namespace Go.Proofs.YthclipfgcgoofaaGreat
set_option linter.all false
open Go.RowKit Bu Rx
def lfE (v u : V3) (k : Nat) (n : Nd) : Lf := ⟨n.k, etaF n.f, (k : Int), v, u⟩
def evN (N : Nde) (v u : V3) (k : Nat) (l : Nat → Ch) (n : Nd) : Ch × Int :=
  bif decide (n.k = 5) then mixC N.K (n.f 15) (l n.a.toNat) (l n.b.toNat)
  else bif decide (n.k = 6) then overC N.K (N.D v.z ⟨n.f 14, n.f 14⟩).1 (N.D u.z ⟨n.f 14, n.f 14⟩).1 (n.f (3 + k)) (l n.a.toNat)
  else (⟨(N.g (lfE v u k n)).1, I.zero⟩, (N.g (lfE v u k n)).2)
def lfOb (N : Nde) (v u : V3) (n : Nd) (k : Nat) : Obs := (decide (n.a = 0), true) :: (decide (n.b = 0), true) :: N.go (lfE v u k n)
def nd0 (cells : List SV) (off : Nat) (i : Int) : Nd := ndR cells (off + i.toNat * 19)
section
variable (N : Nde) (o : List SV → Nat → Bool) (e : TypeId) (cells lc : List SV) (v u : V3) (off len cap n : Nat) (i : Int) (x : Nat → SV)
end
structure Npa where
  K : Kk
  o : List SV → Nat → Bool
  D : I → I → I × Int
  dO : I → I → Obs
  uo : Int → I
  u : Int → Bool
def OPa (W : Npa) : OracleF := lookO (OCL W.K ++ [(39, kRd 19 (kRgt W.o)), (68, plainO (kI2 W.D W.dO)), (63, plainO (kOf W.uo W.u))])
noncomputable def paC : Code := bodyOf Tryz.prog 18
theorem paBody : Tryz.f18.body = some paC := by kernel_rfl
noncomputable def paIn : Code := inner (seqR paC)
theorem paC_cut : paC = .seq (seqL paC) (.scope paIn) := by kernel_rfl
noncomputable def paE (e : TypeId) (cells : List SV) (off len cap : Nat) (c : I) (u : Int) (d : Dec) : St := ⟨([.ssl 0 off len cap, ivS c, .si .u64 u] : List SV) ++ List.replicate (Tryz.f18.ntmps - 3) (.tup []), [⟨e, cells, .num⟩], d, []⟩
def paT (off len cap : Nat) (g : SV) (x : Nat → SV) : List SV :=
  [.ssl 0 off len cap, x 1, x 2, x 3, .p 1 0, x 5, x 6, x 7, x 8, x 9, .p 3 0, .p 4 0, g, x 13, x 14, x 15, x 16, x 17, x 18, x 19, x 20, x 21, x 22, x 23, x 24, x 25, x 26, x 27, x 28, x 29, x 30, x 31, x 32, x 33, x 34, x 35, x 36, x 37, x 38, x 39, x 40, x 41, x 42, x 43, x 44, x 45, x 46, x 47, x 48, x 49, x 50, x 51, x 52, x 53, x 54, x 55, x 56, x 57, x 58, x 59, x 60, x 61, x 62, x 63, x 64, x 65, x 66, x 67, x 68, x 69, x 70, x 71, x 72, x 73, x 74, x 75, x 76, x 77, x 78, x 79, x 80, x 81, x 82, x 83, x 84, x 85, x 86, x 87, x 88, x 89, x 90, x 91, x 92, x 93, x 94, x 95, x 96, x 97, x 98, x 99, x 100, x 101, x 102, x 103, x 104, x 105, x 106, x 107, x 108, x 109, x 110, x 111, x 112, x 113, x 114, x 115, x 116, x 117, x 118, x 119, x 120, x 121, x 122, x 123, x 124, x 125, x 126, x 127, x 128, x 129, x 130, x 131, x 132, x 133, x 134, x 135, x 136, x 137, x 138, x 139, x 140, x 141, x 142, x 143, x 144, x 145, x 146, x 147, x 148, x 149, x 150, x 151, x 152, x 153, x 154, x 155]
def paM (e : TypeId) (cells : List SV) (c : I) (a er : Int) (s : I) (sure : Bool) : List Blk := [⟨e, cells, .num⟩, ⟨27, [.fl c.lo, .fl c.hi], .ex⟩, ⟨76, [.si .i64 er], .ex⟩, ⟨123, [.p 2 0, .si .i64 a, .fl s.lo, .fl s.hi, .b sure], .ex⟩, ⟨27, [.fl one64, .fl one64], .ex⟩]
def paS (e : TypeId) (cells : List SV) (off len cap : Nat) (c : I) (a er : Int) (s : I) (sure : Bool) (g : SV) (x : Nat → SV) (d : Dec) : St := ⟨paT off len cap g x, paM e cells c a er s sure, d, []⟩
noncomputable def paBd : Code := inner (inner (seqL (post 4 paIn)))
noncomputable def paTl : Code := seqR (post 4 paIn)
theorem paIn_cut : post 4 paIn = .seq (.block 1 (.loop paBd)) paTl := by kernel_rfl
end Go.Proofs.YthclipfgcgoofaaGreat
namespace Bu
set_option linter.all false
open Rx Go
def keptF (a : I) : I := keptI a z64 one64
def onB (K : Kk) (er : Int) (s t : I) : I × Int := (keptF (K.div er s t).1, (K.div er s t).2)
def onN (K : Kk) (er : Int) (s t : I) : I × Int :=
  let a := K.sub er s t
  let b := K.sub a.2 (pt one64) t
  let q := K.div b.2 a.1 b.1
  (keptF q.1, q.2)
end Bu
namespace Go.Proofs.YthclipfgcgoofaaGreat
set_option linter.all false
open Go.RowKit Bu Rx
section
variable (W : Npa) (e : TypeId) (cells : List SV) (off len cap : Nat) (c : I) (a er : Int) (s : I) (sure : Bool) (x : Nat → SV)
def paHd (cells : List SV) (off len : Nat) (a er : Int) : Obs := [(ckAll cells (off + a.toNat * 19) ndCK, true), (ixB a len, true), (er == 0, true)]
noncomputable abbrev paR (d : List Bool) : St := aft Tryz.prog EG (OPa W) 60 paBd (paS e cells off len cap c a er s sure (.b false) x (some d))
noncomputable abbrev pw (cells : List SV) (off : Nat) (a : Int) : F := (nd0 cells off a).f 15
noncomputable abbrev pI (cells : List SV) (off : Nat) (a : Int) : I := ⟨(nd0 cells off a).f 14, (nd0 cells off a).f 14⟩
noncomputable abbrev pO (W : Npa) (cells : List SV) (off : Nat) (a : Int) (c : I) : I := (W.D c (pI cells off a)).1
theorem paL_mb : Lands Tryz.prog EG (OPa W) 60 paBd (paS e cells off len cap c a er s sure (.b false) x (some [true, true, true])) .normal := by unfold Lands; kernel_rfl
theorem paO_mb : (paR W e cells off len cap c a er s sure x [true, true, true]).ob = (decide (s.hi.k < (pw cells off a).k), true) :: (((nd0 cells off a).k == 5, true) :: paHd cells off len a er) := by kernel_rfl
theorem paM_mb : selM (paR W e cells off len cap c a er s sure x [true, true, true]).M [0, 1, 2, 3, 4] = some (paM e cells c (nd0 cells off a).b (onB W.K er s ⟨(pw cells off a), (pw cells off a)⟩).2 (onB W.K er s ⟨(pw cells off a), (pw cells off a)⟩).1 sure) := by kernel_rfl
theorem paT_mb (v : Nat → Value) (M' : List Blk) : ∃ y, ((paR W e cells off len cap c a er s sure x [true, true, true]).sel [0, 1, 2, 3, 4] M' v).T = paT off len cap (.b false) y := ⟨fun k => ((paR W e cells off len cap c a er s sure x [true, true, true]).sel [0, 1, 2, 3, 4] [] v).T.getD k .np, by kernel_rfl⟩
theorem paL_mu : Lands Tryz.prog EG (OPa W) 60 paBd (paS e cells off len cap c a er s sure (.b false) x (some [true, true, false, true])) .normal := by unfold Lands; kernel_rfl
theorem paO_mu : (paR W e cells off len cap c a er s sure x [true, true, false, true]).ob = (decide (s.lo.k < (pw cells off a).k), true) :: (decide (s.hi.k < (pw cells off a).k), false) :: (((nd0 cells off a).k == 5, true) :: paHd cells off len a er) := by kernel_rfl
theorem paM_mu : selM (paR W e cells off len cap c a er s sure x [true, true, false, true]).M [0, 1, 2, 3, 4] = some (paM e cells c (nd0 cells off a).b (onB W.K er s ⟨(pw cells off a), (pw cells off a)⟩).2 (onB W.K er s ⟨(pw cells off a), (pw cells off a)⟩).1 false) := by kernel_rfl
theorem paT_mu (v : Nat → Value) (M' : List Blk) : ∃ y, ((paR W e cells off len cap c a er s sure x [true, true, false, true]).sel [0, 1, 2, 3, 4] M' v).T = paT off len cap (.b false) y := ⟨fun k => ((paR W e cells off len cap c a er s sure x [true, true, false, true]).sel [0, 1, 2, 3, 4] [] v).T.getD k .np, by kernel_rfl⟩
theorem paL_mn : Lands Tryz.prog EG (OPa W) 60 paBd (paS e cells off len cap c a er s sure (.b false) x (some [true, true, false, false])) .normal := by unfold Lands; kernel_rfl
theorem paO_mn : (paR W e cells off len cap c a er s sure x [true, true, false, false]).ob = (decide (s.lo.k < (pw cells off a).k), false) :: (decide (s.hi.k < (pw cells off a).k), false) :: (((nd0 cells off a).k == 5, true) :: paHd cells off len a er) := by kernel_rfl
theorem paM_mn : selM (paR W e cells off len cap c a er s sure x [true, true, false, false]).M [0, 1, 2, 3, 4] = some (paM e cells c (nd0 cells off a).a (onN W.K er s ⟨(pw cells off a), (pw cells off a)⟩).2 (onN W.K er s ⟨(pw cells off a), (pw cells off a)⟩).1 sure) := by kernel_rfl
theorem paT_mn (v : Nat → Value) (M' : List Blk) : ∃ y, ((paR W e cells off len cap c a er s sure x [true, true, false, false]).sel [0, 1, 2, 3, 4] M' v).T = paT off len cap (.b false) y := ⟨fun k => ((paR W e cells off len cap c a er s sure x [true, true, false, false]).sel [0, 1, 2, 3, 4] [] v).T.getD k .np, by kernel_rfl⟩
theorem paL_cn : Lands Tryz.prog EG (OPa W) 60 paBd (paS e cells off len cap c a er s sure (.b false) x (some [true, false, true, false, false, false])) .normal := by unfold Lands; kernel_rfl
theorem paO_cn : (paR W e cells off len cap c a er s sure x [true, false, true, false, false, false]).ob = (decide (s.lo.k < (pO W cells off a c).hi.k), false) :: (decide (s.hi.k < (pO W cells off a c).lo.k), false) :: ((W.D c (pI cells off a)).2 != 0, false) :: (W.dO c (pI cells off a) ++ (((nd0 cells off a).k == 6, true) :: ((nd0 cells off a).k == 5, false) :: paHd cells off len a er)) := by kernel_rfl
theorem paM_cn : selM (paR W e cells off len cap c a er s sure x [true, false, true, false, false, false]).M [0, 1, 2, 3, 4] = some (paM e cells c (nd0 cells off a).a (onN W.K er s (pO W cells off a c)).2 (onN W.K er s (pO W cells off a c)).1 sure) := by kernel_rfl
theorem paT_cn (v : Nat → Value) (M' : List Blk) : ∃ y, ((paR W e cells off len cap c a er s sure x [true, false, true, false, false, false]).sel [0, 1, 2, 3, 4] M' v).T = paT off len cap (.b false) y := ⟨fun k => ((paR W e cells off len cap c a er s sure x [true, false, true, false, false, false]).sel [0, 1, 2, 3, 4] [] v).T.getD k .np, by kernel_rfl⟩
theorem paL_cb : Lands Tryz.prog EG (OPa W) 60 paBd (paS e cells off len cap c a er s sure (.b false) x (some [true, false, true, false, true])) (.exit 1) := by unfold Lands; kernel_rfl
theorem paO_cb : (paR W e cells off len cap c a er s sure x [true, false, true, false, true]).ob = (decide (s.hi.k < (pO W cells off a c).lo.k), true) :: ((W.D c (pI cells off a)).2 != 0, false) :: (W.dO c (pI cells off a) ++ (((nd0 cells off a).k == 6, true) :: ((nd0 cells off a).k == 5, false) :: paHd cells off len a er)) := by kernel_rfl
theorem paM_cb : selM (paR W e cells off len cap c a er s sure x [true, false, true, false, true]).M [0, 1, 2, 3, 4] = some (paM e cells c a (s, er).2 (s, er).1 sure) := by kernel_rfl
theorem paT_cb (v : Nat → Value) (M' : List Blk) : ∃ y, ((paR W e cells off len cap c a er s sure x [true, false, true, false, true]).sel [0, 1, 2, 3, 4] M' v).T = paT off len cap (.b true) y := ⟨fun k => ((paR W e cells off len cap c a er s sure x [true, false, true, false, true]).sel [0, 1, 2, 3, 4] [] v).T.getD k .np, by kernel_rfl⟩
theorem paL_cu : Lands Tryz.prog EG (OPa W) 60 paBd (paS e cells off len cap c a er s sure (.b false) x (some [true, false, true, false, false, true])) (.exit 1) := by unfold Lands; kernel_rfl
theorem paO_cu : (paR W e cells off len cap c a er s sure x [true, false, true, false, false, true]).ob = (decide (s.lo.k < (pO W cells off a c).hi.k), true) :: (decide (s.hi.k < (pO W cells off a c).lo.k), false) :: ((W.D c (pI cells off a)).2 != 0, false) :: (W.dO c (pI cells off a) ++ (((nd0 cells off a).k == 6, true) :: ((nd0 cells off a).k == 5, false) :: paHd cells off len a er)) := by kernel_rfl
theorem paM_cu : selM (paR W e cells off len cap c a er s sure x [true, false, true, false, false, true]).M [0, 1, 2, 3, 4] = some (paM e cells c a (s, er).2 (s, er).1 false) := by kernel_rfl
theorem paT_cu (v : Nat → Value) (M' : List Blk) : ∃ y, ((paR W e cells off len cap c a er s sure x [true, false, true, false, false, true]).sel [0, 1, 2, 3, 4] M' v).T = paT off len cap (.b true) y := ⟨fun k => ((paR W e cells off len cap c a er s sure x [true, false, true, false, false, true]).sel [0, 1, 2, 3, 4] [] v).T.getD k .np, by kernel_rfl⟩
theorem paL_lf : Lands Tryz.prog EG (OPa W) 60 paBd (paS e cells off len cap c a er s sure (.b false) x (some [true, false, false])) (.exit 1) := by unfold Lands; kernel_rfl
theorem paO_lf : (paR W e cells off len cap c a er s sure x [true, false, false]).ob = ((nd0 cells off a).k == 6, false) :: ((nd0 cells off a).k == 5, false) :: paHd cells off len a er := by kernel_rfl
theorem paM_lf : selM (paR W e cells off len cap c a er s sure x [true, false, false]).M [0, 1, 2, 3, 4] = some (paM e cells c a (s, er).2 (s, er).1 sure) := by kernel_rfl
theorem paT_lf (v : Nat → Value) (M' : List Blk) : ∃ y, ((paR W e cells off len cap c a er s sure x [true, false, false]).sel [0, 1, 2, 3, 4] M' v).T = paT off len cap (.b false) y := ⟨fun k => ((paR W e cells off len cap c a er s sure x [true, false, false]).sel [0, 1, 2, 3, 4] [] v).T.getD k .np, by kernel_rfl⟩
theorem paL_er : Lands Tryz.prog EG (OPa W) 60 paBd (paS e cells off len cap c a er s sure (.b false) x (some [false])) (.exit 1) := by unfold Lands; kernel_rfl
theorem paO_er : (paR W e cells off len cap c a er s sure x [false]).ob = [(er == 0, false)] := by kernel_rfl
theorem paM_er : selM (paR W e cells off len cap c a er s sure x [false]).M [0, 1, 2, 3, 4] = some (paM e cells c a (s, er).2 (s, er).1 sure) := by kernel_rfl
theorem paT_er (v : Nat → Value) (M' : List Blk) : ∃ y, ((paR W e cells off len cap c a er s sure x [false]).sel [0, 1, 2, 3, 4] M' v).T = paT off len cap (.b false) y := ⟨fun k => ((paR W e cells off len cap c a er s sure x [false]).sel [0, 1, 2, 3, 4] [] v).T.getD k .np, by kernel_rfl⟩
end
section
variable (N : Nde) (o : List SV → Nat → Bool) (e : TypeId) (cells lc : List SV) (v u : V3) (off len cap n : Nat) (i : Int) (x : Nat → SV)
end
end Go.Proofs.YthclipfgcgoofaaGreat
