/- The document's answers on draws: Half, Split; the law UnitTells, walked. -/
import Derived.Test.YtkgpcnehffiifaaUt5
import Derived.Test.YtkgpcnehffiifaaUsr
namespace Go.Proofs.Ytkgpcnehffiifaa
set_option linter.all false
open Go.RowKit Bu Rx

theorem rSplit_no (u : Nat) (x : Nat) (hx : x < 18446744073709551616) (h : rightB x = false) (w : World) :
    Calls Try.prog 15 #[.int .u64 u, .float .f64 x] w fun e w' => e = .returned (.tuple #[.bool false, .int .u64 0, .int .i64 2]) ∧ Below w.heap.size w w' := by
  refine calls_of_run goodV oracleV1 80 (g := 15) (args := [.si .u64 u, .f x]) (ds := some [false]) (x := .tup [.b false, .i .u64 0, .i .i64 2]) (M' := []) (ds' := some [])
    (ob := [(Nat.blt x 18446744073709551616, true), (rightB x, false)]) (by kernel_rfl) (ObsOk.of_B ?_) rfl rfl w
  have h2 : Nat.blt x 18446744073709551616 = true := Nat.blt_eq.mpr hx
  simp only [obsB, List.all_cons, List.all_nil, h, h2, beq_self_eq_true, Bool.and_self]
theorem rSplit_bad (u : Nat) (x : F) (h : x.k < 0 ∨ 4607182418800017408 < x.k) (w : World) :
    Calls Try.prog 15 #[.int .u64 u, .float .f64 x.b] w fun e w' => e = .returned (.tuple #[.bool false, .int .u64 0, .int .i64 2]) ∧ Below w.heap.size w w' := by
  by_cases hx : x.k < 0
  · refine calls_of_run goodV oracleV1 80 (g := 15) (args := [.si .u64 u, .fl x]) (ds := some [true]) (x := .tup [.b false, .i .u64 0, .i .i64 2]) (M' := []) (ds' := some [])
      (ob := [c0 x true]) (by kernel_rfl) (ObsOk.of_B ?_) rfl rfl w
    simp only [obsB, List.all_cons, List.all_nil, c0, zero_k', decide_eq_true hx, beq_self_eq_true, Bool.and_self]
  · refine calls_of_run goodV oracleV1 80 (g := 15) (args := [.si .u64 u, .fl x]) (ds := some [false, true]) (x := .tup [.b false, .i .u64 0, .i .i64 2]) (M' := []) (ds' := some [])
      (ob := [c1 x true, c0 x false]) (by kernel_rfl) (ObsOk.of_B ?_) rfl rfl w
    simp only [obsB, List.all_cons, List.all_nil, c0, c1, zero_k', one_k', decide_eq_false hx, decide_eq_true (show 4607182418800017408 < x.k by omega), beq_self_eq_true, Bool.and_self]
theorem rSplit_in (n : Nat) (hu : (n : Int) ≤ 18446744073709551615) (x : F) (h0 : 0 ≤ x.k) (hx : x.k ≤ 4607182418800017408) (w : World) :
    Calls Try.prog 15 #[.int .u64 n, .float .f64 x.b] w fun e w' => e = .returned (.tuple #[.bool (splitF n x).1, .int .u64 ((splitF n x).2 : Int), .int .i64 0]) ∧ Below w.heap.size w w' := by
  have h5 : decide (x.k < 0) = false := decide_eq_false (by omega)
  have h6 : decide (4607182418800017408 < x.k) = false := decide_eq_false (by omega)
  by_cases he : x.k = 4607182418800017408
  · have hs : splitF n x = (true, n) := by
      have hb : splitB x = 0 := by unfold splitB; rw [if_neg (by omega)]
      unfold splitF; rw [if_pos (Or.inl he), hb]; rfl
    rw [hs]
    refine calls_of_run goodV oracleV1 80 (g := 15) (args := [.si .u64 n, .fl x]) (ds := some [false, false, true]) (x := .tup [.b true, .si .u64 n, .i .i64 0]) (M' := []) (ds' := some [])
      (ob := [e1 x true, c1 x false, c0 x false]) (by kernel_rfl) (ObsOk.of_B ?_) rfl rfl w
    simp only [obsB, List.all_cons, List.all_nil, c0, c1, e1, zero_k', one_k', h5, h6, decide_eq_true he, beq_self_eq_true, Bool.and_self]
  · have h7 := decide_eq_false he
    obtain ⟨lo, hi, X, y, B, sf⟩ := sides_facts n (by omega) x h0 (by omega)
    have hy := ldF_eq sf.sw
    have h11 : decide (Sc x y 64) = true := decide_eq_true sf.sw
    have hBl := sf.Bl
    have hf : f2i .u64 y.b = some (B : Int) := by
      unfold f2i
      have e : (FloatKind.f64.decode y.b).toInt .zero = some (y.z / S) := trunc_F y sf.y0
      rw [e, sf.yB]
      simp only
      rw [if_pos]
      have m1 : IntKind.u64.min = 0 := by decide
      have m2 : IntKind.u64.max = 18446744073709551615 := by decide
      rw [m1, m2]; omega
    have hb : bI x = (B : Int) := by unfold bI; rw [hy, hf]; rfl
    by_cases hlt : n < B
    · have hs : splitF n x = (true, n * 18446744073709551616 / B) := by unfold splitF; rw [sf.Bq, if_pos (Or.inr hlt), if_pos (by omega)]
      rw [hs]
      have := calls_of_run goodV oracleV1 80 (g := 15) (args := [.si .u64 n, .fl x]) (ds := some [false, false, false, true]) (x := .tup [.b true, .si .u64 (((n : Int).toNat * 18446744073709551616 / (bI x).toNat : Nat) : Int), .i .i64 0]) (M' := []) (ds' := some [])
        (ob := [(decide (0 ≤ (n : Int) ∧ (n : Int) < bI x ∧ bI x ≤ 18446744073709551615), true), (decide ((n : Int) < bI x), true), toI x, lW x, e1 x false, c1 x false, c0 x false]) (by kernel_rfl) (ObsOk.of_B ?_) rfl rfl w
      · simpa only [hb, Int.toNat_natCast] using this
      · have h13 : decide (0 ≤ (n : Int) ∧ (n : Int) < B ∧ (B : Int) ≤ 18446744073709551615) = true := decide_eq_true ⟨by omega, by omega, by omega⟩
        have h14 : decide ((n : Int) < B) = true := decide_eq_true (by omega)
        simp only [obsB, List.all_cons, List.all_nil, c0, c1, e1, toI, lW, hb, hy, hf, Option.isSome_some, zero_k', one_k', h5, h6, h7, h11, h13, h14, beq_self_eq_true, Bool.and_self]
    · have h14 : decide ((n : Int) < B) = false := decide_eq_false (by omega)
      by_cases hz : B = 0
      · have hs : splitF n x = (false, n) := by unfold splitF; rw [sf.Bq, if_neg (by omega), if_neg (by omega)]
        rw [hs]
        refine calls_of_run goodV oracleV1 80 (g := 15) (args := [.si .u64 n, .fl x]) (ds := some [false, false, false, false, true]) (x := .tup [.b false, .si .u64 n, .i .i64 0]) (M' := []) (ds' := some [])
          (ob := [eqI (bI x) 0 true, (decide ((n : Int) < bI x), false), toI x, lW x, e1 x false, c1 x false, c0 x false]) (by kernel_rfl) (ObsOk.of_B ?_) rfl rfl w
        have h15 : decide ((B : Int) = 0) = true := decide_eq_true (by omega)
        simp only [obsB, List.all_cons, List.all_nil, c0, c1, e1, eqI, toI, lW, hb, hy, hf, Option.isSome_some, zero_k', one_k', h5, h6, h7, h11, h14, h15, beq_self_eq_true, Bool.and_self]
      · have hs : splitF n x = (false, (n - B) * 18446744073709551616 / (18446744073709551616 - B)) := by unfold splitF; rw [sf.Bq, if_neg (by omega), if_pos (by omega)]
        rw [hs]
        have w1 : IntKind.u64.wrap ((n : Int) - B) = ((n - B : Nat) : Int) := by rw [IntKind.wrap_u64]; omega
        have w2 : IntKind.u64.wrap ((0 : Int) - B) = ((18446744073709551616 - B : Nat) : Int) := by rw [IntKind.wrap_u64]; omega
        have := calls_of_run goodV oracleV1 80 (g := 15) (args := [.si .u64 n, .fl x]) (ds := some [false, false, false, false, false]) (x := .tup [.b false, .si .u64 (((IntKind.u64.wrap ((n : Int) - bI x)).toNat * 18446744073709551616 / (IntKind.u64.wrap (0 - bI x)).toNat : Nat) : Int), .i .i64 0]) (M' := []) (ds' := some [])
          (ob := [(decide (0 ≤ IntKind.u64.wrap ((n : Int) - bI x) ∧ IntKind.u64.wrap ((n : Int) - bI x) < IntKind.u64.wrap (0 - bI x) ∧ IntKind.u64.wrap (0 - bI x) ≤ 18446744073709551615), true), eqI (bI x) 0 false, (decide ((n : Int) < bI x), false), toI x, lW x, e1 x false, c1 x false, c0 x false]) (by kernel_rfl) (ObsOk.of_B ?_) rfl rfl w
        · simpa only [hb, w1, w2, Int.toNat_natCast] using this
        · have h15 : decide ((B : Int) = 0) = false := decide_eq_false (by omega)
          have h16 : decide (0 ≤ ((n - B : Nat) : Int) ∧ ((n - B : Nat) : Int) < ((18446744073709551616 - B : Nat) : Int) ∧ ((18446744073709551616 - B : Nat) : Int) ≤ 18446744073709551615) = true := decide_eq_true ⟨by omega, by omega, by omega⟩
          simp only [obsB, List.all_cons, List.all_nil, c0, c1, e1, eqI, toI, lW, hb, hy, hf, w1, w2, Option.isSome_some, zero_k', one_k', h5, h6, h7, h11, h14, h15, h16, beq_self_eq_true, Bool.and_self]
theorem rSplitP : PlainOk Try.prog 15 oSplit := by
  intro args ds x ds' ob h ho
  unfold oSplit at h
  split at h
  · rename_i u x
    split at h
    · rename_i n hk
      split at h
      · rename_i ds1 ob1 h1
        split at h
        · rename_i d ds2 ob2 h2
          simp only [Option.some.injEq, Prod.mk.injEq] at h; obtain ⟨rfl, _, rfl⟩ := h
          have hn := of_decide_eq_true (ho _ (List.mem_cons_self ..))
          have ho' : ObsOk (ob2 ++ ob1) := fun p hp => ho p (List.mem_cons_of_mem _ hp)
          have hx := of_decide_eq_true (takeB_ok h1 ho'.right).symm
          have hd := takeB_ok h2 ho'.left
          obtain ⟨v, rfl⟩ := Int.eq_ofNat_of_zero_le hn.1
          refine ⟨[.int .u64 v, .float .f64 x.b], .tuple #[.bool d, .int .u64 ((splitF v x).2 : Int), .int .i64 0], plains_cons (intS_plain hk) (plains_cons rfl plains_nil), rfl, fun w => ?_⟩
          rw [hd]
          exact rSplit_in v hn.2 x hx.1 hx.2 w
        · cases h
      · rename_i ds1 ob1 h1
        simp only [Option.some.injEq, Prod.mk.injEq] at h; obtain ⟨rfl, _, rfl⟩ := h
        have hn := of_decide_eq_true (ho _ (List.mem_cons_self ..))
        have ho' : ObsOk ob1 := fun p hp => ho p (List.mem_cons_of_mem _ hp)
        have hx := of_decide_eq_false (takeB_ok h1 ho').symm
        obtain ⟨v, rfl⟩ := Int.eq_ofNat_of_zero_le hn.1
        exact ⟨[.int .u64 v, .float .f64 x.b], .tuple #[.bool false, .int .u64 0, .int .i64 2], plains_cons (intS_plain hk) (plains_cons rfl plains_nil), rfl, fun w => rSplit_bad v x (by omega) w⟩
      · cases h
    · cases h
  · rename_i u x
    split at h
    · rename_i n hk
      simp only [Option.some.injEq, Prod.mk.injEq] at h; obtain ⟨rfl, _, rfl⟩ := h
      have hn := of_decide_eq_true (ho _ (List.mem_cons_self ..))
      have h1 := Nat.blt_eq.mp (ho (Nat.blt x 18446744073709551616, true) (by simp))
      have h2 := ho (rightB x, false) (by simp)
      obtain ⟨v, rfl⟩ := Int.eq_ofNat_of_zero_le hn.1
      exact ⟨[.int .u64 v, .float .f64 x], .tuple #[.bool false, .int .u64 0, .int .i64 2], plains_cons (intS_plain hk) (plains_cons rfl plains_nil), rfl, fun w => rSplit_no v x h1 h2 w⟩
    · cases h
  · cases h

/-! ## Half, Same, Of -/
def oHalf : List SV → Dec → Option (SV × Dec × Obs)
  | [u], ds => match intS u with
    | some (.u64, n) => match takeB ds (decide (n.toNat < 9223372036854775808)) with
      | some (d, ds', ob) => some (.tup [.b d, .si .u64 ((2 * n.toNat % 18446744073709551616 : Nat) : Int)], ds', (decide (0 ≤ n ∧ n ≤ 18446744073709551615), true) :: ob)
      | none => none
    | _ => none
  | _, _ => none
def oSame : List SV → Dec → Option (SV × Dec × Obs)
  | [.agg [.fl a, .fl b], .agg [.fl c, .fl d]], ds => (takeB ds (decide (a = c ∧ b = d))).map fun r => (.b r.1, r.2.1, r.2.2)
  | _, _ => none
theorem rHalf_w (n : Nat) (hn : (n : Int) ≤ 18446744073709551615) (w : World) :
    Calls Try.prog 14 #[.int .u64 n] w fun e w' => e = .returned (.tuple #[.bool (decide (n < 9223372036854775808)), .int .u64 ((2 * n % 18446744073709551616 : Nat) : Int)]) ∧ Below w.heap.size w w' := by
  by_cases c : n < 9223372036854775808
  · have w1 : IntKind.u64.wrap ((n : Int) * 2) = ((2 * n % 18446744073709551616 : Nat) : Int) := by rw [IntKind.wrap_u64]; omega
    rw [decide_eq_true c, ← w1]
    refine calls_of_run goodV oracleV1 80 (g := 14) (args := [.si .u64 n]) (ds := some [true]) (x := .tup [.b true, .si .u64 (IntKind.u64.wrap ((n : Int) * 2))]) (M' := []) (ds' := some [])
      (ob := [(decide ((n : Int) < 9223372036854775808), true)]) (by kernel_rfl) (ObsOk.of_B ?_) rfl rfl w
    simp only [obsB, List.all_cons, List.all_nil, decide_eq_true (show (n : Int) < 9223372036854775808 by omega), beq_self_eq_true, Bool.and_self]
  · have w1 : IntKind.u64.wrap (IntKind.u64.wrap ((n : Int) - 9223372036854775808) * 2) = ((2 * n % 18446744073709551616 : Nat) : Int) := by rw [IntKind.wrap_u64, IntKind.wrap_u64]; omega
    rw [decide_eq_false c, ← w1]
    refine calls_of_run goodV oracleV1 80 (g := 14) (args := [.si .u64 n]) (ds := some [false]) (x := .tup [.b false, .si .u64 (IntKind.u64.wrap (IntKind.u64.wrap ((n : Int) - 9223372036854775808) * 2))]) (M' := []) (ds' := some [])
      (ob := [(decide ((n : Int) < 9223372036854775808), false)]) (by kernel_rfl) (ObsOk.of_B ?_) rfl rfl w
    simp only [obsB, List.all_cons, List.all_nil, decide_eq_false (show ¬ (n : Int) < 9223372036854775808 by omega), beq_self_eq_true, Bool.and_self]
theorem half_any {g : FuncId} (hg : ∀ n : Nat, (n : Int) ≤ 18446744073709551615 → ∀ w, Calls Try.prog g #[.int .u64 n] w fun e w' => e = .returned (.tuple #[.bool (decide (n < 9223372036854775808)), .int .u64 ((2 * n % 18446744073709551616 : Nat) : Int)]) ∧ Below w.heap.size w w') : PlainOk Try.prog g oHalf := by
  intro args ds x ds' ob h ho
  unfold oHalf at h
  split at h
  · rename_i u
    split at h
    · rename_i n hn
      split at h
      · rename_i d ds1 ob1 h1
        simp only [Option.some.injEq, Prod.mk.injEq] at h; obtain ⟨rfl, _, rfl⟩ := h
        have hs := of_decide_eq_true (ho _ (List.mem_cons_self ..))
        have ho' : ObsOk ob1 := fun p hp => ho p (List.mem_cons_of_mem _ hp)
        obtain ⟨p, rfl⟩ := Int.eq_ofNat_of_zero_le hs.1
        have hd := takeB_ok h1 ho'
        simp only [Int.toNat_natCast] at hd ⊢
        refine ⟨[.int .u64 p], .tuple #[.bool d, .int .u64 ((2 * p % 18446744073709551616 : Nat) : Int)], plains_cons (intS_plain hn) plains_nil, rfl, fun w => ?_⟩
        rw [hd]
        exact hg p hs.2 w
      · cases h
    · cases h
  · cases h
theorem sameP : PlainOk Try.prog 16 oSame := by
  intro args ds x ds' ob h ho
  unfold oSame at h
  split at h
  · rename_i a b c d
    simp only [Option.map_eq_some_iff, Prod.mk.injEq] at h
    obtain ⟨⟨q, _, _⟩, h1, rfl, rfl, rfl⟩ := h
    refine ⟨[.agg #[.float .f64 a.b, .float .f64 b.b], .agg #[.float .f64 c.b, .float .f64 d.b]], .bool q, rfl, rfl, fun w => ?_⟩
    rw [takeB_ok h1 ho]
    exact same2_w a b c d w
  · cases h
theorem rOfP : PlainOk Try.prog 17 oOf := by
  intro args ds x ds' ob h ho
  unfold oOf at h
  split at h
  · rename_i u
    split at h
    · rename_i n hk
      simp only [Option.some.injEq, Prod.mk.injEq] at h; obtain ⟨rfl, _, rfl⟩ := h
      have hs := of_decide_eq_true (obs1 ho)
      obtain ⟨v, rfl⟩ := Int.eq_ofNat_of_zero_le hs.1
      exact ⟨[.int .u64 v], ivV (unitOf v), plains_cons (intS_plain hk) plains_nil, rfl, fun w => rOf_w v hs.2 w⟩
    · cases h
  · cases h
def OV2 : OracleF := lookO [(13, plainO oHalf), (14, plainO oHalf), (12, plainO oSplit), (15, plainO oSplit), (7, plainO oOf), (17, plainO oOf), (16, plainO oSame), (10, plainO (oConst (.b true)))]
theorem oracleV2 : OracleOk Try.prog OV2 :=
  .cons (half_any fun n hn w => (half_w n hn w).mono fun e w' ⟨h1, h2⟩ => ⟨h1, h2 ▸ Below.refl _ _⟩).of (.cons (half_any rHalf_w).of (.cons splitP.of (.cons rSplitP.of (.cons ofP.of (.cons rOfP.of (.cons sameP.of (.cons awakeP.of (.nil _))))))))

/-! ## the law -/
def hf (n : Int) (d : Bool) : Obs := [nR n, (decide (n.toNat < 9223372036854775808), d)]
def hE (n : Int) : Bool × Bool := (decide (((2 * n.toNat % 18446744073709551616 : Nat) : Int) = ((2 * n.toNat % 18446744073709551616 : Nat) : Int)), true)
def ofE (n : Int) : Obs := [(decide ((unitOf n.toNat).lo = (unitOf n.toNat).lo ∧ (unitOf n.toNat).hi = (unitOf n.toNat).hi), true), nR n, nR n]
theorem tellsRun {args : List SV} {ds : List Bool} {ob : Obs} {vs : List Value} (h : (run Try.prog EV OV2 100).1 6 args [] (some ds) = some (.b true, [], some [], ob)) (ho : obsB ob = true) (hv : plains args = some vs) (w : World) :
    Calls Try.prog 6 vs.toArray w fun e w' => e = .returned (.bool true) ∧ Below w.heap.size w w' :=
  calls_of_run goodV oracleV2 100 h (ObsOk.of_B ho) hv rfl w
theorem tells_no (n : Nat) (x : Nat) (hu : (n : Int) ≤ 18446744073709551615) (hx : x < 18446744073709551616) (h : rightB x = false) (w : World) :
    Calls Try.prog 6 #[.int .u64 n, .float .f64 x] w fun e w' => e = .returned (.bool true) ∧ Below w.heap.size w w' := by
  have h3 : decide (0 ≤ (n : Int) ∧ (n : Int) ≤ 18446744073709551615) = true := decide_eq_true ⟨by omega, hu⟩
  have h2 : Nat.blt x 18446744073709551616 = true := Nat.blt_eq.mpr hx
  by_cases c : n < 9223372036854775808
  · refine tellsRun (args := [.si .u64 n, .f x]) (ds := [true, true, true, true]) (ob := [hE n] ++ ofE n ++ [nR n, (Nat.blt x 18446744073709551616, true), (rightB x, false)] ++ [nR n, (Nat.blt x 18446744073709551616, true), (rightB x, false)] ++ hf n true ++ hf n true) (by kernel_rfl) ?_ rfl w
    have h1 := decide_eq_true c
    simp only [obsB, List.all_append, List.all_cons, List.all_nil, hE, ofE, hf, nR, Int.toNat_natCast, h, h1, h2, h3, and_self, decide_true, beq_self_eq_true, Bool.and_self]
  · refine tellsRun (args := [.si .u64 n, .f x]) (ds := [false, false, true, true]) (ob := [hE n] ++ ofE n ++ [nR n, (Nat.blt x 18446744073709551616, true), (rightB x, false)] ++ [nR n, (Nat.blt x 18446744073709551616, true), (rightB x, false)] ++ hf n false ++ hf n false) (by kernel_rfl) ?_ rfl w
    have h1 := decide_eq_false c
    simp only [obsB, List.all_append, List.all_cons, List.all_nil, hE, ofE, hf, nR, Int.toNat_natCast, h, h1, h2, h3, and_self, decide_true, beq_self_eq_true, Bool.and_self]
theorem tells_bad (n : Nat) (x : F) (hu : (n : Int) ≤ 18446744073709551615) (h : x.k < 0 ∨ 4607182418800017408 < x.k) (w : World) :
    Calls Try.prog 6 #[.int .u64 n, .float .f64 x.b] w fun e w' => e = .returned (.bool true) ∧ Below w.heap.size w w' := by
  have h3 : decide (0 ≤ (n : Int) ∧ (n : Int) ≤ 18446744073709551615) = true := decide_eq_true ⟨by omega, hu⟩
  have h4 : decide (0 ≤ x.k ∧ x.k ≤ 4607182418800017408) = false := decide_eq_false (by omega)
  by_cases c : n < 9223372036854775808
  · refine tellsRun (args := [.si .u64 n, .fl x]) (ds := [true, true, false, false, true, true]) (ob := [hE n] ++ ofE n ++ [nR n, iR x false] ++ [nR n, iR x false] ++ hf n true ++ hf n true) (by kernel_rfl) ?_ rfl w
    have h1 := decide_eq_true c
    simp only [obsB, List.all_append, List.all_cons, List.all_nil, hE, ofE, hf, nR, iR, Int.toNat_natCast, h1, h3, h4, and_self, decide_true, beq_self_eq_true, Bool.and_self]
  · refine tellsRun (args := [.si .u64 n, .fl x]) (ds := [false, false, false, false, true, true]) (ob := [hE n] ++ ofE n ++ [nR n, iR x false] ++ [nR n, iR x false] ++ hf n false ++ hf n false) (by kernel_rfl) ?_ rfl w
    have h1 := decide_eq_false c
    simp only [obsB, List.all_append, List.all_cons, List.all_nil, hE, ofE, hf, nR, iR, Int.toNat_natCast, h1, h3, h4, and_self, decide_true, beq_self_eq_true, Bool.and_self]
theorem tells_in (n : Nat) (x : F) (hu : (n : Int) ≤ 18446744073709551615) (h0 : 0 ≤ x.k) (hx : x.k ≤ 4607182418800017408) (w : World) :
    Calls Try.prog 6 #[.int .u64 n, .float .f64 x.b] w fun e w' => e = .returned (.bool true) ∧ Below w.heap.size w w' := by
  have h3 : decide (0 ≤ (n : Int) ∧ (n : Int) ≤ 18446744073709551615) = true := decide_eq_true ⟨by omega, hu⟩
  have h4 : decide (0 ≤ x.k ∧ x.k ≤ 4607182418800017408) = true := decide_eq_true ⟨h0, hx⟩
  have go : ∀ c d : Bool, decide (n < 9223372036854775808) = c → (splitF n x).1 = d →
      obsB (left n (((splitF (n : Int).toNat x).2 : Nat) : Int) x ++ [hE n] ++ ofE n ++ sp n x d ++ sp n x d ++ hf n c ++ hf n c) = true := by
    intro c d h1 h2
    simp only [obsB, List.all_append, List.all_cons, List.all_nil, left, sp, hE, ofE, hf, nR, iR, Int.toNat_natCast, h1, h2, h3, h4, and_self, decide_true, beq_self_eq_true, Bool.and_self]
  cases c : decide (n < 9223372036854775808) with
  | true => cases d : (splitF n x).1 with
    | true => exact tellsRun (args := [.si .u64 n, .fl x]) (ds := [true, true, true, true, true, true, true, true, true]) (ob := left n (((splitF (n : Int).toNat x).2 : Nat) : Int) x ++ [hE n] ++ ofE n ++ sp n x true ++ sp n x true ++ hf n true ++ hf n true) (by kernel_rfl) (go _ _ c d) rfl w
    | false => exact tellsRun (args := [.si .u64 n, .fl x]) (ds := [true, true, true, false, true, false, true, true, true]) (ob := left n (((splitF (n : Int).toNat x).2 : Nat) : Int) x ++ [hE n] ++ ofE n ++ sp n x false ++ sp n x false ++ hf n true ++ hf n true) (by kernel_rfl) (go _ _ c d) rfl w
  | false => cases d : (splitF n x).1 with
    | true => exact tellsRun (args := [.si .u64 n, .fl x]) (ds := [false, false, true, true, true, true, true, true, true]) (ob := left n (((splitF (n : Int).toNat x).2 : Nat) : Int) x ++ [hE n] ++ ofE n ++ sp n x true ++ sp n x true ++ hf n false ++ hf n false) (by kernel_rfl) (go _ _ c d) rfl w
    | false => exact tellsRun (args := [.si .u64 n, .fl x]) (ds := [false, false, true, false, true, false, true, true, true]) (ob := left n (((splitF (n : Int).toNat x).2 : Nat) : Int) x ++ [hE n] ++ ofE n ++ sp n x false ++ sp n x false ++ hf n false ++ hf n false) (by kernel_rfl) (go _ _ c d) rfl w
theorem unitTells_row (u x : _) (w0 : (Lit.int .u64 u).wf = true) (w1 : (Lit.float .f64 x).wf = true) (w : World) :
    Calls Try.prog 6 #[.int .u64 u, .float .f64 x] w fun e w' => e = .returned (.bool true) ∧ Below w.heap.size w w' := by
  obtain ⟨n, rfl, hu⟩ := u64_nat w0
  cases hr : rightB x with
  | false => exact tells_no n x hu (f64_in w1) hr w
  | true =>
    obtain ⟨y, rfl⟩ := F_of_right hr
    by_cases hb : y.k < 0 ∨ 4607182418800017408 < y.k
    · exact tells_bad n y hu hb w
    · exact tells_in n y hu (by omega) (by omega) w
end Go.Proofs.Ytkgpcnehffiifaa
