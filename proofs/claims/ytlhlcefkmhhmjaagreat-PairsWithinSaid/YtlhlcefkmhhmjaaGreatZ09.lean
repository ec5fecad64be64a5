/- Walks of the small float functions. Walks of package dir: small ones. Walks of package dir: parts, rounded. Walks of package dir: rounded. Walks of package dir: Next. -/
import Derived.Test.YtlhlcefkmhhmjaaGreatRows
import Derived.Test.YtlhlcefkmhhmjaaGreatZ01
import Derived.WalkKit
import Derived.WalkSpells
import Derived.WalkLawsBesides
import Derived.Laws.BitsAll
import Derived.Lib.Hide
import Derived.Test.YtlhlcefkmhhmjaaGreatShelf
import Derived.Test.YtlhlcefkmhhmjaaGreatZ03
import Derived.RegionTactic
import Derived.Deep.QuietTactic
import Derived.BigQuiet
import Derived.Deep.RegionWith
import Derived.Deep.RegionHeld3
import Derived.Outline
import Derived.Test.YtlhlcefkmhhmjaaGreatZ07
import Derived.Deep.DeepCutAuto
namespace Go.Proofs.YtlhlcefkmhhmjaaGreat
set_option linter.all false
open Go.RowKit Bu

theorem ret_bool {a b : Bool} (h : a = b) : Ending.returned (.bool a) = .returned (.bool b) := by rw [h]
theorem ret_int {k : IntKind} {a b : Int} (h : a = b) : Ending.returned (.int k a) = .returned (.int k b) := by rw [h]
theorem ret_float {a b : Nat} (h : a = b) : Ending.returned (.float .f64 a) = .returned (.float .f64 b) := by rw [h]

@[go_sem] theorem ford_lt (x y : F) : (FloatKind.f64.format.order x.b y.b == some .lt) = decide (x.k < y.k) := order_lt x y
theorem b_zero : F.zero.b = 0 := by decide
theorem ford0_eq (x : F) : (FloatKind.f64.format.order x.b 0 == some .eq) = decide (x.k = 0) := by rw [← b_zero]; exact order_eq x F.zero
theorem run_fbits (x : Nat) (w : World) : (callFunc 78 #[.float .f64 x]).run Tryz.prog w = .ok (.value (.int .u64 x)) w := by
  rw [run_callFunc_extern (e := Extern.MathFloatBits.float64bits) Tryz.func78 (by kernel_rfl) (by kernel_rfl) (by kernel_rfl) (by kernel_rfl)]; rfl
theorem run_ffrom (x : Int) (w : World) : (callFunc 77 #[.int .u64 x]).run Tryz.prog w = .ok (.value (.float .f64 x.toNat)) w := by
  rw [run_callFunc_extern (e := Extern.MathFloatBits.float64frombits) Tryz.func77 (by kernel_rfl) (by kernel_rfl) (by kernel_rfl) (by kernel_rfl)]; rfl

set_option maxHeartbeats 400000 in
theorem isNaN_w (x : Nat) (w : World) :
    Calls Tryz.prog 79 #[.float .f64 x] w fun e w' => e = .returned (.bool (Ieee.double.order x x != some .eq)) ∧ w = w' := by
  go_enter Tryz.func79, Tryz.ntmps79
  go_wp2
  go_ret
  exact ⟨rfl, rfl⟩

theorem isNaN_F (x : F) (w : World) :
    Calls Tryz.prog 79 #[.float .f64 x.b] w fun e w' => e = .returned (.bool false) ∧ w = w' :=
  (isNaN_w x.b w).mono fun e w' ⟨h1, h2⟩ => ⟨by
    rw [h1]; refine ret_bool ?_
    have := order_eq x x
    simp only [decide_true, beq_iff_eq] at this
    simp [this], h2⟩

set_option maxHeartbeats 400000 in
theorem signbit_w (x : Nat) (w : World) (hx : x < 18446744073709551616) :
    Calls Tryz.prog 81 #[.float .f64 x] w fun e w' => e = .returned (.bool (decide (9223372036854775808 ≤ x))) ∧ w = w' := by
  have hb := run_fbits
  go_enter Tryz.func81, Tryz.ntmps81
  go_wp2
  go_ret
  refine ⟨ret_bool ?_, rfl⟩
  rw [Bool.eq_iff_iff]
  simp only [decide_eq_true_eq]
  unfold wrap64
  omega

set_option maxHeartbeats 400000 in
theorem abs_w (x : Nat) (w : World) (hx : x < 18446744073709551616) :
    Calls Tryz.prog 49 #[.float .f64 x] w fun e w' => e = .returned (.float .f64 (x % 9223372036854775808)) ∧ w = w' := by
  have hb := run_fbits
  have hf := run_ffrom
  go_enter Tryz.func49, Tryz.ntmps49
  go_wp2
  go_ret
  refine ⟨ret_float ?_, rfl⟩
  rw [u64_andNot _ _ (by omega) (by omega) (by omega) (by omega)]
  simp only [Int.toNat_natCast]
  rw [show (18446744073709551615 - (9223372036854775808 : Int).toNat) = 2 ^ 63 - 1 from by decide, Nat.and_two_pow_sub_one_eq_mod]

theorem abs_F (x : F) (w : World) :
    Calls Tryz.prog 49 #[.float .f64 x.b] w fun e w' => e = .returned (.float .f64 x.abs.b) ∧ w = w' :=
  (abs_w x.b w (by have := x.b_lt; omega)).mono fun e w' ⟨h1, h2⟩ => ⟨by rw [h1]; exact ret_float (F.abs_b x), h2⟩

set_option maxHeartbeats 400000 in
theorem isInf_w (x : Nat) (w : World) (hx : x < 18446744073709551616) :
    Calls Tryz.prog 80 #[.float .f64 x, .int .i64 0] w fun e w' => e = .returned (.bool (Ieee.double.order (x % 9223372036854775808) 9218868437227405311 == some .gt)) ∧ w = w' := by
  go_enter Tryz.func80, Tryz.ntmps80
  go_wp2_with (go_at_call 49; refine (abs_w _ _ (by omega)).mono ?_; rintro e w' ⟨rfl, rfl⟩)
  go_ret
  exact ⟨ret_bool rfl, rfl⟩

theorem isInf_F (x : F) (w : World) :
    Calls Tryz.prog 80 #[.float .f64 x.b, .int .i64 0] w fun e w' => e = .returned (.bool false) ∧ w = w' :=
  (isInf_w x.b w (by have := x.b_lt; omega)).mono fun e w' ⟨h1, h2⟩ => ⟨by
    rw [h1]; refine ret_bool ?_
    rw [F.abs_b, show (9218868437227405311 : Nat) = F.max.b from by decide, order_gt]
    have := x.abs.hk
    have e : F.max.k = (T : Int) - 1 := rfl
    simp; omega, h2⟩

theorem signbit_F (x : F) (w : World) :
    Calls Tryz.prog 81 #[.float .f64 x.b] w fun e w' => e = .returned (.bool (decide (x.k < 0))) ∧ w = w' :=
  (signbit_w x.b w (by have := x.b_lt; omega)).mono fun e w' ⟨h1, h2⟩ => ⟨by
    rw [h1]; refine ret_bool ?_
    rw [Bool.eq_iff_iff]
    have := x.hk
    have e := T_num
    unfold F.b
    simp only [decide_eq_true_eq]
    split <;> omega, h2⟩

set_option maxHeartbeats 400000 in
theorem right_F_w (x : F) (w : World) :
    Calls Tryz.prog 50 #[.float .f64 x.b] w fun e w' => e = .returned (.bool true) ∧ w = w' := by
  have ho := ford0_eq x
  by_cases h : x.k = 0
  · have h0 : (FloatKind.f64.format.order x.b 0 == some .eq) = true := by rw [ho]; simpa using h
    have hs : decide (x.k < 0) = false := by simp; omega
    clear ho h
    go_enter Tryz.func50, Tryz.ntmps50
    go_wp2_with (first | (go_at_call 79; refine (isNaN_F _ _).mono ?_; rintro e w' ⟨rfl, rfl⟩) | (go_at_call 80; refine (isInf_F _ _).mono ?_; rintro e w' ⟨rfl, rfl⟩) | (go_at_call 81; refine (signbit_F _ _).mono ?_; rintro e w' ⟨rfl, rfl⟩))
    go_ret
    exact ⟨ret_bool (by simp [hs]), rfl⟩
  · have h0 : (FloatKind.f64.format.order x.b 0 == some .eq) = false := by rw [ho]; simpa using h
    clear ho h
    go_enter Tryz.func50, Tryz.ntmps50
    go_wp2_with (first | (go_at_call 79; refine (isNaN_F _ _).mono ?_; rintro e w' ⟨rfl, rfl⟩) | (go_at_call 80; refine (isInf_F _ _).mono ?_; rintro e w' ⟨rfl, rfl⟩) | (go_at_call 81; refine (signbit_F _ _).mono ?_; rintro e w' ⟨rfl, rfl⟩))
    go_ret
    exact ⟨ret_bool rfl, rfl⟩

/-- what is no number -/
theorem right_no_w (x : Nat) (hx : x < 18446744073709551616) (h : rightB x = false) (w : World) :
    Calls Tryz.prog 50 #[.float .f64 x] w fun e w' => e = .returned (.bool false) ∧ w = w' := by
  obtain ⟨neg, r, hr, hxr, hc⟩ := bad_parts hx h
  have hr1 := read_parts x neg r hr hxr
  have hm : x % 9223372036854775808 = r := by cases neg <;> simp at hxr <;> omega
  rcases hc with ⟨h1, h2⟩ | h1 | h1
  · -- minus 0
    subst h1 h2
    obtain rfl : x = 9223372036854775808 := by simpa using hxr
    clear h hr hxr hr1 hm hx
    go_enter Tryz.func50, Tryz.ntmps50
    go_wp2_with (first | (go_at_call 79; refine (isNaN_w _ _).mono ?_; rintro e w' ⟨rfl, rfl⟩) | (go_at_call 80; refine (isInf_w _ _ (by omega)).mono ?_; rintro e w' ⟨rfl, rfl⟩) | (go_at_call 81; refine (signbit_w _ _ (by omega)).mono ?_; rintro e w' ⟨rfl, rfl⟩))
    go_ret
    exact ⟨ret_bool rfl, rfl⟩
  · -- infinite
    have hn : (Ieee.double.order x x != some .eq) = false := by
      unfold Ieee.Format.order
      rw [hr1, if_neg (by omega), if_pos h1]
      simp [Ieee.Datum.order]
    have hi : (Ieee.double.order (x % 9223372036854775808) 9218868437227405311 == some .gt) = true := by
      rw [hm, h1]; decide +kernel
    have hz : (FloatKind.f64.format.order x 0 == some .eq) = false := by
      show (Ieee.double.order x 0 == some .eq) = false
      unfold Ieee.Format.order
      rw [hr1, if_neg (by omega), if_pos h1]
      cases neg <;> decide +kernel
    clear h hr hxr hr1 hm h1
    go_enter Tryz.func50, Tryz.ntmps50
    go_wp2_with (first | (go_at_call 79; refine (isNaN_w _ _).mono ?_; rintro e w' ⟨rfl, rfl⟩) | (go_at_call 80; refine (isInf_w _ _ hx).mono ?_; rintro e w' ⟨rfl, rfl⟩) | (go_at_call 81; refine (signbit_w _ _ hx).mono ?_; rintro e w' ⟨rfl, rfl⟩))
    go_ret
    exact ⟨ret_bool rfl, rfl⟩
  · -- no number
    have hn : (Ieee.double.order x x != some .eq) = true := by
      unfold Ieee.Format.order
      rw [hr1, if_neg (by omega), if_neg (by omega)]
      simp [Ieee.Datum.order]
    have hz : (FloatKind.f64.format.order x 0 == some .eq) = false := by
      show (Ieee.double.order x 0 == some .eq) = false
      unfold Ieee.Format.order
      rw [hr1, if_neg (by omega), if_neg (by omega)]
      simp [Ieee.Datum.order]
    clear h hr hxr hr1 hm h1
    go_enter Tryz.func50, Tryz.ntmps50
    go_wp2_with (first | (go_at_call 79; refine (isNaN_w _ _).mono ?_; rintro e w' ⟨rfl, rfl⟩) | (go_at_call 80; refine (isInf_w _ _ hx).mono ?_; rintro e w' ⟨rfl, rfl⟩) | (go_at_call 81; refine (signbit_w _ _ hx).mono ?_; rintro e w' ⟨rfl, rfl⟩))
    go_ret
    exact ⟨ret_bool rfl, rfl⟩
end Go.Proofs.YtlhlcefkmhhmjaaGreat
namespace Go.Proofs.YtlhlcefkmhhmjaaGreat
set_option linter.all false
open Go.RowKit Bu

theorem lib_len_le (x : Nat) (h : (x : Int) ≤ 18446744073709551615) : Lib.bitLen x ≤ 64 := by
  have := Any.bitLen_le64 (x : Int) (by omega) h
  simpa using this

set_option maxHeartbeats 400000 in
theorem size_w (a b : Nat) (w : World) (ha : (a : Int) ≤ 18446744073709551615) (hb : (b : Int) ≤ 18446744073709551615) :
    Calls Tryz.prog 109 #[.agg #[.int .u64 a, .int .u64 b]] w fun e w' => e = .returned (.int .i64 (if a > 0 then 64 + Lib.bitLen a else Lib.bitLen b)) ∧ Below w.heap.size w w' := by
  by_cases h : a = 0
  · subst h
    go_enter Tryz.func109, Tryz.ntmps109
    go_wp2_with (go_at_call 108; refine (Tryz.bits_Len64 _ _ (by omega) (by omega)).mono ?_; rintro e w' ⟨rfl, rfl⟩)
    go_ret
    exact ⟨ret_int rfl, (Below.refl _ _).alloc (Nat.le_refl _) _⟩
  · have h' : (0 : Int) < a := by omega
    have hl : (Lib.bitLen a : Int) ≤ 64 := by have := lib_len_le a ha; omega
    go_enter Tryz.func109, Tryz.ntmps109
    go_wp2_with (go_at_call 108; refine (Tryz.bits_Len64 _ _ (by omega) (by omega)).mono ?_; rintro e w' ⟨rfl, rfl⟩)
    go_ret
    exact ⟨ret_int rfl, (Below.refl _ _).alloc (Nat.le_refl _) _⟩

@[go_sem] theorem eq_wide (a b c d : Int) (w : World) : (Op.equalIn 10000 110 (.agg #[.int .u64 a, .int .u64 b]) (.agg #[.int .u64 c, .int .u64 d])).run Tryz.prog w = .ok (a == c && b == d) w := by
  have u3 := Tryz.underlying101
  have a3 := Tryz.isAgg101
  have z3 := Tryz.sizeOf101
  rw [show (10000 : Nat) = 9999 + 1 from rfl, Op.equalIn]
  simp only [Sem.run_bind, run_underlying Tryz.underlying110, Result.andThen_ok]
  simp only [Std.Legacy.Range.forIn_eq_forIn_range', Std.Legacy.Range.size, Nat.sub_zero, Nat.add_sub_cancel, Nat.div_one, List.range'_succ, List.range'_zero, List.forIn_cons, List.forIn_nil]
  go_simp
  by_cases h1 : a = c <;> by_cases h2 : b = d <;> simp [h1, h2]
set_option maxHeartbeats 400000 in
theorem is_w (a b : Int) (w : World) :
    Calls Tryz.prog 126 #[.agg #[.int .u64 a, .int .u64 b]] w fun e w' => e = .returned (.bool (!a == 0 || !b == 0)) ∧ Below w.heap.size w w' := by
  go_enter Tryz.func126, Tryz.ntmps126
  go_wp2
  go_ret
  exact ⟨ret_bool rfl, (Below.refl _ _).alloc (Nat.le_refl _) _⟩

set_option maxHeartbeats 400000 in
theorem up_w (a b : Int) (n : Nat) (w : World) (ha : 0 ≤ a) (hb : 0 ≤ b) (hb2 : b ≤ 18446744073709551615) (hn2 : (n : Int) ≤ 128) :
    Calls Tryz.prog 127 #[.agg #[.int .u64 a, .int .u64 b], .int .i64 n] w fun e w' => e = .returned (.agg #[.int .u64 (hi (wn a b * 2 ^ n % W128)), .int .u64 (lo (wn a b * 2 ^ n % W128))]) ∧ Below w.heap.size w w' := by
  by_cases hn : 64 ≤ (n : Int)
  · have H := up_arith_hi a b n ha hb (by omega)
    generalize wn a b * 2 ^ n % W128 = r at *
    obtain ⟨H1, H2⟩ := H
    have K1 := Lib.hid H1
    have K2 := Lib.hid H2
    clear H1 H2
    go_enter Tryz.func127, Tryz.ntmps127
    go_wp2
    refine bodyPost_ret (v := .agg #[.int .u64 (IntKind.u64.wrap (b * 2 ^ (n - 64))), .int .u64 0]) (by simp [results, Tryz.results127, go_sem]) rfl ⟨?_, ?_⟩
    · rw [K1.out, ← K2.out]
    · exact ((Below.refl _ _).alloc (Nat.le_refl _) _).alloc (by simp) _
  · have H := up_arith_lo a b n ha hb hb2 (by omega)
    generalize wn a b * 2 ^ n % W128 = r at *
    obtain ⟨H1, H2⟩ := H
    have K1 := Lib.hid H1
    have K2 := Lib.hid H2
    clear H1 H2
    go_enter Tryz.func127, Tryz.ntmps127
    go_wp2
    go_region
    go_wp2
    refine bodyPost_ret (v := .agg #[.int .u64 (bits BinOp.or IntKind.u64 (IntKind.u64.wrap (a * 2 ^ n)) (b / 2 ^ (64 - n))), .int .u64 (IntKind.u64.wrap (b * 2 ^ n))]) (by simp [results, Tryz.results127, go_sem]) rfl ⟨?_, ?_⟩
    · rw [K1.out, ← K2.out]
    · exact (((Below.refl _ _).alloc (Nat.le_refl _) _).alloc (by simp) _).drew

theorem bcell {W w1 : World} (hb : Below W.heap.size W w1) : (∀ b o, b < W.heap.size → w1.cell? ⟨b, o, none⟩ = W.cell? ⟨b, o, none⟩) ∧ (∀ b o, b < W.heap.size → w1.frozen? ⟨b, o, none⟩ = W.frozen? ⟨b, o, none⟩) :=
  ⟨fun b o h => hb.cell (p := ⟨b, o, none⟩) h, fun b o h => hb.frozen (p := ⟨b, o, none⟩) h⟩

set_option maxRecDepth 100000 in
set_option maxHeartbeats 400000 in
theorem down_lo (a b : Int) (n : Nat) (w : World) (ha : 0 ≤ a) (ha2 : a ≤ 18446744073709551615) (hb : 0 ≤ b) (hb2 : b ≤ 18446744073709551615) (hn : (n : Int) < 64) :
    Calls Tryz.prog 110 #[.agg #[.int .u64 a, .int .u64 b], .int .i64 n] w fun e w' => e = .returned (.tuple #[.agg #[.int .u64 (hi (wn a b / 2 ^ n)), .int .u64 (lo (wn a b / 2 ^ n))], .bool (decide (wn a b % 2 ^ n ≠ 0))]) ∧ Below w.heap.size w w' := by
  go_enter Tryz.func110, Tryz.ntmps110
  go_wp2
  go_region
  go_wp2
  have ka : 0 ≤ a / 2 ^ n := Int.ediv_nonneg ha (Int.le_of_lt (Int.pow_pos (by omega)))
  obtain ⟨k1, k2⟩ := dn_arith_lo a b n ha ha2 hb hb2 (by omega)
  have kb : 0 ≤ bits BinOp.or IntKind.u64 (b / 2 ^ n) (IntKind.u64.wrap (a * 2 ^ (64 - n))) := by rw [k2]; exact lo_nonneg _
  have kb2 : bits BinOp.or IntKind.u64 (b / 2 ^ n) (IntKind.u64.wrap (a * 2 ^ (64 - n))) ≤ 18446744073709551615 := by rw [k2]; exact lo_le _
  have K1 := Lib.hid k1
  have K2 := Lib.hid k2
  clear k1 k2
  generalize a / 2 ^ n = x at *
  generalize bits BinOp.or IntKind.u64 (b / 2 ^ n) (IntKind.u64.wrap (a * 2 ^ (64 - n))) = y at *
  generalize hW : World.drew _ = W2
  have c1 : W2.cell? ⟨w.heap.size, 0, none⟩ = some (.int .u64 a) := by subst hW; simp (disch := (simp; try omega)) only [World.cell?_drew, World.cell?_alloc_at, World.cell?_alloc_past]; rfl
  have c2 : W2.cell? ⟨w.heap.size, 1, none⟩ = some (.int .u64 b) := by subst hW; simp (disch := (simp; try omega)) only [World.cell?_drew, World.cell?_alloc_at, World.cell?_alloc_past]; rfl
  have c3 : W2.cell? ⟨w.heap.size + 1 + 1, 0, none⟩ = some (.int .u64 x) := by subst hW; simp (disch := (simp; try omega)) only [World.cell?_drew, World.cell?_alloc_at, World.cell?_alloc_past]; rfl
  have c4 : W2.cell? ⟨w.heap.size + 1 + 1, 1, none⟩ = some (.int .u64 y) := by subst hW; simp (disch := (simp; try omega)) only [World.cell?_drew, World.cell?_alloc_at, World.cell?_alloc_past]; rfl
  have c5 : W2.cell? ⟨w.heap.size + 1, 0, none⟩ = some (.int .u64 0) := by subst hW; simp (disch := (simp; try omega)) only [World.cell?_drew, World.cell?_alloc_at, World.cell?_alloc_past]; rfl
  have c6 : W2.cell? ⟨w.heap.size + 1, 1, none⟩ = some (.int .u64 0) := by subst hW; simp (disch := (simp; try omega)) only [World.cell?_drew, World.cell?_alloc_at, World.cell?_alloc_past]; rfl
  have z5 : W2.frozen? ⟨w.heap.size + 1, 0, none⟩ = false := by subst hW; simp (disch := (simp; try omega)) only [World.frozen?_drew, World.frozen?_alloc_at, World.frozen?_alloc_past]
  have z6 : W2.frozen? ⟨w.heap.size + 1, 1, none⟩ = false := by subst hW; simp (disch := (simp; try omega)) only [World.frozen?_drew, World.frozen?_alloc_at, World.frozen?_alloc_past]
  have hs : W2.heap.size = w.heap.size + 3 := by rw [← hW]; simp
  have hB : Below w.heap.size w W2 := by rw [← hW]; exact ((((Below.refl _ _).alloc (Nat.le_refl _) _).alloc (by simp) _).alloc (by simp; omega) _).drew
  clear hW
  have HS := Lib.hid hs
  clear hs
  go_region_held3 (fun w' => w'.cell? ⟨w.heap.size, 0, none⟩ = some (.int .u64 a) ∧ w'.cell? ⟨w.heap.size, 1, none⟩ = some (.int .u64 b) ∧ w'.cell? ⟨w.heap.size + 1 + 1, 0, none⟩ = some (.int .u64 x) ∧ w'.cell? ⟨w.heap.size + 1 + 1, 1, none⟩ = some (.int .u64 y))
    (first | go_keep | (refine ⟨?_, ?_, ?_, ?_⟩ <;> (rw [hcc _ _ (by have := HS.out; simp; omega)]; simpa using by assumption)))
    (first | (go_at_call 127; refine (up_w _ _ _ _ ka kb kb2 (by omega)).mono ?_; rintro e w1 ⟨rfl, hbb⟩; obtain ⟨hcc, hff⟩ := bcell hbb; have s5 : w1.cell? ⟨w.heap.size + 1, 0, none⟩ = some (.int .u64 0) := by (rw [hcc _ _ (by have := HS.out; simp; omega)]; simpa using c5)
              have s6 : w1.cell? ⟨w.heap.size + 1, 1, none⟩ = some (.int .u64 0) := by (rw [hcc _ _ (by have := HS.out; simp; omega)]; simpa using c6)
              have t5 : w1.frozen? ⟨w.heap.size + 1, 0, none⟩ = false := by (rw [hff _ _ (by have := HS.out; simp; omega)]; simpa using z5)
              have t6 : w1.frozen? ⟨w.heap.size + 1, 1, none⟩ = false := by (rw [hff _ _ (by have := HS.out; simp; omega)]; simpa using z6)))
  go_wp2
  refine bodyPost_ret (v := .tuple #[.agg #[.int .u64 x, .int .u64 y], .bool (!(hi (wn x y * 2 ^ n % W128) == a) || !(lo (wn x y * 2 ^ n % W128) == b))]) (by simp [results, Tryz.results110, go_sem, s5, s6]) rfl ⟨?_, ?_⟩
  · rw [K1.out, K2.out, wn_hi_lo, lost_iff a b n ha ha2 hb hb2]
  · exact (((hB.drew.trans (hbb.mono (by have := HS.out; simp; omega))).setCell (by simp) _).setCell (by simp) _)

set_option maxRecDepth 100000 in
set_option maxHeartbeats 400000 in
theorem down_hi (a b : Int) (n : Nat) (w : World) (ha : 0 ≤ a) (ha2 : a ≤ 18446744073709551615) (hb : 0 ≤ b) (hb2 : b ≤ 18446744073709551615) (hn : 64 ≤ (n : Int)) (hn2 : (n : Int) < 128) :
    Calls Tryz.prog 110 #[.agg #[.int .u64 a, .int .u64 b], .int .i64 n] w fun e w' => e = .returned (.tuple #[.agg #[.int .u64 (hi (wn a b / 2 ^ n)), .int .u64 (lo (wn a b / 2 ^ n))], .bool (decide (wn a b % 2 ^ n ≠ 0))]) ∧ Below w.heap.size w w' := by
  obtain ⟨k1, k2⟩ := dn_arith_hi a b n ha ha2 hb hb2 (by omega)
  have kb : 0 ≤ a / 2 ^ (n - 64) := by rw [k2]; exact lo_nonneg _
  have kb2 : a / 2 ^ (n - 64) ≤ 18446744073709551615 := by rw [k2]; exact lo_le _
  have K1 := Lib.hid k1
  have K2 := Lib.hid k2
  clear k1 k2
  go_enter Tryz.func110, Tryz.ntmps110
  go_wp2
  generalize a / 2 ^ (n - 64) = y at *
  have ka : (0 : Int) ≤ 0 := by omega
  generalize hW : World.alloc _ _ = W2
  have c1 : W2.cell? ⟨w.heap.size, 0, none⟩ = some (.int .u64 a) := by subst hW; simp (disch := (simp; try omega)) only [World.cell?_drew, World.cell?_alloc_at, World.cell?_alloc_past]; rfl
  have c2 : W2.cell? ⟨w.heap.size, 1, none⟩ = some (.int .u64 b) := by subst hW; simp (disch := (simp; try omega)) only [World.cell?_drew, World.cell?_alloc_at, World.cell?_alloc_past]; rfl
  have c3 : W2.cell? ⟨w.heap.size + 1 + 1, 0, none⟩ = some (.int .u64 0) := by subst hW; simp (disch := (simp; try omega)) only [World.cell?_drew, World.cell?_alloc_at, World.cell?_alloc_past]; rfl
  have c4 : W2.cell? ⟨w.heap.size + 1 + 1, 1, none⟩ = some (.int .u64 y) := by subst hW; simp (disch := (simp; try omega)) only [World.cell?_drew, World.cell?_alloc_at, World.cell?_alloc_past]; rfl
  have c5 : W2.cell? ⟨w.heap.size + 1, 0, none⟩ = some (.int .u64 0) := by subst hW; simp (disch := (simp; try omega)) only [World.cell?_drew, World.cell?_alloc_at, World.cell?_alloc_past]; rfl
  have c6 : W2.cell? ⟨w.heap.size + 1, 1, none⟩ = some (.int .u64 0) := by subst hW; simp (disch := (simp; try omega)) only [World.cell?_drew, World.cell?_alloc_at, World.cell?_alloc_past]; rfl
  have z5 : W2.frozen? ⟨w.heap.size + 1, 0, none⟩ = false := by subst hW; simp (disch := (simp; try omega)) only [World.frozen?_drew, World.frozen?_alloc_at, World.frozen?_alloc_past]
  have z6 : W2.frozen? ⟨w.heap.size + 1, 1, none⟩ = false := by subst hW; simp (disch := (simp; try omega)) only [World.frozen?_drew, World.frozen?_alloc_at, World.frozen?_alloc_past]
  have hs : W2.heap.size = w.heap.size + 3 := by rw [← hW]; simp
  have hB : Below w.heap.size w W2 := by rw [← hW]; exact (((Below.refl _ _).alloc (Nat.le_refl _) _).alloc (by simp) _).alloc (by simp; omega) _
  clear hW
  have HS := Lib.hid hs
  clear hs
  go_region_held3 (fun w' => w'.cell? ⟨w.heap.size, 0, none⟩ = some (.int .u64 a) ∧ w'.cell? ⟨w.heap.size, 1, none⟩ = some (.int .u64 b) ∧ w'.cell? ⟨w.heap.size + 1 + 1, 0, none⟩ = some (.int .u64 0) ∧ w'.cell? ⟨w.heap.size + 1 + 1, 1, none⟩ = some (.int .u64 y))
    (first | go_keep | (refine ⟨?_, ?_, ?_, ?_⟩ <;> (rw [hcc _ _ (by have := HS.out; simp; omega)]; simpa using by assumption)))
    (first | (go_at_call 127; refine (up_w _ _ _ _ ka kb kb2 (by omega)).mono ?_; rintro e w1 ⟨rfl, hbb⟩; obtain ⟨hcc, hff⟩ := bcell hbb; have s5 : w1.cell? ⟨w.heap.size + 1, 0, none⟩ = some (.int .u64 0) := by (rw [hcc _ _ (by have := HS.out; simp; omega)]; simpa using c5)
              have s6 : w1.cell? ⟨w.heap.size + 1, 1, none⟩ = some (.int .u64 0) := by (rw [hcc _ _ (by have := HS.out; simp; omega)]; simpa using c6)
              have t5 : w1.frozen? ⟨w.heap.size + 1, 0, none⟩ = false := by (rw [hff _ _ (by have := HS.out; simp; omega)]; simpa using z5)
              have t6 : w1.frozen? ⟨w.heap.size + 1, 1, none⟩ = false := by (rw [hff _ _ (by have := HS.out; simp; omega)]; simpa using z6)))
  go_wp2
  refine bodyPost_ret (v := .tuple #[.agg #[.int .u64 0, .int .u64 y], .bool (!(hi (wn 0 y * 2 ^ n % W128) == a) || !(lo (wn 0 y * 2 ^ n % W128) == b))]) (by simp [results, Tryz.results110, go_sem, s5, s6]) rfl ⟨?_, ?_⟩
  · rw [K1.out, K2.out, wn_hi_lo, lost_iff a b n ha ha2 hb hb2]
  · exact (((hB.drew.trans (hbb.mono (by have := HS.out; simp; omega))).setCell (by simp) _).setCell (by simp) _)

set_option maxRecDepth 100000 in
set_option maxHeartbeats 400000 in
theorem down_all (a b : Int) (n : Nat) (w : World) (ha : 0 ≤ a) (ha2 : a ≤ 18446744073709551615) (hb : 0 ≤ b) (hb2 : b ≤ 18446744073709551615) (hn2 : 128 ≤ (n : Int)) :
    Calls Tryz.prog 110 #[.agg #[.int .u64 a, .int .u64 b], .int .i64 n] w fun e w' => e = .returned (.tuple #[.agg #[.int .u64 (hi (wn a b / 2 ^ n)), .int .u64 (lo (wn a b / 2 ^ n))], .bool (decide (wn a b % 2 ^ n ≠ 0))]) ∧ Below w.heap.size w w' := by
  go_enter Tryz.func110, Tryz.ntmps110
  go_wp2_with (go_at_call 126; refine (is_w _ _ _).mono ?_; rintro e w1 ⟨rfl, hbb⟩; obtain ⟨hcc, hff⟩ := bcell hbb)
  have s5 : w1.cell? ⟨w.heap.size + 1, 0, none⟩ = some (.int .u64 0) := by (rw [hcc _ _ (by simp)]; simp)
  have s6 : w1.cell? ⟨w.heap.size + 1, 1, none⟩ = some (.int .u64 0) := by (rw [hcc _ _ (by simp)]; simp)
  refine bodyPost_ret (v := .tuple #[.agg #[.int .u64 0, .int .u64 0], .bool (!a == 0 || !b == 0)]) (by simp [results, Tryz.results110, go_sem, s5, s6]) rfl ⟨?_, ?_⟩
  · obtain ⟨h1, h2, h3⟩ := dn_arith_all a b n ha ha2 hb hb2 (by omega)
    rw [← h1, ← h2, h3]
  · exact (((((Below.refl _ _).alloc (Nat.le_refl _) _).alloc (by simp) _).trans (hbb.mono (by simp; omega))).setCell (by simp) _).setCell (by simp) _

theorem down_w (a b : Int) (n : Nat) (w : World) (ha : 0 ≤ a) (ha2 : a ≤ 18446744073709551615) (hb : 0 ≤ b) (hb2 : b ≤ 18446744073709551615) :
    Calls Tryz.prog 110 #[.agg #[.int .u64 a, .int .u64 b], .int .i64 n] w fun e w' => e = .returned (.tuple #[.agg #[.int .u64 (hi (wn a b / 2 ^ n)), .int .u64 (lo (wn a b / 2 ^ n))], .bool (decide (wn a b % 2 ^ n ≠ 0))]) ∧ Below w.heap.size w w' := by
  by_cases h1 : (n : Int) < 64
  · exact down_lo a b n w ha ha2 hb hb2 h1
  · by_cases h2 : (n : Int) < 128
    · exact down_hi a b n w ha ha2 hb hb2 (by omega) h2
    · exact down_all a b n w ha ha2 hb hb2 (by omega)

end Go.Proofs.YtlhlcefkmhhmjaaGreat
namespace Go.Proofs.YtlhlcefkmhhmjaaGreat
set_option linter.all false
open Go.RowKit Bu

theorem ret_tup {a b : Array Value} (h : a = b) : Ending.returned (.tuple a) = .returned (.tuple b) := by rw [h]

set_option maxRecDepth 100000 in
set_option maxHeartbeats 400000 in
theorem parts_F (x : F) (w : World) :
    Calls Tryz.prog 69 #[.float .f64 x.b] w fun e w' => e = .returned (.tuple #[.bool (decide (x.k < 0)), .int .u64 (man x.k.natAbs), .int .i64 (pl x.k.natAbs - 1074)]) ∧ w = w' := by
  have hb := run_fbits
  have h1 := b_frac x
  have h2 := b_exp x
  have h3 := or_hid x.k.natAbs
  have h4 := (b_parts x).2.2
  have hP : P = 4503599627370496 := rfl
  have hp := Nat.div_add_mod x.k.natAbs P
  by_cases hE : x.k.natAbs / P = 0
  · have hm : man x.k.natAbs = x.k.natAbs % P := by
      have hlt := Nat.mod_lt x.k.natAbs P_pos
      rw [hE, Nat.mul_zero] at hp; unfold man; rw [if_pos (by omega)]; omega
    have hl : pl x.k.natAbs = 0 := by unfold pl; omega
    rw [hm, hl]
    rw [hE] at h2
    clear h3 h4 hP hp hE hm hl
    generalize x.k.natAbs % P = m at *
    go_enter Tryz.func69, Tryz.ntmps69
    go_wp2_with (first | (go_at_call 81; refine (signbit_F _ _).mono ?_; rintro e w' ⟨rfl, rfl⟩))
    go_ret3
    exact ⟨ret_tup rfl, rfl⟩
  · have hm : man x.k.natAbs = P + x.k.natAbs % P := by
      unfold man; rw [if_neg]
      intro h; exact hE (Nat.div_eq_of_lt h)
    have hl : (pl x.k.natAbs : Int) - 1074 = ((x.k.natAbs / P : Nat) : Int) + -1074 - 1 := by
      unfold pl; clear h1 h2 h3 hm; generalize x.k.natAbs / P = q at *; omega
    rw [hm, hl]
    have h5 : (1 : Int) ≤ ((x.k.natAbs / P : Nat) : Int) := by omega
    have h6 : ((x.k.natAbs / P : Nat) : Int) < 2047 := by omega
    clear h4 hP hp hE hm hl
    generalize x.k.natAbs % P = m at *
    generalize x.k.natAbs / P = q at *
    generalize P + m = M at *
    go_enter Tryz.func69, Tryz.ntmps69
    go_wp2_with (first | (go_at_call 81; refine (signbit_F _ _).mono ?_; rintro e w' ⟨rfl, rfl⟩))
    go_ret3
    exact ⟨ret_tup rfl, rfl⟩

/-- a multiplication of floats, for the walk -/
theorem fmul_exact {x y p : F} (hp : p.k ≠ 0) (h : p.z * S = x.z * y.z) (t : TypeId) (w : World) : (binOp .mul t (.float .f64 x.b) (.float .f64 y.b)).run Tryz.prog w = .ok (.float .f64 p.b) w :=
  run_float_arith w .mul t .f64 x.b y.b p.b (mul_exact hp h)

theorem lit52 : (4841369599423283200 : Nat) = (F.of 4841369599423283200).b := by decide +kernel
theorem litmin : (4503599627370496 : Nat) = (F.of 4503599627370496).b := by decide +kernel
theorem lit52z : (F.of 4841369599423283200).z = 4503599627370496 * S := by decide +kernel

set_option maxHeartbeats 400000 in
theorem normalize_norm (x : F) (w : World) (h : P ≤ x.k.natAbs) :
    Calls Tryz.prog 138 #[.float .f64 x.b] w fun e w' => e = .returned (.tuple #[.float .f64 x.b, .int .i64 0]) ∧ w = w' := by
  have ho : (FloatKind.f64.format.order x.abs.b 4503599627370496 == some .lt) = false := by
    rw [litmin, ford_lt]
    have e : P = 4503599627370496 := rfl
    have e2 : x.abs.k = (x.k.natAbs : Int) := rfl
    rw [F.of_k (by decide), e2]; simp; omega
  go_enter Tryz.func138, Tryz.ntmps138
  go_wp2_with (first | (go_at_call 49; refine (abs_F _ _).mono ?_; rintro e w' ⟨rfl, rfl⟩))
  go_ret2
  exact ⟨ret_tup rfl, rfl⟩

set_option maxHeartbeats 400000 in
theorem normalize_sub (x y : F) (w : World) (h : x.k.natAbs < P) (h0 : x.k ≠ 0) (hy : y.z = x.z * 4503599627370496) :
    Calls Tryz.prog 138 #[.float .f64 x.b] w fun e w' => e = .returned (.tuple #[.float .f64 y.b, .int .i64 (-52)]) ∧ w = w' := by
  have ho : (FloatKind.f64.format.order x.abs.b 4503599627370496 == some .lt) = true := by
    rw [litmin, ford_lt]
    have e : P = 4503599627370496 := rfl
    have e2 : x.abs.k = (x.k.natAbs : Int) := rfl
    rw [F.of_k (by decide), e2]; simp; omega
  have hy0 : y.k ≠ 0 := fun e => h0 ((z_zero x).1 (by have := (z_zero y).2 e; omega))
  have hm := fmul_exact (x := x) (y := F.of 4841369599423283200) (p := y) hy0 (by rw [hy, lit52z, Int.mul_assoc]) 25
  rw [← lit52] at hm
  clear h h0 hy hy0
  go_enter Tryz.func138, Tryz.ntmps138
  go_wp2_with (first | (go_at_call 49; refine (abs_F _ _).mono ?_; rintro e w' ⟨rfl, rfl⟩))
  go_ret2
  exact ⟨ret_tup rfl, rfl⟩

theorem litone : (4607182418800017408 : Nat) = (F.of 4607182418800017408).b := by decide +kernel
theorem litone_z : (F.of 4607182418800017408).z = S := by decide +kernel
theorem lit53 : (4368491638549381120 : Nat) = (F.of 4368491638549381120).b := by decide +kernel
theorem lit53_z : (F.of 4368491638549381120).z * 9007199254740992 = S := by decide +kernel

set_option maxRecDepth 100000 in
set_option maxHeartbeats 400000 in
theorem ldexp_C (x x' y : F) (n c : Int) (f : Nat) (w : World) (hx : x.k ≠ 0) (hN : ∀ w, Calls Tryz.prog 138 #[.float .f64 x.b] w fun e w' => e = .returned (.tuple #[.float .f64 x'.b, .int .i64 c]) ∧ w = w')
    (hc1 : -52 ≤ c) (hc2 : c ≤ 0) (hf1 : 1 ≤ (f : Int)) (hf2 : (f : Int) ≤ 2046) (hfn : n + c + ((x'.k.natAbs / P : Nat) : Int) = f) (hy : y = x'.like (f * P + x'.k.natAbs % P)) :
    Calls Tryz.prog 129 #[.float .f64 x.b, .int .i64 n] w fun e w' => e = .returned (.float .f64 y.b) ∧ w = w' := by
  have hb := run_fbits
  have hf := run_ffrom
  have ho : (FloatKind.f64.format.order x.b 0 == some .eq) = false := by rw [ford0_eq]; simpa using hx
  have he := b_exp_i x'
  have heq : ((x'.k.natAbs / P : Nat) : Int) < 2047 := by have := b_parts x'; omega
  have hB := ldexp_bits x' f (by omega) (by omega)
  rw [← hy] at hB
  have hy0 : y.k ≠ 0 := by
    intro e
    have h1 := F.like_b x' (f * P + x'.k.natAbs % P) (by have := P_pos; have : 1 * P ≤ f * P := Nat.mul_le_mul_right _ (by omega); omega) (by
      have := Nat.mod_lt x'.k.natAbs P_pos
      have : f * P ≤ 2046 * P := Nat.mul_le_mul_right _ (by omega)
      rw [T_eq]; omega)
    rw [← hy] at h1
    have h2 : y.b = 0 := by unfold F.b; rw [e]; rfl
    have := P_pos
    have : 1 * P ≤ f * P := Nat.mul_le_mul_right _ (by omega)
    split at h1 <;> omega
  have hm := fmul_exact (x := F.of 4607182418800017408) (y := y) (p := y) hy0 (by rw [litone_z, Int.mul_comm]) 25
  rw [← litone] at hm
  generalize x'.k.natAbs / P = q at *
  have g1 : 1 ≤ n + c + q := by omega
  have g2 : n + c + q ≤ 2046 := by omega
  have eB : IntKind.u64.wrap ((f : Int) * 4503599627370496) = (n + c + (q - 1023) + 1023) * 4503599627370496 := by
    rw [IntKind.wrap_u64]; omega
  rw [eB] at hB
  have HN := Lib.hid hN
  clear hfn hy eB hN hx hy0 hf1 hf2
  go_enter Tryz.func129, Tryz.ntmps129
  go_wp2_with (first | (go_at_call 138; refine (HN.out _).mono ?_; rintro e w' ⟨rfl, rfl⟩) | (go_at_call 79; refine (isNaN_F _ _).mono ?_; rintro e w' ⟨rfl, rfl⟩) | (go_at_call 80; refine (isInf_F _ _).mono ?_; rintro e w' ⟨rfl, rfl⟩) )
  go_ret
  exact ⟨ret_float rfl, rfl⟩

set_option maxRecDepth 100000 in
set_option maxHeartbeats 400000 in
theorem ldexp_D (x x' y y' : F) (n c : Int) (f : Nat) (w : World) (hx : x.k ≠ 0) (hN : ∀ w, Calls Tryz.prog 138 #[.float .f64 x.b] w fun e w' => e = .returned (.tuple #[.float .f64 x'.b, .int .i64 c]) ∧ w = w')
    (hc1 : -52 ≤ c) (hc2 : c ≤ 0) (hf1 : 1 ≤ (f : Int)) (hf2 : (f : Int) ≤ 53) (hfn : n + c + ((x'.k.natAbs / P : Nat) : Int) + 53 = f) (hy : y = x'.like (f * P + x'.k.natAbs % P))
    (hy0 : y'.k ≠ 0) (hy' : y.z = y'.z * 9007199254740992) :
    Calls Tryz.prog 129 #[.float .f64 x.b, .int .i64 n] w fun e w' => e = .returned (.float .f64 y'.b) ∧ w = w' := by
  have hb := run_fbits
  have hf := run_ffrom
  have ho : (FloatKind.f64.format.order x.b 0 == some .eq) = false := by rw [ford0_eq]; simpa using hx
  have he := b_exp_i x'
  have heq : ((x'.k.natAbs / P : Nat) : Int) < 2047 := by have := b_parts x'; omega
  have hB := ldexp_bits x' f (by omega) (by omega)
  rw [← hy] at hB
  have hm := fmul_exact (x := F.of 4368491638549381120) (y := y) (p := y') hy0 (by rw [hy', ← lit53_z, ← Int.mul_assoc, Int.mul_comm y'.z]; grind) 25
  rw [← lit53] at hm
  generalize x'.k.natAbs / P = q at *
  have g1 : 1 ≤ n + c + q + 53 := by omega
  have g2 : n + c + q ≤ 0 := by omega
  have eB : IntKind.u64.wrap ((f : Int) * 4503599627370496) = (n + c + (q - 1023) + 53 + 1023) * 4503599627370496 := by
    rw [IntKind.wrap_u64]; omega
  rw [eB] at hB
  have HN := Lib.hid hN
  clear hfn hy eB hN hx hy0 hy' hf1 hf2
  go_enter Tryz.func129, Tryz.ntmps129
  go_wp2_with (first | (go_at_call 138; refine (HN.out _).mono ?_; rintro e w' ⟨rfl, rfl⟩) | (go_at_call 79; refine (isNaN_F _ _).mono ?_; rintro e w' ⟨rfl, rfl⟩) | (go_at_call 80; refine (isInf_F _ _).mono ?_; rintro e w' ⟨rfl, rfl⟩) )
  go_ret
  exact ⟨ret_float rfl, rfl⟩

theorem ldexp_norm (x x' y : F) (n c : Int) (w : World) (hx : x.k ≠ 0) (hN : ∀ w, Calls Tryz.prog 138 #[.float .f64 x.b] w fun e w' => e = .returned (.tuple #[.float .f64 x'.b, .int .i64 c]) ∧ w = w')
    (hc1 : -52 ≤ c) (hc : c ≤ 0) (h : Sc x y n) (hP : P ≤ x'.k.natAbs) (hxx : nv x'.k.natAbs = nv x.k.natAbs * 2 ^ (-c).toNat) (hs : x'.k < 0 ↔ x.k < 0) :
    Calls Tryz.prog 129 #[.float .f64 x.b, .int .i64 n] w fun e w' => e = .returned (.float .f64 y.b) ∧ w = w' := by
  have hy0 : y.k ≠ 0 := by
    intro e
    have hab := h.abs
    rw [e, Int.natAbs_zero, nv_zero, Nat.zero_mul] at hab
    have : nv x.k.natAbs = 0 := by
      rcases Nat.mul_eq_zero.1 hab.symm with e | e
      · exact e
      · have := Nat.two_pow_pos n.toNat; omega
    have := nv_inj (this.trans nv_zero.symm)
    omega
  rcases ldexp_parts h hx hc hP hxx hs with ⟨h1, h2, h3⟩ | ⟨h1, h2, h3⟩
  · obtain ⟨f, hf⟩ := Int.eq_ofNat_of_zero_le (show 0 ≤ n + c + ((x'.k.natAbs / P : Nat) : Int) by omega)
    rw [hf] at h1 h2 h3
    exact ldexp_C x x' y n c f w hx hN hc1 hc h1 h2 hf (by rw [h3, Int.toNat_natCast])
  · obtain ⟨f, hf⟩ := Int.eq_ofNat_of_zero_le (show 0 ≤ n + c + ((x'.k.natAbs / P : Nat) : Int) + 53 by omega)
    rw [hf] at h1 h2 h3
    exact ldexp_D x x' _ y n c f w hx hN hc1 hc h1 h2 hf rfl hy0 (by rw [← h3, Int.toNat_natCast])

set_option maxHeartbeats 400000 in
theorem ldexp_zero (n : Int) (w : World) :
    Calls Tryz.prog 129 #[.float .f64 0, .int .i64 n] w fun e w' => e = .returned (.float .f64 0) ∧ w = w' := by
  have ho : (FloatKind.f64.format.order 0 0 == some .eq) = true := by decide
  go_enter Tryz.func129, Tryz.ntmps129
  go_wp2
  go_ret
  exact ⟨ret_float rfl, rfl⟩

theorem ldexp_exact (x y : F) (n : Int) (w : World) (h : Sc x y n) :
    Calls Tryz.prog 129 #[.float .f64 x.b, .int .i64 n] w fun e w' => e = .returned (.float .f64 y.b) ∧ w = w' := by
  by_cases hx : x.k = 0
  · have e1 : x = F.zero := F.ext' hx
    have e2 : y = F.zero := by
      apply F.ext'
      apply (z_zero y).1
      unfold Sc at h
      rw [(z_zero x).2 hx, Int.zero_mul] at h
      rcases Int.mul_eq_zero.1 h with e | e
      · exact e
      · have := Nat.two_pow_pos (-n).toNat; omega
    subst e1 e2
    rw [b_zero]
    exact ldexp_zero n w
  by_cases hP : P ≤ x.k.natAbs
  · exact ldexp_norm x x y n 0 w hx (fun w => normalize_norm x w hP) (by omega) (by omega) h hP (by simp) (Iff.rfl)
  · obtain ⟨x', h1, h2, h3, h4⟩ := lift_sub x (by omega) hx
    exact ldexp_norm x x' y n (-52) w hx (fun w => normalize_sub x x' w (by omega) hx h1) (by omega) (by omega) h h2 h3 h4

set_option maxHeartbeats 400000 in
/-- math.Ldexp, where the product is a number -/
theorem Ldexp_exact (x y : F) (n : Int) (w : World) (h : Sc x y n) :
    Calls Tryz.prog 111 #[.float .f64 x.b, .int .i64 n] w fun e w' => e = .returned (.float .f64 y.b) ∧ w = w' := by
  have H := Lib.hid h
  clear h
  go_enter Tryz.func111, Tryz.ntmps111
  go_wp2_with (go_at_call 129; refine (ldexp_exact x y n _ H.out).mono ?_; rintro e w' ⟨rfl, rfl⟩)
  go_ret
  exact ⟨ret_float rfl, rfl⟩
end Go.Proofs.YtlhlcefkmhhmjaaGreat
namespace Go.Proofs.YtlhlcefkmhhmjaaGreat
set_option linter.all false
open Go.RowKit Bu

theorem run_unary_neg_F (x : F) (h : x.k ≠ 0) (w : World) : (Op.unary .neg (.float .f64 x.b)).run Tryz.prog w = .ok (.float .f64 x.neg.b) w := by
  rw [← negFloat_F x h]; rfl
theorem len64_w (n : Nat) (w : World) (h : (n : Int) ≤ 18446744073709551615) :
    Calls Tryz.prog 108 #[.int .u64 n] w fun e w' => e = .returned (.int .i64 (blen n)) ∧ w = w' :=
  (Tryz.bits_Len64 n w (by omega) h).mono fun e w' ⟨h1, h2⟩ => ⟨by rw [h1, Int.toNat_natCast, lib_blen n (by omega)], h2.symm⟩
theorem floatOfInt_dy (m : Nat) (h : (m : Int) ≤ 9007199254740992) : floatOfInt .f64 (m : Int) = (F.dy m 0).b := by
  unfold floatOfInt FloatKind.nearest FloatKind.encode
  exact nat_conv (by rw [show 2 * P = 9007199254740992 from rfl]; omega)
theorem neg_dy (m : Nat) (e : Int) (h : (m : Int) ≤ 9007199254740992) (h0 : m ≠ 0) (he : -1074 ≤ e) (h1 : (blen m : Int) + e ≤ 1024) (w : World) :
    (Op.unary .neg (.float .f64 (F.dy m e).b)).run Tryz.prog w = .ok (.float .f64 (F.dy m e).neg.b) w :=
  run_unary_neg_F _ (dy_pos (by rw [show 2 * P = 9007199254740992 from rfl]; omega) h0 he h1) w
theorem Sc_dy (m : Nat) (e : Int) (h : (m : Int) ≤ 9007199254740992) (he : -1074 ≤ e) (h1 : (blen m : Int) + e ≤ 1024) : Sc (F.dy m 0) (F.dy m e) e :=
  nat_Sc (by rw [show 2 * P = 9007199254740992 from rfl]; omega) he h1
theorem blen_54 (m : Nat) (h : (m : Int) ≤ 9007199254740992) : (blen m : Int) ≤ 54 := by
  have := blen_2P (m := m) (by rw [show 2 * P = 9007199254740992 from rfl]; omega)
  omega
theorem max_conv : floatOfInt .f64 9007199254740991 = (F.dy 9007199254740991 0).b := by decide +kernel
theorem max_Sc : Sc (F.dy 9007199254740991 0) F.max 971 := by
  have h := nat_Sc (m := 9007199254740991) (e := 971) (by decide) (by decide) (by decide)
  rw [dy_max] at h
  exact h

def TwoIs (r : F × Int) (x : Nat) (n : Int) : Prop := r.1.b = x ∧ r.2 = n
theorem ret_two {r : F × Int} {x : Nat} {n : Int} (h : TwoIs r x n) : Ending.returned (.tuple #[.float .f64 x, .int .i64 n]) = .returned (.tuple #[.float .f64 r.1.b, .int .i64 r.2]) := by rw [h.1, h.2]
section
variable {minus more up lost away : Bool} {e : Int} {n X m0 m : Nat}
theorem rndG_eq (hX : cutN n e = X) (h0 : n / 2 ^ X = m0) (hl : decide (n % 2 ^ X ≠ 0) = lost) (hm : mUp minus more up lost m0 = m) : rndG minus n more e up = rndOut minus (up != minus) m (e + X) := by
  subst hX h0 hl hm; rfl
theorem rnd_zero (hX : cutN n e = X) (h0 : n / 2 ^ X = m0) (hl : decide (n % 2 ^ X ≠ 0) = lost) (hm : mUp minus more up lost m0 = 0) : TwoIs (rndG minus n more e up) 0 0 := by
  rw [rndG_eq hX h0 hl hm]; unfold rndOut; rw [if_pos rfl]; exact ⟨b_zero, rfl⟩
theorem rnd_overT (hX : cutN n e = X) (h0 : n / 2 ^ X = m0) (hl : decide (n % 2 ^ X ≠ 0) = lost) (hm : mUp minus more up lost m0 = m) (hz : m ≠ 0) (g : 1024 < (blen m : Int) + (e + X)) (ha : (up != minus) = true) :
    TwoIs (rndG minus n more e up) 0 10 := by
  rw [rndG_eq hX h0 hl hm]; unfold rndOut; rw [if_neg hz, if_pos g, if_pos ha]; exact ⟨b_zero, rfl⟩
theorem rnd_overF (hX : cutN n e = X) (h0 : n / 2 ^ X = m0) (hl : decide (n % 2 ^ X ≠ 0) = lost) (hm : mUp minus more up lost m0 = m) (hz : m ≠ 0) (g : 1024 < (blen m : Int) + (e + X)) (ha : (up != minus) = false) :
    TwoIs (rndG minus n more e up) (F.turn minus F.max).b 0 := by
  rw [rndG_eq hX h0 hl hm]; unfold rndOut; rw [if_neg hz, if_pos g, if_neg (by simp [ha])]; exact ⟨rfl, rfl⟩
theorem rnd_mid (hX : cutN n e = X) (h0 : n / 2 ^ X = m0) (hl : decide (n % 2 ^ X ≠ 0) = lost) (hm : mUp minus more up lost m0 = m) (hz : m ≠ 0) (g : ¬ 1024 < (blen m : Int) + (e + X)) :
    TwoIs (rndG minus n more e up) (F.turn minus (F.dy m (e + X))).b 0 := by
  rw [rndG_eq hX h0 hl hm]; unfold rndOut; rw [if_neg hz, if_neg g]; exact ⟨rfl, rfl⟩
end
theorem rnd_overfalsefalse {more lost : Bool} {e : Int} {n X m0 m : Nat} (hX : cutN n e = X) (h0 : n / 2 ^ X = m0) (hl : decide (n % 2 ^ X ≠ 0) = lost) (hm : mUp false more false lost m0 = m) (hz : m ≠ 0) (g : 1024 < (blen m : Int) + (e + X)) :
    TwoIs (rndG false n more e false) F.max.b 0 := by have h := rnd_overF hX h0 hl hm hz g rfl; rw [turn_false] at h; exact h
theorem rnd_overfalsetrue {more lost : Bool} {e : Int} {n X m0 m : Nat} (hX : cutN n e = X) (h0 : n / 2 ^ X = m0) (hl : decide (n % 2 ^ X ≠ 0) = lost) (hm : mUp true more true lost m0 = m) (hz : m ≠ 0) (g : 1024 < (blen m : Int) + (e + X)) :
    TwoIs (rndG true n more e true) F.max.neg.b 0 := by have h := rnd_overF hX h0 hl hm hz g rfl; rw [turn_true] at h; exact h
theorem rnd_overtruefalse {more lost : Bool} {e : Int} {n X m0 m : Nat} (hX : cutN n e = X) (h0 : n / 2 ^ X = m0) (hl : decide (n % 2 ^ X ≠ 0) = lost) (hm : mUp false more true lost m0 = m) (hz : m ≠ 0) (g : 1024 < (blen m : Int) + (e + X)) :
    TwoIs (rndG false n more e true) 0 10 := rnd_overT hX h0 hl hm hz g rfl
theorem rnd_overtruetrue {more lost : Bool} {e : Int} {n X m0 m : Nat} (hX : cutN n e = X) (h0 : n / 2 ^ X = m0) (hl : decide (n % 2 ^ X ≠ 0) = lost) (hm : mUp true more false lost m0 = m) (hz : m ≠ 0) (g : 1024 < (blen m : Int) + (e + X)) :
    TwoIs (rndG true n more e false) 0 10 := rnd_overT hX h0 hl hm hz g rfl
theorem rnd_midfalse {more lost up : Bool} {e : Int} {n X m0 m : Nat} (hX : cutN n e = X) (h0 : n / 2 ^ X = m0) (hl : decide (n % 2 ^ X ≠ 0) = lost) (hm : mUp false more up lost m0 = m) (hz : m ≠ 0) (g : ¬ 1024 < (blen m : Int) + (e + X)) :
    TwoIs (rndG false n more e up) (F.dy m (e + X)).b 0 := by have h := rnd_mid hX h0 hl hm hz g; rw [turn_false] at h; exact h
theorem rnd_midtrue {more lost up : Bool} {e : Int} {n X m0 m : Nat} (hX : cutN n e = X) (h0 : n / 2 ^ X = m0) (hl : decide (n % 2 ^ X ≠ 0) = lost) (hm : mUp true more up lost m0 = m) (hz : m ≠ 0) (g : ¬ 1024 < (blen m : Int) + (e + X)) :
    TwoIs (rndG true n more e up) (F.dy m (e + X)).neg.b 0 := by have h := rnd_mid hX h0 hl hm hz g; rw [turn_true] at h; exact h

theorem size_i (a b : Int) (w : World) (ha : 0 ≤ a) (ha2 : a ≤ 18446744073709551615) (hb : 0 ≤ b) (hb2 : b ≤ 18446744073709551615) :
    Calls Tryz.prog 109 #[.agg #[.int .u64 a, .int .u64 b]] w fun e w' => e = .returned (.int .i64 (blen (wn a b))) ∧ Below w.heap.size w w' := by
  obtain ⟨x, rfl⟩ := Int.eq_ofNat_of_zero_le ha
  obtain ⟨y, rfl⟩ := Int.eq_ofNat_of_zero_le hb
  refine (size_w x y w ha2 hb2).mono ?_
  rintro e w' ⟨rfl, h⟩
  refine ⟨ret_int ?_, h⟩
  rw [lib_blen x (by omega), lib_blen y (by omega), blen_wn x y (by omega)]
  split <;> simp

set_option maxRecDepth 100000 in
set_option maxHeartbeats 2000000 in
theorem rounded_w (minus more up : Bool) (a b e : Int) (w : World) (ha : 0 ≤ a) (ha2 : a ≤ 18446744073709551615) (hb : 0 ≤ b) (hb2 : b ≤ 18446744073709551615) (he1 : -5000 ≤ e) (he2 : e ≤ 5000) :
    Calls Tryz.prog 72 #[.agg #[.bool minus, .int .u64 a, .int .u64 b, .bool more, .int .i64 e], .bool up] w fun q w' => q = .returned (.tuple #[.float .f64 (rndG minus (wn a b) more e up).1.b, .int .i64 (rndG minus (wn a b) more e up).2]) ∧ Below w.heap.size w w' := by
  go_enter Tryz.func72, Tryz.ntmps72
  go_wp2_with fail
  generalize hW : World.alloc _ _ = W
  have c0 : W.cell? ⟨w.heap.size, 0, none⟩ = some (.bool minus) := by subst hW; simp (disch := (simp; try omega)) only [World.cell?_drew, World.cell?_alloc_at, World.cell?_alloc_past]; rfl
  have c1 : W.cell? ⟨w.heap.size, 1, none⟩ = some (.int .u64 a) := by subst hW; simp (disch := (simp; try omega)) only [World.cell?_drew, World.cell?_alloc_at, World.cell?_alloc_past]; rfl
  have c2 : W.cell? ⟨w.heap.size, 2, none⟩ = some (.int .u64 b) := by subst hW; simp (disch := (simp; try omega)) only [World.cell?_drew, World.cell?_alloc_at, World.cell?_alloc_past]; rfl
  have c3 : W.cell? ⟨w.heap.size, 3, none⟩ = some (.bool more) := by subst hW; simp (disch := (simp; try omega)) only [World.cell?_drew, World.cell?_alloc_at, World.cell?_alloc_past]; rfl
  have c4 : W.cell? ⟨w.heap.size, 4, none⟩ = some (.int .i64 e) := by subst hW; simp (disch := (simp; try omega)) only [World.cell?_drew, World.cell?_alloc_at, World.cell?_alloc_past]; rfl
  have hs : W.heap.size = w.heap.size + 1 := by rw [← hW]; simp
  have hB : Below w.heap.size w W := by rw [← hW]; exact (Below.refl _ _).alloc (Nat.le_refl _) _
  clear hW
  have HS := Lib.hid hs
  clear hs
  go_region_held3 (fun w' => w'.cell? ⟨w.heap.size, 0, none⟩ = some (.bool minus) ∧ w'.cell? ⟨w.heap.size, 1, none⟩ = some (.int .u64 a) ∧ w'.cell? ⟨w.heap.size, 2, none⟩ = some (.int .u64 b) ∧ w'.cell? ⟨w.heap.size, 3, none⟩ = some (.bool more) ∧ w'.cell? ⟨w.heap.size, 4, none⟩ = some (.int .i64 e))
    (first | go_keep | (refine ⟨?_, ?_, ?_, ?_, ?_⟩ <;> (rw [hcc _ _ (by have := HS.out; simp; omega)]; simpa using by assumption)))
    (first | (go_at_call 109; refine (size_i _ _ _ ha ha2 hb hb2).mono ?_; rintro e w1 ⟨rfl, hbb⟩; obtain ⟨hcc, hff⟩ := bcell hbb))
  have d0 : w1.cell? ⟨w.heap.size, 0, none⟩ = some (.bool minus) := by rw [hcc _ _ (by have := HS.out; simp; omega)]; exact c0
  have d1 : w1.cell? ⟨w.heap.size, 1, none⟩ = some (.int .u64 a) := by rw [hcc _ _ (by have := HS.out; simp; omega)]; exact c1
  have d2 : w1.cell? ⟨w.heap.size, 2, none⟩ = some (.int .u64 b) := by rw [hcc _ _ (by have := HS.out; simp; omega)]; exact c2
  have d3 : w1.cell? ⟨w.heap.size, 3, none⟩ = some (.bool more) := by rw [hcc _ _ (by have := HS.out; simp; omega)]; exact c3
  have d4 : w1.cell? ⟨w.heap.size, 4, none⟩ = some (.int .i64 e) := by rw [hcc _ _ (by have := HS.out; simp; omega)]; exact c4
  have hz1 : w.heap.size < w1.heap.size := by have := HS.out; have := hbb.size; simp at this; omega
  have hB1 : Below w.heap.size w w1 := hB.drew.trans (hbb.mono (by have := HS.out; simp; omega))
  generalize hC : (if _ < (0 : Int) then (0 : Int) else _) = C
  have hC2 : C = (cutN (wn a b) e : Int) := by
    have hl := blen_wn_le a b ha2 hb2
    rw [← hC, IntWalk.i64_in _ (by omega), IntWalk.i64_in _ (by omega)]
    unfold cutN
    split <;> split <;> omega
  have hC3 : cutN (wn a b) e ≤ 5000 := by
    have hl := blen_wn_le a b ha2 hb2
    unfold cutN; omega
  clear hC
  subst hC2
  clear c0 c1 c2 c3 c4 hB HS hbb hcc hff
  have L0 := cut_lt (wn a b) e
  have L1 : lo (wn a b / 2 ^ cutN (wn a b) e) = ((wn a b / 2 ^ cutN (wn a b) e : Nat) : Int) := by unfold lo; generalize wn a b / 2 ^ cutN (wn a b) e = u at *; omega
  have L2 : ((wn a b / 2 ^ cutN (wn a b) e : Nat) : Int) ≤ 9007199254740991 := by omega
  clear L0
  have J1 := Lib.hid L1
  clear L1
  go_wp2_with (first | (go_at_call 110; refine (down_w _ _ _ _ ha ha2 hb hb2).mono ?_; rintro e w2 ⟨rfl, hbb⟩; obtain ⟨hcc, hff⟩ := bcell hbb))
  have HL := Lib.hid (show decide (wn a b % 2 ^ cutN (wn a b) e ≠ 0) = (!decide (wn a b % 2 ^ cutN (wn a b) e = 0)) by simp)
  generalize hX : cutN (wn a b) e = X at *
  generalize (!decide (wn a b % 2 ^ X = 0)) = lost at *
  generalize hm0 : wn a b / 2 ^ X = m0 at *
  have K0 := Lib.hid hm0
  have KX := Lib.hid hX
  clear hm0 hX
  simp only [J1.out]
  generalize hW : World.alloc _ _ = W2
  have e0 : W2.cell? ⟨w.heap.size, 0, none⟩ = some (.bool minus) := by subst hW; rw [World.cell?_alloc_past _ _ _ (by have := hbb.size; omega), hcc _ _ hz1]; exact d0
  have e3 : W2.cell? ⟨w.heap.size, 3, none⟩ = some (.bool more) := by subst hW; rw [World.cell?_alloc_past _ _ _ (by have := hbb.size; omega), hcc _ _ hz1]; exact d3
  have e4 : W2.cell? ⟨w.heap.size, 4, none⟩ = some (.int .i64 e) := by subst hW; rw [World.cell?_alloc_past _ _ _ (by have := hbb.size; omega), hcc _ _ hz1]; exact d4
  have e5 : W2.cell? ⟨w2.heap.size, 1, none⟩ = some (.int .u64 m0) := by subst hW; rw [World.cell?_alloc_at _ _ _ _ rfl]; rfl
  have hB2 : Below w.heap.size w W2 := by rw [← hW]; exact (hB1.trans (hbb.mono (by omega))).alloc (by have := hbb.size; omega) _
  clear hW d0 d1 d2 d3 d4 hcc hff hbb hz1 hB1 ha ha2 hb hb2
  go_region
  by_cases hA : up = minus
  · subst hA
    have HM := Lib.hid (show mUp up more up lost m0 = m0 by unfold mUp; simp)
    cases up
    · as_aux_lemma =>
      by_cases z : m0 = 0
      · subst z
        have HR := Lib.hid (show TwoIs (rndG false (wn a b) more e false) 0 0 from rnd_zero KX.out K0.out HL.out HM.out)
        go_wp2_with (first | (go_at_call 108; refine (len64_w _ _ (by omega)).mono ?_; rintro e w' ⟨rfl, rfl⟩) | (go_at_call 111; refine (Ldexp_exact _ _ _ _ HSc.out).mono ?_; rintro e w' ⟨rfl, rfl⟩))
        go_ret2
        exact ⟨ret_two HR.out, hB2.drew⟩
      · have z' : (((m0 : Nat) : Int) == 0) = false := by rw [beq_eq_false_iff_ne]; omega
        have hbl := blen_54 m0 (by omega)
        have Z := Lib.hid z
        clear z
        by_cases g : 1024 < (blen m0 : Int) + (e + X)
        · have HR := Lib.hid (show TwoIs (rndG false (wn a b) more e false) F.max.b 0 from rnd_overfalsefalse KX.out K0.out HL.out HM.out Z.out g)
          have HSc := Lib.hid max_Sc
          have HC := max_conv
          have hne := run_unary_neg_F F.max (by rw [F.max_k]; omega)
          generalize F.max = y0 at *
          generalize F.dy 9007199254740991 0 = x0 at *
          go_wp2_with (first | (go_at_call 108; refine (len64_w _ _ (by omega)).mono ?_; rintro e w' ⟨rfl, rfl⟩) | (go_at_call 111; refine (Ldexp_exact _ _ _ _ HSc.out).mono ?_; rintro e w' ⟨rfl, rfl⟩))
          go_ret2
          exact ⟨ret_two HR.out, hB2.drew⟩
        · have hge : -1074 ≤ e + X := by have h1 := KX.out; unfold cutN at h1; omega
          have HR := Lib.hid (show TwoIs (rndG false (wn a b) more e false) (F.dy m0 (e + X)).b 0 from rnd_midfalse KX.out K0.out HL.out HM.out Z.out g)
          have HSc := Lib.hid (Sc_dy m0 (e + X) (by omega) hge (by omega))
          have HC := floatOfInt_dy m0 (by omega)
          have hne := neg_dy m0 (e + X) (by omega) Z.out hge (by omega)
          have g' : (blen m0 : Int) + (e + X) ≤ 1024 := by omega
          clear g
          generalize F.dy m0 0 = x0 at *
          generalize F.dy m0 (e + X) = y0 at *
          go_wp2_with (first | (go_at_call 108; refine (len64_w _ _ (by omega)).mono ?_; rintro e w' ⟨rfl, rfl⟩) | (go_at_call 111; refine (Ldexp_exact _ _ _ _ HSc.out).mono ?_; rintro e w' ⟨rfl, rfl⟩))
          go_ret2
          exact ⟨ret_two HR.out, hB2.drew⟩
    · as_aux_lemma =>
      by_cases z : m0 = 0
      · subst z
        have HR := Lib.hid (show TwoIs (rndG true (wn a b) more e true) 0 0 from rnd_zero KX.out K0.out HL.out HM.out)
        go_wp2_with (first | (go_at_call 108; refine (len64_w _ _ (by omega)).mono ?_; rintro e w' ⟨rfl, rfl⟩) | (go_at_call 111; refine (Ldexp_exact _ _ _ _ HSc.out).mono ?_; rintro e w' ⟨rfl, rfl⟩))
        go_ret2
        exact ⟨ret_two HR.out, hB2.drew⟩
      · have z' : (((m0 : Nat) : Int) == 0) = false := by rw [beq_eq_false_iff_ne]; omega
        have hbl := blen_54 m0 (by omega)
        have Z := Lib.hid z
        clear z
        by_cases g : 1024 < (blen m0 : Int) + (e + X)
        · have HR := Lib.hid (show TwoIs (rndG true (wn a b) more e true) F.max.neg.b 0 from rnd_overfalsetrue KX.out K0.out HL.out HM.out Z.out g)
          have HSc := Lib.hid max_Sc
          have HC := max_conv
          have hne := run_unary_neg_F F.max (by rw [F.max_k]; omega)
          generalize F.max = y0 at *
          generalize F.dy 9007199254740991 0 = x0 at *
          go_wp2_with (first | (go_at_call 108; refine (len64_w _ _ (by omega)).mono ?_; rintro e w' ⟨rfl, rfl⟩) | (go_at_call 111; refine (Ldexp_exact _ _ _ _ HSc.out).mono ?_; rintro e w' ⟨rfl, rfl⟩))
          go_ret2
          exact ⟨ret_two HR.out, hB2.drew⟩
        · have hge : -1074 ≤ e + X := by have h1 := KX.out; unfold cutN at h1; omega
          have HR := Lib.hid (show TwoIs (rndG true (wn a b) more e true) (F.dy m0 (e + X)).neg.b 0 from rnd_midtrue KX.out K0.out HL.out HM.out Z.out g)
          have HSc := Lib.hid (Sc_dy m0 (e + X) (by omega) hge (by omega))
          have HC := floatOfInt_dy m0 (by omega)
          have hne := neg_dy m0 (e + X) (by omega) Z.out hge (by omega)
          have g' : (blen m0 : Int) + (e + X) ≤ 1024 := by omega
          clear g
          generalize F.dy m0 0 = x0 at *
          generalize F.dy m0 (e + X) = y0 at *
          go_wp2_with (first | (go_at_call 108; refine (len64_w _ _ (by omega)).mono ?_; rintro e w' ⟨rfl, rfl⟩) | (go_at_call 111; refine (Ldexp_exact _ _ _ _ HSc.out).mono ?_; rintro e w' ⟨rfl, rfl⟩))
          go_ret2
          exact ⟨ret_two HR.out, hB2.drew⟩
  · cases up <;> cases minus
    · exact absurd rfl hA
    · clear hA
      cases lost
      · cases more
        · as_aux_lemma =>
          have HM := Lib.hid (show mUp true false false false m0 = m0 from rfl)
          by_cases z : m0 = 0
          · subst z
            have HR := Lib.hid (show TwoIs (rndG true (wn a b) false e false) 0 0 from rnd_zero KX.out K0.out HL.out HM.out)
            go_wp2_with (first | (go_at_call 108; refine (len64_w _ _ (by omega)).mono ?_; rintro e w' ⟨rfl, rfl⟩) | (go_at_call 111; refine (Ldexp_exact _ _ _ _ HSc.out).mono ?_; rintro e w' ⟨rfl, rfl⟩))
            go_ret2
            exact ⟨ret_two HR.out, hB2.drew⟩
          · have z' : (((m0 : Nat) : Int) == 0) = false := by rw [beq_eq_false_iff_ne]; omega
            have hbl := blen_54 m0 (by omega)
            have Z := Lib.hid z
            clear z
            by_cases g : 1024 < (blen m0 : Int) + (e + X)
            · have HR := Lib.hid (show TwoIs (rndG true (wn a b) false e false) 0 10 from rnd_overtruetrue KX.out K0.out HL.out HM.out Z.out g)
              have HSc := Lib.hid max_Sc
              have HC := max_conv
              have hne := run_unary_neg_F F.max (by rw [F.max_k]; omega)
              generalize F.max = y0 at *
              generalize F.dy 9007199254740991 0 = x0 at *
              go_wp2_with (first | (go_at_call 108; refine (len64_w _ _ (by omega)).mono ?_; rintro e w' ⟨rfl, rfl⟩) | (go_at_call 111; refine (Ldexp_exact _ _ _ _ HSc.out).mono ?_; rintro e w' ⟨rfl, rfl⟩))
              go_ret2
              exact ⟨ret_two HR.out, hB2.drew⟩
            · have hge : -1074 ≤ e + X := by have h1 := KX.out; unfold cutN at h1; omega
              have HR := Lib.hid (show TwoIs (rndG true (wn a b) false e false) (F.dy m0 (e + X)).neg.b 0 from rnd_midtrue KX.out K0.out HL.out HM.out Z.out g)
              have HSc := Lib.hid (Sc_dy m0 (e + X) (by omega) hge (by omega))
              have HC := floatOfInt_dy m0 (by omega)
              have hne := neg_dy m0 (e + X) (by omega) Z.out hge (by omega)
              have g' : (blen m0 : Int) + (e + X) ≤ 1024 := by omega
              clear g
              generalize F.dy m0 0 = x0 at *
              generalize F.dy m0 (e + X) = y0 at *
              go_wp2_with (first | (go_at_call 108; refine (len64_w _ _ (by omega)).mono ?_; rintro e w' ⟨rfl, rfl⟩) | (go_at_call 111; refine (Ldexp_exact _ _ _ _ HSc.out).mono ?_; rintro e w' ⟨rfl, rfl⟩))
              go_ret2
              exact ⟨ret_two HR.out, hB2.drew⟩
        · as_aux_lemma =>
          have HM := Lib.hid (show mUp true true false false m0 = m0 + 1 by rfl)
          have z' : (((m0 : Nat) : Int) + 1 == 0) = false := by rw [beq_eq_false_iff_ne]; omega
          go_wp2_with fail
          have Z := Lib.hid (show m0 + 1 ≠ 0 by omega)
          have hbl := blen_54 (m0 + 1) (by omega)
          have hm2 : ((m0 + 1 : Nat) : Int) ≤ 9007199254740992 := by omega
          simp only [show ((m0 : Nat) : Int) + 1 = ((m0 + 1 : Nat) : Int) from by omega] at z' ⊢
          generalize m0 + 1 = m at *
          by_cases g : 1024 < (blen m : Int) + (e + X)
          · have HR := Lib.hid (show TwoIs (rndG true (wn a b) true e false) 0 10 from rnd_overtruetrue KX.out K0.out HL.out HM.out Z.out g)
            have HSc := Lib.hid max_Sc
            have HC := max_conv
            have hne := run_unary_neg_F F.max (by rw [F.max_k]; omega)
            generalize F.max = y0 at *
            generalize F.dy 9007199254740991 0 = x0 at *
            go_wp2_with (first | (go_at_call 108; refine (len64_w _ _ (by omega)).mono ?_; rintro e w' ⟨rfl, rfl⟩) | (go_at_call 111; refine (Ldexp_exact _ _ _ _ HSc.out).mono ?_; rintro e w' ⟨rfl, rfl⟩))
            go_ret2
            exact ⟨ret_two HR.out, hB2.drew⟩
          · have hge : -1074 ≤ e + X := by have h1 := KX.out; unfold cutN at h1; omega
            have HR := Lib.hid (show TwoIs (rndG true (wn a b) true e false) (F.dy m (e + X)).neg.b 0 from rnd_midtrue KX.out K0.out HL.out HM.out Z.out g)
            have HSc := Lib.hid (Sc_dy m (e + X) (by omega) hge (by omega))
            have HC := floatOfInt_dy m (by omega)
            have hne := neg_dy m (e + X) (by omega) Z.out hge (by omega)
            have g' : (blen m : Int) + (e + X) ≤ 1024 := by omega
            clear g
            generalize F.dy m 0 = x0 at *
            generalize F.dy m (e + X) = y0 at *
            go_wp2_with (first | (go_at_call 108; refine (len64_w _ _ (by omega)).mono ?_; rintro e w' ⟨rfl, rfl⟩) | (go_at_call 111; refine (Ldexp_exact _ _ _ _ HSc.out).mono ?_; rintro e w' ⟨rfl, rfl⟩))
            go_ret2
            exact ⟨ret_two HR.out, hB2.drew⟩
      · as_aux_lemma =>
        have HM := Lib.hid (show mUp true more false true m0 = m0 + 1 by rfl)
        have z' : (((m0 : Nat) : Int) + 1 == 0) = false := by rw [beq_eq_false_iff_ne]; omega
        go_wp2_with fail
        have Z := Lib.hid (show m0 + 1 ≠ 0 by omega)
        have hbl := blen_54 (m0 + 1) (by omega)
        have hm2 : ((m0 + 1 : Nat) : Int) ≤ 9007199254740992 := by omega
        simp only [show ((m0 : Nat) : Int) + 1 = ((m0 + 1 : Nat) : Int) from by omega] at z' ⊢
        generalize m0 + 1 = m at *
        by_cases g : 1024 < (blen m : Int) + (e + X)
        · have HR := Lib.hid (show TwoIs (rndG true (wn a b) more e false) 0 10 from rnd_overtruetrue KX.out K0.out HL.out HM.out Z.out g)
          have HSc := Lib.hid max_Sc
          have HC := max_conv
          have hne := run_unary_neg_F F.max (by rw [F.max_k]; omega)
          generalize F.max = y0 at *
          generalize F.dy 9007199254740991 0 = x0 at *
          go_wp2_with (first | (go_at_call 108; refine (len64_w _ _ (by omega)).mono ?_; rintro e w' ⟨rfl, rfl⟩) | (go_at_call 111; refine (Ldexp_exact _ _ _ _ HSc.out).mono ?_; rintro e w' ⟨rfl, rfl⟩))
          go_ret2
          exact ⟨ret_two HR.out, hB2.drew⟩
        · have hge : -1074 ≤ e + X := by have h1 := KX.out; unfold cutN at h1; omega
          have HR := Lib.hid (show TwoIs (rndG true (wn a b) more e false) (F.dy m (e + X)).neg.b 0 from rnd_midtrue KX.out K0.out HL.out HM.out Z.out g)
          have HSc := Lib.hid (Sc_dy m (e + X) (by omega) hge (by omega))
          have HC := floatOfInt_dy m (by omega)
          have hne := neg_dy m (e + X) (by omega) Z.out hge (by omega)
          have g' : (blen m : Int) + (e + X) ≤ 1024 := by omega
          clear g
          generalize F.dy m 0 = x0 at *
          generalize F.dy m (e + X) = y0 at *
          go_wp2_with (first | (go_at_call 108; refine (len64_w _ _ (by omega)).mono ?_; rintro e w' ⟨rfl, rfl⟩) | (go_at_call 111; refine (Ldexp_exact _ _ _ _ HSc.out).mono ?_; rintro e w' ⟨rfl, rfl⟩))
          go_ret2
          exact ⟨ret_two HR.out, hB2.drew⟩
    · clear hA
      cases lost
      · cases more
        · as_aux_lemma =>
          have HM := Lib.hid (show mUp false false true false m0 = m0 from rfl)
          by_cases z : m0 = 0
          · subst z
            have HR := Lib.hid (show TwoIs (rndG false (wn a b) false e true) 0 0 from rnd_zero KX.out K0.out HL.out HM.out)
            go_wp2_with (first | (go_at_call 108; refine (len64_w _ _ (by omega)).mono ?_; rintro e w' ⟨rfl, rfl⟩) | (go_at_call 111; refine (Ldexp_exact _ _ _ _ HSc.out).mono ?_; rintro e w' ⟨rfl, rfl⟩))
            go_ret2
            exact ⟨ret_two HR.out, hB2.drew⟩
          · have z' : (((m0 : Nat) : Int) == 0) = false := by rw [beq_eq_false_iff_ne]; omega
            have hbl := blen_54 m0 (by omega)
            have Z := Lib.hid z
            clear z
            by_cases g : 1024 < (blen m0 : Int) + (e + X)
            · have HR := Lib.hid (show TwoIs (rndG false (wn a b) false e true) 0 10 from rnd_overtruefalse KX.out K0.out HL.out HM.out Z.out g)
              have HSc := Lib.hid max_Sc
              have HC := max_conv
              have hne := run_unary_neg_F F.max (by rw [F.max_k]; omega)
              generalize F.max = y0 at *
              generalize F.dy 9007199254740991 0 = x0 at *
              go_wp2_with (first | (go_at_call 108; refine (len64_w _ _ (by omega)).mono ?_; rintro e w' ⟨rfl, rfl⟩) | (go_at_call 111; refine (Ldexp_exact _ _ _ _ HSc.out).mono ?_; rintro e w' ⟨rfl, rfl⟩))
              go_ret2
              exact ⟨ret_two HR.out, hB2.drew⟩
            · have hge : -1074 ≤ e + X := by have h1 := KX.out; unfold cutN at h1; omega
              have HR := Lib.hid (show TwoIs (rndG false (wn a b) false e true) (F.dy m0 (e + X)).b 0 from rnd_midfalse KX.out K0.out HL.out HM.out Z.out g)
              have HSc := Lib.hid (Sc_dy m0 (e + X) (by omega) hge (by omega))
              have HC := floatOfInt_dy m0 (by omega)
              have hne := neg_dy m0 (e + X) (by omega) Z.out hge (by omega)
              have g' : (blen m0 : Int) + (e + X) ≤ 1024 := by omega
              clear g
              generalize F.dy m0 0 = x0 at *
              generalize F.dy m0 (e + X) = y0 at *
              go_wp2_with (first | (go_at_call 108; refine (len64_w _ _ (by omega)).mono ?_; rintro e w' ⟨rfl, rfl⟩) | (go_at_call 111; refine (Ldexp_exact _ _ _ _ HSc.out).mono ?_; rintro e w' ⟨rfl, rfl⟩))
              go_ret2
              exact ⟨ret_two HR.out, hB2.drew⟩
        · as_aux_lemma =>
          have HM := Lib.hid (show mUp false true true false m0 = m0 + 1 by rfl)
          have z' : (((m0 : Nat) : Int) + 1 == 0) = false := by rw [beq_eq_false_iff_ne]; omega
          go_wp2_with fail
          have Z := Lib.hid (show m0 + 1 ≠ 0 by omega)
          have hbl := blen_54 (m0 + 1) (by omega)
          have hm2 : ((m0 + 1 : Nat) : Int) ≤ 9007199254740992 := by omega
          simp only [show ((m0 : Nat) : Int) + 1 = ((m0 + 1 : Nat) : Int) from by omega] at z' ⊢
          generalize m0 + 1 = m at *
          by_cases g : 1024 < (blen m : Int) + (e + X)
          · have HR := Lib.hid (show TwoIs (rndG false (wn a b) true e true) 0 10 from rnd_overtruefalse KX.out K0.out HL.out HM.out Z.out g)
            have HSc := Lib.hid max_Sc
            have HC := max_conv
            have hne := run_unary_neg_F F.max (by rw [F.max_k]; omega)
            generalize F.max = y0 at *
            generalize F.dy 9007199254740991 0 = x0 at *
            go_wp2_with (first | (go_at_call 108; refine (len64_w _ _ (by omega)).mono ?_; rintro e w' ⟨rfl, rfl⟩) | (go_at_call 111; refine (Ldexp_exact _ _ _ _ HSc.out).mono ?_; rintro e w' ⟨rfl, rfl⟩))
            go_ret2
            exact ⟨ret_two HR.out, hB2.drew⟩
          · have hge : -1074 ≤ e + X := by have h1 := KX.out; unfold cutN at h1; omega
            have HR := Lib.hid (show TwoIs (rndG false (wn a b) true e true) (F.dy m (e + X)).b 0 from rnd_midfalse KX.out K0.out HL.out HM.out Z.out g)
            have HSc := Lib.hid (Sc_dy m (e + X) (by omega) hge (by omega))
            have HC := floatOfInt_dy m (by omega)
            have hne := neg_dy m (e + X) (by omega) Z.out hge (by omega)
            have g' : (blen m : Int) + (e + X) ≤ 1024 := by omega
            clear g
            generalize F.dy m 0 = x0 at *
            generalize F.dy m (e + X) = y0 at *
            go_wp2_with (first | (go_at_call 108; refine (len64_w _ _ (by omega)).mono ?_; rintro e w' ⟨rfl, rfl⟩) | (go_at_call 111; refine (Ldexp_exact _ _ _ _ HSc.out).mono ?_; rintro e w' ⟨rfl, rfl⟩))
            go_ret2
            exact ⟨ret_two HR.out, hB2.drew⟩
      · as_aux_lemma =>
        have HM := Lib.hid (show mUp false more true true m0 = m0 + 1 by rfl)
        have z' : (((m0 : Nat) : Int) + 1 == 0) = false := by rw [beq_eq_false_iff_ne]; omega
        go_wp2_with fail
        have Z := Lib.hid (show m0 + 1 ≠ 0 by omega)
        have hbl := blen_54 (m0 + 1) (by omega)
        have hm2 : ((m0 + 1 : Nat) : Int) ≤ 9007199254740992 := by omega
        simp only [show ((m0 : Nat) : Int) + 1 = ((m0 + 1 : Nat) : Int) from by omega] at z' ⊢
        generalize m0 + 1 = m at *
        by_cases g : 1024 < (blen m : Int) + (e + X)
        · have HR := Lib.hid (show TwoIs (rndG false (wn a b) more e true) 0 10 from rnd_overtruefalse KX.out K0.out HL.out HM.out Z.out g)
          have HSc := Lib.hid max_Sc
          have HC := max_conv
          have hne := run_unary_neg_F F.max (by rw [F.max_k]; omega)
          generalize F.max = y0 at *
          generalize F.dy 9007199254740991 0 = x0 at *
          go_wp2_with (first | (go_at_call 108; refine (len64_w _ _ (by omega)).mono ?_; rintro e w' ⟨rfl, rfl⟩) | (go_at_call 111; refine (Ldexp_exact _ _ _ _ HSc.out).mono ?_; rintro e w' ⟨rfl, rfl⟩))
          go_ret2
          exact ⟨ret_two HR.out, hB2.drew⟩
        · have hge : -1074 ≤ e + X := by have h1 := KX.out; unfold cutN at h1; omega
          have HR := Lib.hid (show TwoIs (rndG false (wn a b) more e true) (F.dy m (e + X)).b 0 from rnd_midfalse KX.out K0.out HL.out HM.out Z.out g)
          have HSc := Lib.hid (Sc_dy m (e + X) (by omega) hge (by omega))
          have HC := floatOfInt_dy m (by omega)
          have hne := neg_dy m (e + X) (by omega) Z.out hge (by omega)
          have g' : (blen m : Int) + (e + X) ≤ 1024 := by omega
          clear g
          generalize F.dy m 0 = x0 at *
          generalize F.dy m (e + X) = y0 at *
          go_wp2_with (first | (go_at_call 108; refine (len64_w _ _ (by omega)).mono ?_; rintro e w' ⟨rfl, rfl⟩) | (go_at_call 111; refine (Ldexp_exact _ _ _ _ HSc.out).mono ?_; rintro e w' ⟨rfl, rfl⟩))
          go_ret2
          exact ⟨ret_two HR.out, hB2.drew⟩
    · exact absurd rfl hA

theorem rounded_n (minus more up : Bool) (n : Nat) (e : Int) (w : World) (hb2 : (n : Int) ≤ 18446744073709551615) (he1 : -5000 ≤ e) (he2 : e ≤ 5000) :
    Calls Tryz.prog 72 #[.agg #[.bool minus, .int .u64 0, .int .u64 n, .bool more, .int .i64 e], .bool up] w fun q w' => q = .returned (.tuple #[.float .f64 (rndG minus n more e up).1.b, .int .i64 (rndG minus n more e up).2]) ∧ Below w.heap.size w w' := by
  have h := rounded_w minus more up 0 n e w (by omega) (by omega) (by omega) hb2 he1 he2
  have e1 : wn 0 (n : Int) = n := by unfold wn; simp
  rw [e1] at h
  exact h
end Go.Proofs.YtlhlcefkmhhmjaaGreat
namespace Go.Proofs.YtlhlcefkmhhmjaaGreat
set_option linter.all false
open Go.RowKit Bu

theorem nextF_pos {x : F} {minus : Bool} {n r : Nat} {e : Int} {up : Bool} (he : -1074 ≤ e) (h : n * 2 ^ (e + 1074).toNat = nv r) (hk : (if minus then -(r : Int) else r) = if up then x.k + 1 else x.k - 1) :
    rndG minus n false e up = nextF x up := by
  rw [rndG_nv he h, hk]
  unfold nextF
  cases up <;> rfl

set_option maxRecDepth 100000 in
set_option maxHeartbeats 1000000 in
theorem next_F (x : F) (up : Bool) (w : World) :
    Calls Tryz.prog 46 #[.float .f64 x.b, .bool up] w fun q w' => q = .returned (.tuple #[.float .f64 (nextF x up).1.b, .int .i64 (nextF x up).2]) ∧ Below w.heap.size w w' := by
  have hpp := fun w => parts_F x w
  have HP := Lib.hid hpp
  have hb := man_pl x.k.natAbs
  have hbp := (b_parts x).2.2
  have hP : P = 4503599627370496 := rfl
  have b1 : ((man x.k.natAbs : Nat) : Int) ≤ 9007199254740991 := by omega
  have b2 : ((pl x.k.natAbs : Nat) : Int) ≤ 2046 := by unfold pl; omega
  clear hpp hb hbp hP
  by_cases h0 : x.k = 0
  · have HN := Lib.hid (show rndG (!up) 1 false (-1074) up = nextF x up from nextF_pos (r := 1) (by omega) (by decide) (by rw [h0]; cases up <;> rfl))
    have hm : man x.k.natAbs = 0 := by rw [h0]; rfl
    have hl : pl x.k.natAbs = 0 := by rw [h0]; rfl
    have hsg : decide (x.k < 0) = false := by simp; omega
    rw [hm, hl, hsg] at HP
    clear h0 hm hl hsg b1 b2
    have HRR := Lib.hid (fun w => rounded_n (!up) false up 1 (-1074) w (by omega) (by omega) (by omega))
    go_enter Tryz.func46, Tryz.ntmps46
    go_wp2_with (first | (go_at_call 50; refine (right_F_w _ _).mono ?_; rintro e w' ⟨rfl, rfl⟩) | (go_at_call 69; refine (HP.out _).mono ?_; rintro e w' ⟨rfl, rfl⟩) | (go_at_call 72; refine (HRR.out _).mono ?_; rintro e w' ⟨rfl, hbb⟩))
    go_ret2
    refine ⟨?_, hbb⟩
    rw [← HN.out]
    exact ret_tup rfl
  · have hz : man x.k.natAbs ≠ 0 := fun c => h0 (by have := man_zero _ c; omega)
    by_cases hs : x.k < 0
    · have hsg : decide (x.k < 0) = true := by simpa using hs
      rw [hsg] at HP
      cases up
      · have HN := Lib.hid (show rndG true (man x.k.natAbs + 1) false (pl x.k.natAbs - 1074) false = nextF x false from nextF_pos (r := x.k.natAbs + 1) (by omega) (by rw [show ((pl x.k.natAbs : Int) - 1074 + 1074).toNat = pl x.k.natAbs from by omega]; exact nv_up _) (by simp; omega))
        have hrr := fun w => rounded_n true false false (man x.k.natAbs + 1) (pl x.k.natAbs - 1074) w (by omega) (by omega) (by omega)
        simp only [Int.natCast_add, Int.cast_ofNat_Int] at hrr
        have HRR := Lib.hid hrr
        have z : (((man x.k.natAbs : Nat) : Int) == 0) = false := by rw [beq_eq_false_iff_ne]; omega
        clear hrr hz h0 hsg
        generalize man x.k.natAbs = m at *
        generalize pl x.k.natAbs = p at *
        go_enter Tryz.func46, Tryz.ntmps46
        go_wp2_with (first | (go_at_call 50; refine (right_F_w _ _).mono ?_; rintro e w' ⟨rfl, rfl⟩) | (go_at_call 69; refine (HP.out _).mono ?_; rintro e w' ⟨rfl, rfl⟩) | (go_at_call 72; refine (HRR.out _).mono ?_; rintro e w' ⟨rfl, hbb⟩))
        go_ret2
        refine ⟨?_, hbb⟩
        rw [← HN.out]
        exact ret_tup rfl
      · have z : (((man x.k.natAbs : Nat) : Int) == 0) = false := by rw [beq_eq_false_iff_ne]; omega
        by_cases hc : man x.k.natAbs = P ∧ 1 ≤ pl x.k.natAbs
        · have HN := Lib.hid (show rndG true 9007199254740991 false (pl x.k.natAbs - 1074 - 1) true = nextF x true from nextF_pos (r := x.k.natAbs - 1) (by omega) (by rw [show ((pl x.k.natAbs : Int) - 1074 - 1 + 1074).toNat = pl x.k.natAbs - 1 from by omega]; exact nv_dn2 _ hc.1 hc.2) (by simp; omega))
          have HRR := Lib.hid (fun w => rounded_n true false true 9007199254740991 (pl x.k.natAbs - 1074 - 1) w (by omega) (by omega) (by omega))
          have hm : man x.k.natAbs = 4503599627370496 := hc.1
          have hp1 : (-1074 : Int) < (pl x.k.natAbs : Int) - 1074 := by omega
          rw [hm] at HP
          clear hz h0 hsg z hc hm b1
          generalize pl x.k.natAbs = p at *
          go_enter Tryz.func46, Tryz.ntmps46
          go_wp2_with (first | (go_at_call 50; refine (right_F_w _ _).mono ?_; rintro e w' ⟨rfl, rfl⟩) | (go_at_call 69; refine (HP.out _).mono ?_; rintro e w' ⟨rfl, rfl⟩) | (go_at_call 72; refine (HRR.out _).mono ?_; rintro e w' ⟨rfl, hbb⟩))
          go_ret2
          refine ⟨?_, hbb⟩
          rw [← HN.out]
          exact ret_tup rfl
        · have HN := Lib.hid (show rndG true (man x.k.natAbs - 1) false (pl x.k.natAbs - 1074) true = nextF x true from nextF_pos (r := x.k.natAbs - 1) (by omega) (by rw [show ((pl x.k.natAbs : Int) - 1074 + 1074).toNat = pl x.k.natAbs from by omega]; exact nv_dn _ (by omega) hc) (by simp; omega))
          have hrr := fun w => rounded_n true false true (man x.k.natAbs - 1) (pl x.k.natAbs - 1074) w (by omega) (by omega) (by omega)
          rw [show ((man x.k.natAbs - 1 : Nat) : Int) = (man x.k.natAbs : Int) - 1 from by omega] at hrr
          have HRR := Lib.hid hrr
          have hm1 : (1 : Int) ≤ (man x.k.natAbs : Int) := by omega
          clear hrr
          by_cases hq : man x.k.natAbs = P
          · have q1 : (((man x.k.natAbs : Nat) : Int) == 4503599627370496) = true := by rw [beq_iff_eq, hq]; rfl
            have q2 : ¬ ((-1074 : Int) < (pl x.k.natAbs : Int) - 1074) := by omega
            clear hz h0 hsg hc hq
            generalize man x.k.natAbs = m at *
            generalize pl x.k.natAbs = p at *
            go_enter Tryz.func46, Tryz.ntmps46
            go_wp2_with (first | (go_at_call 50; refine (right_F_w _ _).mono ?_; rintro e w' ⟨rfl, rfl⟩) | (go_at_call 69; refine (HP.out _).mono ?_; rintro e w' ⟨rfl, rfl⟩) | (go_at_call 72; refine (HRR.out _).mono ?_; rintro e w' ⟨rfl, hbb⟩))
            go_ret2
            refine ⟨?_, hbb⟩
            rw [← HN.out]
            exact ret_tup rfl
          · have q1 : (((man x.k.natAbs : Nat) : Int) == 4503599627370496) = false := by rw [beq_eq_false_iff_ne]; intro c; exact hq (by have : P = 4503599627370496 := rfl; omega)
            clear hz h0 hsg hc hq
            generalize man x.k.natAbs = m at *
            generalize pl x.k.natAbs = p at *
            go_enter Tryz.func46, Tryz.ntmps46
            go_wp2_with (first | (go_at_call 50; refine (right_F_w _ _).mono ?_; rintro e w' ⟨rfl, rfl⟩) | (go_at_call 69; refine (HP.out _).mono ?_; rintro e w' ⟨rfl, rfl⟩) | (go_at_call 72; refine (HRR.out _).mono ?_; rintro e w' ⟨rfl, hbb⟩))
            go_ret2
            refine ⟨?_, hbb⟩
            rw [← HN.out]
            exact ret_tup rfl
    · have hsg : decide (x.k < 0) = false := by simpa using hs
      rw [hsg] at HP
      cases up
      · have z : (((man x.k.natAbs : Nat) : Int) == 0) = false := by rw [beq_eq_false_iff_ne]; omega
        by_cases hc : man x.k.natAbs = P ∧ 1 ≤ pl x.k.natAbs
        · have HN := Lib.hid (show rndG false 9007199254740991 false (pl x.k.natAbs - 1074 - 1) false = nextF x false from nextF_pos (r := x.k.natAbs - 1) (by omega) (by rw [show ((pl x.k.natAbs : Int) - 1074 - 1 + 1074).toNat = pl x.k.natAbs - 1 from by omega]; exact nv_dn2 _ hc.1 hc.2) (by simp; omega))
          have HRR := Lib.hid (fun w => rounded_n false false false 9007199254740991 (pl x.k.natAbs - 1074 - 1) w (by omega) (by omega) (by omega))
          have hm : man x.k.natAbs = 4503599627370496 := hc.1
          have hp1 : (-1074 : Int) < (pl x.k.natAbs : Int) - 1074 := by omega
          rw [hm] at HP
          clear hz h0 hsg z hc hm b1
          generalize pl x.k.natAbs = p at *
          go_enter Tryz.func46, Tryz.ntmps46
          go_wp2_with (first | (go_at_call 50; refine (right_F_w _ _).mono ?_; rintro e w' ⟨rfl, rfl⟩) | (go_at_call 69; refine (HP.out _).mono ?_; rintro e w' ⟨rfl, rfl⟩) | (go_at_call 72; refine (HRR.out _).mono ?_; rintro e w' ⟨rfl, hbb⟩))
          go_ret2
          refine ⟨?_, hbb⟩
          rw [← HN.out]
          exact ret_tup rfl
        · have HN := Lib.hid (show rndG false (man x.k.natAbs - 1) false (pl x.k.natAbs - 1074) false = nextF x false from nextF_pos (r := x.k.natAbs - 1) (by omega) (by rw [show ((pl x.k.natAbs : Int) - 1074 + 1074).toNat = pl x.k.natAbs from by omega]; exact nv_dn _ (by omega) hc) (by simp; omega))
          have hrr := fun w => rounded_n false false false (man x.k.natAbs - 1) (pl x.k.natAbs - 1074) w (by omega) (by omega) (by omega)
          rw [show ((man x.k.natAbs - 1 : Nat) : Int) = (man x.k.natAbs : Int) - 1 from by omega] at hrr
          have HRR := Lib.hid hrr
          have hm1 : (1 : Int) ≤ (man x.k.natAbs : Int) := by omega
          clear hrr
          by_cases hq : man x.k.natAbs = P
          · have q1 : (((man x.k.natAbs : Nat) : Int) == 4503599627370496) = true := by rw [beq_iff_eq, hq]; rfl
            have q2 : ¬ ((-1074 : Int) < (pl x.k.natAbs : Int) - 1074) := by omega
            clear hz h0 hsg hc hq
            generalize man x.k.natAbs = m at *
            generalize pl x.k.natAbs = p at *
            go_enter Tryz.func46, Tryz.ntmps46
            go_wp2_with (first | (go_at_call 50; refine (right_F_w _ _).mono ?_; rintro e w' ⟨rfl, rfl⟩) | (go_at_call 69; refine (HP.out _).mono ?_; rintro e w' ⟨rfl, rfl⟩) | (go_at_call 72; refine (HRR.out _).mono ?_; rintro e w' ⟨rfl, hbb⟩))
            go_ret2
            refine ⟨?_, hbb⟩
            rw [← HN.out]
            exact ret_tup rfl
          · have q1 : (((man x.k.natAbs : Nat) : Int) == 4503599627370496) = false := by rw [beq_eq_false_iff_ne]; intro c; exact hq (by have : P = 4503599627370496 := rfl; omega)
            clear hz h0 hsg hc hq
            generalize man x.k.natAbs = m at *
            generalize pl x.k.natAbs = p at *
            go_enter Tryz.func46, Tryz.ntmps46
            go_wp2_with (first | (go_at_call 50; refine (right_F_w _ _).mono ?_; rintro e w' ⟨rfl, rfl⟩) | (go_at_call 69; refine (HP.out _).mono ?_; rintro e w' ⟨rfl, rfl⟩) | (go_at_call 72; refine (HRR.out _).mono ?_; rintro e w' ⟨rfl, hbb⟩))
            go_ret2
            refine ⟨?_, hbb⟩
            rw [← HN.out]
            exact ret_tup rfl
      · have HN := Lib.hid (show rndG false (man x.k.natAbs + 1) false (pl x.k.natAbs - 1074) true = nextF x true from nextF_pos (r := x.k.natAbs + 1) (by omega) (by rw [show ((pl x.k.natAbs : Int) - 1074 + 1074).toNat = pl x.k.natAbs from by omega]; exact nv_up _) (by simp; omega))
        have hrr := fun w => rounded_n false false true (man x.k.natAbs + 1) (pl x.k.natAbs - 1074) w (by omega) (by omega) (by omega)
        simp only [Int.natCast_add, Int.cast_ofNat_Int] at hrr
        have HRR := Lib.hid hrr
        have z : (((man x.k.natAbs : Nat) : Int) == 0) = false := by rw [beq_eq_false_iff_ne]; omega
        clear hrr hz h0 hsg
        generalize man x.k.natAbs = m at *
        generalize pl x.k.natAbs = p at *
        go_enter Tryz.func46, Tryz.ntmps46
        go_wp2_with (first | (go_at_call 50; refine (right_F_w _ _).mono ?_; rintro e w' ⟨rfl, rfl⟩) | (go_at_call 69; refine (HP.out _).mono ?_; rintro e w' ⟨rfl, rfl⟩) | (go_at_call 72; refine (HRR.out _).mono ?_; rintro e w' ⟨rfl, hbb⟩))
        go_ret2
        refine ⟨?_, hbb⟩
        rw [← HN.out]
        exact ret_tup rfl
end Go.Proofs.YtlhlcefkmhhmjaaGreat
