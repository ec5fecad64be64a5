/- Walks of the small float functions. Walks of package dir: small ones. Walks of package dir: parts, rounded. Walks of package dir: rounded. Walks of package dir: Next. Subtraction, and how far the nearest number may lie. A quotient of two numbers, the lesser by the greater. A small reckoner of Go code over values whose addresses are names: its values, and what they stand for. The reckoner: one operation that looks at values alone. The reckoner: operations of values alone, with addresses among them. -/
import Derived.Test.YtgjohjgmlleebaaGreatRows
import Derived.Test.YtgjohjgmlleebaaGreatL01
import Derived.WalkKit
import Derived.WalkSpells
import Derived.WalkLawsBesides
import Derived.Laws.BitsAll
import Derived.Lib.Hide
import Derived.Test.YtgjohjgmlleebaaGreatShelf
import Derived.RegionTactic
import Derived.Deep.QuietTactic
import Derived.BigQuiet
import Derived.Deep.RegionWith
import Derived.Deep.RegionHeld3
import Derived.Outline
import Derived.Deep.DeepCutAuto
import Derived.RowKit
import Derived.Orders
import Derived.LoopN
import Derived.Laws.Sem
import Derived.Laws.World
import Derived.Laws.Cells
namespace Go.Proofs.YtgjohjgmlleebaaGreat
set_option linter.all false
open Go.RowKit Bu

theorem ret_bool {a b : Bool} (h : a = b) : Ending.returned (.bool a) = .returned (.bool b) := by rw [h]
theorem ret_int {k : IntKind} {a b : Int} (h : a = b) : Ending.returned (.int k a) = .returned (.int k b) := by rw [h]
theorem ret_float {a b : Nat} (h : a = b) : Ending.returned (.float .f64 a) = .returned (.float .f64 b) := by rw [h]

@[go_sem] theorem ford_lt (x y : F) : (FloatKind.f64.format.order x.b y.b == some .lt) = decide (x.k < y.k) := order_lt x y
theorem b_zero : F.zero.b = 0 := by decide
theorem ford0_eq (x : F) : (FloatKind.f64.format.order x.b 0 == some .eq) = decide (x.k = 0) := by rw [← b_zero]; exact order_eq x F.zero
theorem run_fbits (x : Nat) (w : World) : (callFunc 126 #[.float .f64 x]).run Tryz.prog w = .ok (.value (.int .u64 x)) w := by
  rw [run_callFunc_extern (e := Extern.MathFloatBits.float64bits) Tryz.func126 (by kernel_rfl) (by kernel_rfl) (by kernel_rfl) (by kernel_rfl)]; rfl
theorem run_ffrom (x : Int) (w : World) : (callFunc 125 #[.int .u64 x]).run Tryz.prog w = .ok (.value (.float .f64 x.toNat)) w := by
  rw [run_callFunc_extern (e := Extern.MathFloatBits.float64frombits) Tryz.func125 (by kernel_rfl) (by kernel_rfl) (by kernel_rfl) (by kernel_rfl)]; rfl

set_option maxHeartbeats 400000 in
theorem isNaN_w (x : Nat) (w : World) :
    Calls Tryz.prog 127 #[.float .f64 x] w fun e w' => e = .returned (.bool (Ieee.double.order x x != some .eq)) ∧ w = w' := by
  go_enter Tryz.func127, Tryz.ntmps127
  go_wp2
  go_ret
  exact ⟨rfl, rfl⟩

theorem isNaN_F (x : F) (w : World) :
    Calls Tryz.prog 127 #[.float .f64 x.b] w fun e w' => e = .returned (.bool false) ∧ w = w' :=
  (isNaN_w x.b w).mono fun e w' ⟨h1, h2⟩ => ⟨by
    rw [h1]; refine ret_bool ?_
    have := order_eq x x
    simp only [decide_true, beq_iff_eq] at this
    simp [this], h2⟩

set_option maxHeartbeats 400000 in
theorem signbit_w (x : Nat) (w : World) (hx : x < 18446744073709551616) :
    Calls Tryz.prog 129 #[.float .f64 x] w fun e w' => e = .returned (.bool (decide (9223372036854775808 ≤ x))) ∧ w = w' := by
  have hb := run_fbits
  go_enter Tryz.func129, Tryz.ntmps129
  go_wp2
  go_ret
  refine ⟨ret_bool ?_, rfl⟩
  rw [Bool.eq_iff_iff]
  simp only [decide_eq_true_eq]
  unfold wrap64
  omega

set_option maxHeartbeats 400000 in
theorem abs_w (x : Nat) (w : World) (hx : x < 18446744073709551616) :
    Calls Tryz.prog 73 #[.float .f64 x] w fun e w' => e = .returned (.float .f64 (x % 9223372036854775808)) ∧ w = w' := by
  have hb := run_fbits
  have hf := run_ffrom
  go_enter Tryz.func73, Tryz.ntmps73
  go_wp2
  go_ret
  refine ⟨ret_float ?_, rfl⟩
  rw [u64_andNot _ _ (by omega) (by omega) (by omega) (by omega)]
  simp only [Int.toNat_natCast]
  rw [show (18446744073709551615 - (9223372036854775808 : Int).toNat) = 2 ^ 63 - 1 from by decide, Nat.and_two_pow_sub_one_eq_mod]

theorem abs_F (x : F) (w : World) :
    Calls Tryz.prog 73 #[.float .f64 x.b] w fun e w' => e = .returned (.float .f64 x.abs.b) ∧ w = w' :=
  (abs_w x.b w (by have := x.b_lt; omega)).mono fun e w' ⟨h1, h2⟩ => ⟨by rw [h1]; exact ret_float (F.abs_b x), h2⟩

set_option maxHeartbeats 400000 in
theorem isInf_w (x : Nat) (w : World) (hx : x < 18446744073709551616) :
    Calls Tryz.prog 128 #[.float .f64 x, .int .i64 0] w fun e w' => e = .returned (.bool (Ieee.double.order (x % 9223372036854775808) 9218868437227405311 == some .gt)) ∧ w = w' := by
  go_enter Tryz.func128, Tryz.ntmps128
  go_wp2_with (go_at_call 73; refine (abs_w _ _ (by omega)).mono ?_; rintro e w' ⟨rfl, rfl⟩)
  go_ret
  exact ⟨ret_bool rfl, rfl⟩

theorem isInf_F (x : F) (w : World) :
    Calls Tryz.prog 128 #[.float .f64 x.b, .int .i64 0] w fun e w' => e = .returned (.bool false) ∧ w = w' :=
  (isInf_w x.b w (by have := x.b_lt; omega)).mono fun e w' ⟨h1, h2⟩ => ⟨by
    rw [h1]; refine ret_bool ?_
    rw [F.abs_b, show (9218868437227405311 : Nat) = F.max.b from by decide, order_gt]
    have := x.abs.hk
    have e : F.max.k = (T : Int) - 1 := rfl
    simp; omega, h2⟩

theorem signbit_F (x : F) (w : World) :
    Calls Tryz.prog 129 #[.float .f64 x.b] w fun e w' => e = .returned (.bool (decide (x.k < 0))) ∧ w = w' :=
  (signbit_w x.b w (by have := x.b_lt; omega)).mono fun e w' ⟨h1, h2⟩ => ⟨by
    rw [h1]; refine ret_bool ?_
    rw [Bool.eq_iff_iff]
    have := x.hk
    have e := T_num
    unfold F.b
    simp only [decide_eq_true_eq]
    split <;> omega, h2⟩

set_option maxHeartbeats 400000 in
theorem right_F_w (x : F) (w : World) :
    Calls Tryz.prog 74 #[.float .f64 x.b] w fun e w' => e = .returned (.bool true) ∧ w = w' := by
  have ho := ford0_eq x
  by_cases h : x.k = 0
  · have h0 : (FloatKind.f64.format.order x.b 0 == some .eq) = true := by rw [ho]; simpa using h
    have hs : decide (x.k < 0) = false := by simp; omega
    clear ho h
    go_enter Tryz.func74, Tryz.ntmps74
    go_wp2_with (first | (go_at_call 127; refine (isNaN_F _ _).mono ?_; rintro e w' ⟨rfl, rfl⟩) | (go_at_call 128; refine (isInf_F _ _).mono ?_; rintro e w' ⟨rfl, rfl⟩) | (go_at_call 129; refine (signbit_F _ _).mono ?_; rintro e w' ⟨rfl, rfl⟩))
    go_ret
    exact ⟨ret_bool (by simp [hs]), rfl⟩
  · have h0 : (FloatKind.f64.format.order x.b 0 == some .eq) = false := by rw [ho]; simpa using h
    clear ho h
    go_enter Tryz.func74, Tryz.ntmps74
    go_wp2_with (first | (go_at_call 127; refine (isNaN_F _ _).mono ?_; rintro e w' ⟨rfl, rfl⟩) | (go_at_call 128; refine (isInf_F _ _).mono ?_; rintro e w' ⟨rfl, rfl⟩) | (go_at_call 129; refine (signbit_F _ _).mono ?_; rintro e w' ⟨rfl, rfl⟩))
    go_ret
    exact ⟨ret_bool rfl, rfl⟩

/-- what is no number -/
theorem right_no_w (x : Nat) (hx : x < 18446744073709551616) (h : rightB x = false) (w : World) :
    Calls Tryz.prog 74 #[.float .f64 x] w fun e w' => e = .returned (.bool false) ∧ w = w' := by
  obtain ⟨neg, r, hr, hxr, hc⟩ := bad_parts hx h
  have hr1 := read_parts x neg r hr hxr
  have hm : x % 9223372036854775808 = r := by cases neg <;> simp at hxr <;> omega
  rcases hc with ⟨h1, h2⟩ | h1 | h1
  · -- minus 0
    subst h1 h2
    obtain rfl : x = 9223372036854775808 := by simpa using hxr
    clear h hr hxr hr1 hm hx
    go_enter Tryz.func74, Tryz.ntmps74
    go_wp2_with (first | (go_at_call 127; refine (isNaN_w _ _).mono ?_; rintro e w' ⟨rfl, rfl⟩) | (go_at_call 128; refine (isInf_w _ _ (by omega)).mono ?_; rintro e w' ⟨rfl, rfl⟩) | (go_at_call 129; refine (signbit_w _ _ (by omega)).mono ?_; rintro e w' ⟨rfl, rfl⟩))
    go_ret
    exact ⟨ret_bool rfl, rfl⟩
  · -- infinite
    have hn : (Ieee.double.order x x != some .eq) = false := by
      unfold Ieee.Format.order
      rw [hr1, if_neg (by omega), if_pos h1]
      simp [Ieee.Datum.order]
    have hi : (Ieee.double.order (x % 9223372036854775808) 9218868437227405311 == some .gt) = true := by
      rw [hm, h1]; decide +kernel
    have hz : (FloatKind.f64.format.order x 0 == some .eq) = false := by
      show (Ieee.double.order x 0 == some .eq) = false
      unfold Ieee.Format.order
      rw [hr1, if_neg (by omega), if_pos h1]
      cases neg <;> decide +kernel
    clear h hr hxr hr1 hm h1
    go_enter Tryz.func74, Tryz.ntmps74
    go_wp2_with (first | (go_at_call 127; refine (isNaN_w _ _).mono ?_; rintro e w' ⟨rfl, rfl⟩) | (go_at_call 128; refine (isInf_w _ _ hx).mono ?_; rintro e w' ⟨rfl, rfl⟩) | (go_at_call 129; refine (signbit_w _ _ hx).mono ?_; rintro e w' ⟨rfl, rfl⟩))
    go_ret
    exact ⟨ret_bool rfl, rfl⟩
  · -- no number
    have hn : (Ieee.double.order x x != some .eq) = true := by
      unfold Ieee.Format.order
      rw [hr1, if_neg (by omega), if_neg (by omega)]
      simp [Ieee.Datum.order]
    have hz : (FloatKind.f64.format.order x 0 == some .eq) = false := by
      show (Ieee.double.order x 0 == some .eq) = false
      unfold Ieee.Format.order
      rw [hr1, if_neg (by omega), if_neg (by omega)]
      simp [Ieee.Datum.order]
    clear h hr hxr hr1 hm h1
    go_enter Tryz.func74, Tryz.ntmps74
    go_wp2_with (first | (go_at_call 127; refine (isNaN_w _ _).mono ?_; rintro e w' ⟨rfl, rfl⟩) | (go_at_call 128; refine (isInf_w _ _ hx).mono ?_; rintro e w' ⟨rfl, rfl⟩) | (go_at_call 129; refine (signbit_w _ _ hx).mono ?_; rintro e w' ⟨rfl, rfl⟩))
    go_ret
    exact ⟨ret_bool rfl, rfl⟩
end Go.Proofs.YtgjohjgmlleebaaGreat
namespace Go.Proofs.YtgjohjgmlleebaaGreat
set_option linter.all false
open Go.RowKit Bu

theorem lib_len_le (x : Nat) (h : (x : Int) ≤ 18446744073709551615) : Lib.bitLen x ≤ 64 := by
  have := Any.bitLen_le64 (x : Int) (by omega) h
  simpa using this

set_option maxHeartbeats 400000 in
theorem size_w (a b : Nat) (w : World) (ha : (a : Int) ≤ 18446744073709551615) (hb : (b : Int) ≤ 18446744073709551615) :
    Calls Tryz.prog 155 #[.agg #[.int .u64 a, .int .u64 b]] w fun e w' => e = .returned (.int .i64 (if a > 0 then 64 + Lib.bitLen a else Lib.bitLen b)) ∧ Below w.heap.size w w' := by
  by_cases h : a = 0
  · subst h
    go_enter Tryz.func155, Tryz.ntmps155
    go_wp2_with (go_at_call 50; refine (Tryz.bits_Len64 _ _ (by omega) (by omega)).mono ?_; rintro e w' ⟨rfl, rfl⟩)
    go_ret
    exact ⟨ret_int rfl, (Below.refl _ _).alloc (Nat.le_refl _) _⟩
  · have h' : (0 : Int) < a := by omega
    have hl : (Lib.bitLen a : Int) ≤ 64 := by have := lib_len_le a ha; omega
    go_enter Tryz.func155, Tryz.ntmps155
    go_wp2_with (go_at_call 50; refine (Tryz.bits_Len64 _ _ (by omega) (by omega)).mono ?_; rintro e w' ⟨rfl, rfl⟩)
    go_ret
    exact ⟨ret_int rfl, (Below.refl _ _).alloc (Nat.le_refl _) _⟩

@[go_sem] theorem eq_wide (a b c d : Int) (w : World) : (Op.equalIn 10000 149 (.agg #[.int .u64 a, .int .u64 b]) (.agg #[.int .u64 c, .int .u64 d])).run Tryz.prog w = .ok (a == c && b == d) w := by
  have u3 := Tryz.underlying56
  have a3 := Tryz.isAgg56
  have z3 := Tryz.sizeOf56
  rw [show (10000 : Nat) = 9999 + 1 from rfl, Op.equalIn]
  simp only [Sem.run_bind, run_underlying Tryz.underlying149, Result.andThen_ok]
  simp only [Std.Legacy.Range.forIn_eq_forIn_range', Std.Legacy.Range.size, Nat.sub_zero, Nat.add_sub_cancel, Nat.div_one, List.range'_succ, List.range'_zero, List.forIn_cons, List.forIn_nil]
  go_simp
  by_cases h1 : a = c <;> by_cases h2 : b = d <;> simp [h1, h2]
set_option maxHeartbeats 400000 in
theorem is_w (a b : Int) (w : World) :
    Calls Tryz.prog 205 #[.agg #[.int .u64 a, .int .u64 b]] w fun e w' => e = .returned (.bool (!a == 0 || !b == 0)) ∧ Below w.heap.size w w' := by
  go_enter Tryz.func205, Tryz.ntmps205
  go_wp2
  go_ret
  exact ⟨ret_bool rfl, (Below.refl _ _).alloc (Nat.le_refl _) _⟩

set_option maxHeartbeats 400000 in
theorem up_w (a b : Int) (n : Nat) (w : World) (ha : 0 ≤ a) (hb : 0 ≤ b) (hb2 : b ≤ 18446744073709551615) (hn2 : (n : Int) ≤ 128) :
    Calls Tryz.prog 206 #[.agg #[.int .u64 a, .int .u64 b], .int .i64 n] w fun e w' => e = .returned (.agg #[.int .u64 (hi (wn a b * 2 ^ n % W128)), .int .u64 (lo (wn a b * 2 ^ n % W128))]) ∧ Below w.heap.size w w' := by
  by_cases hn : 64 ≤ (n : Int)
  · have H := up_arith_hi a b n ha hb (by omega)
    generalize wn a b * 2 ^ n % W128 = r at *
    obtain ⟨H1, H2⟩ := H
    have K1 := Lib.hid H1
    have K2 := Lib.hid H2
    clear H1 H2
    go_enter Tryz.func206, Tryz.ntmps206
    go_wp2
    refine bodyPost_ret (v := .agg #[.int .u64 (IntKind.u64.wrap (b * 2 ^ (n - 64))), .int .u64 0]) (by simp [results, Tryz.results206, go_sem]) rfl ⟨?_, ?_⟩
    · rw [K1.out, ← K2.out]
    · exact ((Below.refl _ _).alloc (Nat.le_refl _) _).alloc (by simp) _
  · have H := up_arith_lo a b n ha hb hb2 (by omega)
    generalize wn a b * 2 ^ n % W128 = r at *
    obtain ⟨H1, H2⟩ := H
    have K1 := Lib.hid H1
    have K2 := Lib.hid H2
    clear H1 H2
    go_enter Tryz.func206, Tryz.ntmps206
    go_wp2
    go_region
    go_wp2
    refine bodyPost_ret (v := .agg #[.int .u64 (bits BinOp.or IntKind.u64 (IntKind.u64.wrap (a * 2 ^ n)) (b / 2 ^ (64 - n))), .int .u64 (IntKind.u64.wrap (b * 2 ^ n))]) (by simp [results, Tryz.results206, go_sem]) rfl ⟨?_, ?_⟩
    · rw [K1.out, ← K2.out]
    · exact (((Below.refl _ _).alloc (Nat.le_refl _) _).alloc (by simp) _).drew

theorem bcell {W w1 : World} (hb : Below W.heap.size W w1) : (∀ b o, b < W.heap.size → w1.cell? ⟨b, o, none⟩ = W.cell? ⟨b, o, none⟩) ∧ (∀ b o, b < W.heap.size → w1.frozen? ⟨b, o, none⟩ = W.frozen? ⟨b, o, none⟩) :=
  ⟨fun b o h => hb.cell (p := ⟨b, o, none⟩) h, fun b o h => hb.frozen (p := ⟨b, o, none⟩) h⟩

set_option maxRecDepth 100000 in
set_option maxHeartbeats 400000 in
theorem down_lo (a b : Int) (n : Nat) (w : World) (ha : 0 ≤ a) (ha2 : a ≤ 18446744073709551615) (hb : 0 ≤ b) (hb2 : b ≤ 18446744073709551615) (hn : (n : Int) < 64) :
    Calls Tryz.prog 156 #[.agg #[.int .u64 a, .int .u64 b], .int .i64 n] w fun e w' => e = .returned (.tuple #[.agg #[.int .u64 (hi (wn a b / 2 ^ n)), .int .u64 (lo (wn a b / 2 ^ n))], .bool (decide (wn a b % 2 ^ n ≠ 0))]) ∧ Below w.heap.size w w' := by
  go_enter Tryz.func156, Tryz.ntmps156
  go_wp2
  go_region
  go_wp2
  have ka : 0 ≤ a / 2 ^ n := Int.ediv_nonneg ha (Int.le_of_lt (Int.pow_pos (by omega)))
  obtain ⟨k1, k2⟩ := dn_arith_lo a b n ha ha2 hb hb2 (by omega)
  have kb : 0 ≤ bits BinOp.or IntKind.u64 (b / 2 ^ n) (IntKind.u64.wrap (a * 2 ^ (64 - n))) := by rw [k2]; exact lo_nonneg _
  have kb2 : bits BinOp.or IntKind.u64 (b / 2 ^ n) (IntKind.u64.wrap (a * 2 ^ (64 - n))) ≤ 18446744073709551615 := by rw [k2]; exact lo_le _
  have K1 := Lib.hid k1
  have K2 := Lib.hid k2
  clear k1 k2
  generalize a / 2 ^ n = x at *
  generalize bits BinOp.or IntKind.u64 (b / 2 ^ n) (IntKind.u64.wrap (a * 2 ^ (64 - n))) = y at *
  generalize hW : World.drew _ = W2
  have c1 : W2.cell? ⟨w.heap.size, 0, none⟩ = some (.int .u64 a) := by subst hW; simp (disch := (simp; try omega)) only [World.cell?_drew, World.cell?_alloc_at, World.cell?_alloc_past]; rfl
  have c2 : W2.cell? ⟨w.heap.size, 1, none⟩ = some (.int .u64 b) := by subst hW; simp (disch := (simp; try omega)) only [World.cell?_drew, World.cell?_alloc_at, World.cell?_alloc_past]; rfl
  have c3 : W2.cell? ⟨w.heap.size + 1 + 1, 0, none⟩ = some (.int .u64 x) := by subst hW; simp (disch := (simp; try omega)) only [World.cell?_drew, World.cell?_alloc_at, World.cell?_alloc_past]; rfl
  have c4 : W2.cell? ⟨w.heap.size + 1 + 1, 1, none⟩ = some (.int .u64 y) := by subst hW; simp (disch := (simp; try omega)) only [World.cell?_drew, World.cell?_alloc_at, World.cell?_alloc_past]; rfl
  have c5 : W2.cell? ⟨w.heap.size + 1, 0, none⟩ = some (.int .u64 0) := by subst hW; simp (disch := (simp; try omega)) only [World.cell?_drew, World.cell?_alloc_at, World.cell?_alloc_past]; rfl
  have c6 : W2.cell? ⟨w.heap.size + 1, 1, none⟩ = some (.int .u64 0) := by subst hW; simp (disch := (simp; try omega)) only [World.cell?_drew, World.cell?_alloc_at, World.cell?_alloc_past]; rfl
  have z5 : W2.frozen? ⟨w.heap.size + 1, 0, none⟩ = false := by subst hW; simp (disch := (simp; try omega)) only [World.frozen?_drew, World.frozen?_alloc_at, World.frozen?_alloc_past]
  have z6 : W2.frozen? ⟨w.heap.size + 1, 1, none⟩ = false := by subst hW; simp (disch := (simp; try omega)) only [World.frozen?_drew, World.frozen?_alloc_at, World.frozen?_alloc_past]
  have hs : W2.heap.size = w.heap.size + 3 := by rw [← hW]; simp
  have hB : Below w.heap.size w W2 := by rw [← hW]; exact ((((Below.refl _ _).alloc (Nat.le_refl _) _).alloc (by simp) _).alloc (by simp; omega) _).drew
  clear hW
  have HS := Lib.hid hs
  clear hs
  go_region_held3 (fun w' => w'.cell? ⟨w.heap.size, 0, none⟩ = some (.int .u64 a) ∧ w'.cell? ⟨w.heap.size, 1, none⟩ = some (.int .u64 b) ∧ w'.cell? ⟨w.heap.size + 1 + 1, 0, none⟩ = some (.int .u64 x) ∧ w'.cell? ⟨w.heap.size + 1 + 1, 1, none⟩ = some (.int .u64 y))
    (first | go_keep | (refine ⟨?_, ?_, ?_, ?_⟩ <;> (rw [hcc _ _ (by have := HS.out; simp; omega)]; simpa using by assumption)))
    (first | (go_at_call 206; refine (up_w _ _ _ _ ka kb kb2 (by omega)).mono ?_; rintro e w1 ⟨rfl, hbb⟩; obtain ⟨hcc, hff⟩ := bcell hbb; have s5 : w1.cell? ⟨w.heap.size + 1, 0, none⟩ = some (.int .u64 0) := by (rw [hcc _ _ (by have := HS.out; simp; omega)]; simpa using c5)
              have s6 : w1.cell? ⟨w.heap.size + 1, 1, none⟩ = some (.int .u64 0) := by (rw [hcc _ _ (by have := HS.out; simp; omega)]; simpa using c6)
              have t5 : w1.frozen? ⟨w.heap.size + 1, 0, none⟩ = false := by (rw [hff _ _ (by have := HS.out; simp; omega)]; simpa using z5)
              have t6 : w1.frozen? ⟨w.heap.size + 1, 1, none⟩ = false := by (rw [hff _ _ (by have := HS.out; simp; omega)]; simpa using z6)))
  go_wp2
  refine bodyPost_ret (v := .tuple #[.agg #[.int .u64 x, .int .u64 y], .bool (!(hi (wn x y * 2 ^ n % W128) == a) || !(lo (wn x y * 2 ^ n % W128) == b))]) (by simp [results, Tryz.results156, go_sem, s5, s6]) rfl ⟨?_, ?_⟩
  · rw [K1.out, K2.out, wn_hi_lo, lost_iff a b n ha ha2 hb hb2]
  · exact (((hB.drew.trans (hbb.mono (by have := HS.out; simp; omega))).setCell (by simp) _).setCell (by simp) _)

set_option maxRecDepth 100000 in
set_option maxHeartbeats 400000 in
theorem down_hi (a b : Int) (n : Nat) (w : World) (ha : 0 ≤ a) (ha2 : a ≤ 18446744073709551615) (hb : 0 ≤ b) (hb2 : b ≤ 18446744073709551615) (hn : 64 ≤ (n : Int)) (hn2 : (n : Int) < 128) :
    Calls Tryz.prog 156 #[.agg #[.int .u64 a, .int .u64 b], .int .i64 n] w fun e w' => e = .returned (.tuple #[.agg #[.int .u64 (hi (wn a b / 2 ^ n)), .int .u64 (lo (wn a b / 2 ^ n))], .bool (decide (wn a b % 2 ^ n ≠ 0))]) ∧ Below w.heap.size w w' := by
  obtain ⟨k1, k2⟩ := dn_arith_hi a b n ha ha2 hb hb2 (by omega)
  have kb : 0 ≤ a / 2 ^ (n - 64) := by rw [k2]; exact lo_nonneg _
  have kb2 : a / 2 ^ (n - 64) ≤ 18446744073709551615 := by rw [k2]; exact lo_le _
  have K1 := Lib.hid k1
  have K2 := Lib.hid k2
  clear k1 k2
  go_enter Tryz.func156, Tryz.ntmps156
  go_wp2
  generalize a / 2 ^ (n - 64) = y at *
  have ka : (0 : Int) ≤ 0 := by omega
  generalize hW : World.alloc _ _ = W2
  have c1 : W2.cell? ⟨w.heap.size, 0, none⟩ = some (.int .u64 a) := by subst hW; simp (disch := (simp; try omega)) only [World.cell?_drew, World.cell?_alloc_at, World.cell?_alloc_past]; rfl
  have c2 : W2.cell? ⟨w.heap.size, 1, none⟩ = some (.int .u64 b) := by subst hW; simp (disch := (simp; try omega)) only [World.cell?_drew, World.cell?_alloc_at, World.cell?_alloc_past]; rfl
  have c3 : W2.cell? ⟨w.heap.size + 1 + 1, 0, none⟩ = some (.int .u64 0) := by subst hW; simp (disch := (simp; try omega)) only [World.cell?_drew, World.cell?_alloc_at, World.cell?_alloc_past]; rfl
  have c4 : W2.cell? ⟨w.heap.size + 1 + 1, 1, none⟩ = some (.int .u64 y) := by subst hW; simp (disch := (simp; try omega)) only [World.cell?_drew, World.cell?_alloc_at, World.cell?_alloc_past]; rfl
  have c5 : W2.cell? ⟨w.heap.size + 1, 0, none⟩ = some (.int .u64 0) := by subst hW; simp (disch := (simp; try omega)) only [World.cell?_drew, World.cell?_alloc_at, World.cell?_alloc_past]; rfl
  have c6 : W2.cell? ⟨w.heap.size + 1, 1, none⟩ = some (.int .u64 0) := by subst hW; simp (disch := (simp; try omega)) only [World.cell?_drew, World.cell?_alloc_at, World.cell?_alloc_past]; rfl
  have z5 : W2.frozen? ⟨w.heap.size + 1, 0, none⟩ = false := by subst hW; simp (disch := (simp; try omega)) only [World.frozen?_drew, World.frozen?_alloc_at, World.frozen?_alloc_past]
  have z6 : W2.frozen? ⟨w.heap.size + 1, 1, none⟩ = false := by subst hW; simp (disch := (simp; try omega)) only [World.frozen?_drew, World.frozen?_alloc_at, World.frozen?_alloc_past]
  have hs : W2.heap.size = w.heap.size + 3 := by rw [← hW]; simp
  have hB : Below w.heap.size w W2 := by rw [← hW]; exact (((Below.refl _ _).alloc (Nat.le_refl _) _).alloc (by simp) _).alloc (by simp; omega) _
  clear hW
  have HS := Lib.hid hs
  clear hs
  go_region_held3 (fun w' => w'.cell? ⟨w.heap.size, 0, none⟩ = some (.int .u64 a) ∧ w'.cell? ⟨w.heap.size, 1, none⟩ = some (.int .u64 b) ∧ w'.cell? ⟨w.heap.size + 1 + 1, 0, none⟩ = some (.int .u64 0) ∧ w'.cell? ⟨w.heap.size + 1 + 1, 1, none⟩ = some (.int .u64 y))
    (first | go_keep | (refine ⟨?_, ?_, ?_, ?_⟩ <;> (rw [hcc _ _ (by have := HS.out; simp; omega)]; simpa using by assumption)))
    (first | (go_at_call 206; refine (up_w _ _ _ _ ka kb kb2 (by omega)).mono ?_; rintro e w1 ⟨rfl, hbb⟩; obtain ⟨hcc, hff⟩ := bcell hbb; have s5 : w1.cell? ⟨w.heap.size + 1, 0, none⟩ = some (.int .u64 0) := by (rw [hcc _ _ (by have := HS.out; simp; omega)]; simpa using c5)
              have s6 : w1.cell? ⟨w.heap.size + 1, 1, none⟩ = some (.int .u64 0) := by (rw [hcc _ _ (by have := HS.out; simp; omega)]; simpa using c6)
              have t5 : w1.frozen? ⟨w.heap.size + 1, 0, none⟩ = false := by (rw [hff _ _ (by have := HS.out; simp; omega)]; simpa using z5)
              have t6 : w1.frozen? ⟨w.heap.size + 1, 1, none⟩ = false := by (rw [hff _ _ (by have := HS.out; simp; omega)]; simpa using z6)))
  go_wp2
  refine bodyPost_ret (v := .tuple #[.agg #[.int .u64 0, .int .u64 y], .bool (!(hi (wn 0 y * 2 ^ n % W128) == a) || !(lo (wn 0 y * 2 ^ n % W128) == b))]) (by simp [results, Tryz.results156, go_sem, s5, s6]) rfl ⟨?_, ?_⟩
  · rw [K1.out, K2.out, wn_hi_lo, lost_iff a b n ha ha2 hb hb2]
  · exact (((hB.drew.trans (hbb.mono (by have := HS.out; simp; omega))).setCell (by simp) _).setCell (by simp) _)

set_option maxRecDepth 100000 in
set_option maxHeartbeats 400000 in
theorem down_all (a b : Int) (n : Nat) (w : World) (ha : 0 ≤ a) (ha2 : a ≤ 18446744073709551615) (hb : 0 ≤ b) (hb2 : b ≤ 18446744073709551615) (hn2 : 128 ≤ (n : Int)) :
    Calls Tryz.prog 156 #[.agg #[.int .u64 a, .int .u64 b], .int .i64 n] w fun e w' => e = .returned (.tuple #[.agg #[.int .u64 (hi (wn a b / 2 ^ n)), .int .u64 (lo (wn a b / 2 ^ n))], .bool (decide (wn a b % 2 ^ n ≠ 0))]) ∧ Below w.heap.size w w' := by
  go_enter Tryz.func156, Tryz.ntmps156
  go_wp2_with (go_at_call 205; refine (is_w _ _ _).mono ?_; rintro e w1 ⟨rfl, hbb⟩; obtain ⟨hcc, hff⟩ := bcell hbb)
  have s5 : w1.cell? ⟨w.heap.size + 1, 0, none⟩ = some (.int .u64 0) := by (rw [hcc _ _ (by simp)]; simp)
  have s6 : w1.cell? ⟨w.heap.size + 1, 1, none⟩ = some (.int .u64 0) := by (rw [hcc _ _ (by simp)]; simp)
  refine bodyPost_ret (v := .tuple #[.agg #[.int .u64 0, .int .u64 0], .bool (!a == 0 || !b == 0)]) (by simp [results, Tryz.results156, go_sem, s5, s6]) rfl ⟨?_, ?_⟩
  · obtain ⟨h1, h2, h3⟩ := dn_arith_all a b n ha ha2 hb hb2 (by omega)
    rw [← h1, ← h2, h3]
  · exact (((((Below.refl _ _).alloc (Nat.le_refl _) _).alloc (by simp) _).trans (hbb.mono (by simp; omega))).setCell (by simp) _).setCell (by simp) _

theorem down_w (a b : Int) (n : Nat) (w : World) (ha : 0 ≤ a) (ha2 : a ≤ 18446744073709551615) (hb : 0 ≤ b) (hb2 : b ≤ 18446744073709551615) :
    Calls Tryz.prog 156 #[.agg #[.int .u64 a, .int .u64 b], .int .i64 n] w fun e w' => e = .returned (.tuple #[.agg #[.int .u64 (hi (wn a b / 2 ^ n)), .int .u64 (lo (wn a b / 2 ^ n))], .bool (decide (wn a b % 2 ^ n ≠ 0))]) ∧ Below w.heap.size w w' := by
  by_cases h1 : (n : Int) < 64
  · exact down_lo a b n w ha ha2 hb hb2 h1
  · by_cases h2 : (n : Int) < 128
    · exact down_hi a b n w ha ha2 hb hb2 (by omega) h2
    · exact down_all a b n w ha ha2 hb hb2 (by omega)

end Go.Proofs.YtgjohjgmlleebaaGreat
namespace Go.Proofs.YtgjohjgmlleebaaGreat
set_option linter.all false
open Go.RowKit Bu

theorem ret_tup {a b : Array Value} (h : a = b) : Ending.returned (.tuple a) = .returned (.tuple b) := by rw [h]

set_option maxRecDepth 100000 in
set_option maxHeartbeats 400000 in
theorem parts_F (x : F) (w : World) :
    Calls Tryz.prog 91 #[.float .f64 x.b] w fun e w' => e = .returned (.tuple #[.bool (decide (x.k < 0)), .int .u64 (man x.k.natAbs), .int .i64 (pl x.k.natAbs - 1074)]) ∧ w = w' := by
  have hb := run_fbits
  have h1 := b_frac x
  have h2 := b_exp x
  have h3 := or_hid x.k.natAbs
  have h4 := (b_parts x).2.2
  have hP : P = 4503599627370496 := rfl
  have hp := Nat.div_add_mod x.k.natAbs P
  by_cases hE : x.k.natAbs / P = 0
  · have hm : man x.k.natAbs = x.k.natAbs % P := by
      have hlt := Nat.mod_lt x.k.natAbs P_pos
      rw [hE, Nat.mul_zero] at hp; unfold man; rw [if_pos (by omega)]; omega
    have hl : pl x.k.natAbs = 0 := by unfold pl; omega
    rw [hm, hl]
    rw [hE] at h2
    clear h3 h4 hP hp hE hm hl
    generalize x.k.natAbs % P = m at *
    go_enter Tryz.func91, Tryz.ntmps91
    go_wp2_with (first | (go_at_call 129; refine (signbit_F _ _).mono ?_; rintro e w' ⟨rfl, rfl⟩))
    go_ret3
    exact ⟨ret_tup rfl, rfl⟩
  · have hm : man x.k.natAbs = P + x.k.natAbs % P := by
      unfold man; rw [if_neg]
      intro h; exact hE (Nat.div_eq_of_lt h)
    have hl : (pl x.k.natAbs : Int) - 1074 = ((x.k.natAbs / P : Nat) : Int) + -1074 - 1 := by
      unfold pl; clear h1 h2 h3 hm; generalize x.k.natAbs / P = q at *; omega
    rw [hm, hl]
    have h5 : (1 : Int) ≤ ((x.k.natAbs / P : Nat) : Int) := by omega
    have h6 : ((x.k.natAbs / P : Nat) : Int) < 2047 := by omega
    clear h4 hP hp hE hm hl
    generalize x.k.natAbs % P = m at *
    generalize x.k.natAbs / P = q at *
    generalize P + m = M at *
    go_enter Tryz.func91, Tryz.ntmps91
    go_wp2_with (first | (go_at_call 129; refine (signbit_F _ _).mono ?_; rintro e w' ⟨rfl, rfl⟩))
    go_ret3
    exact ⟨ret_tup rfl, rfl⟩

/-- a multiplication of floats, for the walk -/
theorem fmul_exact {x y p : F} (hp : p.k ≠ 0) (h : p.z * S = x.z * y.z) (t : TypeId) (w : World) : (binOp .mul t (.float .f64 x.b) (.float .f64 y.b)).run Tryz.prog w = .ok (.float .f64 p.b) w :=
  run_float_arith w .mul t .f64 x.b y.b p.b (mul_exact hp h)

theorem lit52 : (4841369599423283200 : Nat) = (F.of 4841369599423283200).b := by decide +kernel
theorem litmin : (4503599627370496 : Nat) = (F.of 4503599627370496).b := by decide +kernel
theorem lit52z : (F.of 4841369599423283200).z = 4503599627370496 * S := by decide +kernel

set_option maxHeartbeats 400000 in
theorem normalize_norm (x : F) (w : World) (h : P ≤ x.k.natAbs) :
    Calls Tryz.prog 152 #[.float .f64 x.b] w fun e w' => e = .returned (.tuple #[.float .f64 x.b, .int .i64 0]) ∧ w = w' := by
  have ho : (FloatKind.f64.format.order x.abs.b 4503599627370496 == some .lt) = false := by
    rw [litmin, ford_lt]
    have e : P = 4503599627370496 := rfl
    have e2 : x.abs.k = (x.k.natAbs : Int) := rfl
    rw [F.of_k (by decide), e2]; simp; omega
  go_enter Tryz.func152, Tryz.ntmps152
  go_wp2_with (first | (go_at_call 73; refine (abs_F _ _).mono ?_; rintro e w' ⟨rfl, rfl⟩))
  go_ret2
  exact ⟨ret_tup rfl, rfl⟩

set_option maxHeartbeats 400000 in
theorem normalize_sub (x y : F) (w : World) (h : x.k.natAbs < P) (h0 : x.k ≠ 0) (hy : y.z = x.z * 4503599627370496) :
    Calls Tryz.prog 152 #[.float .f64 x.b] w fun e w' => e = .returned (.tuple #[.float .f64 y.b, .int .i64 (-52)]) ∧ w = w' := by
  have ho : (FloatKind.f64.format.order x.abs.b 4503599627370496 == some .lt) = true := by
    rw [litmin, ford_lt]
    have e : P = 4503599627370496 := rfl
    have e2 : x.abs.k = (x.k.natAbs : Int) := rfl
    rw [F.of_k (by decide), e2]; simp; omega
  have hy0 : y.k ≠ 0 := fun e => h0 ((z_zero x).1 (by have := (z_zero y).2 e; omega))
  have hm := fmul_exact (x := x) (y := F.of 4841369599423283200) (p := y) hy0 (by rw [hy, lit52z, Int.mul_assoc]) 27
  rw [← lit52] at hm
  clear h h0 hy hy0
  go_enter Tryz.func152, Tryz.ntmps152
  go_wp2_with (first | (go_at_call 73; refine (abs_F _ _).mono ?_; rintro e w' ⟨rfl, rfl⟩))
  go_ret2
  exact ⟨ret_tup rfl, rfl⟩

theorem litone : (4607182418800017408 : Nat) = (F.of 4607182418800017408).b := by decide +kernel
theorem litone_z : (F.of 4607182418800017408).z = S := by decide +kernel
theorem lit53 : (4368491638549381120 : Nat) = (F.of 4368491638549381120).b := by decide +kernel
theorem lit53_z : (F.of 4368491638549381120).z * 9007199254740992 = S := by decide +kernel

set_option maxRecDepth 100000 in
set_option maxHeartbeats 400000 in
theorem ldexp_C (x x' y : F) (n c : Int) (f : Nat) (w : World) (hx : x.k ≠ 0) (hN : ∀ w, Calls Tryz.prog 152 #[.float .f64 x.b] w fun e w' => e = .returned (.tuple #[.float .f64 x'.b, .int .i64 c]) ∧ w = w')
    (hc1 : -52 ≤ c) (hc2 : c ≤ 0) (hf1 : 1 ≤ (f : Int)) (hf2 : (f : Int) ≤ 2046) (hfn : n + c + ((x'.k.natAbs / P : Nat) : Int) = f) (hy : y = x'.like (f * P + x'.k.natAbs % P)) :
    Calls Tryz.prog 90 #[.float .f64 x.b, .int .i64 n] w fun e w' => e = .returned (.float .f64 y.b) ∧ w = w' := by
  have hb := run_fbits
  have hf := run_ffrom
  have ho : (FloatKind.f64.format.order x.b 0 == some .eq) = false := by rw [ford0_eq]; simpa using hx
  have he := b_exp_i x'
  have heq : ((x'.k.natAbs / P : Nat) : Int) < 2047 := by have := b_parts x'; omega
  have hB := ldexp_bits x' f (by omega) (by omega)
  rw [← hy] at hB
  have hy0 : y.k ≠ 0 := by
    intro e
    have h1 := F.like_b x' (f * P + x'.k.natAbs % P) (by have := P_pos; have : 1 * P ≤ f * P := Nat.mul_le_mul_right _ (by omega); omega) (by
      have := Nat.mod_lt x'.k.natAbs P_pos
      have : f * P ≤ 2046 * P := Nat.mul_le_mul_right _ (by omega)
      rw [T_eq]; omega)
    rw [← hy] at h1
    have h2 : y.b = 0 := by unfold F.b; rw [e]; rfl
    have := P_pos
    have : 1 * P ≤ f * P := Nat.mul_le_mul_right _ (by omega)
    split at h1 <;> omega
  have hm := fmul_exact (x := F.of 4607182418800017408) (y := y) (p := y) hy0 (by rw [litone_z, Int.mul_comm]) 27
  rw [← litone] at hm
  generalize x'.k.natAbs / P = q at *
  have g1 : 1 ≤ n + c + q := by omega
  have g2 : n + c + q ≤ 2046 := by omega
  have eB : IntKind.u64.wrap ((f : Int) * 4503599627370496) = (n + c + (q - 1023) + 1023) * 4503599627370496 := by
    rw [IntKind.wrap_u64]; omega
  rw [eB] at hB
  have HN := Lib.hid hN
  clear hfn hy eB hN hx hy0 hf1 hf2
  go_enter Tryz.func90, Tryz.ntmps90
  go_wp2_with (first | (go_at_call 152; refine (HN.out _).mono ?_; rintro e w' ⟨rfl, rfl⟩) | (go_at_call 127; refine (isNaN_F _ _).mono ?_; rintro e w' ⟨rfl, rfl⟩) | (go_at_call 128; refine (isInf_F _ _).mono ?_; rintro e w' ⟨rfl, rfl⟩) )
  go_ret
  exact ⟨ret_float rfl, rfl⟩

set_option maxRecDepth 100000 in
set_option maxHeartbeats 400000 in
theorem ldexp_D (x x' y y' : F) (n c : Int) (f : Nat) (w : World) (hx : x.k ≠ 0) (hN : ∀ w, Calls Tryz.prog 152 #[.float .f64 x.b] w fun e w' => e = .returned (.tuple #[.float .f64 x'.b, .int .i64 c]) ∧ w = w')
    (hc1 : -52 ≤ c) (hc2 : c ≤ 0) (hf1 : 1 ≤ (f : Int)) (hf2 : (f : Int) ≤ 53) (hfn : n + c + ((x'.k.natAbs / P : Nat) : Int) + 53 = f) (hy : y = x'.like (f * P + x'.k.natAbs % P))
    (hy0 : y'.k ≠ 0) (hy' : y.z = y'.z * 9007199254740992) :
    Calls Tryz.prog 90 #[.float .f64 x.b, .int .i64 n] w fun e w' => e = .returned (.float .f64 y'.b) ∧ w = w' := by
  have hb := run_fbits
  have hf := run_ffrom
  have ho : (FloatKind.f64.format.order x.b 0 == some .eq) = false := by rw [ford0_eq]; simpa using hx
  have he := b_exp_i x'
  have heq : ((x'.k.natAbs / P : Nat) : Int) < 2047 := by have := b_parts x'; omega
  have hB := ldexp_bits x' f (by omega) (by omega)
  rw [← hy] at hB
  have hm := fmul_exact (x := F.of 4368491638549381120) (y := y) (p := y') hy0 (by rw [hy', ← lit53_z, ← Int.mul_assoc, Int.mul_comm y'.z]; grind) 27
  rw [← lit53] at hm
  generalize x'.k.natAbs / P = q at *
  have g1 : 1 ≤ n + c + q + 53 := by omega
  have g2 : n + c + q ≤ 0 := by omega
  have eB : IntKind.u64.wrap ((f : Int) * 4503599627370496) = (n + c + (q - 1023) + 53 + 1023) * 4503599627370496 := by
    rw [IntKind.wrap_u64]; omega
  rw [eB] at hB
  have HN := Lib.hid hN
  clear hfn hy eB hN hx hy0 hy' hf1 hf2
  go_enter Tryz.func90, Tryz.ntmps90
  go_wp2_with (first | (go_at_call 152; refine (HN.out _).mono ?_; rintro e w' ⟨rfl, rfl⟩) | (go_at_call 127; refine (isNaN_F _ _).mono ?_; rintro e w' ⟨rfl, rfl⟩) | (go_at_call 128; refine (isInf_F _ _).mono ?_; rintro e w' ⟨rfl, rfl⟩) )
  go_ret
  exact ⟨ret_float rfl, rfl⟩

theorem ldexp_norm (x x' y : F) (n c : Int) (w : World) (hx : x.k ≠ 0) (hN : ∀ w, Calls Tryz.prog 152 #[.float .f64 x.b] w fun e w' => e = .returned (.tuple #[.float .f64 x'.b, .int .i64 c]) ∧ w = w')
    (hc1 : -52 ≤ c) (hc : c ≤ 0) (h : Sc x y n) (hP : P ≤ x'.k.natAbs) (hxx : nv x'.k.natAbs = nv x.k.natAbs * 2 ^ (-c).toNat) (hs : x'.k < 0 ↔ x.k < 0) :
    Calls Tryz.prog 90 #[.float .f64 x.b, .int .i64 n] w fun e w' => e = .returned (.float .f64 y.b) ∧ w = w' := by
  have hy0 : y.k ≠ 0 := by
    intro e
    have hab := h.abs
    rw [e, Int.natAbs_zero, nv_zero, Nat.zero_mul] at hab
    have : nv x.k.natAbs = 0 := by
      rcases Nat.mul_eq_zero.1 hab.symm with e | e
      · exact e
      · have := Nat.two_pow_pos n.toNat; omega
    have := nv_inj (this.trans nv_zero.symm)
    omega
  rcases ldexp_parts h hx hc hP hxx hs with ⟨h1, h2, h3⟩ | ⟨h1, h2, h3⟩
  · obtain ⟨f, hf⟩ := Int.eq_ofNat_of_zero_le (show 0 ≤ n + c + ((x'.k.natAbs / P : Nat) : Int) by omega)
    rw [hf] at h1 h2 h3
    exact ldexp_C x x' y n c f w hx hN hc1 hc h1 h2 hf (by rw [h3, Int.toNat_natCast])
  · obtain ⟨f, hf⟩ := Int.eq_ofNat_of_zero_le (show 0 ≤ n + c + ((x'.k.natAbs / P : Nat) : Int) + 53 by omega)
    rw [hf] at h1 h2 h3
    exact ldexp_D x x' _ y n c f w hx hN hc1 hc h1 h2 hf rfl hy0 (by rw [← h3, Int.toNat_natCast])

set_option maxHeartbeats 400000 in
theorem ldexp_zero (n : Int) (w : World) :
    Calls Tryz.prog 90 #[.float .f64 0, .int .i64 n] w fun e w' => e = .returned (.float .f64 0) ∧ w = w' := by
  have ho : (FloatKind.f64.format.order 0 0 == some .eq) = true := by decide
  go_enter Tryz.func90, Tryz.ntmps90
  go_wp2
  go_ret
  exact ⟨ret_float rfl, rfl⟩

theorem ldexp_exact (x y : F) (n : Int) (w : World) (h : Sc x y n) :
    Calls Tryz.prog 90 #[.float .f64 x.b, .int .i64 n] w fun e w' => e = .returned (.float .f64 y.b) ∧ w = w' := by
  by_cases hx : x.k = 0
  · have e1 : x = F.zero := F.ext' hx
    have e2 : y = F.zero := by
      apply F.ext'
      apply (z_zero y).1
      unfold Sc at h
      rw [(z_zero x).2 hx, Int.zero_mul] at h
      rcases Int.mul_eq_zero.1 h with e | e
      · exact e
      · have := Nat.two_pow_pos (-n).toNat; omega
    subst e1 e2
    rw [b_zero]
    exact ldexp_zero n w
  by_cases hP : P ≤ x.k.natAbs
  · exact ldexp_norm x x y n 0 w hx (fun w => normalize_norm x w hP) (by omega) (by omega) h hP (by simp) (Iff.rfl)
  · obtain ⟨x', h1, h2, h3, h4⟩ := lift_sub x (by omega) hx
    exact ldexp_norm x x' y n (-52) w hx (fun w => normalize_sub x x' w (by omega) hx h1) (by omega) (by omega) h h2 h3 h4

set_option maxHeartbeats 400000 in
/-- math.Ldexp, where the product is a number -/
theorem Ldexp_exact (x y : F) (n : Int) (w : World) (h : Sc x y n) :
    Calls Tryz.prog 51 #[.float .f64 x.b, .int .i64 n] w fun e w' => e = .returned (.float .f64 y.b) ∧ w = w' := by
  have H := Lib.hid h
  clear h
  go_enter Tryz.func51, Tryz.ntmps51
  go_wp2_with (go_at_call 90; refine (ldexp_exact x y n _ H.out).mono ?_; rintro e w' ⟨rfl, rfl⟩)
  go_ret
  exact ⟨ret_float rfl, rfl⟩
end Go.Proofs.YtgjohjgmlleebaaGreat
namespace Go.Proofs.YtgjohjgmlleebaaGreat
set_option linter.all false
open Go.RowKit Bu

theorem run_unary_neg_F (x : F) (h : x.k ≠ 0) (w : World) : (Op.unary .neg (.float .f64 x.b)).run Tryz.prog w = .ok (.float .f64 x.neg.b) w := by
  rw [← negFloat_F x h]; rfl
theorem len64_w (n : Nat) (w : World) (h : (n : Int) ≤ 18446744073709551615) :
    Calls Tryz.prog 50 #[.int .u64 n] w fun e w' => e = .returned (.int .i64 (blen n)) ∧ w = w' :=
  (Tryz.bits_Len64 n w (by omega) h).mono fun e w' ⟨h1, h2⟩ => ⟨by rw [h1, Int.toNat_natCast, lib_blen n (by omega)], h2.symm⟩
theorem floatOfInt_dy (m : Nat) (h : (m : Int) ≤ 9007199254740992) : floatOfInt .f64 (m : Int) = (F.dy m 0).b := by
  unfold floatOfInt FloatKind.nearest FloatKind.encode
  exact nat_conv (by rw [show 2 * P = 9007199254740992 from rfl]; omega)
theorem neg_dy (m : Nat) (e : Int) (h : (m : Int) ≤ 9007199254740992) (h0 : m ≠ 0) (he : -1074 ≤ e) (h1 : (blen m : Int) + e ≤ 1024) (w : World) :
    (Op.unary .neg (.float .f64 (F.dy m e).b)).run Tryz.prog w = .ok (.float .f64 (F.dy m e).neg.b) w :=
  run_unary_neg_F _ (dy_pos (by rw [show 2 * P = 9007199254740992 from rfl]; omega) h0 he h1) w
theorem Sc_dy (m : Nat) (e : Int) (h : (m : Int) ≤ 9007199254740992) (he : -1074 ≤ e) (h1 : (blen m : Int) + e ≤ 1024) : Sc (F.dy m 0) (F.dy m e) e :=
  nat_Sc (by rw [show 2 * P = 9007199254740992 from rfl]; omega) he h1
theorem blen_54 (m : Nat) (h : (m : Int) ≤ 9007199254740992) : (blen m : Int) ≤ 54 := by
  have := blen_2P (m := m) (by rw [show 2 * P = 9007199254740992 from rfl]; omega)
  omega
theorem max_conv : floatOfInt .f64 9007199254740991 = (F.dy 9007199254740991 0).b := by decide +kernel
theorem max_Sc : Sc (F.dy 9007199254740991 0) F.max 971 := by
  have h := nat_Sc (m := 9007199254740991) (e := 971) (by decide) (by decide) (by decide)
  rw [dy_max] at h
  exact h

def TwoIs (r : F × Int) (x : Nat) (n : Int) : Prop := r.1.b = x ∧ r.2 = n
theorem ret_two {r : F × Int} {x : Nat} {n : Int} (h : TwoIs r x n) : Ending.returned (.tuple #[.float .f64 x, .int .i64 n]) = .returned (.tuple #[.float .f64 r.1.b, .int .i64 r.2]) := by rw [h.1, h.2]
section
variable {minus more up lost away : Bool} {e : Int} {n X m0 m : Nat}
theorem rndG_eq (hX : cutN n e = X) (h0 : n / 2 ^ X = m0) (hl : decide (n % 2 ^ X ≠ 0) = lost) (hm : mUp minus more up lost m0 = m) : rndG minus n more e up = rndOut minus (up != minus) m (e + X) := by
  subst hX h0 hl hm; rfl
theorem rnd_zero (hX : cutN n e = X) (h0 : n / 2 ^ X = m0) (hl : decide (n % 2 ^ X ≠ 0) = lost) (hm : mUp minus more up lost m0 = 0) : TwoIs (rndG minus n more e up) 0 0 := by
  rw [rndG_eq hX h0 hl hm]; unfold rndOut; rw [if_pos rfl]; exact ⟨b_zero, rfl⟩
theorem rnd_overT (hX : cutN n e = X) (h0 : n / 2 ^ X = m0) (hl : decide (n % 2 ^ X ≠ 0) = lost) (hm : mUp minus more up lost m0 = m) (hz : m ≠ 0) (g : 1024 < (blen m : Int) + (e + X)) (ha : (up != minus) = true) :
    TwoIs (rndG minus n more e up) 0 10 := by
  rw [rndG_eq hX h0 hl hm]; unfold rndOut; rw [if_neg hz, if_pos g, if_pos ha]; exact ⟨b_zero, rfl⟩
theorem rnd_overF (hX : cutN n e = X) (h0 : n / 2 ^ X = m0) (hl : decide (n % 2 ^ X ≠ 0) = lost) (hm : mUp minus more up lost m0 = m) (hz : m ≠ 0) (g : 1024 < (blen m : Int) + (e + X)) (ha : (up != minus) = false) :
    TwoIs (rndG minus n more e up) (F.turn minus F.max).b 0 := by
  rw [rndG_eq hX h0 hl hm]; unfold rndOut; rw [if_neg hz, if_pos g, if_neg (by simp [ha])]; exact ⟨rfl, rfl⟩
theorem rnd_mid (hX : cutN n e = X) (h0 : n / 2 ^ X = m0) (hl : decide (n % 2 ^ X ≠ 0) = lost) (hm : mUp minus more up lost m0 = m) (hz : m ≠ 0) (g : ¬ 1024 < (blen m : Int) + (e + X)) :
    TwoIs (rndG minus n more e up) (F.turn minus (F.dy m (e + X))).b 0 := by
  rw [rndG_eq hX h0 hl hm]; unfold rndOut; rw [if_neg hz, if_neg g]; exact ⟨rfl, rfl⟩
end
theorem rnd_overfalsefalse {more lost : Bool} {e : Int} {n X m0 m : Nat} (hX : cutN n e = X) (h0 : n / 2 ^ X = m0) (hl : decide (n % 2 ^ X ≠ 0) = lost) (hm : mUp false more false lost m0 = m) (hz : m ≠ 0) (g : 1024 < (blen m : Int) + (e + X)) :
    TwoIs (rndG false n more e false) F.max.b 0 := by have h := rnd_overF hX h0 hl hm hz g rfl; rw [turn_false] at h; exact h
theorem rnd_overfalsetrue {more lost : Bool} {e : Int} {n X m0 m : Nat} (hX : cutN n e = X) (h0 : n / 2 ^ X = m0) (hl : decide (n % 2 ^ X ≠ 0) = lost) (hm : mUp true more true lost m0 = m) (hz : m ≠ 0) (g : 1024 < (blen m : Int) + (e + X)) :
    TwoIs (rndG true n more e true) F.max.neg.b 0 := by have h := rnd_overF hX h0 hl hm hz g rfl; rw [turn_true] at h; exact h
theorem rnd_overtruefalse {more lost : Bool} {e : Int} {n X m0 m : Nat} (hX : cutN n e = X) (h0 : n / 2 ^ X = m0) (hl : decide (n % 2 ^ X ≠ 0) = lost) (hm : mUp false more true lost m0 = m) (hz : m ≠ 0) (g : 1024 < (blen m : Int) + (e + X)) :
    TwoIs (rndG false n more e true) 0 10 := rnd_overT hX h0 hl hm hz g rfl
theorem rnd_overtruetrue {more lost : Bool} {e : Int} {n X m0 m : Nat} (hX : cutN n e = X) (h0 : n / 2 ^ X = m0) (hl : decide (n % 2 ^ X ≠ 0) = lost) (hm : mUp true more false lost m0 = m) (hz : m ≠ 0) (g : 1024 < (blen m : Int) + (e + X)) :
    TwoIs (rndG true n more e false) 0 10 := rnd_overT hX h0 hl hm hz g rfl
theorem rnd_midfalse {more lost up : Bool} {e : Int} {n X m0 m : Nat} (hX : cutN n e = X) (h0 : n / 2 ^ X = m0) (hl : decide (n % 2 ^ X ≠ 0) = lost) (hm : mUp false more up lost m0 = m) (hz : m ≠ 0) (g : ¬ 1024 < (blen m : Int) + (e + X)) :
    TwoIs (rndG false n more e up) (F.dy m (e + X)).b 0 := by have h := rnd_mid hX h0 hl hm hz g; rw [turn_false] at h; exact h
theorem rnd_midtrue {more lost up : Bool} {e : Int} {n X m0 m : Nat} (hX : cutN n e = X) (h0 : n / 2 ^ X = m0) (hl : decide (n % 2 ^ X ≠ 0) = lost) (hm : mUp true more up lost m0 = m) (hz : m ≠ 0) (g : ¬ 1024 < (blen m : Int) + (e + X)) :
    TwoIs (rndG true n more e up) (F.dy m (e + X)).neg.b 0 := by have h := rnd_mid hX h0 hl hm hz g; rw [turn_true] at h; exact h

theorem size_i (a b : Int) (w : World) (ha : 0 ≤ a) (ha2 : a ≤ 18446744073709551615) (hb : 0 ≤ b) (hb2 : b ≤ 18446744073709551615) :
    Calls Tryz.prog 155 #[.agg #[.int .u64 a, .int .u64 b]] w fun e w' => e = .returned (.int .i64 (blen (wn a b))) ∧ Below w.heap.size w w' := by
  obtain ⟨x, rfl⟩ := Int.eq_ofNat_of_zero_le ha
  obtain ⟨y, rfl⟩ := Int.eq_ofNat_of_zero_le hb
  refine (size_w x y w ha2 hb2).mono ?_
  rintro e w' ⟨rfl, h⟩
  refine ⟨ret_int ?_, h⟩
  rw [lib_blen x (by omega), lib_blen y (by omega), blen_wn x y (by omega)]
  split <;> simp

set_option maxRecDepth 100000 in
set_option maxHeartbeats 2000000 in
theorem rounded_w (minus more up : Bool) (a b e : Int) (w : World) (ha : 0 ≤ a) (ha2 : a ≤ 18446744073709551615) (hb : 0 ≤ b) (hb2 : b ≤ 18446744073709551615) (he1 : -5000 ≤ e) (he2 : e ≤ 5000) :
    Calls Tryz.prog 92 #[.agg #[.bool minus, .int .u64 a, .int .u64 b, .bool more, .int .i64 e], .bool up] w fun q w' => q = .returned (.tuple #[.float .f64 (rndG minus (wn a b) more e up).1.b, .int .i64 (rndG minus (wn a b) more e up).2]) ∧ Below w.heap.size w w' := by
  go_enter Tryz.func92, Tryz.ntmps92
  go_wp2_with fail
  generalize hW : World.alloc _ _ = W
  have c0 : W.cell? ⟨w.heap.size, 0, none⟩ = some (.bool minus) := by subst hW; simp (disch := (simp; try omega)) only [World.cell?_drew, World.cell?_alloc_at, World.cell?_alloc_past]; rfl
  have c1 : W.cell? ⟨w.heap.size, 1, none⟩ = some (.int .u64 a) := by subst hW; simp (disch := (simp; try omega)) only [World.cell?_drew, World.cell?_alloc_at, World.cell?_alloc_past]; rfl
  have c2 : W.cell? ⟨w.heap.size, 2, none⟩ = some (.int .u64 b) := by subst hW; simp (disch := (simp; try omega)) only [World.cell?_drew, World.cell?_alloc_at, World.cell?_alloc_past]; rfl
  have c3 : W.cell? ⟨w.heap.size, 3, none⟩ = some (.bool more) := by subst hW; simp (disch := (simp; try omega)) only [World.cell?_drew, World.cell?_alloc_at, World.cell?_alloc_past]; rfl
  have c4 : W.cell? ⟨w.heap.size, 4, none⟩ = some (.int .i64 e) := by subst hW; simp (disch := (simp; try omega)) only [World.cell?_drew, World.cell?_alloc_at, World.cell?_alloc_past]; rfl
  have hs : W.heap.size = w.heap.size + 1 := by rw [← hW]; simp
  have hB : Below w.heap.size w W := by rw [← hW]; exact (Below.refl _ _).alloc (Nat.le_refl _) _
  clear hW
  have HS := Lib.hid hs
  clear hs
  go_region_held3 (fun w' => w'.cell? ⟨w.heap.size, 0, none⟩ = some (.bool minus) ∧ w'.cell? ⟨w.heap.size, 1, none⟩ = some (.int .u64 a) ∧ w'.cell? ⟨w.heap.size, 2, none⟩ = some (.int .u64 b) ∧ w'.cell? ⟨w.heap.size, 3, none⟩ = some (.bool more) ∧ w'.cell? ⟨w.heap.size, 4, none⟩ = some (.int .i64 e))
    (first | go_keep | (refine ⟨?_, ?_, ?_, ?_, ?_⟩ <;> (rw [hcc _ _ (by have := HS.out; simp; omega)]; simpa using by assumption)))
    (first | (go_at_call 155; refine (size_i _ _ _ ha ha2 hb hb2).mono ?_; rintro e w1 ⟨rfl, hbb⟩; obtain ⟨hcc, hff⟩ := bcell hbb))
  have d0 : w1.cell? ⟨w.heap.size, 0, none⟩ = some (.bool minus) := by rw [hcc _ _ (by have := HS.out; simp; omega)]; exact c0
  have d1 : w1.cell? ⟨w.heap.size, 1, none⟩ = some (.int .u64 a) := by rw [hcc _ _ (by have := HS.out; simp; omega)]; exact c1
  have d2 : w1.cell? ⟨w.heap.size, 2, none⟩ = some (.int .u64 b) := by rw [hcc _ _ (by have := HS.out; simp; omega)]; exact c2
  have d3 : w1.cell? ⟨w.heap.size, 3, none⟩ = some (.bool more) := by rw [hcc _ _ (by have := HS.out; simp; omega)]; exact c3
  have d4 : w1.cell? ⟨w.heap.size, 4, none⟩ = some (.int .i64 e) := by rw [hcc _ _ (by have := HS.out; simp; omega)]; exact c4
  have hz1 : w.heap.size < w1.heap.size := by have := HS.out; have := hbb.size; simp at this; omega
  have hB1 : Below w.heap.size w w1 := hB.drew.trans (hbb.mono (by have := HS.out; simp; omega))
  generalize hC : (if _ < (0 : Int) then (0 : Int) else _) = C
  have hC2 : C = (cutN (wn a b) e : Int) := by
    have hl := blen_wn_le a b ha2 hb2
    rw [← hC, IntWalk.i64_in _ (by omega), IntWalk.i64_in _ (by omega)]
    unfold cutN
    split <;> split <;> omega
  have hC3 : cutN (wn a b) e ≤ 5000 := by
    have hl := blen_wn_le a b ha2 hb2
    unfold cutN; omega
  clear hC
  subst hC2
  clear c0 c1 c2 c3 c4 hB HS hbb hcc hff
  have L0 := cut_lt (wn a b) e
  have L1 : lo (wn a b / 2 ^ cutN (wn a b) e) = ((wn a b / 2 ^ cutN (wn a b) e : Nat) : Int) := by unfold lo; generalize wn a b / 2 ^ cutN (wn a b) e = u at *; omega
  have L2 : ((wn a b / 2 ^ cutN (wn a b) e : Nat) : Int) ≤ 9007199254740991 := by omega
  clear L0
  have J1 := Lib.hid L1
  clear L1
  go_wp2_with (first | (go_at_call 156; refine (down_w _ _ _ _ ha ha2 hb hb2).mono ?_; rintro e w2 ⟨rfl, hbb⟩; obtain ⟨hcc, hff⟩ := bcell hbb))
  have HL := Lib.hid (show decide (wn a b % 2 ^ cutN (wn a b) e ≠ 0) = (!decide (wn a b % 2 ^ cutN (wn a b) e = 0)) by simp)
  generalize hX : cutN (wn a b) e = X at *
  generalize (!decide (wn a b % 2 ^ X = 0)) = lost at *
  generalize hm0 : wn a b / 2 ^ X = m0 at *
  have K0 := Lib.hid hm0
  have KX := Lib.hid hX
  clear hm0 hX
  simp only [J1.out]
  generalize hW : World.alloc _ _ = W2
  have e0 : W2.cell? ⟨w.heap.size, 0, none⟩ = some (.bool minus) := by subst hW; rw [World.cell?_alloc_past _ _ _ (by have := hbb.size; omega), hcc _ _ hz1]; exact d0
  have e3 : W2.cell? ⟨w.heap.size, 3, none⟩ = some (.bool more) := by subst hW; rw [World.cell?_alloc_past _ _ _ (by have := hbb.size; omega), hcc _ _ hz1]; exact d3
  have e4 : W2.cell? ⟨w.heap.size, 4, none⟩ = some (.int .i64 e) := by subst hW; rw [World.cell?_alloc_past _ _ _ (by have := hbb.size; omega), hcc _ _ hz1]; exact d4
  have e5 : W2.cell? ⟨w2.heap.size, 1, none⟩ = some (.int .u64 m0) := by subst hW; rw [World.cell?_alloc_at _ _ _ _ rfl]; rfl
  have hB2 : Below w.heap.size w W2 := by rw [← hW]; exact (hB1.trans (hbb.mono (by omega))).alloc (by have := hbb.size; omega) _
  clear hW d0 d1 d2 d3 d4 hcc hff hbb hz1 hB1 ha ha2 hb hb2
  go_region
  by_cases hA : up = minus
  · subst hA
    have HM := Lib.hid (show mUp up more up lost m0 = m0 by unfold mUp; simp)
    cases up
    · as_aux_lemma =>
      by_cases z : m0 = 0
      · subst z
        have HR := Lib.hid (show TwoIs (rndG false (wn a b) more e false) 0 0 from rnd_zero KX.out K0.out HL.out HM.out)
        go_wp2_with (first | (go_at_call 50; refine (len64_w _ _ (by omega)).mono ?_; rintro e w' ⟨rfl, rfl⟩) | (go_at_call 51; refine (Ldexp_exact _ _ _ _ HSc.out).mono ?_; rintro e w' ⟨rfl, rfl⟩))
        go_ret2
        exact ⟨ret_two HR.out, hB2.drew⟩
      · have z' : (((m0 : Nat) : Int) == 0) = false := by rw [beq_eq_false_iff_ne]; omega
        have hbl := blen_54 m0 (by omega)
        have Z := Lib.hid z
        clear z
        by_cases g : 1024 < (blen m0 : Int) + (e + X)
        · have HR := Lib.hid (show TwoIs (rndG false (wn a b) more e false) F.max.b 0 from rnd_overfalsefalse KX.out K0.out HL.out HM.out Z.out g)
          have HSc := Lib.hid max_Sc
          have HC := max_conv
          have hne := run_unary_neg_F F.max (by rw [F.max_k]; omega)
          generalize F.max = y0 at *
          generalize F.dy 9007199254740991 0 = x0 at *
          go_wp2_with (first | (go_at_call 50; refine (len64_w _ _ (by omega)).mono ?_; rintro e w' ⟨rfl, rfl⟩) | (go_at_call 51; refine (Ldexp_exact _ _ _ _ HSc.out).mono ?_; rintro e w' ⟨rfl, rfl⟩))
          go_ret2
          exact ⟨ret_two HR.out, hB2.drew⟩
        · have hge : -1074 ≤ e + X := by have h1 := KX.out; unfold cutN at h1; omega
          have HR := Lib.hid (show TwoIs (rndG false (wn a b) more e false) (F.dy m0 (e + X)).b 0 from rnd_midfalse KX.out K0.out HL.out HM.out Z.out g)
          have HSc := Lib.hid (Sc_dy m0 (e + X) (by omega) hge (by omega))
          have HC := floatOfInt_dy m0 (by omega)
          have hne := neg_dy m0 (e + X) (by omega) Z.out hge (by omega)
          have g' : (blen m0 : Int) + (e + X) ≤ 1024 := by omega
          clear g
          generalize F.dy m0 0 = x0 at *
          generalize F.dy m0 (e + X) = y0 at *
          go_wp2_with (first | (go_at_call 50; refine (len64_w _ _ (by omega)).mono ?_; rintro e w' ⟨rfl, rfl⟩) | (go_at_call 51; refine (Ldexp_exact _ _ _ _ HSc.out).mono ?_; rintro e w' ⟨rfl, rfl⟩))
          go_ret2
          exact ⟨ret_two HR.out, hB2.drew⟩
    · as_aux_lemma =>
      by_cases z : m0 = 0
      · subst z
        have HR := Lib.hid (show TwoIs (rndG true (wn a b) more e true) 0 0 from rnd_zero KX.out K0.out HL.out HM.out)
        go_wp2_with (first | (go_at_call 50; refine (len64_w _ _ (by omega)).mono ?_; rintro e w' ⟨rfl, rfl⟩) | (go_at_call 51; refine (Ldexp_exact _ _ _ _ HSc.out).mono ?_; rintro e w' ⟨rfl, rfl⟩))
        go_ret2
        exact ⟨ret_two HR.out, hB2.drew⟩
      · have z' : (((m0 : Nat) : Int) == 0) = false := by rw [beq_eq_false_iff_ne]; omega
        have hbl := blen_54 m0 (by omega)
        have Z := Lib.hid z
        clear z
        by_cases g : 1024 < (blen m0 : Int) + (e + X)
        · have HR := Lib.hid (show TwoIs (rndG true (wn a b) more e true) F.max.neg.b 0 from rnd_overfalsetrue KX.out K0.out HL.out HM.out Z.out g)
          have HSc := Lib.hid max_Sc
          have HC := max_conv
          have hne := run_unary_neg_F F.max (by rw [F.max_k]; omega)
          generalize F.max = y0 at *
          generalize F.dy 9007199254740991 0 = x0 at *
          go_wp2_with (first | (go_at_call 50; refine (len64_w _ _ (by omega)).mono ?_; rintro e w' ⟨rfl, rfl⟩) | (go_at_call 51; refine (Ldexp_exact _ _ _ _ HSc.out).mono ?_; rintro e w' ⟨rfl, rfl⟩))
          go_ret2
          exact ⟨ret_two HR.out, hB2.drew⟩
        · have hge : -1074 ≤ e + X := by have h1 := KX.out; unfold cutN at h1; omega
          have HR := Lib.hid (show TwoIs (rndG true (wn a b) more e true) (F.dy m0 (e + X)).neg.b 0 from rnd_midtrue KX.out K0.out HL.out HM.out Z.out g)
          have HSc := Lib.hid (Sc_dy m0 (e + X) (by omega) hge (by omega))
          have HC := floatOfInt_dy m0 (by omega)
          have hne := neg_dy m0 (e + X) (by omega) Z.out hge (by omega)
          have g' : (blen m0 : Int) + (e + X) ≤ 1024 := by omega
          clear g
          generalize F.dy m0 0 = x0 at *
          generalize F.dy m0 (e + X) = y0 at *
          go_wp2_with (first | (go_at_call 50; refine (len64_w _ _ (by omega)).mono ?_; rintro e w' ⟨rfl, rfl⟩) | (go_at_call 51; refine (Ldexp_exact _ _ _ _ HSc.out).mono ?_; rintro e w' ⟨rfl, rfl⟩))
          go_ret2
          exact ⟨ret_two HR.out, hB2.drew⟩
  · cases up <;> cases minus
    · exact absurd rfl hA
    · clear hA
      cases lost
      · cases more
        · as_aux_lemma =>
          have HM := Lib.hid (show mUp true false false false m0 = m0 from rfl)
          by_cases z : m0 = 0
          · subst z
            have HR := Lib.hid (show TwoIs (rndG true (wn a b) false e false) 0 0 from rnd_zero KX.out K0.out HL.out HM.out)
            go_wp2_with (first | (go_at_call 50; refine (len64_w _ _ (by omega)).mono ?_; rintro e w' ⟨rfl, rfl⟩) | (go_at_call 51; refine (Ldexp_exact _ _ _ _ HSc.out).mono ?_; rintro e w' ⟨rfl, rfl⟩))
            go_ret2
            exact ⟨ret_two HR.out, hB2.drew⟩
          · have z' : (((m0 : Nat) : Int) == 0) = false := by rw [beq_eq_false_iff_ne]; omega
            have hbl := blen_54 m0 (by omega)
            have Z := Lib.hid z
            clear z
            by_cases g : 1024 < (blen m0 : Int) + (e + X)
            · have HR := Lib.hid (show TwoIs (rndG true (wn a b) false e false) 0 10 from rnd_overtruetrue KX.out K0.out HL.out HM.out Z.out g)
              have HSc := Lib.hid max_Sc
              have HC := max_conv
              have hne := run_unary_neg_F F.max (by rw [F.max_k]; omega)
              generalize F.max = y0 at *
              generalize F.dy 9007199254740991 0 = x0 at *
              go_wp2_with (first | (go_at_call 50; refine (len64_w _ _ (by omega)).mono ?_; rintro e w' ⟨rfl, rfl⟩) | (go_at_call 51; refine (Ldexp_exact _ _ _ _ HSc.out).mono ?_; rintro e w' ⟨rfl, rfl⟩))
              go_ret2
              exact ⟨ret_two HR.out, hB2.drew⟩
            · have hge : -1074 ≤ e + X := by have h1 := KX.out; unfold cutN at h1; omega
              have HR := Lib.hid (show TwoIs (rndG true (wn a b) false e false) (F.dy m0 (e + X)).neg.b 0 from rnd_midtrue KX.out K0.out HL.out HM.out Z.out g)
              have HSc := Lib.hid (Sc_dy m0 (e + X) (by omega) hge (by omega))
              have HC := floatOfInt_dy m0 (by omega)
              have hne := neg_dy m0 (e + X) (by omega) Z.out hge (by omega)
              have g' : (blen m0 : Int) + (e + X) ≤ 1024 := by omega
              clear g
              generalize F.dy m0 0 = x0 at *
              generalize F.dy m0 (e + X) = y0 at *
              go_wp2_with (first | (go_at_call 50; refine (len64_w _ _ (by omega)).mono ?_; rintro e w' ⟨rfl, rfl⟩) | (go_at_call 51; refine (Ldexp_exact _ _ _ _ HSc.out).mono ?_; rintro e w' ⟨rfl, rfl⟩))
              go_ret2
              exact ⟨ret_two HR.out, hB2.drew⟩
        · as_aux_lemma =>
          have HM := Lib.hid (show mUp true true false false m0 = m0 + 1 by rfl)
          have z' : (((m0 : Nat) : Int) + 1 == 0) = false := by rw [beq_eq_false_iff_ne]; omega
          go_wp2_with fail
          have Z := Lib.hid (show m0 + 1 ≠ 0 by omega)
          have hbl := blen_54 (m0 + 1) (by omega)
          have hm2 : ((m0 + 1 : Nat) : Int) ≤ 9007199254740992 := by omega
          simp only [show ((m0 : Nat) : Int) + 1 = ((m0 + 1 : Nat) : Int) from by omega] at z' ⊢
          generalize m0 + 1 = m at *
          by_cases g : 1024 < (blen m : Int) + (e + X)
          · have HR := Lib.hid (show TwoIs (rndG true (wn a b) true e false) 0 10 from rnd_overtruetrue KX.out K0.out HL.out HM.out Z.out g)
            have HSc := Lib.hid max_Sc
            have HC := max_conv
            have hne := run_unary_neg_F F.max (by rw [F.max_k]; omega)
            generalize F.max = y0 at *
            generalize F.dy 9007199254740991 0 = x0 at *
            go_wp2_with (first | (go_at_call 50; refine (len64_w _ _ (by omega)).mono ?_; rintro e w' ⟨rfl, rfl⟩) | (go_at_call 51; refine (Ldexp_exact _ _ _ _ HSc.out).mono ?_; rintro e w' ⟨rfl, rfl⟩))
            go_ret2
            exact ⟨ret_two HR.out, hB2.drew⟩
          · have hge : -1074 ≤ e + X := by have h1 := KX.out; unfold cutN at h1; omega
            have HR := Lib.hid (show TwoIs (rndG true (wn a b) true e false) (F.dy m (e + X)).neg.b 0 from rnd_midtrue KX.out K0.out HL.out HM.out Z.out g)
            have HSc := Lib.hid (Sc_dy m (e + X) (by omega) hge (by omega))
            have HC := floatOfInt_dy m (by omega)
            have hne := neg_dy m (e + X) (by omega) Z.out hge (by omega)
            have g' : (blen m : Int) + (e + X) ≤ 1024 := by omega
            clear g
            generalize F.dy m 0 = x0 at *
            generalize F.dy m (e + X) = y0 at *
            go_wp2_with (first | (go_at_call 50; refine (len64_w _ _ (by omega)).mono ?_; rintro e w' ⟨rfl, rfl⟩) | (go_at_call 51; refine (Ldexp_exact _ _ _ _ HSc.out).mono ?_; rintro e w' ⟨rfl, rfl⟩))
            go_ret2
            exact ⟨ret_two HR.out, hB2.drew⟩
      · as_aux_lemma =>
        have HM := Lib.hid (show mUp true more false true m0 = m0 + 1 by rfl)
        have z' : (((m0 : Nat) : Int) + 1 == 0) = false := by rw [beq_eq_false_iff_ne]; omega
        go_wp2_with fail
        have Z := Lib.hid (show m0 + 1 ≠ 0 by omega)
        have hbl := blen_54 (m0 + 1) (by omega)
        have hm2 : ((m0 + 1 : Nat) : Int) ≤ 9007199254740992 := by omega
        simp only [show ((m0 : Nat) : Int) + 1 = ((m0 + 1 : Nat) : Int) from by omega] at z' ⊢
        generalize m0 + 1 = m at *
        by_cases g : 1024 < (blen m : Int) + (e + X)
        · have HR := Lib.hid (show TwoIs (rndG true (wn a b) more e false) 0 10 from rnd_overtruetrue KX.out K0.out HL.out HM.out Z.out g)
          have HSc := Lib.hid max_Sc
          have HC := max_conv
          have hne := run_unary_neg_F F.max (by rw [F.max_k]; omega)
          generalize F.max = y0 at *
          generalize F.dy 9007199254740991 0 = x0 at *
          go_wp2_with (first | (go_at_call 50; refine (len64_w _ _ (by omega)).mono ?_; rintro e w' ⟨rfl, rfl⟩) | (go_at_call 51; refine (Ldexp_exact _ _ _ _ HSc.out).mono ?_; rintro e w' ⟨rfl, rfl⟩))
          go_ret2
          exact ⟨ret_two HR.out, hB2.drew⟩
        · have hge : -1074 ≤ e + X := by have h1 := KX.out; unfold cutN at h1; omega
          have HR := Lib.hid (show TwoIs (rndG true (wn a b) more e false) (F.dy m (e + X)).neg.b 0 from rnd_midtrue KX.out K0.out HL.out HM.out Z.out g)
          have HSc := Lib.hid (Sc_dy m (e + X) (by omega) hge (by omega))
          have HC := floatOfInt_dy m (by omega)
          have hne := neg_dy m (e + X) (by omega) Z.out hge (by omega)
          have g' : (blen m : Int) + (e + X) ≤ 1024 := by omega
          clear g
          generalize F.dy m 0 = x0 at *
          generalize F.dy m (e + X) = y0 at *
          go_wp2_with (first | (go_at_call 50; refine (len64_w _ _ (by omega)).mono ?_; rintro e w' ⟨rfl, rfl⟩) | (go_at_call 51; refine (Ldexp_exact _ _ _ _ HSc.out).mono ?_; rintro e w' ⟨rfl, rfl⟩))
          go_ret2
          exact ⟨ret_two HR.out, hB2.drew⟩
    · clear hA
      cases lost
      · cases more
        · as_aux_lemma =>
          have HM := Lib.hid (show mUp false false true false m0 = m0 from rfl)
          by_cases z : m0 = 0
          · subst z
            have HR := Lib.hid (show TwoIs (rndG false (wn a b) false e true) 0 0 from rnd_zero KX.out K0.out HL.out HM.out)
            go_wp2_with (first | (go_at_call 50; refine (len64_w _ _ (by omega)).mono ?_; rintro e w' ⟨rfl, rfl⟩) | (go_at_call 51; refine (Ldexp_exact _ _ _ _ HSc.out).mono ?_; rintro e w' ⟨rfl, rfl⟩))
            go_ret2
            exact ⟨ret_two HR.out, hB2.drew⟩
          · have z' : (((m0 : Nat) : Int) == 0) = false := by rw [beq_eq_false_iff_ne]; omega
            have hbl := blen_54 m0 (by omega)
            have Z := Lib.hid z
            clear z
            by_cases g : 1024 < (blen m0 : Int) + (e + X)
            · have HR := Lib.hid (show TwoIs (rndG false (wn a b) false e true) 0 10 from rnd_overtruefalse KX.out K0.out HL.out HM.out Z.out g)
              have HSc := Lib.hid max_Sc
              have HC := max_conv
              have hne := run_unary_neg_F F.max (by rw [F.max_k]; omega)
              generalize F.max = y0 at *
              generalize F.dy 9007199254740991 0 = x0 at *
              go_wp2_with (first | (go_at_call 50; refine (len64_w _ _ (by omega)).mono ?_; rintro e w' ⟨rfl, rfl⟩) | (go_at_call 51; refine (Ldexp_exact _ _ _ _ HSc.out).mono ?_; rintro e w' ⟨rfl, rfl⟩))
              go_ret2
              exact ⟨ret_two HR.out, hB2.drew⟩
            · have hge : -1074 ≤ e + X := by have h1 := KX.out; unfold cutN at h1; omega
              have HR := Lib.hid (show TwoIs (rndG false (wn a b) false e true) (F.dy m0 (e + X)).b 0 from rnd_midfalse KX.out K0.out HL.out HM.out Z.out g)
              have HSc := Lib.hid (Sc_dy m0 (e + X) (by omega) hge (by omega))
              have HC := floatOfInt_dy m0 (by omega)
              have hne := neg_dy m0 (e + X) (by omega) Z.out hge (by omega)
              have g' : (blen m0 : Int) + (e + X) ≤ 1024 := by omega
              clear g
              generalize F.dy m0 0 = x0 at *
              generalize F.dy m0 (e + X) = y0 at *
              go_wp2_with (first | (go_at_call 50; refine (len64_w _ _ (by omega)).mono ?_; rintro e w' ⟨rfl, rfl⟩) | (go_at_call 51; refine (Ldexp_exact _ _ _ _ HSc.out).mono ?_; rintro e w' ⟨rfl, rfl⟩))
              go_ret2
              exact ⟨ret_two HR.out, hB2.drew⟩
        · as_aux_lemma =>
          have HM := Lib.hid (show mUp false true true false m0 = m0 + 1 by rfl)
          have z' : (((m0 : Nat) : Int) + 1 == 0) = false := by rw [beq_eq_false_iff_ne]; omega
          go_wp2_with fail
          have Z := Lib.hid (show m0 + 1 ≠ 0 by omega)
          have hbl := blen_54 (m0 + 1) (by omega)
          have hm2 : ((m0 + 1 : Nat) : Int) ≤ 9007199254740992 := by omega
          simp only [show ((m0 : Nat) : Int) + 1 = ((m0 + 1 : Nat) : Int) from by omega] at z' ⊢
          generalize m0 + 1 = m at *
          by_cases g : 1024 < (blen m : Int) + (e + X)
          · have HR := Lib.hid (show TwoIs (rndG false (wn a b) true e true) 0 10 from rnd_overtruefalse KX.out K0.out HL.out HM.out Z.out g)
            have HSc := Lib.hid max_Sc
            have HC := max_conv
            have hne := run_unary_neg_F F.max (by rw [F.max_k]; omega)
            generalize F.max = y0 at *
            generalize F.dy 9007199254740991 0 = x0 at *
            go_wp2_with (first | (go_at_call 50; refine (len64_w _ _ (by omega)).mono ?_; rintro e w' ⟨rfl, rfl⟩) | (go_at_call 51; refine (Ldexp_exact _ _ _ _ HSc.out).mono ?_; rintro e w' ⟨rfl, rfl⟩))
            go_ret2
            exact ⟨ret_two HR.out, hB2.drew⟩
          · have hge : -1074 ≤ e + X := by have h1 := KX.out; unfold cutN at h1; omega
            have HR := Lib.hid (show TwoIs (rndG false (wn a b) true e true) (F.dy m (e + X)).b 0 from rnd_midfalse KX.out K0.out HL.out HM.out Z.out g)
            have HSc := Lib.hid (Sc_dy m (e + X) (by omega) hge (by omega))
            have HC := floatOfInt_dy m (by omega)
            have hne := neg_dy m (e + X) (by omega) Z.out hge (by omega)
            have g' : (blen m : Int) + (e + X) ≤ 1024 := by omega
            clear g
            generalize F.dy m 0 = x0 at *
            generalize F.dy m (e + X) = y0 at *
            go_wp2_with (first | (go_at_call 50; refine (len64_w _ _ (by omega)).mono ?_; rintro e w' ⟨rfl, rfl⟩) | (go_at_call 51; refine (Ldexp_exact _ _ _ _ HSc.out).mono ?_; rintro e w' ⟨rfl, rfl⟩))
            go_ret2
            exact ⟨ret_two HR.out, hB2.drew⟩
      · as_aux_lemma =>
        have HM := Lib.hid (show mUp false more true true m0 = m0 + 1 by rfl)
        have z' : (((m0 : Nat) : Int) + 1 == 0) = false := by rw [beq_eq_false_iff_ne]; omega
        go_wp2_with fail
        have Z := Lib.hid (show m0 + 1 ≠ 0 by omega)
        have hbl := blen_54 (m0 + 1) (by omega)
        have hm2 : ((m0 + 1 : Nat) : Int) ≤ 9007199254740992 := by omega
        simp only [show ((m0 : Nat) : Int) + 1 = ((m0 + 1 : Nat) : Int) from by omega] at z' ⊢
        generalize m0 + 1 = m at *
        by_cases g : 1024 < (blen m : Int) + (e + X)
        · have HR := Lib.hid (show TwoIs (rndG false (wn a b) more e true) 0 10 from rnd_overtruefalse KX.out K0.out HL.out HM.out Z.out g)
          have HSc := Lib.hid max_Sc
          have HC := max_conv
          have hne := run_unary_neg_F F.max (by rw [F.max_k]; omega)
          generalize F.max = y0 at *
          generalize F.dy 9007199254740991 0 = x0 at *
          go_wp2_with (first | (go_at_call 50; refine (len64_w _ _ (by omega)).mono ?_; rintro e w' ⟨rfl, rfl⟩) | (go_at_call 51; refine (Ldexp_exact _ _ _ _ HSc.out).mono ?_; rintro e w' ⟨rfl, rfl⟩))
          go_ret2
          exact ⟨ret_two HR.out, hB2.drew⟩
        · have hge : -1074 ≤ e + X := by have h1 := KX.out; unfold cutN at h1; omega
          have HR := Lib.hid (show TwoIs (rndG false (wn a b) more e true) (F.dy m (e + X)).b 0 from rnd_midfalse KX.out K0.out HL.out HM.out Z.out g)
          have HSc := Lib.hid (Sc_dy m (e + X) (by omega) hge (by omega))
          have HC := floatOfInt_dy m (by omega)
          have hne := neg_dy m (e + X) (by omega) Z.out hge (by omega)
          have g' : (blen m : Int) + (e + X) ≤ 1024 := by omega
          clear g
          generalize F.dy m 0 = x0 at *
          generalize F.dy m (e + X) = y0 at *
          go_wp2_with (first | (go_at_call 50; refine (len64_w _ _ (by omega)).mono ?_; rintro e w' ⟨rfl, rfl⟩) | (go_at_call 51; refine (Ldexp_exact _ _ _ _ HSc.out).mono ?_; rintro e w' ⟨rfl, rfl⟩))
          go_ret2
          exact ⟨ret_two HR.out, hB2.drew⟩
    · exact absurd rfl hA

theorem rounded_n (minus more up : Bool) (n : Nat) (e : Int) (w : World) (hb2 : (n : Int) ≤ 18446744073709551615) (he1 : -5000 ≤ e) (he2 : e ≤ 5000) :
    Calls Tryz.prog 92 #[.agg #[.bool minus, .int .u64 0, .int .u64 n, .bool more, .int .i64 e], .bool up] w fun q w' => q = .returned (.tuple #[.float .f64 (rndG minus n more e up).1.b, .int .i64 (rndG minus n more e up).2]) ∧ Below w.heap.size w w' := by
  have h := rounded_w minus more up 0 n e w (by omega) (by omega) (by omega) hb2 he1 he2
  have e1 : wn 0 (n : Int) = n := by unfold wn; simp
  rw [e1] at h
  exact h
end Go.Proofs.YtgjohjgmlleebaaGreat
namespace Go.Proofs.YtgjohjgmlleebaaGreat
set_option linter.all false
open Go.RowKit Bu

theorem nextF_pos {x : F} {minus : Bool} {n r : Nat} {e : Int} {up : Bool} (he : -1074 ≤ e) (h : n * 2 ^ (e + 1074).toNat = nv r) (hk : (if minus then -(r : Int) else r) = if up then x.k + 1 else x.k - 1) :
    rndG minus n false e up = nextF x up := by
  rw [rndG_nv he h, hk]
  unfold nextF
  cases up <;> rfl

set_option maxRecDepth 100000 in
set_option maxHeartbeats 1000000 in
theorem next_F (x : F) (up : Bool) (w : World) :
    Calls Tryz.prog 52 #[.float .f64 x.b, .bool up] w fun q w' => q = .returned (.tuple #[.float .f64 (nextF x up).1.b, .int .i64 (nextF x up).2]) ∧ Below w.heap.size w w' := by
  have hpp := fun w => parts_F x w
  have HP := Lib.hid hpp
  have hb := man_pl x.k.natAbs
  have hbp := (b_parts x).2.2
  have hP : P = 4503599627370496 := rfl
  have b1 : ((man x.k.natAbs : Nat) : Int) ≤ 9007199254740991 := by omega
  have b2 : ((pl x.k.natAbs : Nat) : Int) ≤ 2046 := by unfold pl; omega
  clear hpp hb hbp hP
  by_cases h0 : x.k = 0
  · have HN := Lib.hid (show rndG (!up) 1 false (-1074) up = nextF x up from nextF_pos (r := 1) (by omega) (by decide) (by rw [h0]; cases up <;> rfl))
    have hm : man x.k.natAbs = 0 := by rw [h0]; rfl
    have hl : pl x.k.natAbs = 0 := by rw [h0]; rfl
    have hsg : decide (x.k < 0) = false := by simp; omega
    rw [hm, hl, hsg] at HP
    clear h0 hm hl hsg b1 b2
    have HRR := Lib.hid (fun w => rounded_n (!up) false up 1 (-1074) w (by omega) (by omega) (by omega))
    go_enter Tryz.func52, Tryz.ntmps52
    go_wp2_with (first | (go_at_call 74; refine (right_F_w _ _).mono ?_; rintro e w' ⟨rfl, rfl⟩) | (go_at_call 91; refine (HP.out _).mono ?_; rintro e w' ⟨rfl, rfl⟩) | (go_at_call 92; refine (HRR.out _).mono ?_; rintro e w' ⟨rfl, hbb⟩))
    go_ret2
    refine ⟨?_, hbb⟩
    rw [← HN.out]
    exact ret_tup rfl
  · have hz : man x.k.natAbs ≠ 0 := fun c => h0 (by have := man_zero _ c; omega)
    by_cases hs : x.k < 0
    · have hsg : decide (x.k < 0) = true := by simpa using hs
      rw [hsg] at HP
      cases up
      · have HN := Lib.hid (show rndG true (man x.k.natAbs + 1) false (pl x.k.natAbs - 1074) false = nextF x false from nextF_pos (r := x.k.natAbs + 1) (by omega) (by rw [show ((pl x.k.natAbs : Int) - 1074 + 1074).toNat = pl x.k.natAbs from by omega]; exact nv_up _) (by simp; omega))
        have hrr := fun w => rounded_n true false false (man x.k.natAbs + 1) (pl x.k.natAbs - 1074) w (by omega) (by omega) (by omega)
        simp only [Int.natCast_add, Int.cast_ofNat_Int] at hrr
        have HRR := Lib.hid hrr
        have z : (((man x.k.natAbs : Nat) : Int) == 0) = false := by rw [beq_eq_false_iff_ne]; omega
        clear hrr hz h0 hsg
        generalize man x.k.natAbs = m at *
        generalize pl x.k.natAbs = p at *
        go_enter Tryz.func52, Tryz.ntmps52
        go_wp2_with (first | (go_at_call 74; refine (right_F_w _ _).mono ?_; rintro e w' ⟨rfl, rfl⟩) | (go_at_call 91; refine (HP.out _).mono ?_; rintro e w' ⟨rfl, rfl⟩) | (go_at_call 92; refine (HRR.out _).mono ?_; rintro e w' ⟨rfl, hbb⟩))
        go_ret2
        refine ⟨?_, hbb⟩
        rw [← HN.out]
        exact ret_tup rfl
      · have z : (((man x.k.natAbs : Nat) : Int) == 0) = false := by rw [beq_eq_false_iff_ne]; omega
        by_cases hc : man x.k.natAbs = P ∧ 1 ≤ pl x.k.natAbs
        · have HN := Lib.hid (show rndG true 9007199254740991 false (pl x.k.natAbs - 1074 - 1) true = nextF x true from nextF_pos (r := x.k.natAbs - 1) (by omega) (by rw [show ((pl x.k.natAbs : Int) - 1074 - 1 + 1074).toNat = pl x.k.natAbs - 1 from by omega]; exact nv_dn2 _ hc.1 hc.2) (by simp; omega))
          have HRR := Lib.hid (fun w => rounded_n true false true 9007199254740991 (pl x.k.natAbs - 1074 - 1) w (by omega) (by omega) (by omega))
          have hm : man x.k.natAbs = 4503599627370496 := hc.1
          have hp1 : (-1074 : Int) < (pl x.k.natAbs : Int) - 1074 := by omega
          rw [hm] at HP
          clear hz h0 hsg z hc hm b1
          generalize pl x.k.natAbs = p at *
          go_enter Tryz.func52, Tryz.ntmps52
          go_wp2_with (first | (go_at_call 74; refine (right_F_w _ _).mono ?_; rintro e w' ⟨rfl, rfl⟩) | (go_at_call 91; refine (HP.out _).mono ?_; rintro e w' ⟨rfl, rfl⟩) | (go_at_call 92; refine (HRR.out _).mono ?_; rintro e w' ⟨rfl, hbb⟩))
          go_ret2
          refine ⟨?_, hbb⟩
          rw [← HN.out]
          exact ret_tup rfl
        · have HN := Lib.hid (show rndG true (man x.k.natAbs - 1) false (pl x.k.natAbs - 1074) true = nextF x true from nextF_pos (r := x.k.natAbs - 1) (by omega) (by rw [show ((pl x.k.natAbs : Int) - 1074 + 1074).toNat = pl x.k.natAbs from by omega]; exact nv_dn _ (by omega) hc) (by simp; omega))
          have hrr := fun w => rounded_n true false true (man x.k.natAbs - 1) (pl x.k.natAbs - 1074) w (by omega) (by omega) (by omega)
          rw [show ((man x.k.natAbs - 1 : Nat) : Int) = (man x.k.natAbs : Int) - 1 from by omega] at hrr
          have HRR := Lib.hid hrr
          have hm1 : (1 : Int) ≤ (man x.k.natAbs : Int) := by omega
          clear hrr
          by_cases hq : man x.k.natAbs = P
          · have q1 : (((man x.k.natAbs : Nat) : Int) == 4503599627370496) = true := by rw [beq_iff_eq, hq]; rfl
            have q2 : ¬ ((-1074 : Int) < (pl x.k.natAbs : Int) - 1074) := by omega
            clear hz h0 hsg hc hq
            generalize man x.k.natAbs = m at *
            generalize pl x.k.natAbs = p at *
            go_enter Tryz.func52, Tryz.ntmps52
            go_wp2_with (first | (go_at_call 74; refine (right_F_w _ _).mono ?_; rintro e w' ⟨rfl, rfl⟩) | (go_at_call 91; refine (HP.out _).mono ?_; rintro e w' ⟨rfl, rfl⟩) | (go_at_call 92; refine (HRR.out _).mono ?_; rintro e w' ⟨rfl, hbb⟩))
            go_ret2
            refine ⟨?_, hbb⟩
            rw [← HN.out]
            exact ret_tup rfl
          · have q1 : (((man x.k.natAbs : Nat) : Int) == 4503599627370496) = false := by rw [beq_eq_false_iff_ne]; intro c; exact hq (by have : P = 4503599627370496 := rfl; omega)
            clear hz h0 hsg hc hq
            generalize man x.k.natAbs = m at *
            generalize pl x.k.natAbs = p at *
            go_enter Tryz.func52, Tryz.ntmps52
            go_wp2_with (first | (go_at_call 74; refine (right_F_w _ _).mono ?_; rintro e w' ⟨rfl, rfl⟩) | (go_at_call 91; refine (HP.out _).mono ?_; rintro e w' ⟨rfl, rfl⟩) | (go_at_call 92; refine (HRR.out _).mono ?_; rintro e w' ⟨rfl, hbb⟩))
            go_ret2
            refine ⟨?_, hbb⟩
            rw [← HN.out]
            exact ret_tup rfl
    · have hsg : decide (x.k < 0) = false := by simpa using hs
      rw [hsg] at HP
      cases up
      · have z : (((man x.k.natAbs : Nat) : Int) == 0) = false := by rw [beq_eq_false_iff_ne]; omega
        by_cases hc : man x.k.natAbs = P ∧ 1 ≤ pl x.k.natAbs
        · have HN := Lib.hid (show rndG false 9007199254740991 false (pl x.k.natAbs - 1074 - 1) false = nextF x false from nextF_pos (r := x.k.natAbs - 1) (by omega) (by rw [show ((pl x.k.natAbs : Int) - 1074 - 1 + 1074).toNat = pl x.k.natAbs - 1 from by omega]; exact nv_dn2 _ hc.1 hc.2) (by simp; omega))
          have HRR := Lib.hid (fun w => rounded_n false false false 9007199254740991 (pl x.k.natAbs - 1074 - 1) w (by omega) (by omega) (by omega))
          have hm : man x.k.natAbs = 4503599627370496 := hc.1
          have hp1 : (-1074 : Int) < (pl x.k.natAbs : Int) - 1074 := by omega
          rw [hm] at HP
          clear hz h0 hsg z hc hm b1
          generalize pl x.k.natAbs = p at *
          go_enter Tryz.func52, Tryz.ntmps52
          go_wp2_with (first | (go_at_call 74; refine (right_F_w _ _).mono ?_; rintro e w' ⟨rfl, rfl⟩) | (go_at_call 91; refine (HP.out _).mono ?_; rintro e w' ⟨rfl, rfl⟩) | (go_at_call 92; refine (HRR.out _).mono ?_; rintro e w' ⟨rfl, hbb⟩))
          go_ret2
          refine ⟨?_, hbb⟩
          rw [← HN.out]
          exact ret_tup rfl
        · have HN := Lib.hid (show rndG false (man x.k.natAbs - 1) false (pl x.k.natAbs - 1074) false = nextF x false from nextF_pos (r := x.k.natAbs - 1) (by omega) (by rw [show ((pl x.k.natAbs : Int) - 1074 + 1074).toNat = pl x.k.natAbs from by omega]; exact nv_dn _ (by omega) hc) (by simp; omega))
          have hrr := fun w => rounded_n false false false (man x.k.natAbs - 1) (pl x.k.natAbs - 1074) w (by omega) (by omega) (by omega)
          rw [show ((man x.k.natAbs - 1 : Nat) : Int) = (man x.k.natAbs : Int) - 1 from by omega] at hrr
          have HRR := Lib.hid hrr
          have hm1 : (1 : Int) ≤ (man x.k.natAbs : Int) := by omega
          clear hrr
          by_cases hq : man x.k.natAbs = P
          · have q1 : (((man x.k.natAbs : Nat) : Int) == 4503599627370496) = true := by rw [beq_iff_eq, hq]; rfl
            have q2 : ¬ ((-1074 : Int) < (pl x.k.natAbs : Int) - 1074) := by omega
            clear hz h0 hsg hc hq
            generalize man x.k.natAbs = m at *
            generalize pl x.k.natAbs = p at *
            go_enter Tryz.func52, Tryz.ntmps52
            go_wp2_with (first | (go_at_call 74; refine (right_F_w _ _).mono ?_; rintro e w' ⟨rfl, rfl⟩) | (go_at_call 91; refine (HP.out _).mono ?_; rintro e w' ⟨rfl, rfl⟩) | (go_at_call 92; refine (HRR.out _).mono ?_; rintro e w' ⟨rfl, hbb⟩))
            go_ret2
            refine ⟨?_, hbb⟩
            rw [← HN.out]
            exact ret_tup rfl
          · have q1 : (((man x.k.natAbs : Nat) : Int) == 4503599627370496) = false := by rw [beq_eq_false_iff_ne]; intro c; exact hq (by have : P = 4503599627370496 := rfl; omega)
            clear hz h0 hsg hc hq
            generalize man x.k.natAbs = m at *
            generalize pl x.k.natAbs = p at *
            go_enter Tryz.func52, Tryz.ntmps52
            go_wp2_with (first | (go_at_call 74; refine (right_F_w _ _).mono ?_; rintro e w' ⟨rfl, rfl⟩) | (go_at_call 91; refine (HP.out _).mono ?_; rintro e w' ⟨rfl, rfl⟩) | (go_at_call 92; refine (HRR.out _).mono ?_; rintro e w' ⟨rfl, hbb⟩))
            go_ret2
            refine ⟨?_, hbb⟩
            rw [← HN.out]
            exact ret_tup rfl
      · have HN := Lib.hid (show rndG false (man x.k.natAbs + 1) false (pl x.k.natAbs - 1074) true = nextF x true from nextF_pos (r := x.k.natAbs + 1) (by omega) (by rw [show ((pl x.k.natAbs : Int) - 1074 + 1074).toNat = pl x.k.natAbs from by omega]; exact nv_up _) (by simp; omega))
        have hrr := fun w => rounded_n false false true (man x.k.natAbs + 1) (pl x.k.natAbs - 1074) w (by omega) (by omega) (by omega)
        simp only [Int.natCast_add, Int.cast_ofNat_Int] at hrr
        have HRR := Lib.hid hrr
        have z : (((man x.k.natAbs : Nat) : Int) == 0) = false := by rw [beq_eq_false_iff_ne]; omega
        clear hrr hz h0 hsg
        generalize man x.k.natAbs = m at *
        generalize pl x.k.natAbs = p at *
        go_enter Tryz.func52, Tryz.ntmps52
        go_wp2_with (first | (go_at_call 74; refine (right_F_w _ _).mono ?_; rintro e w' ⟨rfl, rfl⟩) | (go_at_call 91; refine (HP.out _).mono ?_; rintro e w' ⟨rfl, rfl⟩) | (go_at_call 92; refine (HRR.out _).mono ?_; rintro e w' ⟨rfl, hbb⟩))
        go_ret2
        refine ⟨?_, hbb⟩
        rw [← HN.out]
        exact ret_tup rfl
end Go.Proofs.YtgjohjgmlleebaaGreat
namespace Bu
set_option linter.all false
open Ieee

theorem signed_not (b : Bool) (m n : Nat) : signed (!b) m n = - signed b m n := by
  rw [signed_eq, signed_eq]
  cases b <;> simp

/-- '-' -/
theorem sub_F (x y : F) : double.sub x.b y.b = some (if x.z - y.z = 0 then 0 else double.word (decide (x.z - y.z < 0)) (min (near (x.z - y.z).natAbs 1) T)) := by
  unfold Format.sub
  rw [read_F, read_F]
  simp only [Datum.opposite, Datum.sum, Option.map_some, Format.write]
  obtain ⟨base, hbase⟩ : ∃ b : Int, b = min (-1074 + (pl x.k.natAbs : Int)) (-1074 + (pl y.k.natAbs : Int)) := ⟨_, rfl⟩
  rw [← hbase, signed_not]
  have s1 := signed_scale (decide (x.k < 0)) (man x.k.natAbs) (-1074 + (pl x.k.natAbs : Int)) base (by omega) (by omega)
  have s2 := signed_scale (decide (y.k < 0)) (man y.k.natAbs) (-1074 + (pl y.k.natAbs : Int)) base (by omega) (by omega)
  rw [show (-1074 + (pl x.k.natAbs : Int) + 1074).toNat = pl x.k.natAbs from by omega, ← nvZ_sign] at s1
  rw [show (-1074 + (pl y.k.natAbs : Int) + 1074).toNat = pl y.k.natAbs from by omega, ← nvZ_sign] at s2
  generalize signed (decide (x.k < 0)) (man x.k.natAbs) (-1074 + (pl x.k.natAbs : Int) - base).toNat = u at *
  generalize signed (decide (y.k < 0)) (man y.k.natAbs) (-1074 + (pl y.k.natAbs : Int) - base).toNat = v at *
  have hp := Nat.two_pow_pos (base + 1074).toNat
  have hz : x.z - y.z = (u + -v) * ((2 ^ (base + 1074).toNat : Nat) : Int) := by
    unfold F.z; rw [Int.add_mul, Int.neg_mul, s1, s2]; omega
  have hpos : (0 : Int) < ((2 ^ (base + 1074).toNat : Nat) : Int) := by omega
  have t1 : x.z - y.z = 0 ↔ u + -v = 0 := by
    rw [hz]; constructor
    · intro h; rcases Int.mul_eq_zero.1 h with h | h
      · exact h
      · omega
    · intro h; rw [h, Int.zero_mul]
  have t2 : x.z - y.z < 0 ↔ u + -v < 0 := by
    rw [hz]
    have := Int.mul_lt_mul_right (b := u + -v) (c := 0) hpos
    rw [Int.zero_mul] at this
    exact this
  by_cases h0 : u + -v = 0
  · rw [if_pos (t1.2 h0)]
    have hx0 : (decide (x.k < 0) && !decide (y.k < 0)) = false := by
      rw [Bool.and_eq_false_iff]
      have a1 := z_sign x
      have a2 := z_sign y
      have := t1.2 h0
      simp only [decide_eq_false_iff_not, Bool.not_eq_false', decide_eq_true_eq]
      omega
    rw [h0]
    simp [hx0, Format.nearest, Format.word]
  · rw [if_neg (fun h => h0 (t1.1 h)), if_neg h0, nearest_eq _ _ _ (by omega)]
    simp only [t2]
    have e : near ((u + -v).natAbs * 2 ^ (base + 1074).toNat) (2 ^ (-(base + 1074)).toNat) = near (x.z - y.z).natAbs 1 := by
      refine near_ratio (Nat.two_pow_pos _) (by omega) ?_
      rw [hz, Int.natAbs_mul, Int.natAbs_natCast, show (-(base + 1074)).toNat = 0 from by omega]
    rw [e]

/-- what does not pass a number on the ladder is not rounded past it -/
theorem near_le {n d r : Nat} (hd : 0 < d) (h : n ≤ nv r * d) : near n d ≤ r := by
  have h1 : n / d ≤ nv r := by
    have := Nat.div_le_div_right (c := d) h
    rwa [Nat.mul_div_cancel _ hd] at this
  have h2 : fl (n / d) ≤ r := by have := fl_mono h1; rwa [fl_nv] at this
  by_cases c : fl (n / d) = r
  · have h3 : nv r ≤ n / d := by rw [← c]; exact nv_fl_le _
    have h4 : n = nv r * d := by
      have := Nat.le_div_iff_mul_le hd |>.1 h3
      omega
    rw [near_exact hd h4]; exact Nat.le_refl _
  · unfold near
    simp only
    split
    · omega
    · split
      · omega
      · split <;> omega
theorem le_near {n d r : Nat} (hd : 0 < d) (h : nv r * d ≤ n) : r ≤ near n d := by
  have h1 : nv r ≤ n / d := (Nat.le_div_iff_mul_le hd).2 h
  have h2 : r ≤ fl (n / d) := by have := fl_mono h1; rwa [fl_nv] at this
  unfold near
  simp only
  split
  · exact h2
  · split
    · omega
    · split <;> omega
end Bu
namespace Bu
set_option linter.all false
open Ieee

theorem quot_le {m n A B more : Nat} (hn : n ≠ 0) (h : m * 2 ^ A ≤ n * 2 ^ B) (hA : A ≤ B + more) : (2 * (m * 2 ^ more / n) + (m * 2 ^ more % n != 0).toNat) ≤ 2 ^ (1 + more + B - A) := by
  obtain ⟨c, hc⟩ : ∃ c, B + more = A + c := ⟨B + more - A, by omega⟩
  have e1 : 1 + more + B - A = c + 1 := by omega
  rw [e1, Nat.pow_succ]
  have hp := Nat.two_pow_pos A
  have h1 : m * 2 ^ more ≤ n * 2 ^ c := by
    have h2 : m * 2 ^ A * 2 ^ more ≤ n * 2 ^ B * 2 ^ more := Nat.mul_le_mul_right _ h
    have e2 : n * 2 ^ B * 2 ^ more = n * 2 ^ c * 2 ^ A := by rw [Nat.mul_assoc, Nat.mul_assoc, ← Nat.pow_add, ← Nat.pow_add, hc, Nat.add_comm]
    have e3 : m * 2 ^ A * 2 ^ more = m * 2 ^ more * 2 ^ A := by rw [Nat.mul_right_comm]
    rw [e2, e3] at h2
    exact Nat.le_of_mul_le_mul_right h2 hp
  have hd := Nat.div_add_mod (m * 2 ^ more) n
  have hr := Nat.mod_lt (m * 2 ^ more) (Nat.pos_of_ne_zero hn)
  generalize m * 2 ^ more / n = Q at *
  generalize m * 2 ^ more % n = R at *
  generalize 2 ^ c = C at *
  have hQ : Q ≤ C := by
    apply Nat.le_of_not_lt
    intro g
    have := Nat.mul_le_mul_left n (show C + 1 ≤ Q from g)
    rw [Nat.mul_add] at this
    omega
  by_cases hR : R = 0
  · subst hR; simp; omega
  · have hs : (R != 0).toNat = 1 := by simp [hR]
    rw [hs]
    have : Q ≠ C := by
      intro e; subst e; omega
    omega
theorem div_le1 {x y : F} (hx : 0 < x.k) (hy : 0 < y.k) (h : x.z ≤ y.z) {r : Nat} (hr : nv r = S) (hT : r < T) : ∃ t : F, double.div x.b y.b = some t.b ∧ 0 ≤ t.k ∧ t.k ≤ r := by
  have m1 : man x.k.natAbs ≠ 0 := fun h => by have := man_zero _ h; omega
  have m2 : man y.k.natAbs ≠ 0 := fun h => by have := man_zero _ h; omega
  have hz : man x.k.natAbs * 2 ^ pl x.k.natAbs ≤ man y.k.natAbs * 2 ^ pl y.k.natAbs := by
    have a := z_natAbs x
    have b := z_natAbs y
    have s1 := (z_sign x); have s2 := (z_sign y)
    omega
  unfold Format.div
  rw [read_F, read_F]
  simp only [Datum.quotient, if_neg m2, Option.map_some, Format.write]
  rw [decide_eq_false (show ¬ x.k < 0 by omega), decide_eq_false (show ¬ y.k < 0 by omega)]
  generalize hmm : man x.k.natAbs = m at *
  generalize hnn : man y.k.natAbs = n at *
  generalize pl x.k.natAbs = A at *
  generalize pl y.k.natAbs = B at *
  obtain ⟨more, hmo⟩ : ∃ more, double.fractionBits + 2 + n.log2 - m.log2 = more := ⟨_, rfl⟩
  rw [hmo, Nat.shiftLeft_eq]
  have hfb : double.fractionBits = 52 := rfl
  rw [hfb] at hmo
  have l1 := Nat.log2_self_le m1
  have l2 : n < 2 ^ (n.log2 + 1) := Nat.lt_log2_self
  have hAB : A + m.log2 < n.log2 + 1 + B := by
    have h1 : 2 ^ (A + m.log2) ≤ m * 2 ^ A := by rw [Nat.pow_add, Nat.mul_comm]; exact Nat.mul_le_mul_right _ l1
    have h2 : n * 2 ^ B < 2 ^ (n.log2 + 1 + B) := by rw [Nat.pow_add]; exact Nat.mul_lt_mul_of_pos_right l2 (Nat.two_pow_pos B)
    exact (Nat.pow_lt_pow_iff_right (by omega)).1 (Nat.lt_of_le_of_lt h1 (Nat.lt_of_le_of_lt hz h2))
  have hA : A ≤ B + more := by omega
  have hq := quot_le m2 hz hA
  have hne : 2 * (m * 2 ^ more / n) + (m * 2 ^ more % n != 0).toNat ≠ 0 := by
    intro h0
    have hd := Nat.div_add_mod (m * 2 ^ more) n
    have h1 : m * 2 ^ more / n = 0 := by omega
    have h2 : (m * 2 ^ more % n != 0).toNat = 0 := by omega
    have h3 : m * 2 ^ more % n = 0 := by
      by_cases c : m * 2 ^ more % n = 0
      · exact c
      · simp [c] at h2
    rw [h1, h3] at hd
    have := Nat.mul_pos (Nat.pos_of_ne_zero m1) (Nat.two_pow_pos more)
    omega
  rw [nearest_eq _ _ _ hne]
  generalize 2 * (m * 2 ^ more / n) + (m * 2 ^ more % n != 0).toNat = mag at *
  have hn : near (mag * 2 ^ (-1074 + (A : Int) - (-1074 + (B : Int)) - (more : Int) - 1 + 1074).toNat) (2 ^ (-(-1074 + (A : Int) - (-1074 + (B : Int)) - (more : Int) - 1 + 1074)).toNat) ≤ r := by
    refine near_le (Nat.two_pow_pos _) ?_
    obtain ⟨sx, hs1, hs2⟩ := S_pow
    rw [hr, hs2, ← Nat.pow_add]
    refine Nat.le_trans (Nat.mul_le_mul_right _ hq) ?_
    rw [← Nat.pow_add]
    exact Nat.pow_le_pow_right (by omega) (by omega)
  rw [Nat.min_eq_left (by omega), word_F _ _ (by omega) (by simp)]
  refine ⟨_, rfl, ?_⟩
  have e : (if (false ^^ false) = true then -((near (mag * 2 ^ (-1074 + (A : Int) - (-1074 + (B : Int)) - (more : Int) - 1 + 1074).toNat) (2 ^ (-(-1074 + (A : Int) - (-1074 + (B : Int)) - (more : Int) - 1 + 1074)).toNat) : Nat) : Int) else ((near (mag * 2 ^ (-1074 + (A : Int) - (-1074 + (B : Int)) - (more : Int) - 1 + 1074).toNat) (2 ^ (-(-1074 + (A : Int) - (-1074 + (B : Int)) - (more : Int) - 1 + 1074)).toNat) : Nat) : Int)) = ((near (mag * 2 ^ (-1074 + (A : Int) - (-1074 + (B : Int)) - (more : Int) - 1 + 1074).toNat) (2 ^ (-(-1074 + (A : Int) - (-1074 + (B : Int)) - (more : Int) - 1 + 1074)).toNat) : Nat) : Int) := if_neg (by decide)
  rw [e, F.of_k (by omega)]
  omega
end Bu
namespace Rx
set_option linter.all false
open Go

inductive SV where
  | b (c : Bool)
  | i (k : IntKind) (n : Int)
  | si (k : IntKind) (n : Int)
  | f (x : Nat)
  | fl (x : Bu.F)
  | p (n off : Nat)
  | sp (n off : Nat)
  | np
  | sl (n off len cap : Nat)
  | ssl (n off len cap : Nat)
  | osl (y : Bool) (n len : Nat)
  | fn (f : Fn) (first cap : List SV)
  | o (v : Value)
  | agg (l : List SV)
  | tup (l : List SV)
  deriving Inhabited

/-- names of blocks: where they lie; the capacity of a row that lies there -/
structure Nms where
  f : Nat → Option Nat
  c : Nat → Nat
instance : CoeFun Nms (fun _ => Nat → Option Nat) := ⟨Nms.f⟩
/-- a row of its own: so many of so many -/
def oslV (r len cap : Nat) : Option Value := if len ≤ cap then some (.slice (some ⟨r, 0, none⟩) len cap) else none
theorem oslV_some {r len cap : Nat} {v : Value} : oslV r len cap = some v ↔ len ≤ cap ∧ v = .slice (some ⟨r, 0, none⟩) len cap := by
  unfold oslV
  by_cases h : len ≤ cap
  · rw [if_pos h]; simp [h, eq_comm]
  · rw [if_neg h]; simp [h]
/-- no names -/
def Nms.no : Nms := ⟨fun _ => none, fun _ => 0⟩

mutual
def den (m : Nms) : SV → Option Value
  | .b c => some (.bool c)
  | .i k n => some (.int k n)
  | .si k n => some (.int k n)
  | .f x => some (.float .f64 x)
  | .fl x => some (.float .f64 x.b)
  | .p n off => (m n).map fun r => .pointer (some ⟨r, off, none⟩)
  | .sp n off => (m n).map fun r => .pointer (some ⟨r, off, none⟩)
  | .np => some (.pointer none)
  | .sl n off len cap => (m n).map fun r => .slice (some ⟨r, off, none⟩) len cap
  | .ssl n off len cap => (m n).map fun r => .slice (some ⟨r, off, none⟩) len cap
  | .osl _ n len => (m n).bind fun r => oslV r len (m.c r)
  | .fn f first cap => (dens m first).bind fun x => (dens m cap).map fun y => .func f x.toArray y.toArray
  | .o v => some v
  | .agg l => (dens m l).map fun x => .agg x.toArray
  | .tup l => (dens m l).map fun x => .tuple x.toArray
def dens (m : Nms) : List SV → Option (List Value)
  | [] => some []
  | x :: l => (den m x).bind fun v => (dens m l).map fun vs => v :: vs
end

variable {m m' : Nms}

theorem dens_nil : dens m [] = some [] := by simp [dens]
theorem dens_cons_some {x : SV} {l : List SV} {vs : List Value} : dens m (x :: l) = some vs ↔ ∃ v us, den m x = some v ∧ dens m l = some us ∧ vs = v :: us := by
  simp only [dens, Option.bind_eq_some_iff, Option.map_eq_some_iff]
  constructor
  · rintro ⟨v, h1, us, h2, rfl⟩; exact ⟨v, us, h1, h2, rfl⟩
  · rintro ⟨v, us, h1, h2, rfl⟩; exact ⟨v, h1, us, h2, rfl⟩
theorem dens_cons {x : SV} {l : List SV} {v : Value} {us : List Value} (h1 : den m x = some v) (h2 : dens m l = some us) : dens m (x :: l) = some (v :: us) :=
  dens_cons_some.2 ⟨v, us, h1, h2, rfl⟩

theorem dens_length : ∀ {l : List SV} {vs : List Value}, dens m l = some vs → vs.length = l.length
  | [], vs, h => by simp [dens] at h; simp [h]
  | x :: l, vs, h => by
    obtain ⟨v, us, _, h2, rfl⟩ := dens_cons_some.1 h
    simp [dens_length h2]

theorem dens_get : ∀ {l : List SV} {vs : List Value}, dens m l = some vs → ∀ {j : Nat} {x : SV}, l[j]? = some x → ∃ v, vs[j]? = some v ∧ den m x = some v
  | [], vs, h, j, x, hx => by simp at hx
  | y :: l, vs, h, j, x, hx => by
    obtain ⟨v, us, h1, h2, rfl⟩ := dens_cons_some.1 h
    cases j with
    | zero => simp at hx; subst hx; exact ⟨v, by simp, h1⟩
    | succ j => simp at hx; obtain ⟨u, hu, hd⟩ := dens_get h2 hx; exact ⟨u, by simpa using hu, hd⟩

theorem dens_of_get : ∀ {l : List SV} {vs : List Value}, vs.length = l.length → (∀ (j : Nat) (x : SV), l[j]? = some x → ∃ v, vs[j]? = some v ∧ den m x = some v) → dens m l = some vs
  | [], vs, hl, _ => by simp at hl; simp [hl, dens]
  | y :: l, vs, hl, h => by
    cases vs with
    | nil => simp at hl
    | cons v us =>
      have h0 := h 0 y (by simp)
      simp at h0
      refine dens_cons h0 (dens_of_get (by simpa using hl) fun j x hx => ?_)
      have := h (j + 1) x (by simpa using hx)
      simpa using this

theorem dens_append {l r : List SV} {vs us : List Value} (h1 : dens m l = some vs) (h2 : dens m r = some us) : dens m (l ++ r) = some (vs ++ us) := by
  induction l generalizing vs with
  | nil => simp [dens] at h1; subst h1; simpa using h2
  | cons x l ih =>
    obtain ⟨v, ws, a, b, rfl⟩ := dens_cons_some.1 h1
    exact dens_cons a (ih b)
theorem dens_set {l : List SV} {vs : List Value} (h : dens m l = some vs) {x : SV} {v : Value} (hx : den m x = some v) (j : Nat) : dens m (l.set j x) = some (vs.set j v) := by
  refine dens_of_get (by simp [dens_length h]) fun i y hy => ?_
  by_cases hij : j = i
  · subst hij
    have hlt : j < l.length := by
      rcases Nat.lt_or_ge j l.length with h' | h'
      · exact h'
      · simp [List.getElem?_eq_none (by simpa using h' : (l.set j x).length ≤ j)] at hy
    rw [List.getElem?_set_self hlt] at hy
    cases hy
    exact ⟨v, by rw [List.getElem?_set_self (by rw [dens_length h]; exact hlt)], hx⟩
  · rw [List.getElem?_set_ne hij] at hy ⊢
    exact dens_get h hy

theorem dens_take {l : List SV} {vs : List Value} (h : dens m l = some vs) (j : Nat) : dens m (l.take j) = some (vs.take j) := by
  induction l generalizing vs j with
  | nil => simp [dens] at h; subst h; simp [dens]
  | cons x l ih =>
    obtain ⟨v, ws, a, b, rfl⟩ := dens_cons_some.1 h
    cases j with
    | zero => simp [dens]
    | succ j => exact dens_cons a (ih b j)
theorem dens_drop {l : List SV} {vs : List Value} (h : dens m l = some vs) (j : Nat) : dens m (l.drop j) = some (vs.drop j) := by
  induction l generalizing vs j with
  | nil => simp [dens] at h; subst h; simp [dens]
  | cons x l ih =>
    obtain ⟨v, ws, a, b, rfl⟩ := dens_cons_some.1 h
    cases j with
    | zero => exact dens_cons a b
    | succ j => exact ih b j
theorem dens_replicate {x : SV} {v : Value} (h : den m x = some v) (j : Nat) : dens m (List.replicate j x) = some (List.replicate j v) := by
  induction j with
  | zero => simp [dens]
  | succ j ih => exact dens_cons h ih

/-- more names -/
structure Ext (m m' : Nms) : Prop where
  n : ∀ n r, m n = some r → m' n = some r
  c : ∀ n r, m n = some r → m'.c r = m.c r
theorem Ext.refl (m : Nms) : Ext m m := ⟨fun _ _ h => h, fun _ _ _ => rfl⟩
theorem Ext.trans {a b c : Nms} (h : Ext a b) (k : Ext b c) : Ext a c := ⟨fun n r x => k.n n r (h.n n r x), fun n r x => (k.c n r (h.n n r x)).trans (h.c n r x)⟩

mutual
theorem den_ext (hm : Ext m m') : ∀ {x : SV} {v : Value}, den m x = some v → den m' x = some v
  | .b _, v, h => by simpa [den] using h
  | .i _ _, v, h => by simpa [den] using h
  | .si _ _, v, h => by simpa [den] using h
  | .f _, v, h => by simpa [den] using h
  | .fl _, v, h => by simpa [den] using h
  | .p n off, v, h => by
    simp only [den, Option.map_eq_some_iff] at h ⊢
    obtain ⟨r, hr, e⟩ := h; exact ⟨r, hm.n _ _ hr, e⟩
  | .sp n off, v, h => by
    simp only [den, Option.map_eq_some_iff] at h ⊢
    obtain ⟨r, hr, e⟩ := h; exact ⟨r, hm.n _ _ hr, e⟩
  | .np, v, h => by simpa [den] using h
  | .sl n off len cap, v, h => by
    simp only [den, Option.map_eq_some_iff] at h ⊢
    obtain ⟨r, hr, e⟩ := h; exact ⟨r, hm.n _ _ hr, e⟩
  | .ssl n off len cap, v, h => by
    simp only [den, Option.map_eq_some_iff] at h ⊢
    obtain ⟨r, hr, e⟩ := h; exact ⟨r, hm.n _ _ hr, e⟩
  | .osl y n len, v, h => by
    simp only [den, Option.bind_eq_some_iff] at h ⊢
    obtain ⟨r, hr, e⟩ := h; exact ⟨r, hm.n _ _ hr, by rw [hm.c _ _ hr]; exact e⟩
  | .fn f first cap, v, h => by
    simp only [den, Option.bind_eq_some_iff, Option.map_eq_some_iff] at h ⊢
    obtain ⟨x, hx, y, hy, e⟩ := h
    exact ⟨x, dens_ext hm hx, y, dens_ext hm hy, e⟩
  | .o _, v, h => by simpa [den] using h
  | .agg l, v, h => by
    simp only [den, Option.map_eq_some_iff] at h ⊢
    obtain ⟨x, hx, e⟩ := h; exact ⟨x, dens_ext hm hx, e⟩
  | .tup l, v, h => by
    simp only [den, Option.map_eq_some_iff] at h ⊢
    obtain ⟨x, hx, e⟩ := h; exact ⟨x, dens_ext hm hx, e⟩
theorem dens_ext (hm : Ext m m') : ∀ {l : List SV} {vs : List Value}, dens m l = some vs → dens m' l = some vs
  | [], vs, h => by simpa [dens] using h
  | x :: l, vs, h => by
    obtain ⟨v, us, a, b, rfl⟩ := dens_cons_some.1 h
    exact dens_cons (den_ext hm a) (dens_ext hm b)
end

/-- the number of a word (0, if it is none) -/
def toF (w : Nat) : Bu.F := if w < 9223372036854775808 then Bu.F.of (w : Int) else Bu.F.of (-((w - 9223372036854775808 : Nat) : Int))
theorem toF_b {w : Nat} (h : Bu.rightB w = true) : (toF w).b = w := by
  have e := Bu.T_num
  unfold Bu.rightB at h
  simp only [Bool.or_eq_true, Bool.and_eq_true, decide_eq_true_eq] at h
  unfold toF
  split
  · rename_i hlt
    rw [Bu.F.b, Bu.F.of_k (by omega), if_pos (by omega)]; omega
  · rename_i hlt
    rw [Bu.F.b, Bu.F.of_k (by omega), if_neg (by omega)]; omega
theorem toF_F (x : Bu.F) : toF x.b = x := Bu.F.b_inj (toF_b (Bu.right_F x))
/-- a word as a number, if it is one -/
def ofW (w : Nat) : SV := if Bu.rightB w = true then .fl (toF w) else .f w
theorem den_ofW (w : Nat) : den m (ofW w) = some (.float .f64 w) := by
  unfold ofW
  split
  · rename_i h; simp [den, toF_b h]
  · simp [den]

mutual
/-- a value without addresses, as it stands -/
def ofV : Value → SV
  | .bool c => .b c
  | .int k n => .i k n
  | .float k x => match k with | .f64 => ofW x | .f32 => .o (.float .f32 x)
  | .pointer none => .np
  | .agg cs => .agg (ofA cs)
  | .tuple cs => .tup (ofA cs)
  | v => .o v
def ofA : Array Value → List SV
  | ⟨l⟩ => ofVs l
def ofVs : List Value → List SV
  | [] => []
  | v :: l => ofV v :: ofVs l
end
mutual
theorem den_ofV : ∀ v : Value, den m (ofV v) = some v
  | .bool c => by simp [ofV, den]
  | .int k n => by simp [ofV, den]
  | .float k x => by cases k <;> simp [ofV, den, den_ofW]
  | .complex _ _ _ => by simp [ofV, den]
  | .string _ => by simp [ofV, den]
  | .pointer none => by simp [ofV, den]
  | .pointer (some a) => by simp [ofV, den]
  | .slice _ _ _ => by simp [ofV, den]
  | .map _ => by simp [ofV, den]
  | .chan _ => by simp [ofV, den]
  | .func _ _ _ => by simp [ofV, den]
  | .nilFunc => by simp [ofV, den]
  | .iface _ _ => by simp [ofV, den]
  | .nilIface => by simp [ofV, den]
  | .agg cs => by simp [ofV, den, dens_ofA cs]
  | .tuple cs => by simp [ofV, den, dens_ofA cs]
theorem dens_ofA : ∀ l : Array Value, dens m (ofA l) = some l.toList
  | ⟨l⟩ => by simp only [ofA]; exact dens_ofVs l
theorem dens_ofVs : ∀ l : List Value, dens m (ofVs l) = some l
  | [] => by simp [ofVs, dens]
  | v :: l => by rw [ofVs]; exact dens_cons (den_ofV v) (dens_ofVs l)
end

mutual
/-- what has no address in it, as a value -/
def plain : SV → Option Value
  | .b c => some (.bool c)
  | .i k n => some (.int k n)
  | .si k n => some (.int k n)
  | .f x => some (.float .f64 x)
  | .fl x => some (.float .f64 x.b)
  | .np => some (.pointer none)
  | .o v => some v
  | .agg l => (plains l).map fun x => .agg x.toArray
  | .tup l => (plains l).map fun x => .tuple x.toArray
  | _ => none
def plains : List SV → Option (List Value)
  | [] => some []
  | x :: l => (plain x).bind fun v => (plains l).map fun vs => v :: vs
end
mutual
theorem den_plain : ∀ {x : SV} {v : Value}, plain x = some v → den m x = some v
  | .b _, v, h => by simpa [den, plain] using h
  | .i _ _, v, h => by simpa [den, plain] using h
  | .si _ _, v, h => by simpa [den, plain] using h
  | .f _, v, h => by simpa [den, plain] using h
  | .fl _, v, h => by simpa [den, plain] using h
  | .p _ _, v, h => by simp [plain] at h
  | .sp _ _, v, h => by simp [plain] at h
  | .np, v, h => by simpa [den, plain] using h
  | .sl _ _ _ _, v, h => by simp [plain] at h
  | .ssl _ _ _ _, v, h => by simp [plain] at h
  | .osl _ _ _, v, h => by simp [plain] at h
  | .fn _ _ _, v, h => by simp [plain] at h
  | .o _, v, h => by simpa [den, plain] using h
  | .agg l, v, h => by
    simp only [plain, den, Option.map_eq_some_iff] at h ⊢
    obtain ⟨x, hx, e⟩ := h; exact ⟨x, dens_plains hx, e⟩
  | .tup l, v, h => by
    simp only [plain, den, Option.map_eq_some_iff] at h ⊢
    obtain ⟨x, hx, e⟩ := h; exact ⟨x, dens_plains hx, e⟩
theorem dens_plains : ∀ {l : List SV} {vs : List Value}, plains l = some vs → dens m l = some vs
  | [], vs, h => by simpa [dens, plains] using h
  | x :: l, vs, h => by
    simp only [plains, Option.bind_eq_some_iff, Option.map_eq_some_iff] at h
    obtain ⟨v, h1, us, h2, rfl⟩ := h
    exact dens_cons (den_plain h1) (dens_plains h2)
end
end Rx
namespace Rx
set_option linter.all false
open Go

def pureRun {α : Type} (P : Program) : Sem α → Option α
  | .pure a => some a
  | .program k => pureRun P (k P)
  | .mark _ k => pureRun P k
  | _ => none
theorem pureRun_run {α : Type} {P : Program} : ∀ {x : Sem α} {a : α}, pureRun P x = some a → ∀ w, x.run P w = .ok a w
  | .pure a, b, h, w => by simp only [pureRun, Option.some.injEq] at h; subst h; rfl
  | .program k, b, h, w => by simp only [pureRun] at h; simp only [Sem.run]; exact pureRun_run h w
  | .mark _ k, b, h, w => by simp only [pureRun] at h; simp only [Sem.run]; exact pureRun_run h w
  | .load _ _ _, b, h, w => by simp [pureRun] at h
  | .store _ _ _ _, b, h, w => by simp [pureRun] at h
  | .new _ _, b, h, w => by simp [pureRun] at h
  | .shape _ _, b, h, w => by simp [pureRun] at h
  | .freeze _ _ _, b, h, w => by simp [pureRun] at h
  | .frozen _ _, b, h, w => by simp [pureRun] at h
  | .getObj _ _, b, h, w => by simp [pureRun] at h
  | .setObj _ _ _, b, h, w => by simp [pureRun] at h
  | .choose _ _, b, h, w => by simp [pureRun] at h
  | .sys _ _, b, h, w => by simp [pureRun] at h
  | .halt _, b, h, w => by simp [pureRun] at h

/-- decisions that are still to be used up; none: all is reckoned -/
abbrev Dec := Option (List Bool)
/-- what was taken for what -/
abbrev Obs := List (Bool × Bool)
def ObsOk (ob : Obs) : Prop := ∀ p ∈ ob, p.1 = p.2
def obsB (ob : Obs) : Bool := ob.all fun p => p.1 == p.2
theorem ObsOk.of_B {ob : Obs} (h : obsB ob = true) : ObsOk ob := by
  intro p hp
  have := List.all_eq_true.1 h p hp
  simpa using this
theorem ObsOk.left {a b : Obs} (h : ObsOk (a ++ b)) : ObsOk a := fun p hp => h p (List.mem_append_left _ hp)
theorem ObsOk.right {a b : Obs} (h : ObsOk (a ++ b)) : ObsOk b := fun p hp => h p (List.mem_append_right _ hp)

def takeB (ds : Dec) (c : Bool) : Option (Bool × Dec × Obs) :=
  match ds with
  | none => some (c, none, [])
  | some [] => none
  | some (d :: r) => some (d, some r, [(c, d)])
theorem takeB_ok {ds ds' : Dec} {c d : Bool} {ob : Obs} (h : takeB ds c = some (d, ds', ob)) (ho : ObsOk ob) : d = c := by
  unfold takeB at h
  split at h
  · simp only [Option.some.injEq, Prod.mk.injEq] at h; exact h.1.symm
  · cases h
  · simp only [Option.some.injEq, Prod.mk.injEq] at h
    obtain ⟨h1, _, h3⟩ := h
    rw [← h3] at ho
    have := ho (c, _) (List.mem_singleton.2 rfl)
    rw [← h1]; exact this.symm

mutual
def taint : SV → Bool
  | .f _ => true
  | .fl _ => true
  | .si _ _ => true
  | .agg l => taints l
  | .tup l => taints l
  | _ => false
def taints : List SV → Bool
  | [] => false
  | x :: l => taint x || taints l
end

def tagV (t : Bool) (ds : Dec) (v : Value) : Option (SV × Dec × Obs) :=
  match t, v with
  | true, .bool c => (takeB ds c).map fun r => (.b r.1, r.2.1, r.2.2)
  | true, .int k n => some (.si k n, ds, [])
  | true, .float k x => match k with
    | .f64 => some (.f x, ds, [])
    | .f32 => some (.o (.float .f32 x), ds, [])
  | _, v => some (ofV v, ds, [])
theorem tagV_ok {t : Bool} {ds ds' : Dec} {v : Value} {x : SV} {ob : Obs} (h : tagV t ds v = some (x, ds', ob)) (ho : ObsOk ob) (m : Nms) : den m x = some v := by
  unfold tagV at h
  split at h
  · simp only [Option.map_eq_some_iff, Prod.mk.injEq] at h
    obtain ⟨⟨d, e, o⟩, h1, rfl, rfl, rfl⟩ := h
    rw [takeB_ok h1 ho]; simp [den]
  · simp only [Option.some.injEq, Prod.mk.injEq] at h; obtain ⟨rfl, _, _⟩ := h; simp [den]
  · split at h <;> (simp only [Option.some.injEq, Prod.mk.injEq] at h; obtain ⟨rfl, _, _⟩ := h; simp [den])
  · simp only [Option.some.injEq, Prod.mk.injEq] at h; obtain ⟨rfl, _, _⟩ := h; exact den_ofV _

def isAggT (P : Program) (t : TypeId) : Option Bool :=
  match P.underlying t with
  | some (.struct _) | some (.array _ _) => some true
  | some _ => some false
  | none => none
def sizeT (P : Program) (t : TypeId) : Option Nat := (P.info? t).map (·.size)

section
variable {P : Program} {w : World}
theorem run_underlying {t : TypeId} {d : TypeDesc} (h : P.underlying t = some d) : (underlying t).run P w = .ok d w := by
  simp [underlying, h]
theorem run_sizeOf {t : TypeId} {n : Nat} (h : sizeT P t = some n) : (Go.sizeOf t).run P w = .ok n w := by
  unfold sizeT at h
  simp only [Option.map_eq_some_iff] at h
  obtain ⟨i, hi, rfl⟩ := h
  simp [Go.sizeOf, typeInfo, hi]
theorem run_isAgg {t : TypeId} {b : Bool} (h : isAggT P t = some b) : (isAgg t).run P w = .ok b w := by
  unfold isAggT at h
  unfold isAgg underlying
  split at h
  · rename_i hd; simp only [Option.some.injEq] at h; subst h; simp [hd]
  · rename_i hd; simp only [Option.some.injEq] at h; subst h; simp [hd]
  · rename_i d h1 h2 hd
    simp only [Option.some.injEq] at h; subst h; simp only [Sem.run_bind, run_program, Result.andThen_ok, hd]
    cases d <;> first | rfl | exact absurd rfl (h1 _) | exact absurd rfl (h2 _ _)
  · cases h
end

/-- part of a row of cells -/
def partS (P : Program) (t : TypeId) (l : List SV) (off : Nat) : Option SV :=
  match isAggT P t with
  | some true => (sizeT P t).map fun s => .agg ((l.drop off).take s)
  | some false => l[off]?
  | none => none
theorem partS_ok {P : Program} {t : TypeId} {l : List SV} {off : Nat} {x : SV} (h : partS P t l off = some x) {m : Nms} {vs : List Value} (hl : dens m l = some vs) (w : World) :
    ∃ v, den m x = some v ∧ (part t vs.toArray off).run P w = .ok v w := by
  unfold partS at h
  split at h
  · rename_i ha
    simp only [Option.map_eq_some_iff] at h
    obtain ⟨s, hs, rfl⟩ := h
    refine ⟨.agg ((vs.drop off).take s).toArray, by simp [den, dens_take (dens_drop hl off) s], ?_⟩
    simp only [part, Sem.run_bind, run_isAgg ha, Result.andThen_ok, if_true, run_sizeOf hs, Sem.run_pure]
    simp
  · rename_i ha
    obtain ⟨v, hv, hd⟩ := dens_get hl h
    refine ⟨v, hd, ?_⟩
    simp [part, run_isAgg ha, hv]
  · cases h

def SV.cells : SV → List SV
  | .agg l => l
  | .o v => ofA v.cells
  | x => [x]
theorem cells_ok {m : Nms} {x : SV} {v : Value} (h : den m x = some v) : dens m x.cells = some v.cells.toList := by
  cases x with
  | agg l =>
    simp only [den, Option.map_eq_some_iff] at h
    obtain ⟨y, hy, rfl⟩ := h
    simpa [SV.cells, Value.cells] using hy
  | o u =>
    simp only [den, Option.some.injEq] at h; subst h
    exact dens_ofA _
  | _ =>
    refine (dens_cons h dens_nil).trans ?_
    simp only [den, Option.some.injEq, Option.map_eq_some_iff, Option.bind_eq_some_iff, oslV_some] at h
    first
      | (subst h; rfl)
      | (obtain ⟨_, _, _, rfl⟩ := h; rfl)
      | (obtain ⟨_, _, rfl⟩ := h; rfl)
      | (obtain ⟨_, _, _, _, rfl⟩ := h; rfl)

def putRow (cells : List SV) (off : Nat) : List SV → List SV
  | [] => cells
  | c :: r => putRow (cells.set off c) (off + 1) r
def putRowV (cells : List Value) (off : Nat) : List Value → List Value
  | [] => cells
  | c :: r => putRowV (cells.set off c) (off + 1) r
theorem putRow_ok {m : Nms} {l : List SV} : ∀ {cells : List SV} {off : Nat} {cv vs : List Value}, dens m cells = some cv → dens m l = some vs → dens m (putRow cells off l) = some (putRowV cv off vs) := by
  induction l with
  | nil => intro cells off cv vs h1 h2; simp [dens] at h2; subst h2; exact h1
  | cons x l ih =>
    intro cells off cv vs h1 h2
    obtain ⟨v, us, a, b, rfl⟩ := dens_cons_some.1 h2
    exact ih (dens_set h1 a off) b
theorem putRow_length (l : List SV) : ∀ (cells : List SV) (off : Nat), (putRow cells off l).length = cells.length := by
  induction l with
  | nil => intro _ _; rfl
  | cons x l ih => intro cells off; simp [putRow, ih]
theorem putRowV_fold (l : List Value) : ∀ (cells : Array Value) (off j : Nat),
    ((l.zipIdx j).foldl (fun cs (c, i) => cs.setIfInBounds (off + i) c) cells) = (putRowV cells.toList (off + j) l).toArray := by
  induction l with
  | nil => intro cells off j; simp [putRowV]
  | cons x l ih =>
    intro cells off j
    simp only [List.zipIdx_cons, List.foldl_cons, putRowV]
    rw [ih]
    simp [Nat.add_assoc]

def fillS (place : Nat → Option (Nat × Nat)) (cells : List SV) : List (Nat × SV) → Option (List SV)
  | [] => some cells
  | (i, x) :: rest =>
    match place i with
    | none => none
    | some (off, size) =>
      if x.cells.length = size ∧ off + x.cells.length ≤ cells.length then fillS place (putRow cells off x.cells) rest else none
theorem fillS_ok {m : Nms} {place : Nat → Option (Nat × Nat)} : ∀ {parts : List (Nat × SV)} {vparts : List (Nat × Value)} {cells out : List SV} {cv : List Value},
    vparts.map (·.1) = parts.map (·.1) → dens m (parts.map (·.2)) = some (vparts.map (·.2)) → fillS place cells parts = some out → dens m cells = some cv →
    ∃ ov, dens m out = some ov ∧ Instr.fill place cv.toArray vparts = some ov.toArray
  | [], vparts, cells, out, cv, h0, h1, h2, h3 => by
    cases vparts with
    | nil => simp [fillS] at h2; subst h2; exact ⟨cv, h3, rfl⟩
    | cons a l => simp at h0
  | (i, x) :: rest, vparts, cells, out, cv, h0, h1, h2, h3 => by
    cases vparts with
    | nil => simp at h0
    | cons a l =>
      obtain ⟨j, v⟩ := a
      simp only [List.map_cons, List.cons.injEq] at h0
      obtain ⟨rfl, h0⟩ := h0
      simp only [List.map_cons] at h1
      obtain ⟨v', us, hv, hl, he⟩ := dens_cons_some.1 h1
      simp only [List.cons.injEq] at he
      obtain ⟨rfl, rfl⟩ := he
      simp only [fillS] at h2
      split at h2
      · cases h2
      · rename_i off size hp
        split at h2
        · rename_i hc
          have hcv := cells_ok hv
          have hlen := dens_length hcv
          obtain ⟨ov, ho, hf⟩ := fillS_ok h0 hl h2 (putRow_ok (off := off) h3 hcv)
          refine ⟨ov, ho, ?_⟩
          have h3l := dens_length h3
          simp only [Array.length_toList] at hlen
          simp only [Instr.fill, hp]
          rw [if_neg (by simp; omega)]
          rw [← hf]
          congr 1
          rw [← Array.foldl_toList, Array.toList_zipIdx]
          have := putRowV_fold v.cells.toList cv.toArray off 0
          simpa using this
        · cases h2

/-- float arithmetic -/
def fop : BinOp → Option (Nat → Nat → Option Nat)
  | .add => some Ieee.double.add
  | .sub => some Ieee.double.sub
  | .mul => some Ieee.double.mul
  | .quo => some Ieee.double.div
  | _ => none
def f2i (k : IntKind) (x : Nat) : Option Int :=
  match (FloatKind.f64.decode x).toInt .zero with
  | some n => if k.min ≤ n ∧ n ≤ k.max then some n else none
  | none => none
def mmF (mx : Bool) (x y : Nat) : Option Nat :=
  match Ieee.double.order x y with
  | none => none
  | some .lt => some (if mx then y else x)
  | some .gt => some (if mx then x else y)
  | some .eq => some (if mx then (if (FloatKind.f64.decode x).neg then y else x) else (if (FloatKind.f64.decode x).neg then x else y))

/-- by the model's own text, where there are no addresses -/
def plainOp (P : Program) (ρ : Operand → SV) (ds : Dec) (o : Oper) : Option (SV × Dec × Obs) :=
  if o.op.operands.all fun x => (plain (ρ x)).isSome then
    match pureRun P (execOp (fun x => (plain (ρ x)).getD undef) o) with
    | some (.value v) => tagV (taints (o.op.operands.toList.map ρ)) ds v
    | _ => none
  else none
def notSelect (o : Oper) : Bool := match o.op with | .select _ _ => false | _ => true
theorem notSelect_ok {o : Oper} (h : notSelect o = true) : ∀ cs b, o.op ≠ .select cs b := by
  intro cs b e; simp [notSelect, e] at h

/-- what an operation of values alone leaves -/
structure PureOk (P : Program) (o : Oper) (m : Nms) (ρv : Operand → Value) (x : SV) : Prop where
  out : ∃ v, den m x = some v ∧ ∀ w, (execOp ρv o).run P w = .ok (.value v) w

theorem plainOp_ok {P : Program} {ρ : Operand → SV} {ds ds' : Dec} {o : Oper} {x : SV} {ob : Obs} (hs : notSelect o = true) (h : plainOp P ρ ds o = some (x, ds', ob)) (ho : ObsOk ob)
    {m : Nms} {ρv : Operand → Value} (hρ : ∀ y ∈ o.op.operands, den m (ρ y) = some (ρv y)) : PureOk P o m ρv x := by
  unfold plainOp at h
  split at h
  · rename_i hall
    have he : execOp ρv o = execOp (fun y => (plain (ρ y)).getD undef) o := by
      refine execOp_congr o (notSelect_ok hs) fun y hy => ?_
      have h1 := Array.all_eq_true_iff_forall_mem.1 hall y hy
      obtain ⟨v, hv⟩ := Option.isSome_iff_exists.1 h1
      have h2 := den_plain (m := m) hv
      rw [hρ y hy] at h2
      simp only [Option.some.injEq] at h2
      simp [hv, h2]
    split at h
    · rename_i v hv
      exact ⟨v, tagV_ok h ho m, fun w => by rw [he]; exact pureRun_run hv w⟩
    · cases h
  · cases h

end Rx
namespace Rx
set_option linter.all false
open Go

def fieldT (P : Program) (t : TypeId) (f : Nat) : Option Field :=
  match P.underlying t with
  | some (.struct fs) => fs[f]?
  | _ => none

def evFieldAddr (P : Program) (s : TypeId) (f : Nat) : SV → Option SV
  | .p n off =>
    match fieldT P s f with
    | some fd => match sizeT P fd.type with
      | some (_ + 1) => some (.p n (off + fd.offset))
      | _ => none
    | none => none
  | .sp n off =>
    match fieldT P s f with
    | some fd => match sizeT P fd.type with
      | some (_ + 1) => some (.sp n (off + fd.offset))
      | _ => none
    | none => none
  | _ => none
def evField (P : Program) (t : TypeId) (f : Nat) : SV → Option SV
  | .agg l => (fieldT P t f).bind fun fd => partS P fd.type l fd.offset
  | _ => none
def evIndexAddr (P : Program) (t : TypeId) (x ix : SV) : Option SV :=
  match ix with
  | .i _ i =>
    match P.underlying t with
    | some (.array len elem) => match x with
      | .p n off => if 0 ≤ i ∧ i < len then (sizeT P elem).map fun s => .p n (off + i.toNat * s) else none
      | _ => none
    | some (.slice elem) => match x with
      | .sl n off len _ => if 0 ≤ i ∧ i < len then (sizeT P elem).map fun s => .p n (off + i.toNat * s) else none
      | _ => none
    | _ => none
  | _ => none
def evIndex (P : Program) (t : TypeId) (x ix : SV) : Option SV :=
  match ix with
  | .i _ i =>
    match P.underlying t with
    | some (.array len elem) => match x with
      | .agg l => if 0 ≤ i ∧ i < len then (sizeT P elem).bind fun s => partS P elem l (i.toNat * s) else none
      | _ => none
    | _ => none
  | _ => none
def evBuild (P : Program) (t : TypeId) (parts : List (Nat × SV)) : Option SV :=
  match P.info? t with
  | some ti => match ti.zero with
    | some z => match P.underlying t with
      | some (.struct fs) => match fs.toList.mapM fun f => (sizeT P f.type).map fun s => (f.offset, s) with
        | some places => (fillS (fun i => places[i]?) (ofA z.cells) parts).map .agg
        | none => none
      | some (.array _ elem) => match sizeT P elem with
        | some s => (fillS (fun i => some (i * s, s)) (ofA z.cells) parts).map .agg
        | none => none
      | _ => none
    | none => none
  | none => none

section
variable {P : Program} {m : Nms} {w : World}

theorem Addr_add (r off k : Nat) : (⟨r, off, none⟩ : Addr).add k = ⟨r, off + k, none⟩ := by
  unfold Addr.add
  by_cases h : k = 0
  · simp [h]
  · simp [h]

theorem run_sureAddr (a : Addr) : (Instr.sureAddr (.pointer (some a))).run P w = .ok a w := rfl

theorem evFieldAddr_ok {s : TypeId} {f : Nat} {x y : SV} {v : Value} (h : evFieldAddr P s f x = some y) (hx : den m x = some v) :
    ∃ u, den m y = some u ∧ (Instr.fieldAt s v f).run P w = .ok u w := by
  unfold evFieldAddr at h
  split at h
  all_goals first
    | cases h; done
    | skip
  all_goals
    rename_i n off
    split at h
    · rename_i fd hf
      split at h
      · rename_i k hk
        simp only [Option.some.injEq] at h; subst h
        simp only [den, Option.map_eq_some_iff] at hx
        obtain ⟨r, hr, rfl⟩ := hx
        refine ⟨.pointer (some ⟨r, off + fd.offset, none⟩), by simp only [den, hr, Option.map_some], ?_⟩
        unfold fieldT at hf
        split at hf
        · rename_i fs hu
          simp [Instr.fieldAt, run_underlying hu, hf, run_sureAddr, fieldPlace, run_sizeOf hk, Addr_add]
        · cases hf
      · cases h
    · cases h

theorem evField_ok {t : TypeId} {f : Nat} {x y : SV} {v : Value} (h : evField P t f x = some y) (hx : den m x = some v) :
    ∃ u, den m y = some u ∧ (Instr.field t v f).run P w = .ok u w := by
  unfold evField at h
  split at h
  · rename_i l
    simp only [Option.bind_eq_some_iff] at h
    obtain ⟨fd, hf, hp⟩ := h
    simp only [den, Option.map_eq_some_iff] at hx
    obtain ⟨vs, hvs, rfl⟩ := hx
    obtain ⟨u, hu, hr⟩ := partS_ok hp hvs w
    refine ⟨u, hu, ?_⟩
    unfold fieldT at hf
    split at hf
    · rename_i fs hd
      simp [Instr.field, run_underlying hd, hf, asAgg, hr]
    · cases hf
  · cases h

theorem evIndexAddr_ok {t : TypeId} {x ix y : SV} {v vi : Value} (h : evIndexAddr P t x ix = some y) (hx : den m x = some v) (hi : den m ix = some vi) :
    ∃ u, den m y = some u ∧ (Instr.indexAt t v vi).run P w = .ok u w := by
  unfold evIndexAddr at h
  split at h
  · rename_i k i
    simp only [den, Option.some.injEq] at hi; subst hi
    split at h
    · rename_i len elem hd
      split at h
      · rename_i n off
        split at h
        · rename_i hc
          simp only [Option.map_eq_some_iff] at h
          obtain ⟨s, hs, rfl⟩ := h
          simp only [den, Option.map_eq_some_iff] at hx
          obtain ⟨r, hr, rfl⟩ := hx
          refine ⟨.pointer (some ⟨r, off + i.toNat * s, none⟩), by simp [den, hr], ?_⟩
          simp [Instr.indexAt, asIntOf, run_underlying hd, run_sureAddr, hc, run_sizeOf hs, Addr_add]
        · cases h
      · cases h
    · rename_i elem hd
      split at h
      · rename_i n off len cap
        split at h
        · rename_i hc
          simp only [Option.map_eq_some_iff] at h
          obtain ⟨s, hs, rfl⟩ := h
          simp only [den, Option.map_eq_some_iff] at hx
          obtain ⟨r, hr, rfl⟩ := hx
          refine ⟨.pointer (some ⟨r, off + i.toNat * s, none⟩), by simp [den, hr], ?_⟩
          simp [Instr.indexAt, asIntOf, run_underlying hd, hc, run_sizeOf hs, Addr_add]
        · cases h
      · cases h
    · cases h
  · cases h

/-- a place that is not known beforehand -/
def ixS : SV → Option Int
  | .i _ i => some i
  | .si _ i => some i
  | _ => none
theorem ixS_ok {x : SV} {i : Int} {v : Value} (h : ixS x = some i) (hx : den m x = some v) : ∃ k, v = .int k i := by
  unfold ixS at h
  split at h <;> first | cases h; done | skip
  all_goals
    simp only [Option.some.injEq] at h; subst h
    simp only [den, Option.some.injEq] at hx
    exact ⟨_, hx.symm⟩
def ixB (i : Int) (len : Nat) : Bool := decide (0 ≤ i) && decide (i < len)
theorem ixB_ok {i : Int} {len : Nat} (h : ixB i len = true) : 0 ≤ i ∧ i < len := by
  unfold ixB at h; simpa using h
/-- the address of an element: slices, places that are not written out -/
def evIndexAddrS (P : Program) (t : TypeId) (x ix : SV) : Option (SV × Obs) :=
  match P.underlying t with
  | some (.slice elem) => match sizeT P elem with
    | some s => match x with
      | .osl false n len => match ix with
        | .i _ i => if 0 ≤ i ∧ i < len then some (.p n (i.toNat * s), []) else none
        | .si _ i => some (.sp n (i.toNat * s), [(ixB i len, true)])
        | _ => none
      | .osl true n len => match ixS ix with
        | some i => some (.sp n (i.toNat * s), [(ixB i len, true)])
        | none => none
      | .ssl n off len _ => match ixS ix with
        | some i => some (.sp n (off + i.toNat * s), [(ixB i len, true)])
        | none => none
      | .sl n off len _ => match ix with
        | .si _ i => some (.sp n (off + i.toNat * s), [(ixB i len, true)])
        | _ => none
      | _ => none
    | none => none
  | some (.array len elem) => match sizeT P elem with
    | some s => match x with
      | .p n off => match ix with
        | .si _ i => some (.sp n (off + i.toNat * s), [(ixB i len, true)])
        | _ => none
      | .sp n off => match ixS ix with
        | some i => some (.sp n (off + i.toNat * s), [(ixB i len, true)])
        | none => none
      | _ => none
    | none => none
  | _ => none
theorem indexAt_slice {t elem : TypeId} {s r off len cap : Nat} {k : IntKind} {i : Int} (hd : P.underlying t = some (.slice elem)) (hs : sizeT P elem = some s) (hc : 0 ≤ i ∧ i < len) :
    (Instr.indexAt t (.slice (some ⟨r, off, none⟩) len cap) (.int k i)).run P w = .ok (.pointer (some ⟨r, off + i.toNat * s, none⟩)) w := by
  simp [Instr.indexAt, asIntOf, run_underlying hd, hc, run_sizeOf hs, Addr_add]
theorem indexAt_array {t elem : TypeId} {s r off len : Nat} {k : IntKind} {i : Int} (hd : P.underlying t = some (.array len elem)) (hs : sizeT P elem = some s) (hc : 0 ≤ i ∧ i < len) :
    (Instr.indexAt t (.pointer (some ⟨r, off, none⟩)) (.int k i)).run P w = .ok (.pointer (some ⟨r, off + i.toNat * s, none⟩)) w := by
  simp [Instr.indexAt, asIntOf, run_underlying hd, run_sureAddr, hc, run_sizeOf hs, Addr_add]
theorem evIndexAddrS_ok {t : TypeId} {x ix y : SV} {ob : Obs} {v vi : Value} (h : evIndexAddrS P t x ix = some (y, ob)) (ho : ObsOk ob) (hx : den m x = some v) (hi : den m ix = some vi) :
    ∃ u, den m y = some u ∧ ∀ w, (Instr.indexAt t v vi).run P w = .ok u w := by
  have one : ∀ {c : Bool}, ObsOk [(c, true)] → c = true := fun h => h _ (List.mem_singleton.2 rfl)
  unfold evIndexAddrS at h
  split at h
  · rename_i elem hd
    split at h
    · rename_i s hs
      split at h
      · rename_i n len
        simp only [den, Option.bind_eq_some_iff] at hx
        obtain ⟨r, hr, hx⟩ := hx
        obtain ⟨_, rfl⟩ := oslV_some.1 hx
        split at h
        · rename_i ki i
          split at h
          · rename_i hc
            simp only [Option.some.injEq, Prod.mk.injEq] at h; obtain ⟨rfl, rfl⟩ := h
            simp only [den, Option.some.injEq] at hi; subst hi
            exact ⟨.pointer (some ⟨r, i.toNat * s, none⟩), by simp only [den, hr, Option.map_some], fun w => (indexAt_slice (off := 0) hd hs hc).trans (by rw [Nat.zero_add])⟩
          · cases h
        · rename_i ki i
          simp only [Option.some.injEq, Prod.mk.injEq] at h; obtain ⟨rfl, rfl⟩ := h
          simp only [den, Option.some.injEq] at hi; subst hi
          have hc := ixB_ok (one ho)
          exact ⟨.pointer (some ⟨r, i.toNat * s, none⟩), by simp only [den, hr, Option.map_some], fun w => (indexAt_slice (off := 0) hd hs hc).trans (by rw [Nat.zero_add])⟩
        · cases h
      · rename_i n len
        simp only [den, Option.bind_eq_some_iff] at hx
        obtain ⟨r, hr, hx⟩ := hx
        obtain ⟨_, rfl⟩ := oslV_some.1 hx
        split at h
        · rename_i i hix
          simp only [Option.some.injEq, Prod.mk.injEq] at h; obtain ⟨rfl, rfl⟩ := h
          obtain ⟨k, rfl⟩ := ixS_ok hix hi
          have hc := ixB_ok (one ho)
          exact ⟨.pointer (some ⟨r, i.toNat * s, none⟩), by simp only [den, hr, Option.map_some], fun w => (indexAt_slice (off := 0) hd hs hc).trans (by rw [Nat.zero_add])⟩
        · cases h
      · rename_i n off len cap
        simp only [den, Option.map_eq_some_iff] at hx
        obtain ⟨r, hr, rfl⟩ := hx
        split at h
        · rename_i i hix
          simp only [Option.some.injEq, Prod.mk.injEq] at h; obtain ⟨rfl, rfl⟩ := h
          obtain ⟨k, rfl⟩ := ixS_ok hix hi
          have hc := ixB_ok (one ho)
          exact ⟨.pointer (some ⟨r, off + i.toNat * s, none⟩), by simp only [den, hr, Option.map_some], fun w => indexAt_slice hd hs hc⟩
        · cases h
      · rename_i n off len cap
        simp only [den, Option.map_eq_some_iff] at hx
        obtain ⟨r, hr, rfl⟩ := hx
        split at h
        · rename_i ki i
          simp only [Option.some.injEq, Prod.mk.injEq] at h; obtain ⟨rfl, rfl⟩ := h
          simp only [den, Option.some.injEq] at hi; subst hi
          have hc := ixB_ok (one ho)
          exact ⟨.pointer (some ⟨r, off + i.toNat * s, none⟩), by simp only [den, hr, Option.map_some], fun w => indexAt_slice hd hs hc⟩
        · cases h
      · cases h
    · cases h
  · rename_i len elem hd
    split at h
    · rename_i s hs
      split at h
      · rename_i n off
        simp only [den, Option.map_eq_some_iff] at hx
        obtain ⟨r, hr, rfl⟩ := hx
        split at h
        · rename_i ki i
          simp only [Option.some.injEq, Prod.mk.injEq] at h; obtain ⟨rfl, rfl⟩ := h
          simp only [den, Option.some.injEq] at hi; subst hi
          have hc := ixB_ok (one ho)
          exact ⟨.pointer (some ⟨r, off + i.toNat * s, none⟩), by simp only [den, hr, Option.map_some], fun w => indexAt_array hd hs hc⟩
        · cases h
      · rename_i n off
        simp only [den, Option.map_eq_some_iff] at hx
        obtain ⟨r, hr, rfl⟩ := hx
        split at h
        · rename_i i hix
          simp only [Option.some.injEq, Prod.mk.injEq] at h; obtain ⟨rfl, rfl⟩ := h
          obtain ⟨k, rfl⟩ := ixS_ok hix hi
          have hc := ixB_ok (one ho)
          exact ⟨.pointer (some ⟨r, off + i.toNat * s, none⟩), by simp only [den, hr, Option.map_some], fun w => indexAt_array hd hs hc⟩
        · cases h
      · cases h
    · cases h
  · cases h

theorem evIndex_ok {t : TypeId} {x ix y : SV} {v vi : Value} (h : evIndex P t x ix = some y) (hx : den m x = some v) (hi : den m ix = some vi) :
    ∃ u, den m y = some u ∧ (Instr.index t v vi).run P w = .ok u w := by
  unfold evIndex at h
  split at h
  · rename_i k i
    simp only [den, Option.some.injEq] at hi; subst hi
    split at h
    · rename_i len elem hd
      split at h
      · rename_i l
        split at h
        · rename_i hc
          simp only [Option.bind_eq_some_iff] at h
          obtain ⟨s, hs, hp⟩ := h
          simp only [den, Option.map_eq_some_iff] at hx
          obtain ⟨vs, hvs, rfl⟩ := hx
          obtain ⟨u, hu, hr⟩ := partS_ok hp hvs w
          refine ⟨u, hu, ?_⟩
          simp [Instr.index, asIntOf, run_underlying hd, hc, run_sizeOf hs, hr]
        · cases h
      · cases h
    · cases h
  · cases h

theorem run_mapM_sizes (fs : List Field) : ∀ places, (fs.mapM fun f => (sizeT P f.type).map fun s => (f.offset, s)) = some places →
    (fs.mapM fun f => (do pure (f.offset, ← Go.sizeOf f.type) : Sem (Nat × Nat))).run P w = .ok places w := by
  induction fs with
  | nil => intro places h; simp at h; subst h; simp
  | cons f fs ih =>
    intro places h
    simp only [List.mapM_cons, Option.bind_eq_bind, Option.bind_eq_some_iff, Option.map_eq_some_iff] at h
    obtain ⟨a, ⟨s, hs, rfl⟩, bs, hb, he⟩ := h
    simp only [pure, Option.some.injEq] at he; subst he
    simp only [List.mapM_cons, Sem.run_bind, run_sizeOf hs, Result.andThen_ok, Sem.run_pure]
    rw [ih bs hb]
    simp

theorem evBuild_ok {t : TypeId} {parts : List (Nat × SV)} {vparts : List (Nat × Value)} {y : SV} (h : evBuild P t parts = some y)
    (h0 : vparts.map (·.1) = parts.map (·.1)) (h1 : dens m (parts.map (·.2)) = some (vparts.map (·.2))) :
    ∃ u, den m y = some u ∧ (Instr.build t vparts.toArray).run P w = .ok u w := by
  unfold evBuild at h
  split at h
  · rename_i ti hti
    split at h
    · rename_i z hz
      have hzero : (zeroValue t).run P w = .ok z w := by simp [zeroValue, typeInfo, hti, hz]
      have hzc : dens m (ofA z.cells) = some z.cells.toList := dens_ofA _
      split at h
      · rename_i fs hd
        split at h
        · rename_i places hp
          simp only [Option.map_eq_some_iff] at h
          obtain ⟨out, ho, rfl⟩ := h
          obtain ⟨ov, h2, h3⟩ := fillS_ok h0 h1 ho hzc
          refine ⟨.agg ov.toArray, by simp [den, h2], ?_⟩
          have hm : (fs.mapM fun f => (do pure (f.offset, ← Go.sizeOf f.type) : Sem (Nat × Nat))).run P w = .ok places.toArray w := by
            rw [← Array.toArray_toList (xs := fs), List.mapM_toArray]
            simp only [Sem.run_map]
            rw [run_mapM_sizes fs.toList places hp]
            rfl
          simp only [Instr.build, Sem.run_bind, hzero, Result.andThen_ok, run_underlying hd]
          erw [hm]
          simp only [Result.andThen_ok]
          have h4 : Instr.fill (fun x => places[x]?) z.cells vparts = some ov.toArray := by simpa using h3
          simp [h4]
        · cases h
      · rename_i n elem hd
        split at h
        · rename_i s hs
          simp only [Option.map_eq_some_iff] at h
          obtain ⟨out, ho, rfl⟩ := h
          obtain ⟨ov, h2, h3⟩ := fillS_ok h0 h1 ho hzc
          refine ⟨.agg ov.toArray, by simp [den, h2], ?_⟩
          have h4 : Instr.fill (fun i => some (i * s, s)) z.cells vparts = some ov.toArray := by simpa using h3
          simp only [Instr.build, Sem.run_bind, hzero, Result.andThen_ok, run_underlying hd, run_sizeOf hs]
          simp [h4]
        · cases h
      · cases h
    · cases h
  · cases h
end
end Rx
