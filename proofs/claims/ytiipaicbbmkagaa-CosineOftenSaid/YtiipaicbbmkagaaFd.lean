/- Walks of package dir: small ones. -/
import Derived.Test.YtiipaicbbmkagaaFw
import Derived.Test.YtiipaicbbmkagaaShelf
import Derived.Test.YtiipaicbbmkagaaFa
import Derived.RegionTactic
import Derived.Deep.QuietTactic
import Derived.BigQuiet
import Derived.Deep.RegionWith
import Derived.Deep.RegionHeld3
import Derived.Outline
namespace Go.Proofs.Ytiipaicbbmkagaa
set_option linter.all false
open Go.RowKit Bu

def wv (n : Nat) : Value := .agg #[.int .u64 ((n / 18446744073709551616 : Nat) : Int), .int .u64 ((n % 18446744073709551616 : Nat) : Int)]

theorem lib_len_le (x : Nat) (h : (x : Int) ≤ 18446744073709551615) : Lib.bitLen x ≤ 64 := by
  have := Any.bitLen_le64 (x : Int) (by omega) h
  simpa using this

set_option maxHeartbeats 400000 in
theorem size_w (a b : Nat) (w : World) (ha : (a : Int) ≤ 18446744073709551615) (hb : (b : Int) ≤ 18446744073709551615) :
    Calls Try.prog 105 #[.agg #[.int .u64 a, .int .u64 b]] w fun e w' => e = .returned (.int .i64 (if a > 0 then 64 + Lib.bitLen a else Lib.bitLen b)) ∧ Below w.heap.size w w' := by
  by_cases h : a = 0
  · subst h
    go_enter Try.func105, Try.ntmps105
    go_wp2_with (go_at_call 72; refine (Try.bits_Len64 _ _ (by omega) (by omega)).mono ?_; rintro e w' ⟨rfl, rfl⟩)
    go_ret
    exact ⟨ret_int rfl, (Below.refl _ _).alloc (Nat.le_refl _) _⟩
  · have h' : (0 : Int) < a := by omega
    have hl : (Lib.bitLen a : Int) ≤ 64 := by have := lib_len_le a ha; omega
    go_enter Try.func105, Try.ntmps105
    go_wp2_with (go_at_call 72; refine (Try.bits_Len64 _ _ (by omega) (by omega)).mono ?_; rintro e w' ⟨rfl, rfl⟩)
    go_ret
    exact ⟨ret_int rfl, (Below.refl _ _).alloc (Nat.le_refl _) _⟩

@[go_sem] theorem eq_wide (a b c d : Int) (w : World) : (Op.equalIn 10000 94 (.agg #[.int .u64 a, .int .u64 b]) (.agg #[.int .u64 c, .int .u64 d])).run Try.prog w = .ok (a == c && b == d) w := by
  have u3 := Try.underlying46
  have a3 := Try.isAgg46
  have z3 := Try.sizeOf46
  rw [show (10000 : Nat) = 9999 + 1 from rfl, Op.equalIn]
  simp only [Sem.run_bind, run_underlying Try.underlying94, Result.andThen_ok]
  simp only [Std.Legacy.Range.forIn_eq_forIn_range', Std.Legacy.Range.size, Nat.sub_zero, Nat.add_sub_cancel, Nat.div_one, List.range'_succ, List.range'_zero, List.forIn_cons, List.forIn_nil]
  go_simp
  by_cases h1 : a = c <;> by_cases h2 : b = d <;> simp [h1, h2]
@[go_sem] theorem build_wide (a b : Int) (w : World) : (Instr.build 94 #[(0, .int .u64 a), (1, .int .u64 b)]).run Try.prog w = .ok (.agg #[.int .u64 a, .int .u64 b]) w := run_build w 94 _ _ (by kernel_rfl)
@[go_sem] theorem build_wide0 (w : World) : (Instr.build 94 #[]).run Try.prog w = .ok (.agg #[.int .u64 0, .int .u64 0]) w := run_build w 94 _ _ (by kernel_rfl)

set_option maxHeartbeats 400000 in
theorem is_w (a b : Int) (w : World) :
    Calls Try.prog 106 #[.agg #[.int .u64 a, .int .u64 b]] w fun e w' => e = .returned (.bool (!a == 0 || !b == 0)) ∧ Below w.heap.size w w' := by
  go_enter Try.func106, Try.ntmps106
  go_wp2
  go_ret
  exact ⟨ret_bool rfl, (Below.refl _ _).alloc (Nat.le_refl _) _⟩


set_option maxHeartbeats 400000 in
theorem up_w (a b : Int) (n : Nat) (w : World) (ha : 0 ≤ a) (hb : 0 ≤ b) (hb2 : b ≤ 18446744073709551615) (hn2 : (n : Int) ≤ 128) :
    Calls Try.prog 107 #[.agg #[.int .u64 a, .int .u64 b], .int .i64 n] w fun e w' => e = .returned (.agg #[.int .u64 (hi (wn a b * 2 ^ n % W128)), .int .u64 (lo (wn a b * 2 ^ n % W128))]) ∧ Below w.heap.size w w' := by
  by_cases hn : 64 ≤ (n : Int)
  · have H := up_arith_hi a b n ha hb (by omega)
    generalize wn a b * 2 ^ n % W128 = r at *
    obtain ⟨H1, H2⟩ := H
    have K1 := Lib.hid H1
    have K2 := Lib.hid H2
    clear H1 H2
    go_enter Try.func107, Try.ntmps107
    go_wp2
    refine bodyPost_ret (v := .agg #[.int .u64 (IntKind.u64.wrap (b * 2 ^ (n - 64))), .int .u64 0]) (by simp [results, Try.results107, go_sem]) rfl ⟨?_, ?_⟩
    · rw [K1.out, ← K2.out]
    · exact ((Below.refl _ _).alloc (Nat.le_refl _) _).alloc (by simp) _
  · have H := up_arith_lo a b n ha hb hb2 (by omega)
    generalize wn a b * 2 ^ n % W128 = r at *
    obtain ⟨H1, H2⟩ := H
    have K1 := Lib.hid H1
    have K2 := Lib.hid H2
    clear H1 H2
    go_enter Try.func107, Try.ntmps107
    go_wp2
    go_region
    go_wp2
    refine bodyPost_ret (v := .agg #[.int .u64 (bits BinOp.or IntKind.u64 (IntKind.u64.wrap (a * 2 ^ n)) (b / 2 ^ (64 - n))), .int .u64 (IntKind.u64.wrap (b * 2 ^ n))]) (by simp [results, Try.results107, go_sem]) rfl ⟨?_, ?_⟩
    · rw [K1.out, ← K2.out]
    · exact (((Below.refl _ _).alloc (Nat.le_refl _) _).alloc (by simp) _).drew

theorem bcell {W w1 : World} (hb : Below W.heap.size W w1) : (∀ b o, b < W.heap.size → w1.cell? ⟨b, o, none⟩ = W.cell? ⟨b, o, none⟩) ∧ (∀ b o, b < W.heap.size → w1.frozen? ⟨b, o, none⟩ = W.frozen? ⟨b, o, none⟩) :=
  ⟨fun b o h => hb.cell (p := ⟨b, o, none⟩) h, fun b o h => hb.frozen (p := ⟨b, o, none⟩) h⟩

set_option maxRecDepth 100000 in
set_option maxHeartbeats 400000 in
theorem down_lo (a b : Int) (n : Nat) (w : World) (ha : 0 ≤ a) (ha2 : a ≤ 18446744073709551615) (hb : 0 ≤ b) (hb2 : b ≤ 18446744073709551615) (hn : (n : Int) < 64) :
    Calls Try.prog 82 #[.agg #[.int .u64 a, .int .u64 b], .int .i64 n] w fun e w' => e = .returned (.tuple #[.agg #[.int .u64 (hi (wn a b / 2 ^ n)), .int .u64 (lo (wn a b / 2 ^ n))], .bool (decide (wn a b % 2 ^ n ≠ 0))]) ∧ Below w.heap.size w w' := by
  go_enter Try.func82, Try.ntmps82
  go_wp2
  go_region
  go_wp2
  have ka : 0 ≤ a / 2 ^ n := Int.ediv_nonneg ha (Int.le_of_lt (Int.pow_pos (by omega)))
  obtain ⟨k1, k2⟩ := dn_arith_lo a b n ha ha2 hb hb2 (by omega)
  have kb : 0 ≤ bits BinOp.or IntKind.u64 (b / 2 ^ n) (IntKind.u64.wrap (a * 2 ^ (64 - n))) := by rw [k2]; exact lo_nonneg _
  have kb2 : bits BinOp.or IntKind.u64 (b / 2 ^ n) (IntKind.u64.wrap (a * 2 ^ (64 - n))) ≤ 18446744073709551615 := by rw [k2]; exact lo_le _
  have K1 := Lib.hid k1
  have K2 := Lib.hid k2
  clear k1 k2
  generalize a / 2 ^ n = x at *
  generalize bits BinOp.or IntKind.u64 (b / 2 ^ n) (IntKind.u64.wrap (a * 2 ^ (64 - n))) = y at *
  generalize hW : World.drew _ = W2
  have c1 : W2.cell? ⟨w.heap.size, 0, none⟩ = some (.int .u64 a) := by subst hW; simp (disch := (simp; try omega)) only [World.cell?_drew, World.cell?_alloc_at, World.cell?_alloc_past]; rfl
  have c2 : W2.cell? ⟨w.heap.size, 1, none⟩ = some (.int .u64 b) := by subst hW; simp (disch := (simp; try omega)) only [World.cell?_drew, World.cell?_alloc_at, World.cell?_alloc_past]; rfl
  have c3 : W2.cell? ⟨w.heap.size + 1 + 1, 0, none⟩ = some (.int .u64 x) := by subst hW; simp (disch := (simp; try omega)) only [World.cell?_drew, World.cell?_alloc_at, World.cell?_alloc_past]; rfl
  have c4 : W2.cell? ⟨w.heap.size + 1 + 1, 1, none⟩ = some (.int .u64 y) := by subst hW; simp (disch := (simp; try omega)) only [World.cell?_drew, World.cell?_alloc_at, World.cell?_alloc_past]; rfl
  have c5 : W2.cell? ⟨w.heap.size + 1, 0, none⟩ = some (.int .u64 0) := by subst hW; simp (disch := (simp; try omega)) only [World.cell?_drew, World.cell?_alloc_at, World.cell?_alloc_past]; rfl
  have c6 : W2.cell? ⟨w.heap.size + 1, 1, none⟩ = some (.int .u64 0) := by subst hW; simp (disch := (simp; try omega)) only [World.cell?_drew, World.cell?_alloc_at, World.cell?_alloc_past]; rfl
  have z5 : W2.frozen? ⟨w.heap.size + 1, 0, none⟩ = false := by subst hW; simp (disch := (simp; try omega)) only [World.frozen?_drew, World.frozen?_alloc_at, World.frozen?_alloc_past]
  have z6 : W2.frozen? ⟨w.heap.size + 1, 1, none⟩ = false := by subst hW; simp (disch := (simp; try omega)) only [World.frozen?_drew, World.frozen?_alloc_at, World.frozen?_alloc_past]
  have hs : W2.heap.size = w.heap.size + 3 := by rw [← hW]; simp
  have hB : Below w.heap.size w W2 := by rw [← hW]; exact ((((Below.refl _ _).alloc (Nat.le_refl _) _).alloc (by simp) _).alloc (by simp; omega) _).drew
  clear hW
  have HS := Lib.hid hs
  clear hs
  go_region_held3 (fun w' => w'.cell? ⟨w.heap.size, 0, none⟩ = some (.int .u64 a) ∧ w'.cell? ⟨w.heap.size, 1, none⟩ = some (.int .u64 b) ∧ w'.cell? ⟨w.heap.size + 1 + 1, 0, none⟩ = some (.int .u64 x) ∧ w'.cell? ⟨w.heap.size + 1 + 1, 1, none⟩ = some (.int .u64 y))
    (first | go_keep | (refine ⟨?_, ?_, ?_, ?_⟩ <;> (rw [hcc _ _ (by have := HS.out; simp; omega)]; simpa using by assumption)))
    (first | (go_at_call 107; refine (up_w _ _ _ _ ka kb kb2 (by omega)).mono ?_; rintro e w1 ⟨rfl, hbb⟩; obtain ⟨hcc, hff⟩ := bcell hbb; have s5 : w1.cell? ⟨w.heap.size + 1, 0, none⟩ = some (.int .u64 0) := by (rw [hcc _ _ (by have := HS.out; simp; omega)]; simpa using c5)
              have s6 : w1.cell? ⟨w.heap.size + 1, 1, none⟩ = some (.int .u64 0) := by (rw [hcc _ _ (by have := HS.out; simp; omega)]; simpa using c6)
              have t5 : w1.frozen? ⟨w.heap.size + 1, 0, none⟩ = false := by (rw [hff _ _ (by have := HS.out; simp; omega)]; simpa using z5)
              have t6 : w1.frozen? ⟨w.heap.size + 1, 1, none⟩ = false := by (rw [hff _ _ (by have := HS.out; simp; omega)]; simpa using z6)))
  go_wp2
  refine bodyPost_ret (v := .tuple #[.agg #[.int .u64 x, .int .u64 y], .bool (!(hi (wn x y * 2 ^ n % W128) == a) || !(lo (wn x y * 2 ^ n % W128) == b))]) (by simp [results, Try.results82, go_sem, s5, s6]) rfl ⟨?_, ?_⟩
  · rw [K1.out, K2.out, wn_hi_lo, lost_iff a b n ha ha2 hb hb2]
  · exact (((hB.drew.trans (hbb.mono (by have := HS.out; simp; omega))).setCell (by simp) _).setCell (by simp) _)

set_option maxRecDepth 100000 in
set_option maxHeartbeats 400000 in
theorem down_hi (a b : Int) (n : Nat) (w : World) (ha : 0 ≤ a) (ha2 : a ≤ 18446744073709551615) (hb : 0 ≤ b) (hb2 : b ≤ 18446744073709551615) (hn : 64 ≤ (n : Int)) (hn2 : (n : Int) < 128) :
    Calls Try.prog 82 #[.agg #[.int .u64 a, .int .u64 b], .int .i64 n] w fun e w' => e = .returned (.tuple #[.agg #[.int .u64 (hi (wn a b / 2 ^ n)), .int .u64 (lo (wn a b / 2 ^ n))], .bool (decide (wn a b % 2 ^ n ≠ 0))]) ∧ Below w.heap.size w w' := by
  obtain ⟨k1, k2⟩ := dn_arith_hi a b n ha ha2 hb hb2 (by omega)
  have kb : 0 ≤ a / 2 ^ (n - 64) := by rw [k2]; exact lo_nonneg _
  have kb2 : a / 2 ^ (n - 64) ≤ 18446744073709551615 := by rw [k2]; exact lo_le _
  have K1 := Lib.hid k1
  have K2 := Lib.hid k2
  clear k1 k2
  go_enter Try.func82, Try.ntmps82
  go_wp2
  generalize a / 2 ^ (n - 64) = y at *
  have ka : (0 : Int) ≤ 0 := by omega
  generalize hW : World.alloc _ _ = W2
  have c1 : W2.cell? ⟨w.heap.size, 0, none⟩ = some (.int .u64 a) := by subst hW; simp (disch := (simp; try omega)) only [World.cell?_drew, World.cell?_alloc_at, World.cell?_alloc_past]; rfl
  have c2 : W2.cell? ⟨w.heap.size, 1, none⟩ = some (.int .u64 b) := by subst hW; simp (disch := (simp; try omega)) only [World.cell?_drew, World.cell?_alloc_at, World.cell?_alloc_past]; rfl
  have c3 : W2.cell? ⟨w.heap.size + 1 + 1, 0, none⟩ = some (.int .u64 0) := by subst hW; simp (disch := (simp; try omega)) only [World.cell?_drew, World.cell?_alloc_at, World.cell?_alloc_past]; rfl
  have c4 : W2.cell? ⟨w.heap.size + 1 + 1, 1, none⟩ = some (.int .u64 y) := by subst hW; simp (disch := (simp; try omega)) only [World.cell?_drew, World.cell?_alloc_at, World.cell?_alloc_past]; rfl
  have c5 : W2.cell? ⟨w.heap.size + 1, 0, none⟩ = some (.int .u64 0) := by subst hW; simp (disch := (simp; try omega)) only [World.cell?_drew, World.cell?_alloc_at, World.cell?_alloc_past]; rfl
  have c6 : W2.cell? ⟨w.heap.size + 1, 1, none⟩ = some (.int .u64 0) := by subst hW; simp (disch := (simp; try omega)) only [World.cell?_drew, World.cell?_alloc_at, World.cell?_alloc_past]; rfl
  have z5 : W2.frozen? ⟨w.heap.size + 1, 0, none⟩ = false := by subst hW; simp (disch := (simp; try omega)) only [World.frozen?_drew, World.frozen?_alloc_at, World.frozen?_alloc_past]
  have z6 : W2.frozen? ⟨w.heap.size + 1, 1, none⟩ = false := by subst hW; simp (disch := (simp; try omega)) only [World.frozen?_drew, World.frozen?_alloc_at, World.frozen?_alloc_past]
  have hs : W2.heap.size = w.heap.size + 3 := by rw [← hW]; simp
  have hB : Below w.heap.size w W2 := by rw [← hW]; exact (((Below.refl _ _).alloc (Nat.le_refl _) _).alloc (by simp) _).alloc (by simp; omega) _
  clear hW
  have HS := Lib.hid hs
  clear hs
  go_region_held3 (fun w' => w'.cell? ⟨w.heap.size, 0, none⟩ = some (.int .u64 a) ∧ w'.cell? ⟨w.heap.size, 1, none⟩ = some (.int .u64 b) ∧ w'.cell? ⟨w.heap.size + 1 + 1, 0, none⟩ = some (.int .u64 0) ∧ w'.cell? ⟨w.heap.size + 1 + 1, 1, none⟩ = some (.int .u64 y))
    (first | go_keep | (refine ⟨?_, ?_, ?_, ?_⟩ <;> (rw [hcc _ _ (by have := HS.out; simp; omega)]; simpa using by assumption)))
    (first | (go_at_call 107; refine (up_w _ _ _ _ ka kb kb2 (by omega)).mono ?_; rintro e w1 ⟨rfl, hbb⟩; obtain ⟨hcc, hff⟩ := bcell hbb; have s5 : w1.cell? ⟨w.heap.size + 1, 0, none⟩ = some (.int .u64 0) := by (rw [hcc _ _ (by have := HS.out; simp; omega)]; simpa using c5)
              have s6 : w1.cell? ⟨w.heap.size + 1, 1, none⟩ = some (.int .u64 0) := by (rw [hcc _ _ (by have := HS.out; simp; omega)]; simpa using c6)
              have t5 : w1.frozen? ⟨w.heap.size + 1, 0, none⟩ = false := by (rw [hff _ _ (by have := HS.out; simp; omega)]; simpa using z5)
              have t6 : w1.frozen? ⟨w.heap.size + 1, 1, none⟩ = false := by (rw [hff _ _ (by have := HS.out; simp; omega)]; simpa using z6)))
  go_wp2
  refine bodyPost_ret (v := .tuple #[.agg #[.int .u64 0, .int .u64 y], .bool (!(hi (wn 0 y * 2 ^ n % W128) == a) || !(lo (wn 0 y * 2 ^ n % W128) == b))]) (by simp [results, Try.results82, go_sem, s5, s6]) rfl ⟨?_, ?_⟩
  · rw [K1.out, K2.out, wn_hi_lo, lost_iff a b n ha ha2 hb hb2]
  · exact (((hB.drew.trans (hbb.mono (by have := HS.out; simp; omega))).setCell (by simp) _).setCell (by simp) _)

set_option maxRecDepth 100000 in
set_option maxHeartbeats 400000 in
theorem down_all (a b : Int) (n : Nat) (w : World) (ha : 0 ≤ a) (ha2 : a ≤ 18446744073709551615) (hb : 0 ≤ b) (hb2 : b ≤ 18446744073709551615) (hn2 : 128 ≤ (n : Int)) :
    Calls Try.prog 82 #[.agg #[.int .u64 a, .int .u64 b], .int .i64 n] w fun e w' => e = .returned (.tuple #[.agg #[.int .u64 (hi (wn a b / 2 ^ n)), .int .u64 (lo (wn a b / 2 ^ n))], .bool (decide (wn a b % 2 ^ n ≠ 0))]) ∧ Below w.heap.size w w' := by
  go_enter Try.func82, Try.ntmps82
  go_wp2_with (go_at_call 106; refine (is_w _ _ _).mono ?_; rintro e w1 ⟨rfl, hbb⟩; obtain ⟨hcc, hff⟩ := bcell hbb)
  have s5 : w1.cell? ⟨w.heap.size + 1, 0, none⟩ = some (.int .u64 0) := by (rw [hcc _ _ (by simp)]; simp)
  have s6 : w1.cell? ⟨w.heap.size + 1, 1, none⟩ = some (.int .u64 0) := by (rw [hcc _ _ (by simp)]; simp)
  refine bodyPost_ret (v := .tuple #[.agg #[.int .u64 0, .int .u64 0], .bool (!a == 0 || !b == 0)]) (by simp [results, Try.results82, go_sem, s5, s6]) rfl ⟨?_, ?_⟩
  · obtain ⟨h1, h2, h3⟩ := dn_arith_all a b n ha ha2 hb hb2 (by omega)
    rw [← h1, ← h2, h3]
  · exact (((((Below.refl _ _).alloc (Nat.le_refl _) _).alloc (by simp) _).trans (hbb.mono (by simp; omega))).setCell (by simp) _).setCell (by simp) _

theorem down_w (a b : Int) (n : Nat) (w : World) (ha : 0 ≤ a) (ha2 : a ≤ 18446744073709551615) (hb : 0 ≤ b) (hb2 : b ≤ 18446744073709551615) :
    Calls Try.prog 82 #[.agg #[.int .u64 a, .int .u64 b], .int .i64 n] w fun e w' => e = .returned (.tuple #[.agg #[.int .u64 (hi (wn a b / 2 ^ n)), .int .u64 (lo (wn a b / 2 ^ n))], .bool (decide (wn a b % 2 ^ n ≠ 0))]) ∧ Below w.heap.size w w' := by
  by_cases h1 : (n : Int) < 64
  · exact down_lo a b n w ha ha2 hb hb2 h1
  · by_cases h2 : (n : Int) < 128
    · exact down_hi a b n w ha ha2 hb hb2 (by omega) h2
    · exact down_all a b n w ha ha2 hb hb2 (by omega)

end Go.Proofs.Ytiipaicbbmkagaa
