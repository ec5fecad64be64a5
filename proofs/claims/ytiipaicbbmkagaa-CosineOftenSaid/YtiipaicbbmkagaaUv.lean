/- Walk of bits.Div64. -/
import Derived.Test.YtiipaicbbmkagaaFe
import Derived.Test.YtiipaicbbmkagaaUd
import Derived.Deep.CutBlock
import Derived.Deep.DeepCutAuto
namespace Go.Proofs.Ytiipaicbbmkagaa
set_option linter.all false
open Go.RowKit Bu

theorem lz_w (n : Nat) (w : World) (h : (n : Int) ≤ 18446744073709551615) :
    Calls Try.prog 101 #[.int .u64 n] w fun e w' => e = .returned (.int .i64 (64 - (blen n : Int))) ∧ w = w' :=
  (Try.bits_LeadingZeros64 n w (by omega) h).mono fun e w' ⟨h1, h2⟩ => ⟨by rw [h1, Int.toNat_natCast, lib_blen n (by omega)], h2.symm⟩

set_option maxRecDepth 100000 in
set_option maxHeartbeats 1000000 in
theorem div64_zero (l y : Nat) (hy : 0 < (y : Int)) (hl : (l : Int) ≤ 18446744073709551615) (w : World) :
    Calls Try.prog 102 #[.int .u64 0, .int .u64 l, .int .u64 y] w fun e w' => e = .returned (.tuple #[.int .u64 ((l / y : Nat) : Int), .int .u64 ((l % y : Nat) : Int)]) ∧ Below w.heap.size w w' := by
  have hy1 : (1 : Int) ≤ y := by omega
  have T1 : ((y : Int) == 0) = false := by rw [beq_eq_false_iff_ne]; omega
  have T2 : ¬ ((y : Int) ≤ 0) := by omega
  have E1 : IntKind.u64.wrap ((l : Int) / y) = ((l / y : Nat) : Int) := by
    have h := Nat.div_le_self l y
    rw [← Int.natCast_ediv, IntKind.wrap_u64]
    generalize l / y = q at *
    omega
  have H1 := Lib.hid E1
  clear E1
  go_enter Try.func102, Try.ntmps102
  go_wp2
  go_quiet (fail)
  go_wp2
  go_ret2
  refine ⟨ret_tup ?_, below_drewN (Below.refl _ _) _⟩
  rw [← H1.out, Int.natCast_emod]
  rfl

theorem val_u64 {a : Int} {b : Nat} (h : a = b) : Value.int .u64 a = .int .u64 b := by rw [h]
theorem lz_s (n s : Nat) (hs : 64 - blen n = s) (w : World) (h : (n : Int) ≤ 18446744073709551615) :
    Calls Try.prog 101 #[.int .u64 n] w fun e w' => e = .returned (.int .i64 s) ∧ w = w' :=
  (lz_w n w h).mono fun e w' ⟨h1, h2⟩ => ⟨by rw [h1]; have : blen n ≤ 64 := blen_le (by omega); exact ret_int (by omega), h2⟩

set_option maxRecDepth 100000 in
set_option maxHeartbeats 1000000 in
theorem div64_pos (h l y : Nat) (hh : 0 < (h : Int)) (hy : (h : Int) < y) (hy2 : (y : Int) ≤ 18446744073709551615) (hl : (l : Int) ≤ 18446744073709551615) (w : World) :
    Calls Try.prog 102 #[.int .u64 h, .int .u64 l, .int .u64 y] w fun e w' => e = .returned (.tuple #[.int .u64 (((h * 18446744073709551616 + l) / y : Nat) : Int), .int .u64 (((h * 18446744073709551616 + l) % y : Nat) : Int)]) ∧ w = w' := by
  have T1 : ((y : Int) == 0) = false := by rw [beq_eq_false_iff_ne]; omega
  have T3 : ((h : Int) == 0) = false := by rw [beq_eq_false_iff_ne]; omega
  have T4 : ¬ (y : Int) ≤ h := by omega
  obtain ⟨s, Y, U, L, y1, y0, u1, u0, g1, g2, e1, e2, e3, e4, e5, e6, e7, p1, p2, p3, p4, p5, p6, p7, p8, p9, p10⟩ := kn_pack h l y (by omega) (by omega) (by omega)
  have G1 := Lib.hid g1
  have P1 := Lib.hid (show Y = y1 * 4294967296 + y0 ∧ y0 < 4294967296 ∧ U < Y from ⟨p1, p4, p7⟩)
  have P8 := Lib.hid p8
  have P9 := Lib.hid p9
  have i1 : (2147483648 : Int) ≤ y1 := by omega
  have i2 : (y1 : Int) < 4294967296 := by omega
  have i3 : (y0 : Int) < 4294967296 := by omega
  have i4 : (u1 : Int) < 4294967296 := by omega
  have i5 : (u0 : Int) < 4294967296 := by omega
  have i6 : (U : Int) < Y := by omega
  have i7 : (Y : Int) ≤ 18446744073709551615 := by omega
  have i8 : (s : Int) ≤ 63 := by omega
  have ks := kn_start p1 p2 p3 p4 p7 p5
  have z1 : ((y1 : Int) == 0) = false := by rw [beq_eq_false_iff_ne]; omega
  have f1 : (U : Int) / y1 = ((U / y1 : Nat) : Int) := by simp
  generalize U / y1 = qa at *
  generalize U % y1 = ra at *
  have f2 : (U : Int) - (qa : Int) * y1 = ra := by have := ks.eq; rw [← Int.natCast_mul]; omega
  have f3 : (0 : Int) ≤ (qa : Int) * y1 := by rw [← Int.natCast_mul]; omega
  have f4 : (qa : Int) * y1 ≤ 18446744073709551615 := by have := ks.eq; rw [← Int.natCast_mul]; omega
  have f5 : (qa : Int) ≤ 4294967297 := by have := ks.le; omega
  have f6 : (ra : Int) < 4294967296 := by have := ks.rl; omega
  have KS := Lib.hid ks
  clear g1 p1 p2 p3 p4 p5 p6 p7 p8 p9 p10 g2 ks
  go_enter Try.func102, Try.ntmps102
  go_upto_block 0 with (go_at_call 101; refine (lz_s _ _ G1.out _ (by omega)).mono ?_; rintro e w' ⟨rfl, rfl⟩)
  go_cut [15, 16] (fun q r wx => q = .int .u64 (((U * 4294967296 + u1) / Y : Nat) : Int) ∧ (∃ t : Int, r = .int .u64 t) ∧ w = wx)
  case first =>
    go_wp2
    go_loop [15, 16] (fun q r => ∃ qn rn : Nat, Kn U u1 Y y1 y0 qn rn ∧ q = .int .u64 qn ∧ r = .int .u64 rn) (fun q _ => (intOf q).toNat)
    case atStart => exact ⟨qa, ra, KS.out, rfl, rfl⟩
    case round =>
      obtain ⟨qn, rn, hk, rfl, rfl⟩ := hrel
      have j1 := hk.le
      have j2 := hk.rl
      have v1 : (qn : Int) ≤ 4294967297 := by omega
      have v2 : (rn : Int) < 4294967296 := by omega
      have v3 : (0 : Int) ≤ (qn : Int) * y0 := by rw [← Int.natCast_mul]; omega
      have v4 : (qn : Int) * y0 ≤ 18446744073709551615 := by
        have := Nat.mul_le_mul (show qn ≤ 4294967297 by omega) (show y0 ≤ 4294967295 by omega)
        rw [← Int.natCast_mul]; omega
      have KN := Lib.hid hk
      clear hk j1 j2
      by_cases c1 : (4294967296 : Int) ≤ qn
      · have hc := Lib.hid (show 4294967296 ≤ qn ∨ 4294967296 * rn + u1 < qn * y0 from Or.inl (by omega))
        have hq1 : (1 : Int) ≤ qn := by omega
        by_cases c3 : (4294967296 : Int) ≤ (rn : Int) + y1
        · have hX := Lib.hid (kn_break P1.out.1 P1.out.2.1 P1.out.2.2 (by omega) KN.out hc.out (by omega))
          go_wp2
          go_meet
          case rel => exact ⟨by rw [← hX.out]; exact val_u64 (by omega), ⟨_, rfl⟩, rfl⟩
        · have hX := Lib.hid (kn_next P1.out.1 (by omega) (by omega) KN.out hc.out (show rn + y1 < 4294967296 by omega))
          go_wp2
          go_round
          case rel => exact ⟨qn - 1, rn + y1, hX.out, val_u64 (by omega), val_u64 (by omega)⟩
          case measure => simp [intOf]; omega
      · by_cases c2 : (4294967296 : Int) * rn + u1 < (qn : Int) * y0
        · have hc := Lib.hid (show 4294967296 ≤ qn ∨ 4294967296 * rn + u1 < qn * y0 from Or.inr (by rw [← Int.natCast_mul] at c2; omega))
          have hq1 : (1 : Int) ≤ qn := by have := kn_pos P1.out.1 (by omega) (by omega) KN.out hc.out; omega
          by_cases c3 : (4294967296 : Int) ≤ (rn : Int) + y1
          · have hX := Lib.hid (kn_break P1.out.1 P1.out.2.1 P1.out.2.2 (by omega) KN.out hc.out (by omega))
            go_wp2
            go_meet
            case rel => exact ⟨by rw [← hX.out]; exact val_u64 (by omega), ⟨_, rfl⟩, rfl⟩
          · have hX := Lib.hid (kn_next P1.out.1 (by omega) (by omega) KN.out hc.out (show rn + y1 < 4294967296 by omega))
            go_wp2
            go_round
            case rel => exact ⟨qn - 1, rn + y1, hX.out, val_u64 (by omega), val_u64 (by omega)⟩
            case measure => simp [intOf]; omega
        · have hX := Lib.hid (kn_stay P1.out.1 KN.out (by rw [← Int.natCast_mul] at c2; omega))
          go_wp2
          go_meet
          case rel => exact ⟨by rw [← hX.out], ⟨_, rfl⟩, rfl⟩
  case rest =>
    obtain ⟨rfl, ⟨t, rfl⟩, rfl⟩ := hcut
    have hYp : 0 < Y := by omega
    have hdm := Nat.div_add_mod (U * 4294967296 + u1) Y
    have hml := Nat.mod_lt (U * 4294967296 + u1) hYp
    have HQ1 := Lib.hid (rfl : (U * 4294967296 + u1) / Y = (U * 4294967296 + u1) / Y)
    have HR1 := Lib.hid (rfl : (U * 4294967296 + u1) % Y = (U * 4294967296 + u1) % Y)
    obtain ⟨q1, hq1⟩ : ∃ q, q = (U * 4294967296 + u1) / Y := ⟨_, rfl⟩
    obtain ⟨R, hR⟩ : ∃ q, q = (U * 4294967296 + u1) % Y := ⟨_, rfl⟩
    rw [← hq1, ← hR] at hdm
    rw [← hR] at hml
    rw [← hq1]
    have e21 : IntKind.u64.wrap (IntKind.u64.wrap (IntKind.u64.wrap ((U : Int) * 4294967296) + u1) - IntKind.u64.wrap ((q1 : Int) * Y)) = R := by
      rw [← Int.natCast_mul, Nat.mul_comm q1 Y]
      simp only [IntKind.wrap_u64]
      omega
    have kb := kn_start P1.out.1 (by omega) (by omega) P1.out.2.1 hml (show u0 < 4294967296 by omega)
    have l1 : (R : Int) / y1 = ((R / y1 : Nat) : Int) := by simp
    obtain ⟨qb, hqb⟩ : ∃ q, q = R / y1 := ⟨_, rfl⟩
    obtain ⟨rb, hrb⟩ : ∃ q, q = R % y1 := ⟨_, rfl⟩
    rw [← hqb] at kb l1
    rw [← hrb] at kb
    have l2 : (R : Int) - (qb : Int) * y1 = rb := by have := kb.eq; rw [← Int.natCast_mul]; omega
    have l3 : (0 : Int) ≤ (qb : Int) * y1 := by rw [← Int.natCast_mul]; omega
    have l4 : (qb : Int) * y1 ≤ 18446744073709551615 := by have := kb.eq; rw [← Int.natCast_mul]; omega
    have l5 : (qb : Int) ≤ 4294967297 := by have := kb.le; omega
    have l6 : (rb : Int) < 4294967296 := by have := kb.rl; omega
    have l7 : (R : Int) < Y := by omega
    have KB := Lib.hid kb
    have FQ1 := Lib.hid hq1
    have FR := Lib.hid hR
    have P2 := Lib.hid (show Y = y1 * 4294967296 + y0 ∧ y0 < 4294967296 ∧ R < Y from ⟨P1.out.1, P1.out.2.1, hml⟩)
    clear f1 f2 f3 f4 f5 f6 KS kb hqb hrb hq1 hR hdm hml HQ1 HR1 P1
    obtain ⟨P1⟩ : Nonempty (Hid (Y = y1 * 4294967296 + y0 ∧ y0 < 4294967296 ∧ R < Y)) := ⟨P2⟩
    go_upto_block 2 with fail
    go_cut [18, 16] (fun q r wx => q = .int .u64 (((R * 4294967296 + u0) / Y : Nat) : Int) ∧ (∃ t : Int, r = .int .u64 t) ∧ w = wx)
    case first =>
      go_wp2
      go_loop [18, 16] (fun q r => ∃ qn rn : Nat, Kn R u0 Y y1 y0 qn rn ∧ q = .int .u64 qn ∧ r = .int .u64 rn) (fun q _ => (intOf q).toNat)
      case atStart => exact ⟨qb, rb, KB.out, rfl, rfl⟩
      case round =>
        obtain ⟨qn, rn, hk, rfl, rfl⟩ := hrel
        have j1 := hk.le
        have j2 := hk.rl
        have v1 : (qn : Int) ≤ 4294967297 := by omega
        have v2 : (rn : Int) < 4294967296 := by omega
        have v3 : (0 : Int) ≤ (qn : Int) * y0 := by rw [← Int.natCast_mul]; omega
        have v4 : (qn : Int) * y0 ≤ 18446744073709551615 := by
          have := Nat.mul_le_mul (show qn ≤ 4294967297 by omega) (show y0 ≤ 4294967295 by omega)
          rw [← Int.natCast_mul]; omega
        have KN := Lib.hid hk
        clear hk j1 j2
        by_cases c1 : (4294967296 : Int) ≤ qn
        · have hc := Lib.hid (show 4294967296 ≤ qn ∨ 4294967296 * rn + u0 < qn * y0 from Or.inl (by omega))
          have hq1 : (1 : Int) ≤ qn := by omega
          by_cases c3 : (4294967296 : Int) ≤ (rn : Int) + y1
          · have hX := Lib.hid (kn_break P1.out.1 P1.out.2.1 P1.out.2.2 (by omega) KN.out hc.out (by omega))
            go_wp2
            go_meet
            case rel => exact ⟨by rw [← hX.out]; exact val_u64 (by omega), ⟨_, rfl⟩, rfl⟩
          · have hX := Lib.hid (kn_next P1.out.1 (by omega) (by omega) KN.out hc.out (show rn + y1 < 4294967296 by omega))
            go_wp2
            go_round
            case rel => exact ⟨qn - 1, rn + y1, hX.out, val_u64 (by omega), val_u64 (by omega)⟩
            case measure => simp [intOf]; omega
        · by_cases c2 : (4294967296 : Int) * rn + u0 < (qn : Int) * y0
          · have hc := Lib.hid (show 4294967296 ≤ qn ∨ 4294967296 * rn + u0 < qn * y0 from Or.inr (by rw [← Int.natCast_mul] at c2; omega))
            have hq1 : (1 : Int) ≤ qn := by have := kn_pos P1.out.1 (by omega) (by omega) KN.out hc.out; omega
            by_cases c3 : (4294967296 : Int) ≤ (rn : Int) + y1
            · have hX := Lib.hid (kn_break P1.out.1 P1.out.2.1 P1.out.2.2 (by omega) KN.out hc.out (by omega))
              go_wp2
              go_meet
              case rel => exact ⟨by rw [← hX.out]; exact val_u64 (by omega), ⟨_, rfl⟩, rfl⟩
            · have hX := Lib.hid (kn_next P1.out.1 (by omega) (by omega) KN.out hc.out (show rn + y1 < 4294967296 by omega))
              go_wp2
              go_round
              case rel => exact ⟨qn - 1, rn + y1, hX.out, val_u64 (by omega), val_u64 (by omega)⟩
              case measure => simp [intOf]; omega
          · have hX := Lib.hid (kn_stay P1.out.1 KN.out (by rw [← Int.natCast_mul] at c2; omega))
            go_wp2
            go_meet
            case rel => exact ⟨by rw [← hX.out], ⟨_, rfl⟩, rfl⟩
    case rest =>
      obtain ⟨rfl, ⟨t, rfl⟩, rfl⟩ := hcut
      have hdm := Nat.div_add_mod (R * 4294967296 + u0) Y
      have hml := Nat.mod_lt (R * 4294967296 + u0) hYp
      obtain ⟨q0, hq0⟩ : ∃ q, q = (R * 4294967296 + u0) / Y := ⟨_, rfl⟩
      obtain ⟨R0, hR0⟩ : ∃ q, q = (R * 4294967296 + u0) % Y := ⟨_, rfl⟩
      obtain ⟨m1, m2, m3, m4⟩ := kn_final (show 0 < y by omega) P9.out (show U < Y by omega) P8.out (show u1 < 4294967296 by omega) (show u0 < 4294967296 by omega) FQ1.out FR.out hq0
      rw [← hq0, ← hR0] at hdm
      rw [← hR0] at hml m2
      rw [← hq0]
      have e22 : IntKind.u64.wrap (IntKind.u64.wrap (IntKind.u64.wrap ((R : Int) * 4294967296) + u0) - IntKind.u64.wrap ((q0 : Int) * Y)) = R0 := by
        rw [← Int.natCast_mul, Nat.mul_comm q0 Y]
        simp only [IntKind.wrap_u64]
        omega
      have n1 : (q1 : Int) < 4294967296 := by omega
      have n2 : (q0 : Int) < 4294967296 := by omega
      have M1 := Lib.hid (show (q1 : Int) * 4294967296 + q0 = (((h * 18446744073709551616 + l) / y : Nat) : Int) from by rw [← m1]; omega)
      have M2 := Lib.hid (show (R0 : Int) / 2 ^ s = (((h * 18446744073709551616 + l) % y : Nat) : Int) from by rw [← m2]; simp)
      clear m1 m2 m3 m4 hdm hml hq0 hR0 l1 l2 l3 l4 l5 l6 KB
      go_wp2_with fail
      go_ret2
      refine ⟨?_, rfl⟩
      rw [← M1.out, ← M2.out]
      exact ret_tup rfl

theorem div64_w (h l y : Nat) (hy : (h : Int) < y) (hy2 : (y : Int) ≤ 18446744073709551615) (hl : (l : Int) ≤ 18446744073709551615) (w : World) :
    Calls Try.prog 102 #[.int .u64 h, .int .u64 l, .int .u64 y] w fun e w' => e = .returned (.tuple #[.int .u64 (((h * 18446744073709551616 + l) / y : Nat) : Int), .int .u64 (((h * 18446744073709551616 + l) % y : Nat) : Int)]) ∧ Below w.heap.size w w' := by
  by_cases c : h = 0
  · subst c
    have := div64_zero l y (by omega) hl w
    simp only [Nat.zero_mul, Nat.zero_add]
    exact this
  · refine (div64_pos h l y (by omega) hy hy2 hl w).mono ?_
    rintro e w' ⟨h1, rfl⟩
    exact ⟨h1, Below.refl _ _⟩
end Go.Proofs.Ytiipaicbbmkagaa
