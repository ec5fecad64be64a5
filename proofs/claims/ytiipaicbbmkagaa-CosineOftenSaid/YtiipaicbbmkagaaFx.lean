/- Walks of package dir: Next. -/
import Derived.Test.YtiipaicbbmkagaaFe
namespace Go.Proofs.Ytiipaicbbmkagaa
set_option linter.all false
open Go.RowKit Bu

theorem nextF_pos {x : F} {minus : Bool} {n r : Nat} {e : Int} {up : Bool} (he : -1074 ≤ e) (h : n * 2 ^ (e + 1074).toNat = nv r) (hk : (if minus then -(r : Int) else r) = if up then x.k + 1 else x.k - 1) :
    rndG minus n false e up = nextF x up := by
  rw [rndG_nv he h, hk]
  unfold nextF
  cases up <;> rfl

set_option maxRecDepth 100000 in
set_option maxHeartbeats 1000000 in
theorem next_F (x : F) (up : Bool) (w : World) :
    Calls Try.prog 73 #[.float .f64 x.b, .bool up] w fun q w' => q = .returned (.tuple #[.float .f64 (nextF x up).1.b, .int .i64 (nextF x up).2]) ∧ Below w.heap.size w w' := by
  have hpp := fun w => parts_F x w
  have HP := Lib.hid hpp
  have hb := man_pl x.k.natAbs
  have hbp := (b_parts x).2.2
  have hP : P = 4503599627370496 := rfl
  have b1 : ((man x.k.natAbs : Nat) : Int) ≤ 9007199254740991 := by omega
  have b2 : ((pl x.k.natAbs : Nat) : Int) ≤ 2046 := by unfold pl; omega
  clear hpp hb hbp hP
  by_cases h0 : x.k = 0
  · have HN := Lib.hid (show rndG (!up) 1 false (-1074) up = nextF x up from nextF_pos (r := 1) (by omega) (by decide) (by rw [h0]; cases up <;> rfl))
    have hm : man x.k.natAbs = 0 := by rw [h0]; rfl
    have hl : pl x.k.natAbs = 0 := by rw [h0]; rfl
    have hsg : decide (x.k < 0) = false := by simp; omega
    rw [hm, hl, hsg] at HP
    clear h0 hm hl hsg b1 b2
    have HRR := Lib.hid (fun w => rounded_n (!up) false up 1 (-1074) w (by omega) (by omega) (by omega))
    go_enter Try.func73, Try.ntmps73
    go_wp2_with (first | (go_at_call 60; refine (right_F_w _ _).mono ?_; rintro e w' ⟨rfl, rfl⟩) | (go_at_call 79; refine (HP.out _).mono ?_; rintro e w' ⟨rfl, rfl⟩) | (go_at_call 81; refine (HRR.out _).mono ?_; rintro e w' ⟨rfl, hbb⟩))
    go_ret2
    refine ⟨?_, hbb⟩
    rw [← HN.out]
    exact ret_tup rfl
  · have hz : man x.k.natAbs ≠ 0 := fun c => h0 (by have := man_zero _ c; omega)
    by_cases hs : x.k < 0
    · have hsg : decide (x.k < 0) = true := by simpa using hs
      rw [hsg] at HP
      cases up
      · have HN := Lib.hid (show rndG true (man x.k.natAbs + 1) false (pl x.k.natAbs - 1074) false = nextF x false from nextF_pos (r := x.k.natAbs + 1) (by omega) (by rw [show ((pl x.k.natAbs : Int) - 1074 + 1074).toNat = pl x.k.natAbs from by omega]; exact nv_up _) (by simp; omega))
        have hrr := fun w => rounded_n true false false (man x.k.natAbs + 1) (pl x.k.natAbs - 1074) w (by omega) (by omega) (by omega)
        simp only [Int.natCast_add, Int.cast_ofNat_Int] at hrr
        have HRR := Lib.hid hrr
        have z : (((man x.k.natAbs : Nat) : Int) == 0) = false := by rw [beq_eq_false_iff_ne]; omega
        clear hrr hz h0 hsg
        generalize man x.k.natAbs = m at *
        generalize pl x.k.natAbs = p at *
        go_enter Try.func73, Try.ntmps73
        go_wp2_with (first | (go_at_call 60; refine (right_F_w _ _).mono ?_; rintro e w' ⟨rfl, rfl⟩) | (go_at_call 79; refine (HP.out _).mono ?_; rintro e w' ⟨rfl, rfl⟩) | (go_at_call 81; refine (HRR.out _).mono ?_; rintro e w' ⟨rfl, hbb⟩))
        go_ret2
        refine ⟨?_, hbb⟩
        rw [← HN.out]
        exact ret_tup rfl
      · have z : (((man x.k.natAbs : Nat) : Int) == 0) = false := by rw [beq_eq_false_iff_ne]; omega
        by_cases hc : man x.k.natAbs = P ∧ 1 ≤ pl x.k.natAbs
        · have HN := Lib.hid (show rndG true 9007199254740991 false (pl x.k.natAbs - 1074 - 1) true = nextF x true from nextF_pos (r := x.k.natAbs - 1) (by omega) (by rw [show ((pl x.k.natAbs : Int) - 1074 - 1 + 1074).toNat = pl x.k.natAbs - 1 from by omega]; exact nv_dn2 _ hc.1 hc.2) (by simp; omega))
          have HRR := Lib.hid (fun w => rounded_n true false true 9007199254740991 (pl x.k.natAbs - 1074 - 1) w (by omega) (by omega) (by omega))
          have hm : man x.k.natAbs = 4503599627370496 := hc.1
          have hp1 : (-1074 : Int) < (pl x.k.natAbs : Int) - 1074 := by omega
          rw [hm] at HP
          clear hz h0 hsg z hc hm b1
          generalize pl x.k.natAbs = p at *
          go_enter Try.func73, Try.ntmps73
          go_wp2_with (first | (go_at_call 60; refine (right_F_w _ _).mono ?_; rintro e w' ⟨rfl, rfl⟩) | (go_at_call 79; refine (HP.out _).mono ?_; rintro e w' ⟨rfl, rfl⟩) | (go_at_call 81; refine (HRR.out _).mono ?_; rintro e w' ⟨rfl, hbb⟩))
          go_ret2
          refine ⟨?_, hbb⟩
          rw [← HN.out]
          exact ret_tup rfl
        · have HN := Lib.hid (show rndG true (man x.k.natAbs - 1) false (pl x.k.natAbs - 1074) true = nextF x true from nextF_pos (r := x.k.natAbs - 1) (by omega) (by rw [show ((pl x.k.natAbs : Int) - 1074 + 1074).toNat = pl x.k.natAbs from by omega]; exact nv_dn _ (by omega) hc) (by simp; omega))
          have hrr := fun w => rounded_n true false true (man x.k.natAbs - 1) (pl x.k.natAbs - 1074) w (by omega) (by omega) (by omega)
          rw [show ((man x.k.natAbs - 1 : Nat) : Int) = (man x.k.natAbs : Int) - 1 from by omega] at hrr
          have HRR := Lib.hid hrr
          have hm1 : (1 : Int) ≤ (man x.k.natAbs : Int) := by omega
          clear hrr
          by_cases hq : man x.k.natAbs = P
          · have q1 : (((man x.k.natAbs : Nat) : Int) == 4503599627370496) = true := by rw [beq_iff_eq, hq]; rfl
            have q2 : ¬ ((-1074 : Int) < (pl x.k.natAbs : Int) - 1074) := by omega
            clear hz h0 hsg hc hq
            generalize man x.k.natAbs = m at *
            generalize pl x.k.natAbs = p at *
            go_enter Try.func73, Try.ntmps73
            go_wp2_with (first | (go_at_call 60; refine (right_F_w _ _).mono ?_; rintro e w' ⟨rfl, rfl⟩) | (go_at_call 79; refine (HP.out _).mono ?_; rintro e w' ⟨rfl, rfl⟩) | (go_at_call 81; refine (HRR.out _).mono ?_; rintro e w' ⟨rfl, hbb⟩))
            go_ret2
            refine ⟨?_, hbb⟩
            rw [← HN.out]
            exact ret_tup rfl
          · have q1 : (((man x.k.natAbs : Nat) : Int) == 4503599627370496) = false := by rw [beq_eq_false_iff_ne]; intro c; exact hq (by have : P = 4503599627370496 := rfl; omega)
            clear hz h0 hsg hc hq
            generalize man x.k.natAbs = m at *
            generalize pl x.k.natAbs = p at *
            go_enter Try.func73, Try.ntmps73
            go_wp2_with (first | (go_at_call 60; refine (right_F_w _ _).mono ?_; rintro e w' ⟨rfl, rfl⟩) | (go_at_call 79; refine (HP.out _).mono ?_; rintro e w' ⟨rfl, rfl⟩) | (go_at_call 81; refine (HRR.out _).mono ?_; rintro e w' ⟨rfl, hbb⟩))
            go_ret2
            refine ⟨?_, hbb⟩
            rw [← HN.out]
            exact ret_tup rfl
    · have hsg : decide (x.k < 0) = false := by simpa using hs
      rw [hsg] at HP
      cases up
      · have z : (((man x.k.natAbs : Nat) : Int) == 0) = false := by rw [beq_eq_false_iff_ne]; omega
        by_cases hc : man x.k.natAbs = P ∧ 1 ≤ pl x.k.natAbs
        · have HN := Lib.hid (show rndG false 9007199254740991 false (pl x.k.natAbs - 1074 - 1) false = nextF x false from nextF_pos (r := x.k.natAbs - 1) (by omega) (by rw [show ((pl x.k.natAbs : Int) - 1074 - 1 + 1074).toNat = pl x.k.natAbs - 1 from by omega]; exact nv_dn2 _ hc.1 hc.2) (by simp; omega))
          have HRR := Lib.hid (fun w => rounded_n false false false 9007199254740991 (pl x.k.natAbs - 1074 - 1) w (by omega) (by omega) (by omega))
          have hm : man x.k.natAbs = 4503599627370496 := hc.1
          have hp1 : (-1074 : Int) < (pl x.k.natAbs : Int) - 1074 := by omega
          rw [hm] at HP
          clear hz h0 hsg z hc hm b1
          generalize pl x.k.natAbs = p at *
          go_enter Try.func73, Try.ntmps73
          go_wp2_with (first | (go_at_call 60; refine (right_F_w _ _).mono ?_; rintro e w' ⟨rfl, rfl⟩) | (go_at_call 79; refine (HP.out _).mono ?_; rintro e w' ⟨rfl, rfl⟩) | (go_at_call 81; refine (HRR.out _).mono ?_; rintro e w' ⟨rfl, hbb⟩))
          go_ret2
          refine ⟨?_, hbb⟩
          rw [← HN.out]
          exact ret_tup rfl
        · have HN := Lib.hid (show rndG false (man x.k.natAbs - 1) false (pl x.k.natAbs - 1074) false = nextF x false from nextF_pos (r := x.k.natAbs - 1) (by omega) (by rw [show ((pl x.k.natAbs : Int) - 1074 + 1074).toNat = pl x.k.natAbs from by omega]; exact nv_dn _ (by omega) hc) (by simp; omega))
          have hrr := fun w => rounded_n false false false (man x.k.natAbs - 1) (pl x.k.natAbs - 1074) w (by omega) (by omega) (by omega)
          rw [show ((man x.k.natAbs - 1 : Nat) : Int) = (man x.k.natAbs : Int) - 1 from by omega] at hrr
          have HRR := Lib.hid hrr
          have hm1 : (1 : Int) ≤ (man x.k.natAbs : Int) := by omega
          clear hrr
          by_cases hq : man x.k.natAbs = P
          · have q1 : (((man x.k.natAbs : Nat) : Int) == 4503599627370496) = true := by rw [beq_iff_eq, hq]; rfl
            have q2 : ¬ ((-1074 : Int) < (pl x.k.natAbs : Int) - 1074) := by omega
            clear hz h0 hsg hc hq
            generalize man x.k.natAbs = m at *
            generalize pl x.k.natAbs = p at *
            go_enter Try.func73, Try.ntmps73
            go_wp2_with (first | (go_at_call 60; refine (right_F_w _ _).mono ?_; rintro e w' ⟨rfl, rfl⟩) | (go_at_call 79; refine (HP.out _).mono ?_; rintro e w' ⟨rfl, rfl⟩) | (go_at_call 81; refine (HRR.out _).mono ?_; rintro e w' ⟨rfl, hbb⟩))
            go_ret2
            refine ⟨?_, hbb⟩
            rw [← HN.out]
            exact ret_tup rfl
          · have q1 : (((man x.k.natAbs : Nat) : Int) == 4503599627370496) = false := by rw [beq_eq_false_iff_ne]; intro c; exact hq (by have : P = 4503599627370496 := rfl; omega)
            clear hz h0 hsg hc hq
            generalize man x.k.natAbs = m at *
            generalize pl x.k.natAbs = p at *
            go_enter Try.func73, Try.ntmps73
            go_wp2_with (first | (go_at_call 60; refine (right_F_w _ _).mono ?_; rintro e w' ⟨rfl, rfl⟩) | (go_at_call 79; refine (HP.out _).mono ?_; rintro e w' ⟨rfl, rfl⟩) | (go_at_call 81; refine (HRR.out _).mono ?_; rintro e w' ⟨rfl, hbb⟩))
            go_ret2
            refine ⟨?_, hbb⟩
            rw [← HN.out]
            exact ret_tup rfl
      · have HN := Lib.hid (show rndG false (man x.k.natAbs + 1) false (pl x.k.natAbs - 1074) true = nextF x true from nextF_pos (r := x.k.natAbs + 1) (by omega) (by rw [show ((pl x.k.natAbs : Int) - 1074 + 1074).toNat = pl x.k.natAbs from by omega]; exact nv_up _) (by simp; omega))
        have hrr := fun w => rounded_n false false true (man x.k.natAbs + 1) (pl x.k.natAbs - 1074) w (by omega) (by omega) (by omega)
        simp only [Int.natCast_add, Int.cast_ofNat_Int] at hrr
        have HRR := Lib.hid hrr
        have z : (((man x.k.natAbs : Nat) : Int) == 0) = false := by rw [beq_eq_false_iff_ne]; omega
        clear hrr hz h0 hsg
        generalize man x.k.natAbs = m at *
        generalize pl x.k.natAbs = p at *
        go_enter Try.func73, Try.ntmps73
        go_wp2_with (first | (go_at_call 60; refine (right_F_w _ _).mono ?_; rintro e w' ⟨rfl, rfl⟩) | (go_at_call 79; refine (HP.out _).mono ?_; rintro e w' ⟨rfl, rfl⟩) | (go_at_call 81; refine (HRR.out _).mono ?_; rintro e w' ⟨rfl, hbb⟩))
        go_ret2
        refine ⟨?_, hbb⟩
        rw [← HN.out]
        exact ret_tup rfl
end Go.Proofs.Ytiipaicbbmkagaa
