/- Walks of package dir: rounded. -/
import Derived.Test.YtiipaicbbmkagaaFr
import Derived.Test.YtiipaicbbmkagaaFq
import Derived.Deep.DeepCutAuto
namespace Go.Proofs.Ytiipaicbbmkagaa
set_option linter.all false
open Go.RowKit Bu

theorem run_unary_neg_F (x : F) (h : x.k ≠ 0) (w : World) : (Op.unary .neg (.float .f64 x.b)).run Try.prog w = .ok (.float .f64 x.neg.b) w := by
  rw [← negFloat_F x h]; rfl
theorem len64_w (n : Nat) (w : World) (h : (n : Int) ≤ 18446744073709551615) :
    Calls Try.prog 72 #[.int .u64 n] w fun e w' => e = .returned (.int .i64 (blen n)) ∧ w = w' :=
  (Try.bits_Len64 n w (by omega) h).mono fun e w' ⟨h1, h2⟩ => ⟨by rw [h1, Int.toNat_natCast, lib_blen n (by omega)], h2.symm⟩
theorem floatOfInt_dy (m : Nat) (h : (m : Int) ≤ 9007199254740992) : floatOfInt .f64 (m : Int) = (F.dy m 0).b := by
  unfold floatOfInt FloatKind.nearest FloatKind.encode
  exact nat_conv (by rw [show 2 * P = 9007199254740992 from rfl]; omega)
theorem neg_dy (m : Nat) (e : Int) (h : (m : Int) ≤ 9007199254740992) (h0 : m ≠ 0) (he : -1074 ≤ e) (h1 : (blen m : Int) + e ≤ 1024) (w : World) :
    (Op.unary .neg (.float .f64 (F.dy m e).b)).run Try.prog w = .ok (.float .f64 (F.dy m e).neg.b) w :=
  run_unary_neg_F _ (dy_pos (by rw [show 2 * P = 9007199254740992 from rfl]; omega) h0 he h1) w
theorem Sc_dy (m : Nat) (e : Int) (h : (m : Int) ≤ 9007199254740992) (he : -1074 ≤ e) (h1 : (blen m : Int) + e ≤ 1024) : Sc (F.dy m 0) (F.dy m e) e :=
  nat_Sc (by rw [show 2 * P = 9007199254740992 from rfl]; omega) he h1
theorem blen_54 (m : Nat) (h : (m : Int) ≤ 9007199254740992) : (blen m : Int) ≤ 54 := by
  have := blen_2P (m := m) (by rw [show 2 * P = 9007199254740992 from rfl]; omega)
  omega
theorem max_conv : floatOfInt .f64 9007199254740991 = (F.dy 9007199254740991 0).b := by decide +kernel
theorem max_Sc : Sc (F.dy 9007199254740991 0) F.max 971 := by
  have h := nat_Sc (m := 9007199254740991) (e := 971) (by decide) (by decide) (by decide)
  rw [dy_max] at h
  exact h

def TwoIs (r : F × Int) (x : Nat) (n : Int) : Prop := r.1.b = x ∧ r.2 = n
theorem ret_two {r : F × Int} {x : Nat} {n : Int} (h : TwoIs r x n) : Ending.returned (.tuple #[.float .f64 x, .int .i64 n]) = .returned (.tuple #[.float .f64 r.1.b, .int .i64 r.2]) := by rw [h.1, h.2]
section
variable {minus more up lost away : Bool} {e : Int} {n X m0 m : Nat}
theorem rndG_eq (hX : cutN n e = X) (h0 : n / 2 ^ X = m0) (hl : decide (n % 2 ^ X ≠ 0) = lost) (hm : mUp minus more up lost m0 = m) : rndG minus n more e up = rndOut minus (up != minus) m (e + X) := by
  subst hX h0 hl hm; rfl
theorem rnd_zero (hX : cutN n e = X) (h0 : n / 2 ^ X = m0) (hl : decide (n % 2 ^ X ≠ 0) = lost) (hm : mUp minus more up lost m0 = 0) : TwoIs (rndG minus n more e up) 0 0 := by
  rw [rndG_eq hX h0 hl hm]; unfold rndOut; rw [if_pos rfl]; exact ⟨b_zero, rfl⟩
theorem rnd_overT (hX : cutN n e = X) (h0 : n / 2 ^ X = m0) (hl : decide (n % 2 ^ X ≠ 0) = lost) (hm : mUp minus more up lost m0 = m) (hz : m ≠ 0) (g : 1024 < (blen m : Int) + (e + X)) (ha : (up != minus) = true) :
    TwoIs (rndG minus n more e up) 0 10 := by
  rw [rndG_eq hX h0 hl hm]; unfold rndOut; rw [if_neg hz, if_pos g, if_pos ha]; exact ⟨b_zero, rfl⟩
theorem rnd_overF (hX : cutN n e = X) (h0 : n / 2 ^ X = m0) (hl : decide (n % 2 ^ X ≠ 0) = lost) (hm : mUp minus more up lost m0 = m) (hz : m ≠ 0) (g : 1024 < (blen m : Int) + (e + X)) (ha : (up != minus) = false) :
    TwoIs (rndG minus n more e up) (F.turn minus F.max).b 0 := by
  rw [rndG_eq hX h0 hl hm]; unfold rndOut; rw [if_neg hz, if_pos g, if_neg (by simp [ha])]; exact ⟨rfl, rfl⟩
theorem rnd_mid (hX : cutN n e = X) (h0 : n / 2 ^ X = m0) (hl : decide (n % 2 ^ X ≠ 0) = lost) (hm : mUp minus more up lost m0 = m) (hz : m ≠ 0) (g : ¬ 1024 < (blen m : Int) + (e + X)) :
    TwoIs (rndG minus n more e up) (F.turn minus (F.dy m (e + X))).b 0 := by
  rw [rndG_eq hX h0 hl hm]; unfold rndOut; rw [if_neg hz, if_neg g]; exact ⟨rfl, rfl⟩
end
theorem rnd_overfalsefalse {more lost : Bool} {e : Int} {n X m0 m : Nat} (hX : cutN n e = X) (h0 : n / 2 ^ X = m0) (hl : decide (n % 2 ^ X ≠ 0) = lost) (hm : mUp false more false lost m0 = m) (hz : m ≠ 0) (g : 1024 < (blen m : Int) + (e + X)) :
    TwoIs (rndG false n more e false) F.max.b 0 := by have h := rnd_overF hX h0 hl hm hz g rfl; rw [turn_false] at h; exact h
theorem rnd_overfalsetrue {more lost : Bool} {e : Int} {n X m0 m : Nat} (hX : cutN n e = X) (h0 : n / 2 ^ X = m0) (hl : decide (n % 2 ^ X ≠ 0) = lost) (hm : mUp true more true lost m0 = m) (hz : m ≠ 0) (g : 1024 < (blen m : Int) + (e + X)) :
    TwoIs (rndG true n more e true) F.max.neg.b 0 := by have h := rnd_overF hX h0 hl hm hz g rfl; rw [turn_true] at h; exact h
theorem rnd_overtruefalse {more lost : Bool} {e : Int} {n X m0 m : Nat} (hX : cutN n e = X) (h0 : n / 2 ^ X = m0) (hl : decide (n % 2 ^ X ≠ 0) = lost) (hm : mUp false more true lost m0 = m) (hz : m ≠ 0) (g : 1024 < (blen m : Int) + (e + X)) :
    TwoIs (rndG false n more e true) 0 10 := rnd_overT hX h0 hl hm hz g rfl
theorem rnd_overtruetrue {more lost : Bool} {e : Int} {n X m0 m : Nat} (hX : cutN n e = X) (h0 : n / 2 ^ X = m0) (hl : decide (n % 2 ^ X ≠ 0) = lost) (hm : mUp true more false lost m0 = m) (hz : m ≠ 0) (g : 1024 < (blen m : Int) + (e + X)) :
    TwoIs (rndG true n more e false) 0 10 := rnd_overT hX h0 hl hm hz g rfl
theorem rnd_midfalse {more lost up : Bool} {e : Int} {n X m0 m : Nat} (hX : cutN n e = X) (h0 : n / 2 ^ X = m0) (hl : decide (n % 2 ^ X ≠ 0) = lost) (hm : mUp false more up lost m0 = m) (hz : m ≠ 0) (g : ¬ 1024 < (blen m : Int) + (e + X)) :
    TwoIs (rndG false n more e up) (F.dy m (e + X)).b 0 := by have h := rnd_mid hX h0 hl hm hz g; rw [turn_false] at h; exact h
theorem rnd_midtrue {more lost up : Bool} {e : Int} {n X m0 m : Nat} (hX : cutN n e = X) (h0 : n / 2 ^ X = m0) (hl : decide (n % 2 ^ X ≠ 0) = lost) (hm : mUp true more up lost m0 = m) (hz : m ≠ 0) (g : ¬ 1024 < (blen m : Int) + (e + X)) :
    TwoIs (rndG true n more e up) (F.dy m (e + X)).neg.b 0 := by have h := rnd_mid hX h0 hl hm hz g; rw [turn_true] at h; exact h

theorem size_i (a b : Int) (w : World) (ha : 0 ≤ a) (ha2 : a ≤ 18446744073709551615) (hb : 0 ≤ b) (hb2 : b ≤ 18446744073709551615) :
    Calls Try.prog 105 #[.agg #[.int .u64 a, .int .u64 b]] w fun e w' => e = .returned (.int .i64 (blen (wn a b))) ∧ Below w.heap.size w w' := by
  obtain ⟨x, rfl⟩ := Int.eq_ofNat_of_zero_le ha
  obtain ⟨y, rfl⟩ := Int.eq_ofNat_of_zero_le hb
  refine (size_w x y w ha2 hb2).mono ?_
  rintro e w' ⟨rfl, h⟩
  refine ⟨ret_int ?_, h⟩
  rw [lib_blen x (by omega), lib_blen y (by omega), blen_wn x y (by omega)]
  split <;> simp

@[go_sem] theorem build_exact (m o : Bool) (a b e : Int) (w : World) : (Instr.build 96 #[(0, .bool m), (1, .agg #[.int .u64 a, .int .u64 b]), (2, .bool o), (3, .int .i64 e)]).run Try.prog w = .ok (.agg #[.bool m, .int .u64 a, .int .u64 b, .bool o, .int .i64 e]) w := run_build w 96 _ _ (by kernel_rfl)

set_option maxRecDepth 100000 in
set_option maxHeartbeats 2000000 in
theorem rounded_w (minus more up : Bool) (a b e : Int) (w : World) (ha : 0 ≤ a) (ha2 : a ≤ 18446744073709551615) (hb : 0 ≤ b) (hb2 : b ≤ 18446744073709551615) (he1 : -5000 ≤ e) (he2 : e ≤ 5000) :
    Calls Try.prog 81 #[.agg #[.bool minus, .int .u64 a, .int .u64 b, .bool more, .int .i64 e], .bool up] w fun q w' => q = .returned (.tuple #[.float .f64 (rndG minus (wn a b) more e up).1.b, .int .i64 (rndG minus (wn a b) more e up).2]) ∧ Below w.heap.size w w' := by
  go_enter Try.func81, Try.ntmps81
  go_wp2_with fail
  generalize hW : World.alloc _ _ = W
  have c0 : W.cell? ⟨w.heap.size, 0, none⟩ = some (.bool minus) := by subst hW; simp (disch := (simp; try omega)) only [World.cell?_drew, World.cell?_alloc_at, World.cell?_alloc_past]; rfl
  have c1 : W.cell? ⟨w.heap.size, 1, none⟩ = some (.int .u64 a) := by subst hW; simp (disch := (simp; try omega)) only [World.cell?_drew, World.cell?_alloc_at, World.cell?_alloc_past]; rfl
  have c2 : W.cell? ⟨w.heap.size, 2, none⟩ = some (.int .u64 b) := by subst hW; simp (disch := (simp; try omega)) only [World.cell?_drew, World.cell?_alloc_at, World.cell?_alloc_past]; rfl
  have c3 : W.cell? ⟨w.heap.size, 3, none⟩ = some (.bool more) := by subst hW; simp (disch := (simp; try omega)) only [World.cell?_drew, World.cell?_alloc_at, World.cell?_alloc_past]; rfl
  have c4 : W.cell? ⟨w.heap.size, 4, none⟩ = some (.int .i64 e) := by subst hW; simp (disch := (simp; try omega)) only [World.cell?_drew, World.cell?_alloc_at, World.cell?_alloc_past]; rfl
  have hs : W.heap.size = w.heap.size + 1 := by rw [← hW]; simp
  have hB : Below w.heap.size w W := by rw [← hW]; exact (Below.refl _ _).alloc (Nat.le_refl _) _
  clear hW
  have HS := Lib.hid hs
  clear hs
  go_region_held3 (fun w' => w'.cell? ⟨w.heap.size, 0, none⟩ = some (.bool minus) ∧ w'.cell? ⟨w.heap.size, 1, none⟩ = some (.int .u64 a) ∧ w'.cell? ⟨w.heap.size, 2, none⟩ = some (.int .u64 b) ∧ w'.cell? ⟨w.heap.size, 3, none⟩ = some (.bool more) ∧ w'.cell? ⟨w.heap.size, 4, none⟩ = some (.int .i64 e))
    (first | go_keep | (refine ⟨?_, ?_, ?_, ?_, ?_⟩ <;> (rw [hcc _ _ (by have := HS.out; simp; omega)]; simpa using by assumption)))
    (first | (go_at_call 105; refine (size_i _ _ _ ha ha2 hb hb2).mono ?_; rintro e w1 ⟨rfl, hbb⟩; obtain ⟨hcc, hff⟩ := bcell hbb))
  have d0 : w1.cell? ⟨w.heap.size, 0, none⟩ = some (.bool minus) := by rw [hcc _ _ (by have := HS.out; simp; omega)]; exact c0
  have d1 : w1.cell? ⟨w.heap.size, 1, none⟩ = some (.int .u64 a) := by rw [hcc _ _ (by have := HS.out; simp; omega)]; exact c1
  have d2 : w1.cell? ⟨w.heap.size, 2, none⟩ = some (.int .u64 b) := by rw [hcc _ _ (by have := HS.out; simp; omega)]; exact c2
  have d3 : w1.cell? ⟨w.heap.size, 3, none⟩ = some (.bool more) := by rw [hcc _ _ (by have := HS.out; simp; omega)]; exact c3
  have d4 : w1.cell? ⟨w.heap.size, 4, none⟩ = some (.int .i64 e) := by rw [hcc _ _ (by have := HS.out; simp; omega)]; exact c4
  have hz1 : w.heap.size < w1.heap.size := by have := HS.out; have := hbb.size; simp at this; omega
  have hB1 : Below w.heap.size w w1 := hB.drew.trans (hbb.mono (by have := HS.out; simp; omega))
  generalize hC : (if _ < (0 : Int) then (0 : Int) else _) = C
  have hC2 : C = (cutN (wn a b) e : Int) := by
    have hl := blen_wn_le a b ha2 hb2
    rw [← hC, IntWalk.i64_in _ (by omega), IntWalk.i64_in _ (by omega)]
    unfold cutN
    split <;> split <;> omega
  have hC3 : cutN (wn a b) e ≤ 5000 := by
    have hl := blen_wn_le a b ha2 hb2
    unfold cutN; omega
  clear hC
  subst hC2
  clear c0 c1 c2 c3 c4 hB HS hbb hcc hff
  have L0 := cut_lt (wn a b) e
  have L1 : lo (wn a b / 2 ^ cutN (wn a b) e) = ((wn a b / 2 ^ cutN (wn a b) e : Nat) : Int) := by unfold lo; generalize wn a b / 2 ^ cutN (wn a b) e = u at *; omega
  have L2 : ((wn a b / 2 ^ cutN (wn a b) e : Nat) : Int) ≤ 9007199254740991 := by omega
  clear L0
  have J1 := Lib.hid L1
  clear L1
  go_wp2_with (first | (go_at_call 82; refine (down_w _ _ _ _ ha ha2 hb hb2).mono ?_; rintro e w2 ⟨rfl, hbb⟩; obtain ⟨hcc, hff⟩ := bcell hbb))
  have HL := Lib.hid (show decide (wn a b % 2 ^ cutN (wn a b) e ≠ 0) = (!decide (wn a b % 2 ^ cutN (wn a b) e = 0)) by simp)
  generalize hX : cutN (wn a b) e = X at *
  generalize (!decide (wn a b % 2 ^ X = 0)) = lost at *
  generalize hm0 : wn a b / 2 ^ X = m0 at *
  have K0 := Lib.hid hm0
  have KX := Lib.hid hX
  clear hm0 hX
  simp only [J1.out]
  generalize hW : World.alloc _ _ = W2
  have e0 : W2.cell? ⟨w.heap.size, 0, none⟩ = some (.bool minus) := by subst hW; rw [World.cell?_alloc_past _ _ _ (by have := hbb.size; omega), hcc _ _ hz1]; exact d0
  have e3 : W2.cell? ⟨w.heap.size, 3, none⟩ = some (.bool more) := by subst hW; rw [World.cell?_alloc_past _ _ _ (by have := hbb.size; omega), hcc _ _ hz1]; exact d3
  have e4 : W2.cell? ⟨w.heap.size, 4, none⟩ = some (.int .i64 e) := by subst hW; rw [World.cell?_alloc_past _ _ _ (by have := hbb.size; omega), hcc _ _ hz1]; exact d4
  have e5 : W2.cell? ⟨w2.heap.size, 1, none⟩ = some (.int .u64 m0) := by subst hW; rw [World.cell?_alloc_at _ _ _ _ rfl]; rfl
  have hB2 : Below w.heap.size w W2 := by rw [← hW]; exact (hB1.trans (hbb.mono (by omega))).alloc (by have := hbb.size; omega) _
  clear hW d0 d1 d2 d3 d4 hcc hff hbb hz1 hB1 ha ha2 hb hb2
  go_region
  by_cases hA : up = minus
  · subst hA
    have HM := Lib.hid (show mUp up more up lost m0 = m0 by unfold mUp; simp)
    cases up
    · as_aux_lemma =>
      by_cases z : m0 = 0
      · subst z
        have HR := Lib.hid (show TwoIs (rndG false (wn a b) more e false) 0 0 from rnd_zero KX.out K0.out HL.out HM.out)
        go_wp2_with (first | (go_at_call 72; refine (len64_w _ _ (by omega)).mono ?_; rintro e w' ⟨rfl, rfl⟩) | (go_at_call 17; refine (Ldexp_exact _ _ _ _ HSc.out).mono ?_; rintro e w' ⟨rfl, rfl⟩))
        go_ret2
        exact ⟨ret_two HR.out, hB2.drew⟩
      · have z' : (((m0 : Nat) : Int) == 0) = false := by rw [beq_eq_false_iff_ne]; omega
        have hbl := blen_54 m0 (by omega)
        have Z := Lib.hid z
        clear z
        by_cases g : 1024 < (blen m0 : Int) + (e + X)
        · have HR := Lib.hid (show TwoIs (rndG false (wn a b) more e false) F.max.b 0 from rnd_overfalsefalse KX.out K0.out HL.out HM.out Z.out g)
          have HSc := Lib.hid max_Sc
          have HC := max_conv
          have hne := run_unary_neg_F F.max (by rw [F.max_k]; omega)
          generalize F.max = y0 at *
          generalize F.dy 9007199254740991 0 = x0 at *
          go_wp2_with (first | (go_at_call 72; refine (len64_w _ _ (by omega)).mono ?_; rintro e w' ⟨rfl, rfl⟩) | (go_at_call 17; refine (Ldexp_exact _ _ _ _ HSc.out).mono ?_; rintro e w' ⟨rfl, rfl⟩))
          go_ret2
          exact ⟨ret_two HR.out, hB2.drew⟩
        · have hge : -1074 ≤ e + X := by have h1 := KX.out; unfold cutN at h1; omega
          have HR := Lib.hid (show TwoIs (rndG false (wn a b) more e false) (F.dy m0 (e + X)).b 0 from rnd_midfalse KX.out K0.out HL.out HM.out Z.out g)
          have HSc := Lib.hid (Sc_dy m0 (e + X) (by omega) hge (by omega))
          have HC := floatOfInt_dy m0 (by omega)
          have hne := neg_dy m0 (e + X) (by omega) Z.out hge (by omega)
          have g' : (blen m0 : Int) + (e + X) ≤ 1024 := by omega
          clear g
          generalize F.dy m0 0 = x0 at *
          generalize F.dy m0 (e + X) = y0 at *
          go_wp2_with (first | (go_at_call 72; refine (len64_w _ _ (by omega)).mono ?_; rintro e w' ⟨rfl, rfl⟩) | (go_at_call 17; refine (Ldexp_exact _ _ _ _ HSc.out).mono ?_; rintro e w' ⟨rfl, rfl⟩))
          go_ret2
          exact ⟨ret_two HR.out, hB2.drew⟩
    · as_aux_lemma =>
      by_cases z : m0 = 0
      · subst z
        have HR := Lib.hid (show TwoIs (rndG true (wn a b) more e true) 0 0 from rnd_zero KX.out K0.out HL.out HM.out)
        go_wp2_with (first | (go_at_call 72; refine (len64_w _ _ (by omega)).mono ?_; rintro e w' ⟨rfl, rfl⟩) | (go_at_call 17; refine (Ldexp_exact _ _ _ _ HSc.out).mono ?_; rintro e w' ⟨rfl, rfl⟩))
        go_ret2
        exact ⟨ret_two HR.out, hB2.drew⟩
      · have z' : (((m0 : Nat) : Int) == 0) = false := by rw [beq_eq_false_iff_ne]; omega
        have hbl := blen_54 m0 (by omega)
        have Z := Lib.hid z
        clear z
        by_cases g : 1024 < (blen m0 : Int) + (e + X)
        · have HR := Lib.hid (show TwoIs (rndG true (wn a b) more e true) F.max.neg.b 0 from rnd_overfalsetrue KX.out K0.out HL.out HM.out Z.out g)
          have HSc := Lib.hid max_Sc
          have HC := max_conv
          have hne := run_unary_neg_F F.max (by rw [F.max_k]; omega)
          generalize F.max = y0 at *
          generalize F.dy 9007199254740991 0 = x0 at *
          go_wp2_with (first | (go_at_call 72; refine (len64_w _ _ (by omega)).mono ?_; rintro e w' ⟨rfl, rfl⟩) | (go_at_call 17; refine (Ldexp_exact _ _ _ _ HSc.out).mono ?_; rintro e w' ⟨rfl, rfl⟩))
          go_ret2
          exact ⟨ret_two HR.out, hB2.drew⟩
        · have hge : -1074 ≤ e + X := by have h1 := KX.out; unfold cutN at h1; omega
          have HR := Lib.hid (show TwoIs (rndG true (wn a b) more e true) (F.dy m0 (e + X)).neg.b 0 from rnd_midtrue KX.out K0.out HL.out HM.out Z.out g)
          have HSc := Lib.hid (Sc_dy m0 (e + X) (by omega) hge (by omega))
          have HC := floatOfInt_dy m0 (by omega)
          have hne := neg_dy m0 (e + X) (by omega) Z.out hge (by omega)
          have g' : (blen m0 : Int) + (e + X) ≤ 1024 := by omega
          clear g
          generalize F.dy m0 0 = x0 at *
          generalize F.dy m0 (e + X) = y0 at *
          go_wp2_with (first | (go_at_call 72; refine (len64_w _ _ (by omega)).mono ?_; rintro e w' ⟨rfl, rfl⟩) | (go_at_call 17; refine (Ldexp_exact _ _ _ _ HSc.out).mono ?_; rintro e w' ⟨rfl, rfl⟩))
          go_ret2
          exact ⟨ret_two HR.out, hB2.drew⟩
  · cases up <;> cases minus
    · exact absurd rfl hA
    · clear hA
      cases lost
      · cases more
        · as_aux_lemma =>
          have HM := Lib.hid (show mUp true false false false m0 = m0 from rfl)
          by_cases z : m0 = 0
          · subst z
            have HR := Lib.hid (show TwoIs (rndG true (wn a b) false e false) 0 0 from rnd_zero KX.out K0.out HL.out HM.out)
            go_wp2_with (first | (go_at_call 72; refine (len64_w _ _ (by omega)).mono ?_; rintro e w' ⟨rfl, rfl⟩) | (go_at_call 17; refine (Ldexp_exact _ _ _ _ HSc.out).mono ?_; rintro e w' ⟨rfl, rfl⟩))
            go_ret2
            exact ⟨ret_two HR.out, hB2.drew⟩
          · have z' : (((m0 : Nat) : Int) == 0) = false := by rw [beq_eq_false_iff_ne]; omega
            have hbl := blen_54 m0 (by omega)
            have Z := Lib.hid z
            clear z
            by_cases g : 1024 < (blen m0 : Int) + (e + X)
            · have HR := Lib.hid (show TwoIs (rndG true (wn a b) false e false) 0 10 from rnd_overtruetrue KX.out K0.out HL.out HM.out Z.out g)
              have HSc := Lib.hid max_Sc
              have HC := max_conv
              have hne := run_unary_neg_F F.max (by rw [F.max_k]; omega)
              generalize F.max = y0 at *
              generalize F.dy 9007199254740991 0 = x0 at *
              go_wp2_with (first | (go_at_call 72; refine (len64_w _ _ (by omega)).mono ?_; rintro e w' ⟨rfl, rfl⟩) | (go_at_call 17; refine (Ldexp_exact _ _ _ _ HSc.out).mono ?_; rintro e w' ⟨rfl, rfl⟩))
              go_ret2
              exact ⟨ret_two HR.out, hB2.drew⟩
            · have hge : -1074 ≤ e + X := by have h1 := KX.out; unfold cutN at h1; omega
              have HR := Lib.hid (show TwoIs (rndG true (wn a b) false e false) (F.dy m0 (e + X)).neg.b 0 from rnd_midtrue KX.out K0.out HL.out HM.out Z.out g)
              have HSc := Lib.hid (Sc_dy m0 (e + X) (by omega) hge (by omega))
              have HC := floatOfInt_dy m0 (by omega)
              have hne := neg_dy m0 (e + X) (by omega) Z.out hge (by omega)
              have g' : (blen m0 : Int) + (e + X) ≤ 1024 := by omega
              clear g
              generalize F.dy m0 0 = x0 at *
              generalize F.dy m0 (e + X) = y0 at *
              go_wp2_with (first | (go_at_call 72; refine (len64_w _ _ (by omega)).mono ?_; rintro e w' ⟨rfl, rfl⟩) | (go_at_call 17; refine (Ldexp_exact _ _ _ _ HSc.out).mono ?_; rintro e w' ⟨rfl, rfl⟩))
              go_ret2
              exact ⟨ret_two HR.out, hB2.drew⟩
        · as_aux_lemma =>
          have HM := Lib.hid (show mUp true true false false m0 = m0 + 1 by rfl)
          have z' : (((m0 : Nat) : Int) + 1 == 0) = false := by rw [beq_eq_false_iff_ne]; omega
          go_wp2_with fail
          have Z := Lib.hid (show m0 + 1 ≠ 0 by omega)
          have hbl := blen_54 (m0 + 1) (by omega)
          have hm2 : ((m0 + 1 : Nat) : Int) ≤ 9007199254740992 := by omega
          simp only [show ((m0 : Nat) : Int) + 1 = ((m0 + 1 : Nat) : Int) from by omega] at z' ⊢
          generalize m0 + 1 = m at *
          by_cases g : 1024 < (blen m : Int) + (e + X)
          · have HR := Lib.hid (show TwoIs (rndG true (wn a b) true e false) 0 10 from rnd_overtruetrue KX.out K0.out HL.out HM.out Z.out g)
            have HSc := Lib.hid max_Sc
            have HC := max_conv
            have hne := run_unary_neg_F F.max (by rw [F.max_k]; omega)
            generalize F.max = y0 at *
            generalize F.dy 9007199254740991 0 = x0 at *
            go_wp2_with (first | (go_at_call 72; refine (len64_w _ _ (by omega)).mono ?_; rintro e w' ⟨rfl, rfl⟩) | (go_at_call 17; refine (Ldexp_exact _ _ _ _ HSc.out).mono ?_; rintro e w' ⟨rfl, rfl⟩))
            go_ret2
            exact ⟨ret_two HR.out, hB2.drew⟩
          · have hge : -1074 ≤ e + X := by have h1 := KX.out; unfold cutN at h1; omega
            have HR := Lib.hid (show TwoIs (rndG true (wn a b) true e false) (F.dy m (e + X)).neg.b 0 from rnd_midtrue KX.out K0.out HL.out HM.out Z.out g)
            have HSc := Lib.hid (Sc_dy m (e + X) (by omega) hge (by omega))
            have HC := floatOfInt_dy m (by omega)
            have hne := neg_dy m (e + X) (by omega) Z.out hge (by omega)
            have g' : (blen m : Int) + (e + X) ≤ 1024 := by omega
            clear g
            generalize F.dy m 0 = x0 at *
            generalize F.dy m (e + X) = y0 at *
            go_wp2_with (first | (go_at_call 72; refine (len64_w _ _ (by omega)).mono ?_; rintro e w' ⟨rfl, rfl⟩) | (go_at_call 17; refine (Ldexp_exact _ _ _ _ HSc.out).mono ?_; rintro e w' ⟨rfl, rfl⟩))
            go_ret2
            exact ⟨ret_two HR.out, hB2.drew⟩
      · as_aux_lemma =>
        have HM := Lib.hid (show mUp true more false true m0 = m0 + 1 by rfl)
        have z' : (((m0 : Nat) : Int) + 1 == 0) = false := by rw [beq_eq_false_iff_ne]; omega
        go_wp2_with fail
        have Z := Lib.hid (show m0 + 1 ≠ 0 by omega)
        have hbl := blen_54 (m0 + 1) (by omega)
        have hm2 : ((m0 + 1 : Nat) : Int) ≤ 9007199254740992 := by omega
        simp only [show ((m0 : Nat) : Int) + 1 = ((m0 + 1 : Nat) : Int) from by omega] at z' ⊢
        generalize m0 + 1 = m at *
        by_cases g : 1024 < (blen m : Int) + (e + X)
        · have HR := Lib.hid (show TwoIs (rndG true (wn a b) more e false) 0 10 from rnd_overtruetrue KX.out K0.out HL.out HM.out Z.out g)
          have HSc := Lib.hid max_Sc
          have HC := max_conv
          have hne := run_unary_neg_F F.max (by rw [F.max_k]; omega)
          generalize F.max = y0 at *
          generalize F.dy 9007199254740991 0 = x0 at *
          go_wp2_with (first | (go_at_call 72; refine (len64_w _ _ (by omega)).mono ?_; rintro e w' ⟨rfl, rfl⟩) | (go_at_call 17; refine (Ldexp_exact _ _ _ _ HSc.out).mono ?_; rintro e w' ⟨rfl, rfl⟩))
          go_ret2
          exact ⟨ret_two HR.out, hB2.drew⟩
        · have hge : -1074 ≤ e + X := by have h1 := KX.out; unfold cutN at h1; omega
          have HR := Lib.hid (show TwoIs (rndG true (wn a b) more e false) (F.dy m (e + X)).neg.b 0 from rnd_midtrue KX.out K0.out HL.out HM.out Z.out g)
          have HSc := Lib.hid (Sc_dy m (e + X) (by omega) hge (by omega))
          have HC := floatOfInt_dy m (by omega)
          have hne := neg_dy m (e + X) (by omega) Z.out hge (by omega)
          have g' : (blen m : Int) + (e + X) ≤ 1024 := by omega
          clear g
          generalize F.dy m 0 = x0 at *
          generalize F.dy m (e + X) = y0 at *
          go_wp2_with (first | (go_at_call 72; refine (len64_w _ _ (by omega)).mono ?_; rintro e w' ⟨rfl, rfl⟩) | (go_at_call 17; refine (Ldexp_exact _ _ _ _ HSc.out).mono ?_; rintro e w' ⟨rfl, rfl⟩))
          go_ret2
          exact ⟨ret_two HR.out, hB2.drew⟩
    · clear hA
      cases lost
      · cases more
        · as_aux_lemma =>
          have HM := Lib.hid (show mUp false false true false m0 = m0 from rfl)
          by_cases z : m0 = 0
          · subst z
            have HR := Lib.hid (show TwoIs (rndG false (wn a b) false e true) 0 0 from rnd_zero KX.out K0.out HL.out HM.out)
            go_wp2_with (first | (go_at_call 72; refine (len64_w _ _ (by omega)).mono ?_; rintro e w' ⟨rfl, rfl⟩) | (go_at_call 17; refine (Ldexp_exact _ _ _ _ HSc.out).mono ?_; rintro e w' ⟨rfl, rfl⟩))
            go_ret2
            exact ⟨ret_two HR.out, hB2.drew⟩
          · have z' : (((m0 : Nat) : Int) == 0) = false := by rw [beq_eq_false_iff_ne]; omega
            have hbl := blen_54 m0 (by omega)
            have Z := Lib.hid z
            clear z
            by_cases g : 1024 < (blen m0 : Int) + (e + X)
            · have HR := Lib.hid (show TwoIs (rndG false (wn a b) false e true) 0 10 from rnd_overtruefalse KX.out K0.out HL.out HM.out Z.out g)
              have HSc := Lib.hid max_Sc
              have HC := max_conv
              have hne := run_unary_neg_F F.max (by rw [F.max_k]; omega)
              generalize F.max = y0 at *
              generalize F.dy 9007199254740991 0 = x0 at *
              go_wp2_with (first | (go_at_call 72; refine (len64_w _ _ (by omega)).mono ?_; rintro e w' ⟨rfl, rfl⟩) | (go_at_call 17; refine (Ldexp_exact _ _ _ _ HSc.out).mono ?_; rintro e w' ⟨rfl, rfl⟩))
              go_ret2
              exact ⟨ret_two HR.out, hB2.drew⟩
            · have hge : -1074 ≤ e + X := by have h1 := KX.out; unfold cutN at h1; omega
              have HR := Lib.hid (show TwoIs (rndG false (wn a b) false e true) (F.dy m0 (e + X)).b 0 from rnd_midfalse KX.out K0.out HL.out HM.out Z.out g)
              have HSc := Lib.hid (Sc_dy m0 (e + X) (by omega) hge (by omega))
              have HC := floatOfInt_dy m0 (by omega)
              have hne := neg_dy m0 (e + X) (by omega) Z.out hge (by omega)
              have g' : (blen m0 : Int) + (e + X) ≤ 1024 := by omega
              clear g
              generalize F.dy m0 0 = x0 at *
              generalize F.dy m0 (e + X) = y0 at *
              go_wp2_with (first | (go_at_call 72; refine (len64_w _ _ (by omega)).mono ?_; rintro e w' ⟨rfl, rfl⟩) | (go_at_call 17; refine (Ldexp_exact _ _ _ _ HSc.out).mono ?_; rintro e w' ⟨rfl, rfl⟩))
              go_ret2
              exact ⟨ret_two HR.out, hB2.drew⟩
        · as_aux_lemma =>
          have HM := Lib.hid (show mUp false true true false m0 = m0 + 1 by rfl)
          have z' : (((m0 : Nat) : Int) + 1 == 0) = false := by rw [beq_eq_false_iff_ne]; omega
          go_wp2_with fail
          have Z := Lib.hid (show m0 + 1 ≠ 0 by omega)
          have hbl := blen_54 (m0 + 1) (by omega)
          have hm2 : ((m0 + 1 : Nat) : Int) ≤ 9007199254740992 := by omega
          simp only [show ((m0 : Nat) : Int) + 1 = ((m0 + 1 : Nat) : Int) from by omega] at z' ⊢
          generalize m0 + 1 = m at *
          by_cases g : 1024 < (blen m : Int) + (e + X)
          · have HR := Lib.hid (show TwoIs (rndG false (wn a b) true e true) 0 10 from rnd_overtruefalse KX.out K0.out HL.out HM.out Z.out g)
            have HSc := Lib.hid max_Sc
            have HC := max_conv
            have hne := run_unary_neg_F F.max (by rw [F.max_k]; omega)
            generalize F.max = y0 at *
            generalize F.dy 9007199254740991 0 = x0 at *
            go_wp2_with (first | (go_at_call 72; refine (len64_w _ _ (by omega)).mono ?_; rintro e w' ⟨rfl, rfl⟩) | (go_at_call 17; refine (Ldexp_exact _ _ _ _ HSc.out).mono ?_; rintro e w' ⟨rfl, rfl⟩))
            go_ret2
            exact ⟨ret_two HR.out, hB2.drew⟩
          · have hge : -1074 ≤ e + X := by have h1 := KX.out; unfold cutN at h1; omega
            have HR := Lib.hid (show TwoIs (rndG false (wn a b) true e true) (F.dy m (e + X)).b 0 from rnd_midfalse KX.out K0.out HL.out HM.out Z.out g)
            have HSc := Lib.hid (Sc_dy m (e + X) (by omega) hge (by omega))
            have HC := floatOfInt_dy m (by omega)
            have hne := neg_dy m (e + X) (by omega) Z.out hge (by omega)
            have g' : (blen m : Int) + (e + X) ≤ 1024 := by omega
            clear g
            generalize F.dy m 0 = x0 at *
            generalize F.dy m (e + X) = y0 at *
            go_wp2_with (first | (go_at_call 72; refine (len64_w _ _ (by omega)).mono ?_; rintro e w' ⟨rfl, rfl⟩) | (go_at_call 17; refine (Ldexp_exact _ _ _ _ HSc.out).mono ?_; rintro e w' ⟨rfl, rfl⟩))
            go_ret2
            exact ⟨ret_two HR.out, hB2.drew⟩
      · as_aux_lemma =>
        have HM := Lib.hid (show mUp false more true true m0 = m0 + 1 by rfl)
        have z' : (((m0 : Nat) : Int) + 1 == 0) = false := by rw [beq_eq_false_iff_ne]; omega
        go_wp2_with fail
        have Z := Lib.hid (show m0 + 1 ≠ 0 by omega)
        have hbl := blen_54 (m0 + 1) (by omega)
        have hm2 : ((m0 + 1 : Nat) : Int) ≤ 9007199254740992 := by omega
        simp only [show ((m0 : Nat) : Int) + 1 = ((m0 + 1 : Nat) : Int) from by omega] at z' ⊢
        generalize m0 + 1 = m at *
        by_cases g : 1024 < (blen m : Int) + (e + X)
        · have HR := Lib.hid (show TwoIs (rndG false (wn a b) more e true) 0 10 from rnd_overtruefalse KX.out K0.out HL.out HM.out Z.out g)
          have HSc := Lib.hid max_Sc
          have HC := max_conv
          have hne := run_unary_neg_F F.max (by rw [F.max_k]; omega)
          generalize F.max = y0 at *
          generalize F.dy 9007199254740991 0 = x0 at *
          go_wp2_with (first | (go_at_call 72; refine (len64_w _ _ (by omega)).mono ?_; rintro e w' ⟨rfl, rfl⟩) | (go_at_call 17; refine (Ldexp_exact _ _ _ _ HSc.out).mono ?_; rintro e w' ⟨rfl, rfl⟩))
          go_ret2
          exact ⟨ret_two HR.out, hB2.drew⟩
        · have hge : -1074 ≤ e + X := by have h1 := KX.out; unfold cutN at h1; omega
          have HR := Lib.hid (show TwoIs (rndG false (wn a b) more e true) (F.dy m (e + X)).b 0 from rnd_midfalse KX.out K0.out HL.out HM.out Z.out g)
          have HSc := Lib.hid (Sc_dy m (e + X) (by omega) hge (by omega))
          have HC := floatOfInt_dy m (by omega)
          have hne := neg_dy m (e + X) (by omega) Z.out hge (by omega)
          have g' : (blen m : Int) + (e + X) ≤ 1024 := by omega
          clear g
          generalize F.dy m 0 = x0 at *
          generalize F.dy m (e + X) = y0 at *
          go_wp2_with (first | (go_at_call 72; refine (len64_w _ _ (by omega)).mono ?_; rintro e w' ⟨rfl, rfl⟩) | (go_at_call 17; refine (Ldexp_exact _ _ _ _ HSc.out).mono ?_; rintro e w' ⟨rfl, rfl⟩))
          go_ret2
          exact ⟨ret_two HR.out, hB2.drew⟩
    · exact absurd rfl hA

theorem rounded_n (minus more up : Bool) (n : Nat) (e : Int) (w : World) (hb2 : (n : Int) ≤ 18446744073709551615) (he1 : -5000 ≤ e) (he2 : e ≤ 5000) :
    Calls Try.prog 81 #[.agg #[.bool minus, .int .u64 0, .int .u64 n, .bool more, .int .i64 e], .bool up] w fun q w' => q = .returned (.tuple #[.float .f64 (rndG minus n more e up).1.b, .int .i64 (rndG minus n more e up).2]) ∧ Below w.heap.size w w' := by
  have h := rounded_w minus more up 0 n e w (by omega) (by omega) (by omega) hb2 he1 he2
  have e1 : wn 0 (n : Int) = n := by unfold wn; simp
  rw [e1] at h
  exact h
end Go.Proofs.Ytiipaicbbmkagaa
