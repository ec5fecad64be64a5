/- The law UnitOf, walked. -/
import Derived.Test.YtkgpcnehffiifaaUl
namespace Go.Proofs.Ytkgpcnehffiifaa
set_option linter.all false
open Go.RowKit Bu
/-- the place of 1 -/
def K1 : Int := 4607182418800017408
theorem K1_eq : K1 = 4607182418800017408 := rfl
@[local go_sem] theorem fordK_lt (x : F) : (FloatKind.f64.format.order x.b 4607182418800017408 == some .lt) = decide (x.k < K1) := ford1_lt x
@[local go_sem] theorem fordK_gt (x : F) : (FloatKind.f64.format.order x.b 4607182418800017408 == some .gt) = decide (K1 < x.k) := ford1_gt x
@[local go_sem] theorem fordK_eq (x : F) : (FloatKind.f64.format.order x.b 4607182418800017408 == some .eq) = decide (x.k = K1) := ford1_eq x
attribute [irreducible] K1
attribute [local irreducible] F.b
attribute [local go_sem] ford0_lt ford0_eq ford0_gt

@[local go_sem] theorem ford_ne (x y : F) : (FloatKind.f64.format.order x.b y.b != some .eq) = !decide (x.k = y.k) := by
  rw [bne, ford_eq]

structure Small (N : Nat) : Prop where
  out : (N : Int) < 18446744073709551616
def Awake3 : Prop := ∀ w, Calls Try.prog 10 #[] w fun e w' => e = .returned (.bool true) ∧ Below w.heap.size w w'

theorem of_facts {p : Nat} {x y n X : F} {N : Nat} (hp : (p : Int) ≤ 18446744073709551615) (h : UFacts p x y n X N) (w : World) :
    Calls Try.prog 7 #[.int .u64 p] w fun e w' => e = .returned (.agg #[.float .f64 x.b, .float .f64 y.b]) ∧ Below w.heap.size w w' := by
  have := unitOf_w p hp w
  rw [h.of] at this
  exact this
theorem next_facts {p : Nat} {x y n X : F} {N : Nat} (h : UFacts p x y n X N) (w : World) :
    Calls Try.prog 8 #[.float .f64 x.b, .bool true] w fun e w' => e = .returned (.tuple #[.float .f64 n.b, .int .i64 0]) ∧ Below w.heap.size w w' := by
  have := next_F x true w
  rw [h.nx, h.nx2] at this
  exact this

set_option maxRecDepth 100000 in
set_option maxHeartbeats 2000000 in
theorem unitOf_law (haw : Awake3) (u v p q : Nat) (hu : (u : Int) ≤ 18446744073709551615) (hv : (v : Int) ≤ 18446744073709551615) (h1 : min (u : Int) (v : Int) = p) (h2 : max (u : Int) (v : Int) = q) (w : World) :
    Calls Try.prog 3 #[.int .u64 u, .int .u64 v] w fun e w' => e = .returned (.bool true) ∧ Below w.heap.size w w' := by
  have HAW := Lib.hid (show ∀ w, Calls Try.prog 10 #[] w fun e w' => e = .returned (.bool true) ∧ Below w.heap.size w w' from haw)
  have H1 := Lib.hid h1
  have H2 := Lib.hid h2
  have hpq : p ≤ q := by omega
  have hq : (q : Int) ≤ 18446744073709551615 := by omega
  have hp : (p : Int) ≤ 18446744073709551615 := by omega
  obtain ⟨x, y, n, X, N, fp⟩ := unit_facts p (by omega)
  obtain ⟨x', y', n', X', N', fq⟩ := unit_facts q (by omega)
  have hm := unit_mono hpq (by omega)
  have hm1 : x.k ≤ x'.k := by
    have a : (unitOf p).lo = x := by rw [fp.of]
    have b : (unitOf q).lo = x' := by rw [fq.of]
    have := hm.1
    rw [← a, ← b]; exact this
  have hm2 : y.k ≤ y'.k := by
    have a : (unitOf p).hi = y := by rw [fp.of]
    have b : (unitOf q).hi = y' := by rw [fq.of]
    have := hm.2
    rw [← a, ← b]; exact this
  have HP := Lib.hid (fun w => of_facts hp fp w)
  have HQ := Lib.hid (fun w => of_facts hq fq w)
  have HN := Lib.hid (fun w => next_facts fp w)
  have HL := Lib.hid (fun w => Ldexp_exact x X 64 w fp.sc)
  have hcv := toInt_u64 X N fp.X0 fp.XN fp.NL
  have f1 := fp.lo
  have f2 : x.k < K1 := by rw [K1_eq]; exact fp.lt
  have f3 : y.k ≤ K1 := by rw [K1_eq]; exact fp.hi
  have f4 := fp.nk
  have F5 : Small N := ⟨by have := fp.NL; omega⟩
  have F4 := Lib.hid f4
  clear haw h1 h2 hpq hm fq
  rcases fp.cs with ⟨rfl, rfl⟩ | ⟨rfl, hN, hY⟩
  · clear fp f4
    have HL2 := HL
    go_enter Try.func3, Try.ntmps3
    go_upto_region 4 with (first | (rw [H1.out, H2.out]) | (go_at_call 7; first | ((with_reducible refine (HP.out _).mono ?_); rintro e wp ⟨rfl, hbp⟩) | ((with_reducible refine (HQ.out _).mono ?_); rintro e wq ⟨rfl, hbq⟩)) | (go_at_call 8; refine (HN.out _).mono ?_; rintro e wn ⟨rfl, hbn⟩; obtain ⟨hcc, hff⟩ := bcell hbn))
    have k0 : wn.cell? ⟨wq.heap.size, 0, none⟩ = some (.float .f64 (y).b) := by rw [hcc _ _ (by simp; try omega)]; simp (disch := (simp; try omega)) only [World.cell?_alloc_at, World.cell?_alloc_past]; rfl
    have k1 : wn.cell? ⟨wq.heap.size, 1, none⟩ = some (.float .f64 (y).b) := by rw [hcc _ _ (by simp; try omega)]; simp (disch := (simp; try omega)) only [World.cell?_alloc_at, World.cell?_alloc_past]; rfl
    have k2 : wn.cell? ⟨wq.heap.size+1, 0, none⟩ = some (.float .f64 (x').b) := by rw [hcc _ _ (by simp; try omega)]; simp (disch := (simp; try omega)) only [World.cell?_alloc_at, World.cell?_alloc_past]; rfl
    have k3 : wn.cell? ⟨wq.heap.size+1, 1, none⟩ = some (.float .f64 (y').b) := by rw [hcc _ _ (by simp; try omega)]; simp (disch := (simp; try omega)) only [World.cell?_alloc_at, World.cell?_alloc_past]; rfl
    have HBN := Lib.hid hbn
    clear hcc hff hbn hu hv hq hp
    go_wp2_with (first | (go_at_call 9; first | ((with_reducible refine (HL.out _).mono ?_); rintro e w' ⟨rfl, rfl⟩) | ((with_reducible refine (HL2.out _).mono ?_); rintro e w' ⟨rfl, rfl⟩)) | (go_at_call 10; refine (HAW.out _).mono ?_; rintro e wa ⟨rfl, hba⟩))
    go_ret
    refine ⟨ret_bool rfl, ?_⟩
    have h1 := hbp.size
    have h2 := hbq.size
    have h3 := HBN.out.size
    simp at h3
    refine Below.trans ?_ (hba.mono (by omega))
    refine Below.trans ?_ (HBN.out.mono (by simp; omega))
    exact ((hbp.trans (hbq.mono hbp.size)).alloc (by omega) _).alloc (by simp; omega) _
  · clear fp
    have f6 : x.k < y.k := by omega
    have f7 : (N : Int) < p := by omega
    clear f4
    by_cases hk : y.k < K1
    · obtain ⟨Y, M, g1, g2, g3, g4, g5⟩ := hY (by rw [← K1_eq]; exact hk)
      have HL2 := Lib.hid (fun w => Ldexp_exact y Y 64 w g1)
      have hcv2 := toInt_u64 Y M g2 g3 g4
      have f8 : (p : Int) < M := by omega
      have F9 : Small M := ⟨by omega⟩
      clear g1 g2 g3 g4 g5 hY hN
      go_enter Try.func3, Try.ntmps3
      go_upto_region 4 with (first | (rw [H1.out, H2.out]) | (go_at_call 7; first | ((with_reducible refine (HP.out _).mono ?_); rintro e wp ⟨rfl, hbp⟩) | ((with_reducible refine (HQ.out _).mono ?_); rintro e wq ⟨rfl, hbq⟩)) | (go_at_call 8; refine (HN.out _).mono ?_; rintro e wn ⟨rfl, hbn⟩; obtain ⟨hcc, hff⟩ := bcell hbn))
      have k0 : wn.cell? ⟨wq.heap.size, 0, none⟩ = some (.float .f64 (x).b) := by rw [hcc _ _ (by simp; try omega)]; simp (disch := (simp; try omega)) only [World.cell?_alloc_at, World.cell?_alloc_past]; rfl
      have k1 : wn.cell? ⟨wq.heap.size, 1, none⟩ = some (.float .f64 (y).b) := by rw [hcc _ _ (by simp; try omega)]; simp (disch := (simp; try omega)) only [World.cell?_alloc_at, World.cell?_alloc_past]; rfl
      have k2 : wn.cell? ⟨wq.heap.size+1, 0, none⟩ = some (.float .f64 (x').b) := by rw [hcc _ _ (by simp; try omega)]; simp (disch := (simp; try omega)) only [World.cell?_alloc_at, World.cell?_alloc_past]; rfl
      have k3 : wn.cell? ⟨wq.heap.size+1, 1, none⟩ = some (.float .f64 (y').b) := by rw [hcc _ _ (by simp; try omega)]; simp (disch := (simp; try omega)) only [World.cell?_alloc_at, World.cell?_alloc_past]; rfl
      have HBN := Lib.hid hbn
      clear hcc hff hbn hu hv hq hp
      go_wp2_with (first | (go_at_call 9; first | ((with_reducible refine (HL.out _).mono ?_); rintro e w' ⟨rfl, rfl⟩) | ((with_reducible refine (HL2.out _).mono ?_); rintro e w' ⟨rfl, rfl⟩)) | (go_at_call 10; refine (HAW.out _).mono ?_; rintro e wa ⟨rfl, hba⟩))
      go_ret
      refine ⟨ret_bool rfl, ?_⟩
      have h1 := hbp.size
      have h2 := hbq.size
      have h3 := HBN.out.size
      simp at h3
      refine Below.trans ?_ (hba.mono (by omega))
      refine Below.trans ?_ (HBN.out.mono (by simp; omega))
      exact ((hbp.trans (hbq.mono hbp.size)).alloc (by omega) _).alloc (by simp; omega) _
    · have hk1 : y.k = K1 := by omega
      have HL2 := HL
      have hw : IntKind.u64.wrap ((p : Int) - N) = p - N := by rw [IntKind.wrap_u64]; exact Int.emod_eq_of_lt (by omega) (by omega)
      have f10 : (0 : Int) < p - N := by omega
      clear hY hN hk f3
      go_enter Try.func3, Try.ntmps3
      go_upto_region 4 with (first | (rw [H1.out, H2.out]) | (go_at_call 7; first | ((with_reducible refine (HP.out _).mono ?_); rintro e wp ⟨rfl, hbp⟩) | ((with_reducible refine (HQ.out _).mono ?_); rintro e wq ⟨rfl, hbq⟩)) | (go_at_call 8; refine (HN.out _).mono ?_; rintro e wn ⟨rfl, hbn⟩; obtain ⟨hcc, hff⟩ := bcell hbn))
      have k0 : wn.cell? ⟨wq.heap.size, 0, none⟩ = some (.float .f64 (x).b) := by rw [hcc _ _ (by simp; try omega)]; simp (disch := (simp; try omega)) only [World.cell?_alloc_at, World.cell?_alloc_past]; rfl
      have k1 : wn.cell? ⟨wq.heap.size, 1, none⟩ = some (.float .f64 (y).b) := by rw [hcc _ _ (by simp; try omega)]; simp (disch := (simp; try omega)) only [World.cell?_alloc_at, World.cell?_alloc_past]; rfl
      have k2 : wn.cell? ⟨wq.heap.size+1, 0, none⟩ = some (.float .f64 (x').b) := by rw [hcc _ _ (by simp; try omega)]; simp (disch := (simp; try omega)) only [World.cell?_alloc_at, World.cell?_alloc_past]; rfl
      have k3 : wn.cell? ⟨wq.heap.size+1, 1, none⟩ = some (.float .f64 (y').b) := by rw [hcc _ _ (by simp; try omega)]; simp (disch := (simp; try omega)) only [World.cell?_alloc_at, World.cell?_alloc_past]; rfl
      have HBN := Lib.hid hbn
      clear hcc hff hbn hu hv hq hp
      go_wp2_with (first | (go_at_call 9; first | ((with_reducible refine (HL.out _).mono ?_); rintro e w' ⟨rfl, rfl⟩) | ((with_reducible refine (HL2.out _).mono ?_); rintro e w' ⟨rfl, rfl⟩)) | (go_at_call 10; refine (HAW.out _).mono ?_; rintro e wa ⟨rfl, hba⟩))
      go_ret
      refine ⟨ret_bool rfl, ?_⟩
      have h1 := hbp.size
      have h2 := hbq.size
      have h3 := HBN.out.size
      simp at h3
      refine Below.trans ?_ (hba.mono (by omega))
      refine Below.trans ?_ (HBN.out.mono (by simp; omega))
      exact ((hbp.trans (hbq.mono hbp.size)).alloc (by omega) _).alloc (by simp; omega) _
end Go.Proofs.Ytkgpcnehffiifaa
