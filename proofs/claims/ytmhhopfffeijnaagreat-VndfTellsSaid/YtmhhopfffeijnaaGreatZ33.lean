/- vndf.Draw and burnishref13.Draw on any words: the same (written by genraw.py). burnishref13.Draw on any words; both draws as known functions (written by genraw2.py). vndf.Density and burnishref13.Density on any words: the same known function (written by genraw3.py). -/
import Derived.Test.YtmhhopfffeijnaaGreatZ32
namespace Bu
set_option linter.all false
open Rx Go

/-- a word -/
def rawW : SV → Option Nat
  | .f a => some a
  | .fl x => some x.b
  | _ => none
def rawsW : List SV → Option (List Nat)
  | [] => some []
  | x :: l => match rawW x, rawsW l with
    | some a, some m => some (a :: m)
    | _, _ => none
theorem rawW_plain {x : SV} {a : Nat} (h : rawW x = some a) : plain x = some (.float .f64 a) := by
  unfold rawW at h
  split at h
  · simp only [Option.some.injEq] at h; subst h; rfl
  · simp only [Option.some.injEq] at h; subst h; rfl
  · cases h
theorem rawsW_plain : ∀ {l : List SV} {m : List Nat}, rawsW l = some m → plains l = some (m.map (Value.float .f64))
  | [], _, h => by simp only [rawsW, Option.some.injEq] at h; subst h; rfl
  | x :: l, m, h => by
    unfold rawsW at h
    split at h
    · rename_i a k h1 h2
      simp only [Option.some.injEq] at h; subst h
      exact plains_cons (rawW_plain h1) (rawsW_plain h2)
    · cases h
theorem agg_plain {l : List SV} {m : List Nat} (h : rawsW l = some m) : plain (.agg l) = some (.agg (m.map (Value.float .f64)).toArray) := by
  unfold plain
  rw [rawsW_plain h]; rfl
def bl (a : Nat) : Bool × Bool := (Nat.blt a 18446744073709551616, true)
theorem bl_lt {a : Nat} {o : Obs} (ho : ObsOk o) (h : bl a ∈ o) : a < 18446744073709551616 := by
  have : Nat.blt a 18446744073709551616 = true := ho _ h
  rwa [Nat.blt_eq] at this
theorem bl_ok {a : Nat} (h : a < 18446744073709551616) : (bl a).1 = (bl a).2 := by
  show Nat.blt a 18446744073709551616 = true
  rw [Nat.blt_eq]; exact h
theorem gew_F (p c : F) : gew p.b c = decide (c.k ≤ p.k) := by
  have e2 := Bu.order_gt p c
  have e3 := Bu.order_eq p c
  unfold gew
  rw [e2, e3, Bool.eq_iff_iff]; simp; omega
theorem lew_F (p c : F) : lew p.b c = decide (p.k ≤ c.k) := by
  have e2 := Bu.order_lt p c
  have e3 := Bu.order_eq p c
  unfold lew
  rw [e2, e3, Bool.eq_iff_iff]; simp; omega
def vF (x1 x2 x3 x4 x5 x6 : Nat) : V3 := ⟨⟨toF x1, toF x2⟩, ⟨toF x3, toF x4⟩, ⟨toF x5, toF x6⟩⟩
def iF (g h : Nat) : I := ⟨toF g, toF h⟩
theorem code_3 {R M : Bool} : (R = false → codeE R M = 20) ∧ (R = true → M = false → codeE R M = 2) ∧ (neB (codeE R M) = false → R = true ∧ M = true) := by cases R <;> cases M <;> decide
end Bu
namespace Go.Proofs.YtmhhopfffeijnaaGreat
set_option linter.all false
open Go.RowKit Bu Rx
def kDW (F : Nat → Nat → Nat → Nat → Nat → Nat → Nat → Nat → Int → Int → V3 × Int) (u : Int → Bool) : List SV → Dec → Option (SV × Dec × Obs)
  | [.agg l, .agg k, p, q], ds => match rawsW l, rawsW k, intS p, intS q with
    | some [x1, x2, x3, x4, x5, x6], some [g, h], some (.u64, n), some (.u64, m) => some (.tup [(F x1 x2 x3 x4 x5 x6 g h n m).1.sv, .si .i64 (F x1 x2 x3 x4 x5 x6 g h n m).2], ds, (u n, true) :: (u m, true) :: [bl x1, bl x2, bl x3, bl x4, bl x5, bl x6, bl g, bl h])
    | _, _, _, _ => none
  | _, _ => none
def kMay (c : Nat → Nat → Nat → Nat → Nat → Nat → Nat → Nat → Int) : List SV → Dec → Option (SV × Dec × Obs)
  | [.agg l, .agg k], ds => match rawsW l, rawsW k with
    | some [x1, x2, x3, x4, x5, x6], some [g, h] => some (.si .i64 (c x1 x2 x3 x4 x5 x6 g h), ds, [bl x1, bl x2, bl x3, bl x4, bl x5, bl x6, bl g, bl h])
    | _, _ => none
  | _, _ => none
def codeW (x1 x2 x3 x4 x5 x6 g h : Nat) : Int := codeE (Rv x1 x2 x3 x4 x5 x6 rtW && rtW g h) (Mv x1 x2 x3 x4 x5 x6 && Ma g h)
def rtL (x1 x2 x3 x4 x5 x6 g h : Nat) : List Bool := [rtW g h, rtW x1 x2, rtW x3 x4, rtW x5 x6]
def myL (x1 x2 x3 x4 x5 x6 g h : Nat) : List Bool := [gew g minA, lew h one64, gew x1 mone64, lew x2 one64, gew x3 mone64, lew x4 one64, gew x5 z64, lew x6 one64]
def rtL' (x1 x2 x3 x4 x5 x6 g h : Nat) : List Bool := [rtW x1 x2, rtW x3 x4, rtW x5 x6, rtW g h]
def myL' (x1 x2 x3 x4 x5 x6 g h : Nat) : List Bool := [gew x1 mone64, lew x2 one64, gew x3 mone64, lew x4 one64, gew x5 z64, lew x6 one64, gew g minA, lew h one64]
theorem rtL_all (x1 x2 x3 x4 x5 x6 g h : Nat) : (rtL x1 x2 x3 x4 x5 x6 g h).all id = (Rv x1 x2 x3 x4 x5 x6 rtW && rtW g h) ∧ (rtL' x1 x2 x3 x4 x5 x6 g h).all id = (Rv x1 x2 x3 x4 x5 x6 rtW && rtW g h) := by
  unfold rtL rtL' Rv; simp only [List.all_cons, List.all_nil, id, Bool.and_true]
  cases rtW g h <;> cases rtW x1 x2 <;> cases rtW x3 x4 <;> cases rtW x5 x6 <;> decide
theorem myL_all (x1 x2 x3 x4 x5 x6 g h : Nat) : (myL x1 x2 x3 x4 x5 x6 g h).all id = (Mv x1 x2 x3 x4 x5 x6 && Ma g h) ∧ (myL' x1 x2 x3 x4 x5 x6 g h).all id = (Mv x1 x2 x3 x4 x5 x6 && Ma g h) := by
  unfold myL myL' Mv Ma; simp only [List.all_cons, List.all_nil, id, Bool.and_true]
  constructor <;> simp only [Bool.and_assoc, Bool.and_comm, Bool.and_left_comm]
/-- the words of a draw that may be -/
theorem rt_words {x y : Nat} (h : rtW x y = true) : ∃ p q : F, p.b = x ∧ q.b = y ∧ rt ⟨p, q⟩ = true := by
  unfold rtW at h
  rw [Bool.and_eq_true, Bool.and_eq_true] at h
  obtain ⟨h1, h2, h3⟩ := h
  obtain ⟨p, rfl⟩ := F_of_right h1
  obtain ⟨q, rfl⟩ := F_of_right h2
  rw [toF_F, toF_F] at h3
  exact ⟨p, q, rfl, rfl, h3⟩
theorem vF_F (v : V3) : vF v.x.lo.b v.x.hi.b v.y.lo.b v.y.hi.b v.z.lo.b v.z.hi.b = v := by unfold vF; simp only [toF_F]
theorem iF_F (a : I) : iF a.lo.b a.hi.b = a := by unfold iF; simp only [toF_F]
theorem and_2 {a b : Bool} (h : (a && b) = true) : a = true ∧ b = true := by rwa [Bool.and_eq_true] at h
theorem good_v {x1 x2 x3 x4 x5 x6 : Nat} (hR : Rv x1 x2 x3 x4 x5 x6 rtW = true) (hM : Mv x1 x2 x3 x4 x5 x6 = true) : ∃ v : V3, v.x.lo.b = x1 ∧ v.x.hi.b = x2 ∧ v.y.lo.b = x3 ∧ v.y.hi.b = x4 ∧ v.z.lo.b = x5 ∧ v.z.hi.b = x6 ∧ ObsOk (dirO v) := by
  obtain ⟨r1, r23⟩ := and_2 hR
  obtain ⟨r2, r3⟩ := and_2 r23
  obtain ⟨a, b, rfl, rfl, ra⟩ := rt_words r1
  obtain ⟨c, d, rfl, rfl, rc⟩ := rt_words r2
  obtain ⟨e, f, rfl, rfl, re⟩ := rt_words r3
  obtain ⟨m1, m⟩ := and_2 hM
  obtain ⟨m2, m⟩ := and_2 m
  obtain ⟨m3, m⟩ := and_2 m
  obtain ⟨m4, m⟩ := and_2 m
  obtain ⟨m5, m6⟩ := and_2 m
  rw [gew_F] at m1 m3 m5
  rw [lew_F] at m2 m4 m6
  exact ⟨⟨⟨a, b⟩, ⟨c, d⟩, ⟨e, f⟩⟩, rfl, rfl, rfl, rfl, rfl, rfl, obs_c m6 (obs_c m5 (obs_c m4 (obs_c m3 (obs_c m2 (obs_c m1 (obs_c re (obs_c rc (obs_c ra (fun _ h => by cases h)))))))))⟩
theorem good_a {g h : Nat} (hR : rtW g h = true) (hM : Ma g h = true) : ∃ a : I, a.lo.b = g ∧ a.hi.b = h ∧ ObsOk (alO a) := by
  obtain ⟨a, b, rfl, rfl, ra⟩ := rt_words hR
  obtain ⟨m1, m2⟩ := and_2 hM
  rw [gew_F] at m1
  rw [lew_F] at m2
  exact ⟨⟨a, b⟩, rfl, rfl, obs_c m2 (obs_c m1 (obs_c ra (fun _ h => by cases h)))⟩
def DW (x1 x2 x3 x4 x5 x6 g h : Nat) (n m : Int) : V3 × Int := bif neB (codeW x1 x2 x3 x4 x5 x6 g h) then (V3.zero, codeW x1 x2 x3 x4 x5 x6 g h) else vdR (vF x1 x2 x3 x4 x5 x6) (iF g h) n m
def u64B (n : Int) : Bool := decide (0 ≤ n ∧ n ≤ 18446744073709551615)
def drawsW (f : FuncId) : Prop := ∀ (x1 x2 x3 x4 x5 x6 g h : Nat) (n m : Int) (hx1 : x1 < 18446744073709551616) (hx2 : x2 < 18446744073709551616) (hx3 : x3 < 18446744073709551616) (hx4 : x4 < 18446744073709551616) (hx5 : x5 < 18446744073709551616) (hx6 : x6 < 18446744073709551616) (hg : g < 18446744073709551616) (hh : h < 18446744073709551616) (hn : u64B n = true) (hm : u64B m = true) (w : World), Calls Tryz.prog f #[.agg #[.float .f64 x1, .float .f64 x2, .float .f64 x3, .float .f64 x4, .float .f64 x5, .float .f64 x6], .agg #[.float .f64 g, .float .f64 h], .int .u64 n, .int .u64 m] w fun e w' => e = .returned (.tuple #[.agg #[.float .f64 (DW x1 x2 x3 x4 x5 x6 g h n m).1.x.lo.b, .float .f64 (DW x1 x2 x3 x4 x5 x6 g h n m).1.x.hi.b, .float .f64 (DW x1 x2 x3 x4 x5 x6 g h n m).1.y.lo.b, .float .f64 (DW x1 x2 x3 x4 x5 x6 g h n m).1.y.hi.b, .float .f64 (DW x1 x2 x3 x4 x5 x6 g h n m).1.z.lo.b, .float .f64 (DW x1 x2 x3 x4 x5 x6 g h n m).1.z.hi.b], .int .i64 (DW x1 x2 x3 x4 x5 x6 g h n m).2]) ∧ Below w.heap.size w w'
theorem tsW_ok {x1 x2 x3 x4 x5 x6 g h : Nat} (hx1 : x1 < 18446744073709551616) (hx2 : x2 < 18446744073709551616) (hx3 : x3 < 18446744073709551616) (hx4 : x4 < 18446744073709551616) (hx5 : x5 < 18446744073709551616) (hx6 : x6 < 18446744073709551616) (hg : g < 18446744073709551616) (hh : h < 18446744073709551616) : ∀ t ∈ tsW x1 x2 x3 x4 x5 x6 g h, okT rtW (lead (rtL x1 x2 x3 x4 x5 x6 g h)) (lead (myL x1 x2 x3 x4 x5 x6 g h)) t := by
  intro t ht
  simp only [tsW, List.mem_cons, List.not_mem_nil, or_false] at ht
  have R : ∀ {k : Nat} {c : Bool}, (rtL x1 x2 x3 x4 x5 x6 g h)[k]? = some c → (k < lead (rtL x1 x2 x3 x4 x5 x6 g h) → c = true) ∧ (k = lead (rtL x1 x2 x3 x4 x5 x6 g h) → c = false) := fun h => lead_at h
  have M : ∀ {k : Nat} {c : Bool}, (myL x1 x2 x3 x4 x5 x6 g h)[k]? = some c → (k < lead (myL x1 x2 x3 x4 x5 x6 g h) → c = true) ∧ (k = lead (myL x1 x2 x3 x4 x5 x6 g h) → c = false) := fun h => lead_at h
  rcases ht with rfl | rfl | rfl | rfl | rfl | rfl | rfl | rfl | rfl | rfl | rfl | rfl
  · exact ⟨hg, hh, R rfl⟩
  · exact M rfl
  · exact M rfl
  · exact ⟨hx1, hx2, R rfl⟩
  · exact ⟨hx3, hx4, R rfl⟩
  · exact ⟨hx5, hx6, R rfl⟩
  · exact M rfl
  · exact M rfl
  · exact M rfl
  · exact M rfl
  · exact M rfl
  · exact M rfl
theorem two_i {n : Int} (h : u64B n = true) : 0 ≤ n ∧ n ≤ 18446744073709551615 := of_decide_eq_true h
theorem ob_nil : ObsOk [] := fun _ h => by cases h
theorem vd_w : drawsW 18 := by
  intro x1 x2 x3 x4 x5 x6 g h n m hx1 hx2 hx3 hx4 hx5 hx6 hg hh hn hm w
  obtain ⟨c1, c2, c3⟩ := code_3 (R := Rv x1 x2 x3 x4 x5 x6 rtW && rtW g h) (M := Mv x1 x2 x3 x4 x5 x6 && Ma g h)
  have ra := (rtL_all x1 x2 x3 x4 x5 x6 g h).1
  have ma := (myL_all x1 x2 x3 x4 x5 x6 g h).1
  cases hc : neB (codeW x1 x2 x3 x4 x5 x6 g h)
  · obtain ⟨hR, hM⟩ := c3 hc
    obtain ⟨hR1, hR2⟩ := and_2 hR
    obtain ⟨hM1, hM2⟩ := and_2 hM
    obtain ⟨v, rfl, rfl, rfl, rfl, rfl, rfl, ov⟩ := good_v hR1 hM1
    obtain ⟨al, rfl, rfl, oa⟩ := good_a hR2 hM2
    have hal : decide (al.hi.k ≤ one64.k) = true := oa (_, true) (List.mem_cons_self ..)
    have e : DW v.x.lo.b v.x.hi.b v.y.lo.b v.y.hi.b v.z.lo.b v.z.hi.b al.lo.b al.hi.b n m = vdR v al n m := by unfold DW; rw [hc, cond_false, vF_F, iF_F]
    rw [e]
    have ho : ObsOk (drO (KqR atR) v al n m ++ [(decide (al.hi.k ≤ one64.k), true)]) := obs_app (obs_app (obs_app (obs_c hn (obs_c (unI_in m (two_i hm).1 (two_i hm).2) (obs_c hm ob_nil))) ov) oa) (obs_c hal ob_nil)
    obtain ⟨vs, y, e1, e2, k⟩ := drG [v.sv, ivS al, .si .u64 n, .si .u64 m] (some [true]) _ _ _ rfl ho
    have e1' : vs = [.agg #[.float .f64 v.x.lo.b, .float .f64 v.x.hi.b, .float .f64 v.y.lo.b, .float .f64 v.y.hi.b, .float .f64 v.z.lo.b, .float .f64 v.z.hi.b], .agg #[.float .f64 al.lo.b, .float .f64 al.hi.b], .int .u64 n, .int .u64 m] := (Option.some.inj e1).symm
    subst e1'
    generalize vdR v al n m = V at *
    have e2' : y = .tuple #[.agg #[.float .f64 V.1.x.lo.b, .float .f64 V.1.x.hi.b, .float .f64 V.1.y.lo.b, .float .f64 V.1.y.hi.b, .float .f64 V.1.z.lo.b, .float .f64 V.1.z.hi.b], .int .i64 V.2] := (Option.some.inj e2).symm
    subst e2'
    exact k w
  · have e : DW x1 x2 x3 x4 x5 x6 g h n m = (V3.zero, codeW x1 x2 x3 x4 x5 x6 g h) := by unfold DW; rw [hc, cond_true]
    rw [e]
    have li := lead_le (rtL x1 x2 x3 x4 x5 x6 g h)
    have lj := lead_le (myL x1 x2 x3 x4 x5 x6 g h)
    have li' : lead (rtL x1 x2 x3 x4 x5 x6 g h) ≤ 4 := li
    have lj' : lead (myL x1 x2 x3 x4 x5 x6 g h) ≤ 8 := lj
    have hcod : (lead (rtL x1 x2 x3 x4 x5 x6 g h) < 4 ∨ lead (myL x1 x2 x3 x4 x5 x6 g h) < 8) ∧ cod (lead (rtL x1 x2 x3 x4 x5 x6 g h)) 4 = codeW x1 x2 x3 x4 x5 x6 g h := by
      by_cases q : lead (rtL x1 x2 x3 x4 x5 x6 g h) < 4
      · have f := lead_not (l := rtL x1 x2 x3 x4 x5 x6 g h) q
        rw [ra] at f
        refine ⟨.inl q, ?_⟩
        rw [show codeW x1 x2 x3 x4 x5 x6 g h = 20 from c1 f]
        unfold cod
        rw [show Nat.blt (lead (rtL x1 x2 x3 x4 x5 x6 g h)) 4 = true by rw [Nat.blt_eq]; exact q]; rfl
      · have f := lead_all (l := rtL x1 x2 x3 x4 x5 x6 g h) (by show lead (rtL x1 x2 x3 x4 x5 x6 g h) = 4; omega)
        rw [ra] at f
        have f2 : (Mv x1 x2 x3 x4 x5 x6 && Ma g h) = false := by
          cases t : (Mv x1 x2 x3 x4 x5 x6 && Ma g h)
          · rfl
          · unfold codeW at hc; rw [f, t] at hc; cases hc
        refine ⟨.inr ?_, ?_⟩
        · apply Decidable.byContradiction
          intro z
          have f3 := lead_all (l := myL x1 x2 x3 x4 x5 x6 g h) (by show lead (myL x1 x2 x3 x4 x5 x6 g h) = 8; omega)
          rw [ma, f2] at f3; cases f3
        · rw [show codeW x1 x2 x3 x4 x5 x6 g h = 2 from c2 f f2]
          unfold cod
          rw [show Nat.blt (lead (rtL x1 x2 x3 x4 x5 x6 g h)) 4 = false from Bool.eq_false_iff.2 (fun z => by rw [Nat.blt_eq] at z; omega)]; rfl
    have run := lk_all rtW x1 x2 x3 x4 x5 x6 g h n m (i := lead (rtL x1 x2 x3 x4 x5 x6 g h)) (j := lead (myL x1 x2 x3 x4 x5 x6 g h)) ⟨li', lj', hcod.1⟩
    unfold lkP at run
    rw [hcod.2] at run
    exact calls_of_val goodG oracleOW 80 run (tqO_ok (tsW_ok hx1 hx2 hx3 hx4 hx5 hx6 hg hh) ob_nil) rfl rfl w
end Go.Proofs.YtmhhopfffeijnaaGreat
namespace Go.Proofs.YtmhhopfffeijnaaGreat
set_option linter.all false
open Go.RowKit Bu Rx

theorem kl3_ok {o : Obs} (h : ObsOk o) : ObsOk (kl3 o) := by
  have e := kl_ok
  exact obs_c e.1 (obs_c e.2 (obs_c e.2 h))
theorem kl2_ok {o : Obs} (h : ObsOk o) : ObsOk (kl2 o) := obs_c kl_ok.2 (obs_c kl_ok.2 h)
def rdG0 (K : Kk) (N : Kq) (v : V3) (al : I) (a b : Int) : V3 × Int := rdR K (drEnv N v al a b)
def rdO (N : Kq) (v : V3) (al : I) (a b : Int) : Obs := (N.u a, true) :: rdOq N v al b
theorem rdraw_of (K : Kk) (N : Kq) (hO0 : OracleOk Tryz.prog (ORF13 K N)) (v : V3) (al : I) (n m : Int) (ho : ObsOk (rdO N v al n m)) (w : World) :
    Calls Tryz.prog 19 #[.agg #[.float .f64 v.x.lo.b, .float .f64 v.x.hi.b, .float .f64 v.y.lo.b, .float .f64 v.y.hi.b, .float .f64 v.z.lo.b, .float .f64 v.z.hi.b], .agg #[.float .f64 al.lo.b, .float .f64 al.hi.b], .int .u64 n, .int .u64 m] w fun e w' => e = .returned (.tuple #[.agg #[.float .f64 (rdG0 K N v al n m).1.x.lo.b, .float .f64 (rdG0 K N v al n m).1.x.hi.b, .float .f64 (rdG0 K N v al n m).1.y.lo.b, .float .f64 (rdG0 K N v al n m).1.y.hi.b, .float .f64 (rdG0 K N v al n m).1.z.lo.b, .float .f64 (rdG0 K N v al n m).1.z.hi.b], .int .i64 (rdG0 K N v al n m).2]) ∧ Below w.heap.size w w' := by
  have hu : N.u n = true := ho (_, true) (List.mem_cons_self ..)
  have hq : ObsOk (rdOq N v al m) := fun q hq => ho q (List.mem_cons_of_mem _ hq)
  have hargs : plains (drA0 v al n m) = some [.agg #[.float .f64 v.x.lo.b, .float .f64 v.x.hi.b, .float .f64 v.y.lo.b, .float .f64 v.y.hi.b, .float .f64 v.z.lo.b, .float .f64 v.z.hi.b], .agg #[.float .f64 al.lo.b, .float .f64 al.hi.b], .int .u64 n, .int .u64 m] := rfl
  unfold rdG0 rdR
  have op : ∀ z, decide ((rdQ K (drEnv N v al n m)).hi.k = z64.k) = z → ObsOk (rdOp K N v al n m z) := fun z hz => obs_c (by rw [hz]) (kl3_ok hq)
  cases c1 : decide ((rdQ K (drEnv N v al n m)).hi.k = z64.k)
  · have o1 := op false c1
    have hB : ∀ l, ObsOk (rdOl K N v al n m l) → Calls Tryz.prog 19 #[.agg #[.float .f64 v.x.lo.b, .float .f64 v.x.hi.b, .float .f64 v.y.lo.b, .float .f64 v.y.hi.b, .float .f64 v.z.lo.b, .float .f64 v.z.hi.b], .agg #[.float .f64 al.lo.b, .float .f64 al.hi.b], .int .u64 n, .int .u64 m] w fun e w' => e = .returned (.tuple #[.agg #[.float .f64 (rdX K rdTb rdB (drEnv N v al n m)).1.x.lo.b, .float .f64 (rdX K rdTb rdB (drEnv N v al n m)).1.x.hi.b, .float .f64 (rdX K rdTb rdB (drEnv N v al n m)).1.y.lo.b, .float .f64 (rdX K rdTb rdB (drEnv N v al n m)).1.y.hi.b, .float .f64 (rdX K rdTb rdB (drEnv N v al n m)).1.z.lo.b, .float .f64 (rdX K rdTb rdB (drEnv N v al n m)).1.z.hi.b], .int .i64 (rdX K rdTb rdB (drEnv N v al n m)).2]) ∧ Below w.heap.size w w' := by
      intro l ol
      unfold rdX
      cases c3 : neB (evalK K rdTb (drEnv N v al n m) 0).2
      · simp only [cond_false]
        cases c4 : neB (evalK K rdB (drEnv N v al n m) 0).2
        · simp only [cond_false]
          have r := rdRunB2 K N v al n m l
          generalize rdV K rdB (drEnv N v al n m) = V at r ⊢
          exact calls_of_val goodH hO0 80 r (obs_c c4 (kl3_ok (obs_c hu (obs_c c3 (kl2_ok ol))))) hargs (pvT V 0) w
        · simp only [cond_true]
          exact calls_of_val goodH hO0 80 (rdRunB1 K N v al n m l) (obs_c c4 (kl3_ok (obs_c hu (obs_c c3 (kl2_ok ol))))) hargs rfl w
      · simp only [cond_true]
        exact calls_of_val goodH hO0 80 (rdRunB0 K N v al n m l) (obs_c c3 (kl2_ok ol)) hargs rfl w
    simp only [cond_false]
    cases c2 : decide ((rdQ K (drEnv N v al n m)).lo.k ≤ z64.k)
    · simp only [Bool.false_and, cond_false]
      exact hB false (obs_c c2 o1)
    · cases c5 : decide ((evalK K rdP1 (drEnv N v al n m) 0).2 = 0)
      · simp only [Bool.and_false, cond_false]
        exact hB true (obs_c c5 (obs_c c2 o1))
      · simp only [Bool.and_true, cond_true]
        exact calls_of_val goodH hO0 80 (rdRunN K N v al n m) (obs_c c5 (obs_c c2 o1)) hargs rfl w
  · have o1 := op true c1
    simp only [cond_true]
    unfold rdX
    cases c3 : neB (evalK K rdTa (drEnv N v al n m) 0).2
    · simp only [cond_false]
      cases c4 : neB (evalK K rdA (drEnv N v al n m) 0).2
      · simp only [cond_false]
        have r := rdRunA2 K N v al n m
        generalize rdV K rdA (drEnv N v al n m) = V at r ⊢
        exact calls_of_val goodH hO0 80 r (obs_c c4 (kl3_ok (obs_c hu (obs_c c3 o1)))) hargs (pvT V 0) w
      · simp only [cond_true]
        exact calls_of_val goodH hO0 80 (rdRunA1 K N v al n m) (obs_c c4 (kl3_ok (obs_c hu (obs_c c3 o1)))) hargs rfl w
    · simp only [cond_true]
      exact calls_of_val goodH hO0 80 (rdRunA0 K N v al n m) (obs_c c3 o1) hargs rfl w
theorem rdG0_eq (v : V3) (al : I) (n m : Int) : rdG0 KkR (KqR atR) v al n m = vdR v al n m := rdR_eq _
theorem tsR_ok {x1 x2 x3 x4 x5 x6 g h : Nat} (hx1 : x1 < 18446744073709551616) (hx2 : x2 < 18446744073709551616) (hx3 : x3 < 18446744073709551616) (hx4 : x4 < 18446744073709551616) (hx5 : x5 < 18446744073709551616) (hx6 : x6 < 18446744073709551616) (hg : g < 18446744073709551616) (hh : h < 18446744073709551616) : ∀ t ∈ tsR x1 x2 x3 x4 x5 x6 g h, okT rtW (lead (rtL' x1 x2 x3 x4 x5 x6 g h)) (lead (myL' x1 x2 x3 x4 x5 x6 g h)) t := by
  intro t ht
  simp only [tsR, List.mem_cons, List.not_mem_nil, or_false] at ht
  have R : ∀ {k : Nat} {c : Bool}, (rtL' x1 x2 x3 x4 x5 x6 g h)[k]? = some c → (k < lead (rtL' x1 x2 x3 x4 x5 x6 g h) → c = true) ∧ (k = lead (rtL' x1 x2 x3 x4 x5 x6 g h) → c = false) := fun h => lead_at h
  rcases ht with rfl | rfl | rfl | rfl
  · exact ⟨hx1, hx2, R rfl⟩
  · exact ⟨hx3, hx4, R rfl⟩
  · exact ⟨hx5, hx6, R rfl⟩
  · exact ⟨hg, hh, R rfl⟩
theorem tsM_ok {x1 x2 x3 x4 x5 x6 g h : Nat} : ∀ t ∈ tsM x1 x2 x3 x4 x5 x6 g h, okT rtW (lead (rtL' x1 x2 x3 x4 x5 x6 g h)) (lead (myL' x1 x2 x3 x4 x5 x6 g h)) t := by
  intro t ht
  simp only [tsM, List.mem_cons, List.not_mem_nil, or_false] at ht
  have M : ∀ {k : Nat} {c : Bool}, (myL' x1 x2 x3 x4 x5 x6 g h)[k]? = some c → (k < lead (myL' x1 x2 x3 x4 x5 x6 g h) → c = true) ∧ (k = lead (myL' x1 x2 x3 x4 x5 x6 g h) → c = false) := fun h => lead_at h
  rcases ht with rfl | rfl | rfl | rfl | rfl | rfl | rfl | rfl
  · exact M rfl
  · exact M rfl
  · exact M rfl
  · exact M rfl
  · exact M rfl
  · exact M rfl
  · exact M rfl
  · exact M rfl
/-- where a test of the first kind does not hold, none of the second kind is asked -/
theorem okR_j {r : Nat → Nat → Bool} {i j : Nat} {l : List Tst} (h : ∀ t ∈ l, okT r i j t) (hl : ∀ t ∈ l, ∃ k a b, t = .R k a b) (j' : Nat) : ∀ t ∈ l, okT r i j' t := by
  intro t ht
  obtain ⟨k, a, b, rfl⟩ := hl t ht
  exact h _ ht
theorem may_w (x1 x2 x3 x4 x5 x6 g h : Nat) (hx1 : x1 < 18446744073709551616) (hx2 : x2 < 18446744073709551616) (hx3 : x3 < 18446744073709551616) (hx4 : x4 < 18446744073709551616) (hx5 : x5 < 18446744073709551616) (hx6 : x6 < 18446744073709551616) (hg : g < 18446744073709551616) (hh : h < 18446744073709551616) (w : World) : Calls Tryz.prog 71 #[.agg #[.float .f64 x1, .float .f64 x2, .float .f64 x3, .float .f64 x4, .float .f64 x5, .float .f64 x6], .agg #[.float .f64 g, .float .f64 h]] w fun e w' => e = .returned (.int .i64 (codeW x1 x2 x3 x4 x5 x6 g h)) ∧ Below w.heap.size w w' := by
  obtain ⟨c1, c2, c3⟩ := code_3 (R := Rv x1 x2 x3 x4 x5 x6 rtW && rtW g h) (M := Mv x1 x2 x3 x4 x5 x6 && Ma g h)
  have ra := (rtL_all x1 x2 x3 x4 x5 x6 g h).2
  have ma := (myL_all x1 x2 x3 x4 x5 x6 g h).2
  have li' : lead (rtL' x1 x2 x3 x4 x5 x6 g h) ≤ 4 := lead_le (rtL' x1 x2 x3 x4 x5 x6 g h)
  have lj' : lead (myL' x1 x2 x3 x4 x5 x6 g h) ≤ 8 := lead_le (myL' x1 x2 x3 x4 x5 x6 g h)
  have tr := tsR_ok hx1 hx2 hx3 hx4 hx5 hx6 hg hh
  by_cases q : lead (rtL' x1 x2 x3 x4 x5 x6 g h) < 4
  · have f := lead_not (l := rtL' x1 x2 x3 x4 x5 x6 g h) q
    rw [ra] at f
    have hb : Nat.blt (lead (rtL' x1 x2 x3 x4 x5 x6 g h)) 4 = true := by rw [Nat.blt_eq]; exact q
    have run := my_all rtW x1 x2 x3 x4 x5 x6 g h (i := lead (rtL' x1 x2 x3 x4 x5 x6 g h)) (j := 0) ⟨li', by omega, fun _ => rfl⟩
    unfold myP tsY cod3 at run
    rw [hb, cond_true, cond_true] at run
    rw [show codeW x1 x2 x3 x4 x5 x6 g h = 20 from c1 f]
    refine calls_of_val goodH oracleOW2 80 run (tqO_ok (okR_j tr (fun t ht => ?_) 0) ob_nil) rfl rfl w
    simp only [tsR, List.mem_cons, List.not_mem_nil, or_false] at ht
    rcases ht with rfl | rfl | rfl | rfl <;> exact ⟨_, _, _, rfl⟩
  · have e4 : lead (rtL' x1 x2 x3 x4 x5 x6 g h) = 4 := by omega
    have f := lead_all (l := rtL' x1 x2 x3 x4 x5 x6 g h) e4
    rw [ra] at f
    have hb : Nat.blt (lead (rtL' x1 x2 x3 x4 x5 x6 g h)) 4 = false := Bool.eq_false_iff.2 (fun z => by rw [Nat.blt_eq] at z; omega)
    have run := my_all rtW x1 x2 x3 x4 x5 x6 g h (i := lead (rtL' x1 x2 x3 x4 x5 x6 g h)) (j := lead (myL' x1 x2 x3 x4 x5 x6 g h)) ⟨li', lj', fun z => absurd z q⟩
    have ot : ∀ t ∈ tsR x1 x2 x3 x4 x5 x6 g h ++ tsM x1 x2 x3 x4 x5 x6 g h, okT rtW (lead (rtL' x1 x2 x3 x4 x5 x6 g h)) (lead (myL' x1 x2 x3 x4 x5 x6 g h)) t := fun t ht => (List.mem_append.1 ht).elim (tr t) (tsM_ok t)
    unfold myP tsY cod3 at run
    rw [hb, cond_false, cond_false] at run
    by_cases q2 : lead (myL' x1 x2 x3 x4 x5 x6 g h) < 8
    · have f2 := lead_not (l := myL' x1 x2 x3 x4 x5 x6 g h) q2
      rw [ma] at f2
      rw [show Nat.blt (lead (myL' x1 x2 x3 x4 x5 x6 g h)) 8 = true by rw [Nat.blt_eq]; exact q2, cond_true] at run
      rw [show codeW x1 x2 x3 x4 x5 x6 g h = 2 from c2 f f2]
      exact calls_of_val goodH oracleOW2 80 run (tqO_ok ot ob_nil) rfl rfl w
    · have f2 := lead_all (l := myL' x1 x2 x3 x4 x5 x6 g h) (by show lead (myL' x1 x2 x3 x4 x5 x6 g h) = 8; omega)
      rw [ma] at f2
      rw [show Nat.blt (lead (myL' x1 x2 x3 x4 x5 x6 g h)) 8 = false from Bool.eq_false_iff.2 (fun z => by rw [Nat.blt_eq] at z; omega), cond_false] at run
      rw [show codeW x1 x2 x3 x4 x5 x6 g h = 0 by unfold codeW; rw [f, f2]; rfl]
      exact calls_of_val goodH oracleOW2 80 run (tqO_ok ot ob_nil) rfl rfl w
theorem may_K : PlainOk Tryz.prog 71 (kMay codeW) := by
  intro args ds x ds' ob h ho
  unfold kMay at h
  split at h
  · rename_i l k
    split at h
    · rename_i x1 x2 x3 x4 x5 x6 g h' e1 e2
      simp only [Option.some.injEq, Prod.mk.injEq] at h
      obtain ⟨rfl, _, rfl⟩ := h
      exact ⟨_, _, plains_cons (agg_plain e1) (plains_cons (agg_plain e2) plains_nil), rfl, fun w => may_w x1 x2 x3 x4 x5 x6 g h' (bl_lt ho (List.mem_cons_self ..)) (bl_lt ho (List.mem_cons_of_mem _ (List.mem_cons_self ..))) (bl_lt ho (List.mem_cons_of_mem _ (List.mem_cons_of_mem _ (List.mem_cons_self ..)))) (bl_lt ho (List.mem_cons_of_mem _ (List.mem_cons_of_mem _ (List.mem_cons_of_mem _ (List.mem_cons_self ..))))) (bl_lt ho (List.mem_cons_of_mem _ (List.mem_cons_of_mem _ (List.mem_cons_of_mem _ (List.mem_cons_of_mem _ (List.mem_cons_self ..)))))) (bl_lt ho (List.mem_cons_of_mem _ (List.mem_cons_of_mem _ (List.mem_cons_of_mem _ (List.mem_cons_of_mem _ (List.mem_cons_of_mem _ (List.mem_cons_self ..))))))) (bl_lt ho (List.mem_cons_of_mem _ (List.mem_cons_of_mem _ (List.mem_cons_of_mem _ (List.mem_cons_of_mem _ (List.mem_cons_of_mem _ (List.mem_cons_of_mem _ (List.mem_cons_self ..)))))))) (bl_lt ho (List.mem_cons_of_mem _ (List.mem_cons_of_mem _ (List.mem_cons_of_mem _ (List.mem_cons_of_mem _ (List.mem_cons_of_mem _ (List.mem_cons_of_mem _ (List.mem_cons_of_mem _ (List.mem_cons_self ..))))))))) w⟩
    · cases h
  · cases h
theorem draws_K {f : FuncId} (hf : drawsW f) : PlainOk Tryz.prog f (kDW DW u64B) := by
  intro args ds x ds' ob h ho
  unfold kDW at h
  split at h
  · rename_i l k p q
    split at h
    · rename_i x1 x2 x3 x4 x5 x6 g h' n m e1 e2 e3 e4
      simp only [Option.some.injEq, Prod.mk.injEq] at h
      obtain ⟨rfl, _, rfl⟩ := h
      exact ⟨_, _, plains_cons (agg_plain e1) (plains_cons (agg_plain e2) (plains_cons (intS_plain e3) (plains_cons (intS_plain e4) plains_nil))), rfl, fun w => hf x1 x2 x3 x4 x5 x6 g h' n m (bl_lt ho (List.mem_cons_of_mem _ (List.mem_cons_of_mem _ (List.mem_cons_self ..)))) (bl_lt ho (List.mem_cons_of_mem _ (List.mem_cons_of_mem _ (List.mem_cons_of_mem _ (List.mem_cons_self ..))))) (bl_lt ho (List.mem_cons_of_mem _ (List.mem_cons_of_mem _ (List.mem_cons_of_mem _ (List.mem_cons_of_mem _ (List.mem_cons_self ..)))))) (bl_lt ho (List.mem_cons_of_mem _ (List.mem_cons_of_mem _ (List.mem_cons_of_mem _ (List.mem_cons_of_mem _ (List.mem_cons_of_mem _ (List.mem_cons_self ..))))))) (bl_lt ho (List.mem_cons_of_mem _ (List.mem_cons_of_mem _ (List.mem_cons_of_mem _ (List.mem_cons_of_mem _ (List.mem_cons_of_mem _ (List.mem_cons_of_mem _ (List.mem_cons_self ..)))))))) (bl_lt ho (List.mem_cons_of_mem _ (List.mem_cons_of_mem _ (List.mem_cons_of_mem _ (List.mem_cons_of_mem _ (List.mem_cons_of_mem _ (List.mem_cons_of_mem _ (List.mem_cons_of_mem _ (List.mem_cons_self ..))))))))) (bl_lt ho (List.mem_cons_of_mem _ (List.mem_cons_of_mem _ (List.mem_cons_of_mem _ (List.mem_cons_of_mem _ (List.mem_cons_of_mem _ (List.mem_cons_of_mem _ (List.mem_cons_of_mem _ (List.mem_cons_of_mem _ (List.mem_cons_self ..)))))))))) (bl_lt ho (List.mem_cons_of_mem _ (List.mem_cons_of_mem _ (List.mem_cons_of_mem _ (List.mem_cons_of_mem _ (List.mem_cons_of_mem _ (List.mem_cons_of_mem _ (List.mem_cons_of_mem _ (List.mem_cons_of_mem _ (List.mem_cons_of_mem _ (List.mem_cons_self ..))))))))))) (ho (_, true) (List.mem_cons_self ..)) (ho (_, true) (List.mem_cons_of_mem _ (List.mem_cons_self ..))) w⟩
    · cases h
  · cases h
theorem vd_K : PlainOk Tryz.prog 18 (kDW DW u64B) := draws_K vd_w
def OMay (c : Nat → Nat → Nat → Nat → Nat → Nat → Nat → Nat → Int) : OracleF := lookO [(71, plainO (kMay c))]
theorem oracleMay : OracleOk Tryz.prog (OMay codeW) := .cons may_K.of (.nil _)
def bls8 (x1 x2 x3 x4 x5 x6 g h : Nat) : Obs := [bl x1, bl x2, bl x3, bl x4, bl x5, bl x6, bl g, bl h]
theorem bls8_ok {x1 x2 x3 x4 x5 x6 g h : Nat} (hx1 : x1 < 18446744073709551616) (hx2 : x2 < 18446744073709551616) (hx3 : x3 < 18446744073709551616) (hx4 : x4 < 18446744073709551616) (hx5 : x5 < 18446744073709551616) (hx6 : x6 < 18446744073709551616) (hg : g < 18446744073709551616) (hh : h < 18446744073709551616) : ObsOk (bls8 x1 x2 x3 x4 x5 x6 g h) := obs_c (bl_ok hx1) (obs_c (bl_ok hx2) (obs_c (bl_ok hx3) (obs_c (bl_ok hx4) (obs_c (bl_ok hx5) (obs_c (bl_ok hx6) (obs_c (bl_ok hg) (obs_c (bl_ok hh) (ob_nil))))))))
theorem rdWRun (c : Nat → Nat → Nat → Nat → Nat → Nat → Nat → Nat → Int) (x1 x2 x3 x4 x5 x6 g h : Nat) (a b : Int) : valR ((run Tryz.prog EH (OMay c) 80).1 19 [w6 x1 x2 x3 x4 x5 x6, w2 g h, .si .u64 a, .si .u64 b] [] (some [true])) = some (.tup [V3.zero.sv, .si .i64 (c x1 x2 x3 x4 x5 x6 g h)], some [], (neB (c x1 x2 x3 x4 x5 x6 g h), true) :: bls8 x1 x2 x3 x4 x5 x6 g h) := by kernel_rfl
theorem rd_w : drawsW 19 := by
  intro x1 x2 x3 x4 x5 x6 g h n m hx1 hx2 hx3 hx4 hx5 hx6 hg hh hn hm w
  obtain ⟨c1, c2, c3⟩ := code_3 (R := Rv x1 x2 x3 x4 x5 x6 rtW && rtW g h) (M := Mv x1 x2 x3 x4 x5 x6 && Ma g h)
  cases hc : neB (codeW x1 x2 x3 x4 x5 x6 g h)
  · obtain ⟨hR, hM⟩ := c3 hc
    obtain ⟨hR1, hR2⟩ := and_2 hR
    obtain ⟨hM1, hM2⟩ := and_2 hM
    obtain ⟨v, rfl, rfl, rfl, rfl, rfl, rfl, ov⟩ := good_v hR1 hM1
    obtain ⟨al, rfl, rfl, oa⟩ := good_a hR2 hM2
    have e : DW v.x.lo.b v.x.hi.b v.y.lo.b v.y.hi.b v.z.lo.b v.z.hi.b al.lo.b al.hi.b n m = rdG0 KkR (KqR atR) v al n m := by unfold DW; rw [hc, cond_false, vF_F, iF_F, rdG0_eq]
    rw [e]
    refine rdraw_of KkR (KqR atR) oracleRF13 v al n m (obs_c hn (obs_c (unI_in m (two_i hm).1 (two_i hm).2) (obs_c hm fun q hq => ?_))) w
    have m1 : ∀ q ∈ dirO v, q.1 = q.2 := ov
    have m2 : ∀ q ∈ alO al, q.1 = q.2 := oa
    simp only [rdOw, List.mem_cons, List.not_mem_nil, or_false] at hq
    rcases hq with rfl | rfl | rfl | rfl | rfl | rfl | rfl | rfl | rfl | rfl | rfl | rfl
    · exact m2 _ (.head _)
    · exact m2 _ (.tail _ (.head _))
    · exact m1 _ (.head _)
    · exact m1 _ (.tail _ (.head _))
    · exact m1 _ (.tail _ (.tail _ (.head _)))
    · exact m1 _ (.tail _ (.tail _ (.tail _ (.head _))))
    · exact m1 _ (.tail _ (.tail _ (.tail _ (.tail _ (.head _)))))
    · exact m1 _ (.tail _ (.tail _ (.tail _ (.tail _ (.tail _ (.head _))))))
    · exact m2 _ (.tail _ (.tail _ (.head _)))
    · exact m1 _ (.tail _ (.tail _ (.tail _ (.tail _ (.tail _ (.tail _ (.head _)))))))
    · exact m1 _ (.tail _ (.tail _ (.tail _ (.tail _ (.tail _ (.tail _ (.tail _ (.head _))))))))
    · exact m1 _ (.tail _ (.tail _ (.tail _ (.tail _ (.tail _ (.tail _ (.tail _ (.tail _ (.head _)))))))))
  · have e : DW x1 x2 x3 x4 x5 x6 g h n m = (V3.zero, codeW x1 x2 x3 x4 x5 x6 g h) := by unfold DW; rw [hc, cond_true]
    rw [e]
    exact calls_of_val goodH oracleMay 80 (rdWRun codeW x1 x2 x3 x4 x5 x6 g h n m) (obs_c hc (bls8_ok hx1 hx2 hx3 hx4 hx5 hx6 hg hh)) rfl rfl w
theorem rd_K : PlainOk Tryz.prog 19 (kDW DW u64B) := draws_K rd_w
end Go.Proofs.YtmhhopfffeijnaaGreat
namespace Go.Proofs.YtmhhopfffeijnaaGreat
set_option linter.all false
open Go.RowKit Bu Rx

theorem rgO_ok {c al : I} (h : ObsOk (ggO c al)) : ObsOk (rgO c al) := by
  have m : ∀ q ∈ ggO c al, q.1 = q.2 := h
  intro q hq
  simp only [rgO, List.mem_cons, List.not_mem_nil, or_false] at hq
  rcases hq with rfl | rfl | rfl | rfl | rfl | rfl
  · exact m _ (.tail _ (.tail _ (.tail _ (.head _))))
  · exact m _ (.tail _ (.tail _ (.tail _ (.tail _ (.head _)))))
  · exact m _ (.head _)
  · exact m _ (.tail _ (.head _))
  · exact m _ (.tail _ (.tail _ (.tail _ (.tail _ (.tail _ (.head _))))))
  · exact m _ (.tail _ (.tail _ (.head _)))
theorem oracleRF0 : OracleOk Tryz.prog (lookO (ORF KkR)) := .cons raddC (.cons rsubC (.cons rmulC (.cons rdivC (.cons rmax_I (.cons rsqrC (.cons rsqtC (.cons rnegC (.cons rnumC (.cons rrtK2.of (.cons rpiG.of (.cons keptK.of (.nil _))))))))))))
theorem kGg_in {f : I → I → I × Int} {args : List SV} {ds ds' : Dec} {x : SV} {ob : Obs} (h : kGg f args ds = some (x, ds', ob)) : ∃ c al : I, args = [ivS c, ivS al] ∧ x = .tup [ivS (f c al).1, .si .i64 (f c al).2] ∧ ob = ggO c al := by
  unfold kGg at h
  split at h
  · rename_i a b c d
    simp only [Option.some.injEq, Prod.mk.injEq] at h
    obtain ⟨rfl, _, rfl⟩ := h
    exact ⟨⟨a, b⟩, ⟨c, d⟩, rfl, rfl, rfl⟩
  · cases h
theorem rggDG : PlainOk Tryz.prog 86 (kGg (ggR KkR ggD)) := by
  intro args ds x ds' ob h ho
  obtain ⟨c, al, rfl, rfl, rfl⟩ := kGg_in h
  refine ⟨[.agg #[.float .f64 c.lo.b, .float .f64 c.hi.b], .agg #[.float .f64 al.lo.b, .float .f64 al.hi.b]], _, rfl, rfl, fun w => ?_⟩
  unfold ggR
  have h0 := rDRun0 KkR c al
  have h1 := rDRun1 KkR c al
  generalize ggE KkR ggD c al = E at *
  cases k : neB E.2
  · exact calls_of_val goodH oracleRF0 80 h0 (obs_c k (rgO_ok ho)) rfl rfl w
  · exact calls_of_val goodH oracleRF0 80 h1 (obs_c k (rgO_ok ho)) rfl rfl w
theorem rLaG : PlainOk Tryz.prog 162 (kGg (laR KkR)) := by
  intro args ds x ds' ob h ho
  obtain ⟨c, al, rfl, rfl, rfl⟩ := kGg_in h
  refine ⟨[.agg #[.float .f64 c.lo.b, .float .f64 c.hi.b], .agg #[.float .f64 al.lo.b, .float .f64 al.hi.b]], _, rfl, rfl, fun w => ?_⟩
  unfold laR
  cases k : neB (ggE KkR rg1 c al).2
  · have r := rLRun0 KkR c al (decide ((rgX KkR c al).lo.k < z64.k)) (decide ((rgX KkR c al).hi.k < z64.k))
    have e : rgZ KkR c al (decide ((rgX KkR c al).lo.k < z64.k)) (decide ((rgX KkR c al).hi.k < z64.k)) = hidI (rgX KkR c al) := by
      unfold rgZ
      have z : (toF 0).k = z64.k := rfl
      have l := mxF_k (rgX KkR c al).lo (toF 0)
      have u := mxF_k (rgX KkR c al).hi (toF 0)
      refine congr (congrArg I.mk (F.ext' ?_)) (F.ext' ?_)
      · rw [l, z]
        cases g : decide ((rgX KkR c al).lo.k < z64.k)
        · have := of_decide_eq_false g; show (rgX KkR c al).lo.k = _; omega
        · have := of_decide_eq_true g; show z64.k = _; omega
      · rw [u, z]
        cases g : decide ((rgX KkR c al).hi.k < z64.k)
        · have := of_decide_eq_false g; show (rgX KkR c al).hi.k = _; omega
        · have := of_decide_eq_true g; show z64.k = _; omega
    rw [e] at r
    simp only [cond_false]
    generalize hidI (rgX KkR c al) = V at r ⊢
    exact calls_of_val goodH oracleRF0 80 r (obs_c rfl (obs_c rfl (obs_c k (rgO_ok ho)))) rfl rfl w
  · simp only [cond_true]
    exact calls_of_val goodH oracleRF0 80 (rLRun1 KkR c al) (obs_c k (rgO_ok ho)) rfl rfl w
theorem oracleRFL : OracleOk Tryz.prog (ORFL KkR (laR KkR)) := .cons raddC (.cons rsubC (.cons rmulC (.cons rdivC (.cons rmax_I (.cons rsqrC (.cons rsqtC (.cons rnegC (.cons rnumC (.cons rrtK2.of (.cons rpiG.of (.cons keptK.of (.cons rLaG.of (.nil _)))))))))))))
theorem rG1G0 : PlainOk Tryz.prog 85 (kGg (rgR KkR)) := by
  intro args ds x ds' ob h ho
  obtain ⟨c, al, rfl, rfl, rfl⟩ := kGg_in h
  refine ⟨[.agg #[.float .f64 c.lo.b, .float .f64 c.hi.b], .agg #[.float .f64 al.lo.b, .float .f64 al.hi.b]], _, rfl, rfl, fun w => ?_⟩
  unfold rgR
  have h0 := rGRun0 KkR (laR KkR) c al
  have h1 := rGRun1 KkR (laR KkR) c al
  generalize gt (evalK KkR rg1b [(laR KkR c al).1] 0).1 0 = V at *
  cases k : neB (laR KkR c al).2
  · exact calls_of_val goodH oracleRFL 80 h0 (obs_c k ho) rfl rfl w
  · exact calls_of_val goodH oracleRFL 80 h1 (obs_c k ho) rfl rfl w
theorem rgR_fun : rgR KkR = ggR KkR gg1 := funext fun c => funext fun al => rgR_eq c al
theorem rgg1G : PlainOk Tryz.prog 85 (kGg (ggR KkR gg1)) := rgR_fun ▸ rG1G0
def dE (e f : Int) : Int := bif decide (e = 20) || decide (f = 20) then 20 else bif neB e || neB f then 2 else 0
theorem dE_code (a b c d e f : Bool) : dE (codeE (a && c) (d && f)) (codeE (b && c) (e && f)) = codeE (c && (a && b)) (f && (d && e)) := by cases a <;> cases b <;> cases c <;> cases d <;> cases e <;> cases f <;> decide
def code2 (x1 x2 x3 x4 x5 x6 y1 y2 y3 y4 y5 y6 g h : Nat) : Int := dE (codeW x1 x2 x3 x4 x5 x6 g h) (codeW y1 y2 y3 y4 y5 y6 g h)
def NW (x1 x2 x3 x4 x5 x6 y1 y2 y3 y4 y5 y6 g h : Nat) : I × Int := bif neB (code2 x1 x2 x3 x4 x5 x6 y1 y2 y3 y4 y5 y6 g h) then (I.zero, code2 x1 x2 x3 x4 x5 x6 y1 y2 y3 y4 y5 y6 g h) else dnR KkR (vF x1 x2 x3 x4 x5 x6) (vF y1 y2 y3 y4 y5 y6) (iF g h)
def kNW (G : Nat → Nat → Nat → Nat → Nat → Nat → Nat → Nat → Nat → Nat → Nat → Nat → Nat → Nat → I × Int) : List SV → Dec → Option (SV × Dec × Obs)
  | [.agg l, .agg k, .agg j], ds => match rawsW l, rawsW k, rawsW j with
    | some [x1, x2, x3, x4, x5, x6], some [y1, y2, y3, y4, y5, y6], some [g, h] => some (.tup [.agg [.fl (G x1 x2 x3 x4 x5 x6 y1 y2 y3 y4 y5 y6 g h).1.lo, .fl (G x1 x2 x3 x4 x5 x6 y1 y2 y3 y4 y5 y6 g h).1.hi], .si .i64 (G x1 x2 x3 x4 x5 x6 y1 y2 y3 y4 y5 y6 g h).2], ds, [bl x1, bl x2, bl x3, bl x4, bl x5, bl x6, bl y1, bl y2, bl y3, bl y4, bl y5, bl y6, bl g, bl h])
    | _, _, _ => none
  | _, _ => none
def densW (f : FuncId) : Prop := ∀ (x1 x2 x3 x4 x5 x6 y1 y2 y3 y4 y5 y6 g h : Nat) (hx1 : x1 < 18446744073709551616) (hx2 : x2 < 18446744073709551616) (hx3 : x3 < 18446744073709551616) (hx4 : x4 < 18446744073709551616) (hx5 : x5 < 18446744073709551616) (hx6 : x6 < 18446744073709551616) (hy1 : y1 < 18446744073709551616) (hy2 : y2 < 18446744073709551616) (hy3 : y3 < 18446744073709551616) (hy4 : y4 < 18446744073709551616) (hy5 : y5 < 18446744073709551616) (hy6 : y6 < 18446744073709551616) (hg : g < 18446744073709551616) (hh : h < 18446744073709551616) (w : World), Calls Tryz.prog f #[.agg #[.float .f64 x1, .float .f64 x2, .float .f64 x3, .float .f64 x4, .float .f64 x5, .float .f64 x6], .agg #[.float .f64 y1, .float .f64 y2, .float .f64 y3, .float .f64 y4, .float .f64 y5, .float .f64 y6], .agg #[.float .f64 g, .float .f64 h]] w fun e w' => e = .returned (.tuple #[.agg #[.float .f64 (NW x1 x2 x3 x4 x5 x6 y1 y2 y3 y4 y5 y6 g h).1.lo.b, .float .f64 (NW x1 x2 x3 x4 x5 x6 y1 y2 y3 y4 y5 y6 g h).1.hi.b], .int .i64 (NW x1 x2 x3 x4 x5 x6 y1 y2 y3 y4 y5 y6 g h).2]) ∧ Below w.heap.size w w'
theorem dens_K {f : FuncId} (hf : densW f) : PlainOk Tryz.prog f (kNW NW) := by
  intro args ds x ds' ob h ho
  unfold kNW at h
  split at h
  · rename_i l k j
    split at h
    · rename_i x1 x2 x3 x4 x5 x6 y1 y2 y3 y4 y5 y6 g h' e1 e2 e3
      simp only [Option.some.injEq, Prod.mk.injEq] at h
      obtain ⟨rfl, _, rfl⟩ := h
      exact ⟨_, _, plains_cons (agg_plain e1) (plains_cons (agg_plain e2) (plains_cons (agg_plain e3) plains_nil)), rfl, fun w => hf x1 x2 x3 x4 x5 x6 y1 y2 y3 y4 y5 y6 g h' (bl_lt ho (List.mem_cons_self ..)) (bl_lt ho (List.mem_cons_of_mem _ (List.mem_cons_self ..))) (bl_lt ho (List.mem_cons_of_mem _ (List.mem_cons_of_mem _ (List.mem_cons_self ..)))) (bl_lt ho (List.mem_cons_of_mem _ (List.mem_cons_of_mem _ (List.mem_cons_of_mem _ (List.mem_cons_self ..))))) (bl_lt ho (List.mem_cons_of_mem _ (List.mem_cons_of_mem _ (List.mem_cons_of_mem _ (List.mem_cons_of_mem _ (List.mem_cons_self ..)))))) (bl_lt ho (List.mem_cons_of_mem _ (List.mem_cons_of_mem _ (List.mem_cons_of_mem _ (List.mem_cons_of_mem _ (List.mem_cons_of_mem _ (List.mem_cons_self ..))))))) (bl_lt ho (List.mem_cons_of_mem _ (List.mem_cons_of_mem _ (List.mem_cons_of_mem _ (List.mem_cons_of_mem _ (List.mem_cons_of_mem _ (List.mem_cons_of_mem _ (List.mem_cons_self ..)))))))) (bl_lt ho (List.mem_cons_of_mem _ (List.mem_cons_of_mem _ (List.mem_cons_of_mem _ (List.mem_cons_of_mem _ (List.mem_cons_of_mem _ (List.mem_cons_of_mem _ (List.mem_cons_of_mem _ (List.mem_cons_self ..))))))))) (bl_lt ho (List.mem_cons_of_mem _ (List.mem_cons_of_mem _ (List.mem_cons_of_mem _ (List.mem_cons_of_mem _ (List.mem_cons_of_mem _ (List.mem_cons_of_mem _ (List.mem_cons_of_mem _ (List.mem_cons_of_mem _ (List.mem_cons_self ..)))))))))) (bl_lt ho (List.mem_cons_of_mem _ (List.mem_cons_of_mem _ (List.mem_cons_of_mem _ (List.mem_cons_of_mem _ (List.mem_cons_of_mem _ (List.mem_cons_of_mem _ (List.mem_cons_of_mem _ (List.mem_cons_of_mem _ (List.mem_cons_of_mem _ (List.mem_cons_self ..))))))))))) (bl_lt ho (List.mem_cons_of_mem _ (List.mem_cons_of_mem _ (List.mem_cons_of_mem _ (List.mem_cons_of_mem _ (List.mem_cons_of_mem _ (List.mem_cons_of_mem _ (List.mem_cons_of_mem _ (List.mem_cons_of_mem _ (List.mem_cons_of_mem _ (List.mem_cons_of_mem _ (List.mem_cons_self ..)))))))))))) (bl_lt ho (List.mem_cons_of_mem _ (List.mem_cons_of_mem _ (List.mem_cons_of_mem _ (List.mem_cons_of_mem _ (List.mem_cons_of_mem _ (List.mem_cons_of_mem _ (List.mem_cons_of_mem _ (List.mem_cons_of_mem _ (List.mem_cons_of_mem _ (List.mem_cons_of_mem _ (List.mem_cons_of_mem _ (List.mem_cons_self ..))))))))))))) (bl_lt ho (List.mem_cons_of_mem _ (List.mem_cons_of_mem _ (List.mem_cons_of_mem _ (List.mem_cons_of_mem _ (List.mem_cons_of_mem _ (List.mem_cons_of_mem _ (List.mem_cons_of_mem _ (List.mem_cons_of_mem _ (List.mem_cons_of_mem _ (List.mem_cons_of_mem _ (List.mem_cons_of_mem _ (List.mem_cons_of_mem _ (List.mem_cons_self ..)))))))))))))) (bl_lt ho (List.mem_cons_of_mem _ (List.mem_cons_of_mem _ (List.mem_cons_of_mem _ (List.mem_cons_of_mem _ (List.mem_cons_of_mem _ (List.mem_cons_of_mem _ (List.mem_cons_of_mem _ (List.mem_cons_of_mem _ (List.mem_cons_of_mem _ (List.mem_cons_of_mem _ (List.mem_cons_of_mem _ (List.mem_cons_of_mem _ (List.mem_cons_of_mem _ (List.mem_cons_self ..))))))))))))))) w⟩
    · cases h
  · cases h
def rt14 (x1 x2 x3 x4 x5 x6 y1 y2 y3 y4 y5 y6 g h : Nat) : List Bool := [rtW g h, rtW x1 x2, rtW x3 x4, rtW x5 x6, rtW y1 y2, rtW y3 y4, rtW y5 y6]
def my14 (x1 x2 x3 x4 x5 x6 y1 y2 y3 y4 y5 y6 g h : Nat) : List Bool := [gew g minA, lew h one64, gew x1 mone64, lew x2 one64, gew x3 mone64, lew x4 one64, gew x5 z64, lew x6 one64, gew y1 mone64, lew y2 one64, gew y3 mone64, lew y4 one64, gew y5 z64, lew y6 one64]
theorem rt14_all (x1 x2 x3 x4 x5 x6 y1 y2 y3 y4 y5 y6 g h : Nat) : (rt14 x1 x2 x3 x4 x5 x6 y1 y2 y3 y4 y5 y6 g h).all id = (rtW g h && (Rv x1 x2 x3 x4 x5 x6 rtW && Rv y1 y2 y3 y4 y5 y6 rtW)) := by
  unfold rt14 Rv; simp only [List.all_cons, List.all_nil, id, Bool.and_true, Bool.and_assoc]
theorem my14_all (x1 x2 x3 x4 x5 x6 y1 y2 y3 y4 y5 y6 g h : Nat) : (my14 x1 x2 x3 x4 x5 x6 y1 y2 y3 y4 y5 y6 g h).all id = (Ma g h && (Mv x1 x2 x3 x4 x5 x6 && Mv y1 y2 y3 y4 y5 y6)) := by
  unfold my14 Mv Ma; simp only [List.all_cons, List.all_nil, id, Bool.and_true, Bool.and_assoc]
theorem tsN_ok {x1 x2 x3 x4 x5 x6 y1 y2 y3 y4 y5 y6 g h : Nat} (hx1 : x1 < 18446744073709551616) (hx2 : x2 < 18446744073709551616) (hx3 : x3 < 18446744073709551616) (hx4 : x4 < 18446744073709551616) (hx5 : x5 < 18446744073709551616) (hx6 : x6 < 18446744073709551616) (hy1 : y1 < 18446744073709551616) (hy2 : y2 < 18446744073709551616) (hy3 : y3 < 18446744073709551616) (hy4 : y4 < 18446744073709551616) (hy5 : y5 < 18446744073709551616) (hy6 : y6 < 18446744073709551616) (hg : g < 18446744073709551616) (hh : h < 18446744073709551616) : ∀ t ∈ tsN x1 x2 x3 x4 x5 x6 y1 y2 y3 y4 y5 y6 g h, okT rtW (lead (rt14 x1 x2 x3 x4 x5 x6 y1 y2 y3 y4 y5 y6 g h)) (lead (my14 x1 x2 x3 x4 x5 x6 y1 y2 y3 y4 y5 y6 g h)) t := by
  intro t ht
  simp only [tsN, List.mem_cons, List.not_mem_nil, or_false] at ht
  have R : ∀ {k : Nat} {c : Bool}, (rt14 x1 x2 x3 x4 x5 x6 y1 y2 y3 y4 y5 y6 g h)[k]? = some c → (k < lead (rt14 x1 x2 x3 x4 x5 x6 y1 y2 y3 y4 y5 y6 g h) → c = true) ∧ (k = lead (rt14 x1 x2 x3 x4 x5 x6 y1 y2 y3 y4 y5 y6 g h) → c = false) := fun h => lead_at h
  have M : ∀ {k : Nat} {c : Bool}, (my14 x1 x2 x3 x4 x5 x6 y1 y2 y3 y4 y5 y6 g h)[k]? = some c → (k < lead (my14 x1 x2 x3 x4 x5 x6 y1 y2 y3 y4 y5 y6 g h) → c = true) ∧ (k = lead (my14 x1 x2 x3 x4 x5 x6 y1 y2 y3 y4 y5 y6 g h) → c = false) := fun h => lead_at h
  rcases ht with rfl | rfl | rfl | rfl | rfl | rfl | rfl | rfl | rfl | rfl | rfl | rfl | rfl | rfl | rfl | rfl | rfl | rfl | rfl | rfl | rfl
  · exact ⟨hg, hh, R rfl⟩
  · exact M rfl
  · exact M rfl
  · exact ⟨hx1, hx2, R rfl⟩
  · exact ⟨hx3, hx4, R rfl⟩
  · exact ⟨hx5, hx6, R rfl⟩
  · exact M rfl
  · exact M rfl
  · exact M rfl
  · exact M rfl
  · exact M rfl
  · exact M rfl
  · exact ⟨hy1, hy2, R rfl⟩
  · exact ⟨hy3, hy4, R rfl⟩
  · exact ⟨hy5, hy6, R rfl⟩
  · exact M rfl
  · exact M rfl
  · exact M rfl
  · exact M rfl
  · exact M rfl
  · exact M rfl
theorem dn_w : densW 20 := by
  intro x1 x2 x3 x4 x5 x6 y1 y2 y3 y4 y5 y6 g h hx1 hx2 hx3 hx4 hx5 hx6 hy1 hy2 hy3 hy4 hy5 hy6 hg hh w
  have hcd : code2 x1 x2 x3 x4 x5 x6 y1 y2 y3 y4 y5 y6 g h = codeE (rtW g h && (Rv x1 x2 x3 x4 x5 x6 rtW && Rv y1 y2 y3 y4 y5 y6 rtW)) (Ma g h && (Mv x1 x2 x3 x4 x5 x6 && Mv y1 y2 y3 y4 y5 y6)) := dE_code _ _ _ _ _ _
  obtain ⟨c1, c2, c3⟩ := code_3 (R := rtW g h && (Rv x1 x2 x3 x4 x5 x6 rtW && Rv y1 y2 y3 y4 y5 y6 rtW)) (M := Ma g h && (Mv x1 x2 x3 x4 x5 x6 && Mv y1 y2 y3 y4 y5 y6))
  rw [← hcd] at c1 c2 c3
  have ra := rt14_all x1 x2 x3 x4 x5 x6 y1 y2 y3 y4 y5 y6 g h
  have ma := my14_all x1 x2 x3 x4 x5 x6 y1 y2 y3 y4 y5 y6 g h
  cases hc : neB (code2 x1 x2 x3 x4 x5 x6 y1 y2 y3 y4 y5 y6 g h)
  · obtain ⟨hR, hM⟩ := c3 hc
    obtain ⟨hR1, hR2⟩ := and_2 hR
    obtain ⟨hR2, hR3⟩ := and_2 hR2
    obtain ⟨hM1, hM2⟩ := and_2 hM
    obtain ⟨hM2, hM3⟩ := and_2 hM2
    obtain ⟨v, rfl, rfl, rfl, rfl, rfl, rfl, ov⟩ := good_v hR2 hM2
    obtain ⟨u, rfl, rfl, rfl, rfl, rfl, rfl, ou⟩ := good_v hR3 hM3
    obtain ⟨al, rfl, rfl, oa⟩ := good_a hR1 hM1
    have e : NW v.x.lo.b v.x.hi.b v.y.lo.b v.y.hi.b v.z.lo.b v.z.hi.b u.x.lo.b u.x.hi.b u.y.lo.b u.y.hi.b u.z.lo.b u.z.hi.b al.lo.b al.hi.b = dnR KkR v u al := by unfold NW; rw [hc, cond_false, vF_F, vF_F, iF_F]
    rw [e]
    obtain ⟨vs, y, e1, e2, k⟩ := dnG [v.sv, u.sv, ivS al] (some []) _ _ _ rfl (obs_app (obs_app ou ov) oa)
    have e1' : vs = [.agg #[.float .f64 v.x.lo.b, .float .f64 v.x.hi.b, .float .f64 v.y.lo.b, .float .f64 v.y.hi.b, .float .f64 v.z.lo.b, .float .f64 v.z.hi.b], .agg #[.float .f64 u.x.lo.b, .float .f64 u.x.hi.b, .float .f64 u.y.lo.b, .float .f64 u.y.hi.b, .float .f64 u.z.lo.b, .float .f64 u.z.hi.b], .agg #[.float .f64 al.lo.b, .float .f64 al.hi.b]] := (Option.some.inj e1).symm
    subst e1'
    generalize dnR KkR v u al = V at *
    have e2' : y = .tuple #[.agg #[.float .f64 V.1.lo.b, .float .f64 V.1.hi.b], .int .i64 V.2] := (Option.some.inj e2).symm
    subst e2'
    exact k w
  · have e : NW x1 x2 x3 x4 x5 x6 y1 y2 y3 y4 y5 y6 g h = (I.zero, code2 x1 x2 x3 x4 x5 x6 y1 y2 y3 y4 y5 y6 g h) := by unfold NW; rw [hc, cond_true]
    rw [e]
    have li' : lead (rt14 x1 x2 x3 x4 x5 x6 y1 y2 y3 y4 y5 y6 g h) ≤ 7 := lead_le (rt14 x1 x2 x3 x4 x5 x6 y1 y2 y3 y4 y5 y6 g h)
    have lj' : lead (my14 x1 x2 x3 x4 x5 x6 y1 y2 y3 y4 y5 y6 g h) ≤ 14 := lead_le (my14 x1 x2 x3 x4 x5 x6 y1 y2 y3 y4 y5 y6 g h)
    have hcod : (lead (rt14 x1 x2 x3 x4 x5 x6 y1 y2 y3 y4 y5 y6 g h) < 7 ∨ lead (my14 x1 x2 x3 x4 x5 x6 y1 y2 y3 y4 y5 y6 g h) < 14) ∧ cod (lead (rt14 x1 x2 x3 x4 x5 x6 y1 y2 y3 y4 y5 y6 g h)) 7 = code2 x1 x2 x3 x4 x5 x6 y1 y2 y3 y4 y5 y6 g h := by
      by_cases q : lead (rt14 x1 x2 x3 x4 x5 x6 y1 y2 y3 y4 y5 y6 g h) < 7
      · have f := lead_not (l := rt14 x1 x2 x3 x4 x5 x6 y1 y2 y3 y4 y5 y6 g h) q
        rw [ra] at f
        refine ⟨.inl q, ?_⟩
        rw [c1 f]
        unfold cod
        rw [show Nat.blt (lead (rt14 x1 x2 x3 x4 x5 x6 y1 y2 y3 y4 y5 y6 g h)) 7 = true by rw [Nat.blt_eq]; exact q]; rfl
      · have f := lead_all (l := rt14 x1 x2 x3 x4 x5 x6 y1 y2 y3 y4 y5 y6 g h) (by show lead (rt14 x1 x2 x3 x4 x5 x6 y1 y2 y3 y4 y5 y6 g h) = 7; omega)
        rw [ra] at f
        have f2 : (Ma g h && (Mv x1 x2 x3 x4 x5 x6 && Mv y1 y2 y3 y4 y5 y6)) = false := by
          cases t : (Ma g h && (Mv x1 x2 x3 x4 x5 x6 && Mv y1 y2 y3 y4 y5 y6))
          · rfl
          · rw [hcd, f, t] at hc; cases hc
        refine ⟨.inr ?_, ?_⟩
        · apply Decidable.byContradiction
          intro z
          have f3 := lead_all (l := my14 x1 x2 x3 x4 x5 x6 y1 y2 y3 y4 y5 y6 g h) (by show lead (my14 x1 x2 x3 x4 x5 x6 y1 y2 y3 y4 y5 y6 g h) = 14; omega)
          rw [ma, f2] at f3; cases f3
        · rw [c2 f f2]
          unfold cod
          rw [show Nat.blt (lead (rt14 x1 x2 x3 x4 x5 x6 y1 y2 y3 y4 y5 y6 g h)) 7 = false from Bool.eq_false_iff.2 (fun z => by rw [Nat.blt_eq] at z; omega)]; rfl
    have run := ln_all rtW x1 x2 x3 x4 x5 x6 y1 y2 y3 y4 y5 y6 g h (i := lead (rt14 x1 x2 x3 x4 x5 x6 y1 y2 y3 y4 y5 y6 g h)) (j := lead (my14 x1 x2 x3 x4 x5 x6 y1 y2 y3 y4 y5 y6 g h)) ⟨li', lj', hcod.1⟩
    unfold lnP at run
    rw [hcod.2] at run
    exact calls_of_val goodG oracleOW 80 run (tqO_ok (tsN_ok hx1 hx2 hx3 hx4 hx5 hx6 hy1 hy2 hy3 hy4 hy5 hy6 hg hh) ob_nil) rfl rfl w
theorem dn_K : PlainOk Tryz.prog 20 (kNW NW) := dens_K dn_w
def b16 (x1 x2 x3 x4 x5 x6 y1 y2 y3 y4 y5 y6 g h : Nat) : Obs := bls8 y1 y2 y3 y4 y5 y6 g h ++ bls8 x1 x2 x3 x4 x5 x6 g h
theorem b16_ok {x1 x2 x3 x4 x5 x6 y1 y2 y3 y4 y5 y6 g h : Nat} (hx1 : x1 < 18446744073709551616) (hx2 : x2 < 18446744073709551616) (hx3 : x3 < 18446744073709551616) (hx4 : x4 < 18446744073709551616) (hx5 : x5 < 18446744073709551616) (hx6 : x6 < 18446744073709551616) (hy1 : y1 < 18446744073709551616) (hy2 : y2 < 18446744073709551616) (hy3 : y3 < 18446744073709551616) (hy4 : y4 < 18446744073709551616) (hy5 : y5 < 18446744073709551616) (hy6 : y6 < 18446744073709551616) (hg : g < 18446744073709551616) (hh : h < 18446744073709551616) : ObsOk (b16 x1 x2 x3 x4 x5 x6 y1 y2 y3 y4 y5 y6 g h) := obs_app (bls8_ok hy1 hy2 hy3 hy4 hy5 hy6 hg hh) (bls8_ok hx1 hx2 hx3 hx4 hx5 hx6 hg hh)
theorem rnW1 (c : Nat → Nat → Nat → Nat → Nat → Nat → Nat → Nat → Int) (x1 x2 x3 x4 x5 x6 y1 y2 y3 y4 y5 y6 g h : Nat) : valR ((run Tryz.prog EH (OMay c) 80).1 21 [w6 x1 x2 x3 x4 x5 x6, w6 y1 y2 y3 y4 y5 y6, w2 g h] [] (some [true])) = some (.tup [ivS I.zero, .i .i64 20], some [], (decide (c x1 x2 x3 x4 x5 x6 g h = 20), true) :: b16 x1 x2 x3 x4 x5 x6 y1 y2 y3 y4 y5 y6 g h) := by kernel_rfl
theorem rnW2 (c : Nat → Nat → Nat → Nat → Nat → Nat → Nat → Nat → Int) (x1 x2 x3 x4 x5 x6 y1 y2 y3 y4 y5 y6 g h : Nat) : valR ((run Tryz.prog EH (OMay c) 80).1 21 [w6 x1 x2 x3 x4 x5 x6, w6 y1 y2 y3 y4 y5 y6, w2 g h] [] (some [false, true])) = some (.tup [ivS I.zero, .i .i64 20], some [], (decide (c y1 y2 y3 y4 y5 y6 g h = 20), true) :: (decide (c x1 x2 x3 x4 x5 x6 g h = 20), false) :: b16 x1 x2 x3 x4 x5 x6 y1 y2 y3 y4 y5 y6 g h) := by kernel_rfl
theorem rnW3 (c : Nat → Nat → Nat → Nat → Nat → Nat → Nat → Nat → Int) (x1 x2 x3 x4 x5 x6 y1 y2 y3 y4 y5 y6 g h : Nat) : valR ((run Tryz.prog EH (OMay c) 80).1 21 [w6 x1 x2 x3 x4 x5 x6, w6 y1 y2 y3 y4 y5 y6, w2 g h] [] (some [false, false, true])) = some (.tup [ivS I.zero, .i .i64 2], some [], (neB (c x1 x2 x3 x4 x5 x6 g h), true) :: (decide (c y1 y2 y3 y4 y5 y6 g h = 20), false) :: (decide (c x1 x2 x3 x4 x5 x6 g h = 20), false) :: b16 x1 x2 x3 x4 x5 x6 y1 y2 y3 y4 y5 y6 g h) := by kernel_rfl
theorem rnW4 (c : Nat → Nat → Nat → Nat → Nat → Nat → Nat → Nat → Int) (x1 x2 x3 x4 x5 x6 y1 y2 y3 y4 y5 y6 g h : Nat) : valR ((run Tryz.prog EH (OMay c) 80).1 21 [w6 x1 x2 x3 x4 x5 x6, w6 y1 y2 y3 y4 y5 y6, w2 g h] [] (some [false, false, false, true])) = some (.tup [ivS I.zero, .i .i64 2], some [], (neB (c y1 y2 y3 y4 y5 y6 g h), true) :: (neB (c x1 x2 x3 x4 x5 x6 g h), false) :: (decide (c y1 y2 y3 y4 y5 y6 g h = 20), false) :: (decide (c x1 x2 x3 x4 x5 x6 g h = 20), false) :: b16 x1 x2 x3 x4 x5 x6 y1 y2 y3 y4 y5 y6 g h) := by kernel_rfl
def ORN (K : Kk) (c : Nat → Nat → Nat → Nat → Nat → Nat → Nat → Nat → Int) (g d : I → I → I × Int) : OracleF := lookO (ORF K ++ [(71, plainO (kMay c)), (85, plainO (kGg g)), (86, plainO (kGg d))])
theorem oracleRN : OracleOk Tryz.prog (ORN KkR codeW (ggR KkR gg1) (ggR KkR ggD)) := .cons raddC (.cons rsubC (.cons rmulC (.cons rdivC (.cons rmax_I (.cons rsqrC (.cons rsqtC (.cons rnegC (.cons rnumC (.cons rrtK2.of (.cons rpiG.of (.cons keptK.of (.cons may_K.of (.cons rgg1G.of (.cons rggDG.of (.nil _)))))))))))))))
def mayO (c : Nat → Nat → Nat → Nat → Nat → Nat → Nat → Nat → Int) (v u : V3) (al : I) : Obs := (neB (c u.x.lo.b u.x.hi.b u.y.lo.b u.y.hi.b u.z.lo.b u.z.hi.b al.lo.b al.hi.b), false) :: (neB (c v.x.lo.b v.x.hi.b v.y.lo.b v.y.hi.b v.z.lo.b v.z.hi.b al.lo.b al.hi.b), false) :: (decide (c u.x.lo.b u.x.hi.b u.y.lo.b u.y.hi.b u.z.lo.b u.z.hi.b al.lo.b al.hi.b = 20), false) :: (decide (c v.x.lo.b v.x.hi.b v.y.lo.b v.y.hi.b v.z.lo.b v.z.hi.b al.lo.b al.hi.b = 20), false) :: b16 v.x.lo.b v.x.hi.b v.y.lo.b v.y.hi.b v.z.lo.b v.z.hi.b u.x.lo.b u.x.hi.b u.y.lo.b u.y.hi.b u.z.lo.b u.z.hi.b al.lo.b al.hi.b
def f4 : List Bool := [false, false, false, false]
theorem rnRun1 (K : Kk) (c : Nat → Nat → Nat → Nat → Nat → Nat → Nat → Nat → Int) (g d : I → I → I × Int) (v u : V3) (al : I) : valR ((run Tryz.prog EH (ORN K c g d) 80).1 21 [v.sv, u.sv, ivS al] [] (some (f4 ++ [true]))) = some (.tup [ivS I.zero, .si .i64 (g v.z al).2], some [], (neB (g v.z al).2, true) :: (ggO v.z al ++ mayO c v u al)) := by kernel_rfl
theorem rnRun2 (K : Kk) (c : Nat → Nat → Nat → Nat → Nat → Nat → Nat → Nat → Int) (g d : I → I → I × Int) (v u : V3) (al : I) : valR ((run Tryz.prog EH (ORN K c g d) 80).1 21 [v.sv, u.sv, ivS al] [] (some (f4 ++ [false, true]))) = some (.tup [ivS I.zero, .si .i64 (d u.z al).2], some [], (neB (d u.z al).2, true) :: (ggO u.z al ++ (neB (g v.z al).2, false) :: (ggO v.z al ++ mayO c v u al))) := by kernel_rfl
theorem rnRun3 (K : Kk) (c : Nat → Nat → Nat → Nat → Nat → Nat → Nat → Nat → Int) (g d : I → I → I × Int) (v u : V3) (al : I) : valR ((run Tryz.prog EH (ORN K c g d) 80).1 21 [v.sv, u.sv, ivS al] [] (some (f4 ++ [false, false, true]))) = some (.tup [ivS I.zero, .si .i64 (dnE K v u (g v.z al).1 (d u.z al).1).2], some [], (neB (dnE K v u (g v.z al).1 (d u.z al).1).2, true) :: kl z64 one64 :: (neB (d u.z al).2, false) :: (ggO u.z al ++ (neB (g v.z al).2, false) :: (ggO v.z al ++ mayO c v u al))) := by kernel_rfl
theorem rnRun4 (K : Kk) (c : Nat → Nat → Nat → Nat → Nat → Nat → Nat → Nat → Int) (g d : I → I → I × Int) (v u : V3) (al : I) : valR ((run Tryz.prog EH (ORN K c g d) 80).1 21 [v.sv, u.sv, ivS al] [] (some (f4 ++ [false, false, false]))) = some (.tup [ivS (gt (dnE K v u (g v.z al).1 (d u.z al).1).1 0), .i .i64 0], some [], (neB (dnE K v u (g v.z al).1 (d u.z al).1).2, false) :: kl z64 one64 :: (neB (d u.z al).2, false) :: (ggO u.z al ++ (neB (g v.z al).2, false) :: (ggO v.z al ++ mayO c v u al))) := by kernel_rfl
theorem dE_0 {e f : Int} (h : neB (dE e f) = false) : decide (e = 20) = false ∧ decide (f = 20) = false ∧ neB e = false ∧ neB f = false := by
  unfold dE at h
  cases h1 : decide (e = 20) <;> cases h2 : decide (f = 20) <;> cases h3 : neB e <;> cases h4 : neB f <;> rw [h1, h2, h3, h4] at h <;> first | exact ⟨rfl, rfl, rfl, rfl⟩ | cases h
theorem rn_w : densW 21 := by
  intro x1 x2 x3 x4 x5 x6 y1 y2 y3 y4 y5 y6 g h hx1 hx2 hx3 hx4 hx5 hx6 hy1 hy2 hy3 hy4 hy5 hy6 hg hh w
  have hcd : code2 x1 x2 x3 x4 x5 x6 y1 y2 y3 y4 y5 y6 g h = codeE (rtW g h && (Rv x1 x2 x3 x4 x5 x6 rtW && Rv y1 y2 y3 y4 y5 y6 rtW)) (Ma g h && (Mv x1 x2 x3 x4 x5 x6 && Mv y1 y2 y3 y4 y5 y6)) := dE_code _ _ _ _ _ _
  obtain ⟨_, _, c3⟩ := code_3 (R := rtW g h && (Rv x1 x2 x3 x4 x5 x6 rtW && Rv y1 y2 y3 y4 y5 y6 rtW)) (M := Ma g h && (Mv x1 x2 x3 x4 x5 x6 && Mv y1 y2 y3 y4 y5 y6))
  rw [← hcd] at c3
  have hb := b16_ok hx1 hx2 hx3 hx4 hx5 hx6 hy1 hy2 hy3 hy4 hy5 hy6 hg hh
  cases hc : neB (code2 x1 x2 x3 x4 x5 x6 y1 y2 y3 y4 y5 y6 g h)
  · obtain ⟨d1, d2, d3, d4⟩ := dE_0 hc
    obtain ⟨hR, hM⟩ := c3 hc
    obtain ⟨hR1, hR2⟩ := and_2 hR
    obtain ⟨hR2, hR3⟩ := and_2 hR2
    obtain ⟨hM1, hM2⟩ := and_2 hM
    obtain ⟨hM2, hM3⟩ := and_2 hM2
    obtain ⟨v, rfl, rfl, rfl, rfl, rfl, rfl, ov⟩ := good_v hR2 hM2
    obtain ⟨u, rfl, rfl, rfl, rfl, rfl, rfl, ou⟩ := good_v hR3 hM3
    obtain ⟨al, rfl, rfl, oa⟩ := good_a hR1 hM1
    have e : NW v.x.lo.b v.x.hi.b v.y.lo.b v.y.hi.b v.z.lo.b v.z.hi.b u.x.lo.b u.x.hi.b u.y.lo.b u.y.hi.b u.z.lo.b u.z.hi.b al.lo.b al.hi.b = dnR KkR v u al := by unfold NW; rw [hc, cond_false, vF_F, vF_F, iF_F]
    rw [e]
    obtain ⟨o1, o2⟩ := dnO_gg (v := v) (w := u) (al := al) (obs_app (obs_app ou ov) oa)
    have hm : ObsOk (mayO codeW v u al) := obs_c d4 (obs_c d3 (obs_c d2 (obs_c d1 hb)))
    have r1 := rnRun1 KkR codeW (ggR KkR gg1) (ggR KkR ggD) v u al
    have r2 := rnRun2 KkR codeW (ggR KkR gg1) (ggR KkR ggD) v u al
    have r3 := rnRun3 KkR codeW (ggR KkR gg1) (ggR KkR ggD) v u al
    have r4 := rnRun4 KkR codeW (ggR KkR gg1) (ggR KkR ggD) v u al
    unfold dnR
    generalize dnE KkR v u (ggR KkR gg1 v.z al).1 (ggR KkR ggD u.z al).1 = E at *
    cases k1 : neB (ggR KkR gg1 v.z al).2
    · simp only [cond_false]
      cases k2 : neB (ggR KkR ggD u.z al).2
      · simp only [cond_false]
        cases k3 : neB E.2
        · simp only [cond_false]
          generalize gt E.1 0 = V at *
          exact calls_of_val goodH oracleRN 80 r4 (obs_c k3 (obs_c kl_ok.1 (obs_c k2 (obs_app o2 (obs_c k1 (obs_app o1 hm)))))) rfl rfl w
        · simp only [cond_true]
          exact calls_of_val goodH oracleRN 80 r3 (obs_c k3 (obs_c kl_ok.1 (obs_c k2 (obs_app o2 (obs_c k1 (obs_app o1 hm)))))) rfl rfl w
      · simp only [cond_true]
        exact calls_of_val goodH oracleRN 80 r2 (obs_c k2 (obs_app o2 (obs_c k1 (obs_app o1 hm)))) rfl rfl w
    · simp only [cond_true]
      exact calls_of_val goodH oracleRN 80 r1 (obs_c k1 (obs_app o1 hm)) rfl rfl w
  · have e : NW x1 x2 x3 x4 x5 x6 y1 y2 y3 y4 y5 y6 g h = (I.zero, code2 x1 x2 x3 x4 x5 x6 y1 y2 y3 y4 y5 y6 g h) := by unfold NW; rw [hc, cond_true]
    rw [e]
    have hc' := hc
    unfold code2 dE at hc' ⊢
    have q1 := rnW1 codeW x1 x2 x3 x4 x5 x6 y1 y2 y3 y4 y5 y6 g h
    have q2 := rnW2 codeW x1 x2 x3 x4 x5 x6 y1 y2 y3 y4 y5 y6 g h
    have q3 := rnW3 codeW x1 x2 x3 x4 x5 x6 y1 y2 y3 y4 y5 y6 g h
    have q4 := rnW4 codeW x1 x2 x3 x4 x5 x6 y1 y2 y3 y4 y5 y6 g h
    generalize codeW x1 x2 x3 x4 x5 x6 g h = A at *
    generalize codeW y1 y2 y3 y4 y5 y6 g h = B at *
    cases d1 : decide (A = 20)
    · cases d2 : decide (B = 20)
      · cases d3 : neB A
        · cases d4 : neB B
          · rw [d1, d2, d3, d4] at hc'; cases hc'
          · exact calls_of_val goodH oracleMay 80 q4 (obs_c d4 (obs_c d3 (obs_c d2 (obs_c d1 hb)))) rfl rfl w
        · exact calls_of_val goodH oracleMay 80 q3 (obs_c d3 (obs_c d2 (obs_c d1 hb))) rfl rfl w
      · exact calls_of_val goodH oracleMay 80 q2 (obs_c d2 (obs_c d1 hb)) rfl rfl w
    · exact calls_of_val goodH oracleMay 80 q1 (obs_c d1 hb) rfl rfl w
theorem rn_K : PlainOk Tryz.prog 21 (kNW NW) := dens_K rn_w
end Go.Proofs.YtmhhopfffeijnaaGreat
