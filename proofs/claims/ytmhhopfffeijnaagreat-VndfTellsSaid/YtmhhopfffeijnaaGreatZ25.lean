/- The document's answers on draws: what they stand on. The document's answers on draws: what is left, bit by bit. The document's answers on draws: the upper bits. The document's answers on draws: what they come to. The document's answers on draws: Of, Half, Split. -/
import Derived.Test.YtmhhopfffeijnaaGreatZ20
import Derived.Test.YtmhhopfffeijnaaGreatZ07
import Derived.Test.YtmhhopfffeijnaaGreatZ02

namespace Go.Proofs.YtmhhopfffeijnaaGreat
set_option linter.all false
open Go.RowKit Bu Rx

end Go.Proofs.YtmhhopfffeijnaaGreat
namespace Go.Proofs.YtmhhopfffeijnaaGreat
set_option linter.all false
open Go.RowKit Bu Rx

def gq (n : Int) (j : Nat) (d : Bool) : Bool × Bool := (decide (IntKind.u64.wrap (n.tdiv ((2 ^ j : Nat) : Int)) ≥ 9007199254740992), d)
def mulT (n : Int) (c : Nat) : Option Nat := Ieee.double.mul (toF (FloatKind.f64.nearest (IntKind.u64.wrap (n.tdiv ((2 ^ c : Nat) : Int))))).b (toF (FloatKind.f64.nearest ((2 ^ c : Nat) : Int))).b
def rq (n : Int) (c : Nat) (d : Bool) : Bool × Bool := (n.tmod ((2 ^ c : Nat) : Int) != 0, d)
def trn (n : Int) (c : Nat) : Bool × Bool := (rightB (FloatKind.f64.nearest (IntKind.u64.wrap (n.tdiv ((2 ^ c : Nat) : Int)))), true)
def prn (n : Int) (c : Nat) : Bool × Bool := (rightB ((mulT n c).getD 0), true)
/-- the tests of the loop -/
def gqs (n : Int) (c : Nat) : Nat → Obs
  | 0 => []
  | k + 1 => gq n k true :: gqs n c k
theorem gqs_ok {n : Int} {c : Nat} : ∀ k, (∀ j, j < k → (gq n j true).1 = true) → obsB (gqs n c k) = true
  | 0, _ => rfl
  | k + 1, h => by
    have h1 := h k (by omega)
    have h2 := gqs_ok (c := c) k fun j hj => h j (by omega)
    unfold obsB at h2 ⊢
    simp only [gqs, List.all_cons, h2, Bool.and_true]
    rw [h1]; rfl

set_option maxHeartbeats 4000000 in
theorem topRun (n : Int) (c : Nat) (d : Bool) (hc : c ≤ 11) (hg : obsB (gqs n c c) = true) (h1 : (gq n c false).1 = false) (h2 : (mulT n c).isSome = true) (h4 : (prn n c).1 = true) (h5 : (trn n c).1 = true) (h3 : (rq n c d).1 = d) (w : World) :
    Calls Tryz.prog 119 #[.int .u64 n] w fun e w' => e = .returned (.tuple #[.float .f64 (toF ((mulT n c).getD 0)).b, .bool d]) ∧ Below w.heap.size w w' := by
  have key : ∀ ob : Obs, ob = rq n c d :: ((mulT n c).isSome, true) :: prn n c :: trn n c :: gq n c false :: gqs n c c → ObsOk ob := by
    rintro ob rfl p hp
    rcases List.mem_cons.1 hp with rfl | hp
    · exact h3
    · rcases List.mem_cons.1 hp with rfl | hp
      · exact h2
      · rcases List.mem_cons.1 hp with rfl | hp
        · exact h4
        · rcases List.mem_cons.1 hp with rfl | hp
          · exact h5
          · rcases List.mem_cons.1 hp with rfl | hp
            · exact h1
            · exact ObsOk.of_B hg p hp
  match c, hc, key with
  | 0, _, key => cases d with
    | false => exact calls_of_run goodG oracleN 60 (g := 119) (args := [.si .u64 n]) (ds := some [false, false]) (x := .tup [.fl (toF ((mulT n 0).getD 0)), .b false]) (M' := []) (ds' := some []) (by kernel_rfl) (key _ rfl) rfl rfl w
    | true => exact calls_of_run goodG oracleN 60 (g := 119) (args := [.si .u64 n]) (ds := some [false, true]) (x := .tup [.fl (toF ((mulT n 0).getD 0)), .b true]) (M' := []) (ds' := some []) (by kernel_rfl) (key _ rfl) rfl rfl w
  | 1, _, key => cases d with
    | false => exact calls_of_run goodG oracleN 60 (g := 119) (args := [.si .u64 n]) (ds := some [true, false, false]) (x := .tup [.fl (toF ((mulT n 1).getD 0)), .b false]) (M' := []) (ds' := some []) (by kernel_rfl) (key _ rfl) rfl rfl w
    | true => exact calls_of_run goodG oracleN 60 (g := 119) (args := [.si .u64 n]) (ds := some [true, false, true]) (x := .tup [.fl (toF ((mulT n 1).getD 0)), .b true]) (M' := []) (ds' := some []) (by kernel_rfl) (key _ rfl) rfl rfl w
  | 2, _, key => cases d with
    | false => exact calls_of_run goodG oracleN 60 (g := 119) (args := [.si .u64 n]) (ds := some [true, true, false, false]) (x := .tup [.fl (toF ((mulT n 2).getD 0)), .b false]) (M' := []) (ds' := some []) (by kernel_rfl) (key _ rfl) rfl rfl w
    | true => exact calls_of_run goodG oracleN 60 (g := 119) (args := [.si .u64 n]) (ds := some [true, true, false, true]) (x := .tup [.fl (toF ((mulT n 2).getD 0)), .b true]) (M' := []) (ds' := some []) (by kernel_rfl) (key _ rfl) rfl rfl w
  | 3, _, key => cases d with
    | false => exact calls_of_run goodG oracleN 60 (g := 119) (args := [.si .u64 n]) (ds := some [true, true, true, false, false]) (x := .tup [.fl (toF ((mulT n 3).getD 0)), .b false]) (M' := []) (ds' := some []) (by kernel_rfl) (key _ rfl) rfl rfl w
    | true => exact calls_of_run goodG oracleN 60 (g := 119) (args := [.si .u64 n]) (ds := some [true, true, true, false, true]) (x := .tup [.fl (toF ((mulT n 3).getD 0)), .b true]) (M' := []) (ds' := some []) (by kernel_rfl) (key _ rfl) rfl rfl w
  | 4, _, key => cases d with
    | false => exact calls_of_run goodG oracleN 60 (g := 119) (args := [.si .u64 n]) (ds := some [true, true, true, true, false, false]) (x := .tup [.fl (toF ((mulT n 4).getD 0)), .b false]) (M' := []) (ds' := some []) (by kernel_rfl) (key _ rfl) rfl rfl w
    | true => exact calls_of_run goodG oracleN 60 (g := 119) (args := [.si .u64 n]) (ds := some [true, true, true, true, false, true]) (x := .tup [.fl (toF ((mulT n 4).getD 0)), .b true]) (M' := []) (ds' := some []) (by kernel_rfl) (key _ rfl) rfl rfl w
  | 5, _, key => cases d with
    | false => exact calls_of_run goodG oracleN 60 (g := 119) (args := [.si .u64 n]) (ds := some [true, true, true, true, true, false, false]) (x := .tup [.fl (toF ((mulT n 5).getD 0)), .b false]) (M' := []) (ds' := some []) (by kernel_rfl) (key _ rfl) rfl rfl w
    | true => exact calls_of_run goodG oracleN 60 (g := 119) (args := [.si .u64 n]) (ds := some [true, true, true, true, true, false, true]) (x := .tup [.fl (toF ((mulT n 5).getD 0)), .b true]) (M' := []) (ds' := some []) (by kernel_rfl) (key _ rfl) rfl rfl w
  | 6, _, key => cases d with
    | false => exact calls_of_run goodG oracleN 60 (g := 119) (args := [.si .u64 n]) (ds := some [true, true, true, true, true, true, false, false]) (x := .tup [.fl (toF ((mulT n 6).getD 0)), .b false]) (M' := []) (ds' := some []) (by kernel_rfl) (key _ rfl) rfl rfl w
    | true => exact calls_of_run goodG oracleN 60 (g := 119) (args := [.si .u64 n]) (ds := some [true, true, true, true, true, true, false, true]) (x := .tup [.fl (toF ((mulT n 6).getD 0)), .b true]) (M' := []) (ds' := some []) (by kernel_rfl) (key _ rfl) rfl rfl w
  | 7, _, key => cases d with
    | false => exact calls_of_run goodG oracleN 60 (g := 119) (args := [.si .u64 n]) (ds := some [true, true, true, true, true, true, true, false, false]) (x := .tup [.fl (toF ((mulT n 7).getD 0)), .b false]) (M' := []) (ds' := some []) (by kernel_rfl) (key _ rfl) rfl rfl w
    | true => exact calls_of_run goodG oracleN 60 (g := 119) (args := [.si .u64 n]) (ds := some [true, true, true, true, true, true, true, false, true]) (x := .tup [.fl (toF ((mulT n 7).getD 0)), .b true]) (M' := []) (ds' := some []) (by kernel_rfl) (key _ rfl) rfl rfl w
  | 8, _, key => cases d with
    | false => exact calls_of_run goodG oracleN 60 (g := 119) (args := [.si .u64 n]) (ds := some [true, true, true, true, true, true, true, true, false, false]) (x := .tup [.fl (toF ((mulT n 8).getD 0)), .b false]) (M' := []) (ds' := some []) (by kernel_rfl) (key _ rfl) rfl rfl w
    | true => exact calls_of_run goodG oracleN 60 (g := 119) (args := [.si .u64 n]) (ds := some [true, true, true, true, true, true, true, true, false, true]) (x := .tup [.fl (toF ((mulT n 8).getD 0)), .b true]) (M' := []) (ds' := some []) (by kernel_rfl) (key _ rfl) rfl rfl w
  | 9, _, key => cases d with
    | false => exact calls_of_run goodG oracleN 60 (g := 119) (args := [.si .u64 n]) (ds := some [true, true, true, true, true, true, true, true, true, false, false]) (x := .tup [.fl (toF ((mulT n 9).getD 0)), .b false]) (M' := []) (ds' := some []) (by kernel_rfl) (key _ rfl) rfl rfl w
    | true => exact calls_of_run goodG oracleN 60 (g := 119) (args := [.si .u64 n]) (ds := some [true, true, true, true, true, true, true, true, true, false, true]) (x := .tup [.fl (toF ((mulT n 9).getD 0)), .b true]) (M' := []) (ds' := some []) (by kernel_rfl) (key _ rfl) rfl rfl w
  | 10, _, key => cases d with
    | false => exact calls_of_run goodG oracleN 60 (g := 119) (args := [.si .u64 n]) (ds := some [true, true, true, true, true, true, true, true, true, true, false, false]) (x := .tup [.fl (toF ((mulT n 10).getD 0)), .b false]) (M' := []) (ds' := some []) (by kernel_rfl) (key _ rfl) rfl rfl w
    | true => exact calls_of_run goodG oracleN 60 (g := 119) (args := [.si .u64 n]) (ds := some [true, true, true, true, true, true, true, true, true, true, false, true]) (x := .tup [.fl (toF ((mulT n 10).getD 0)), .b true]) (M' := []) (ds' := some []) (by kernel_rfl) (key _ rfl) rfl rfl w
  | 11, _, key => cases d with
    | false => exact calls_of_run goodG oracleN 60 (g := 119) (args := [.si .u64 n]) (ds := some [true, true, true, true, true, true, true, true, true, true, true, false, false]) (x := .tup [.fl (toF ((mulT n 11).getD 0)), .b false]) (M' := []) (ds' := some []) (by kernel_rfl) (key _ rfl) rfl rfl w
    | true => exact calls_of_run goodG oracleN 60 (g := 119) (args := [.si .u64 n]) (ds := some [true, true, true, true, true, true, true, true, true, true, true, false, true]) (x := .tup [.fl (toF ((mulT n 11).getD 0)), .b true]) (M' := []) (ds' := some []) (by kernel_rfl) (key _ rfl) rfl rfl w
  | _ + 12, hc, _ => omega
end Go.Proofs.YtmhhopfffeijnaaGreat
namespace Go.Proofs.YtmhhopfffeijnaaGreat
set_option linter.all false
open Go.RowKit Bu Rx

theorem dy_mul (m c : Nat) (hm : m ≤ 2 * Bu.P) (h0 : m ≠ 0) (hc : c ≤ 11) : Ieee.double.mul (F.dy m 0).b (F.dy (2 ^ c) 0).b = some (F.dy m c).b := by
  have hb := blen_2P hm
  have hc2 : 2 ^ c ≤ 2 * Bu.P := Nat.le_trans (Nat.pow_le_pow_right (by omega) hc) (by decide)
  have e1 := nat_z hm
  have e2 := nat_z hc2
  have e3 := dy_z hm (show -1074 ≤ (c : Int) by omega) (by omega)
  refine mul_exact (dy_pos hm h0 (by omega) (by omega)) ?_
  rw [e1, e2, e3, show ((c : Int) + 1074).toNat = c + 1074 from by omega, Nat.pow_add, ← S_eq]
  simp only [Int.natCast_mul]
  generalize ((2 ^ c : Nat) : Int) = p
  generalize (S : Int) = s
  ac_rfl

theorem rgt_F (x : F) : (rightB x.b, true).1 = true := right_F x
theorem top_w (n : Nat) (hn : (n : Int) ≤ 18446744073709551615) (w : World) :
    Calls Tryz.prog 119 #[.int .u64 n] w fun e w' => e = .returned (.tuple #[.float .f64 (F.dy (n / 2 ^ unitCut n) (unitCut n)).b, .bool (decide (n % 2 ^ unitCut n ≠ 0))]) ∧ Below w.heap.size w w' := by
  obtain ⟨g1, g2, g3⟩ := unit_m n (by omega)
  have hP : Bu.P = 4503599627370496 := rfl
  have wr : ∀ x : Nat, x ≤ n → IntKind.u64.wrap (x : Int) = x := fun x h1 => by rw [IntKind.wrap_u64]; omega
  have td : ∀ j : Nat, (n : Int).tdiv ((2 ^ j : Nat) : Int) = ((n / 2 ^ j : Nat) : Int) := fun j => by
    rw [Int.tdiv_eq_ediv_of_nonneg (by omega)]; exact (Int.natCast_ediv _ _).symm
  have hge : ∀ j, j < unitCut n → (gq n j true).1 = true := by
    intro j hj
    have h1 : 9007199254740992 ≤ n / 2 ^ j := by
      have hne : n ≠ 0 := by
        intro e; subst e; unfold unitCut at hj; simp [blen] at hj
      have hb : 2 ^ (blen n - 1) ≤ n := by
        unfold blen; rw [if_neg hne, Nat.add_sub_cancel]; exact Nat.log2_self_le hne
      rw [Nat.le_div_iff_mul_le (Nat.two_pow_pos _), show (9007199254740992 : Nat) = 2 ^ 53 from rfl, ← Nat.pow_add]
      exact Nat.le_trans (Nat.pow_le_pow_right (by omega) (by unfold unitCut at hj; omega)) hb
    unfold gq
    rw [td j, wr _ (Nat.div_le_self _ _)]
    exact decide_eq_true (by omega)
  have hlt : (gq n (unitCut n) false).1 = false := by
    unfold gq
    rw [td _, wr _ (Nat.div_le_self _ _)]
    exact decide_eq_false (by omega)
  have hrem : ∀ d, decide (n % 2 ^ unitCut n ≠ 0) = d → (rq n (unitCut n) d).1 = d := by
    rintro d rfl
    unfold rq
    simp only []
    rw [Int.tmod_eq_emod_of_nonneg (by omega), ← Int.natCast_emod, Bool.eq_iff_iff]
    simp only [bne_iff_ne, ne_eq, decide_eq_true_eq]
    omega
  have hmul : mulT n (unitCut n) = some (F.dy (n / 2 ^ unitCut n) (unitCut n)).b := by
    by_cases h0 : n = 0
    · subst h0; decide +kernel
    · have hm0 : n / 2 ^ unitCut n ≠ 0 := by
        rcases g3 with h | h
        · rw [h]; simpa using h0
        · omega
      unfold mulT
      rw [td _, wr _ (Nat.div_le_self _ _)]
      have e1 : FloatKind.f64.nearest ((n / 2 ^ unitCut n : Nat) : Int) = (F.dy (n / 2 ^ unitCut n) 0).b := floatOfInt_dy _ (by omega)
      have e2 : FloatKind.f64.nearest ((2 ^ unitCut n : Nat) : Int) = (F.dy (2 ^ unitCut n) 0).b := floatOfInt_dy _ (by
        have : 2 ^ unitCut n ≤ 2 ^ 11 := Nat.pow_le_pow_right (by omega) g1
        have e : (2 : Nat) ^ 11 = 2048 := by decide
        omega)
      rw [e1, e2, toF_F, toF_F]
      exact dy_mul _ _ (by omega) hm0 g1
  have hnr : (trn n (unitCut n)).1 = true := by
    unfold trn
    rw [td _, wr _ (Nat.div_le_self _ _), show FloatKind.f64.nearest ((n / 2 ^ unitCut n : Nat) : Int) = (F.dy (n / 2 ^ unitCut n) 0).b from floatOfInt_dy _ (by omega)]
    exact rgt_F _
  have hpr : (prn n (unitCut n)).1 = true := by
    unfold prn
    rw [hmul, Option.getD_some]
    exact rgt_F _
  have := topRun n (unitCut n) (decide (n % 2 ^ unitCut n ≠ 0)) g1 (gqs_ok _ hge) hlt (by rw [hmul]; rfl) hpr hnr (hrem _ rfl) w
  rw [hmul, Option.getD_some, toF_F] at this
  exact this

theorem inf_order (x : F) : (Ieee.double.order x.b 9218868437227405312 == some .eq) = false ∧ (Ieee.double.order 9218868437227405312 x.b == some .gt) = true := by
  have h1 := read_F x
  have h2 := read_parts 9218868437227405312 false 9218868437227405312 (by decide) rfl
  rw [if_neg (by decide), if_pos (by decide)] at h2
  unfold Ieee.Format.order
  rw [h1, h2]
  constructor <;> rfl
theorem up_b (x : F) (h0 : 0 ≤ x.k) (h1 : x.k + 1 < (T : Int)) : (IntKind.u64.wrap ((x.b : Int) + 1)).toNat = (F.of (x.k + 1)).b := by
  have e := T_num
  rw [IntKind.wrap_u64]
  unfold F.b
  rw [F.of_k (by omega), if_pos h0, if_pos (by omega)]
  omega
theorem nextafter_w (x : F) (h0 : 0 ≤ x.k) (h1 : x.k + 1 < (T : Int)) (w : World) :
    Calls Tryz.prog 182 #[.float .f64 x.b, .float .f64 9218868437227405312] w fun e w' => e = .returned (.float .f64 (F.of (x.k + 1)).b) ∧ Below w.heap.size w w' := by
  obtain ⟨o1, o2⟩ := inf_order x
  have e0 := zero_k'
  have hnn : (Ieee.double.order 9218868437227405312 9218868437227405312 != some .eq) = false := by decide +kernel
  by_cases hk : x.k = 0
  · have : (F.of (x.k + 1)).b = 1 := by rw [hk]; decide +kernel
    rw [this]
    refine calls_of_run goodG oracleV0 80 (g := 182) (args := [.fl x, .f 9218868437227405312]) (ds := some [false, false, true]) (x := .f 1) (M' := []) (ds' := some [])
      (ob := [(decide (x.k = (toF 0).k), true), (Ieee.double.order x.b 9218868437227405312 == some .eq, false), (Ieee.double.order 9218868437227405312 9218868437227405312 != some .eq, false)]) (by kernel_rfl) (ObsOk.of_B ?_) rfl rfl w
    simp only [obsB, List.all_cons, List.all_nil, e0, decide_eq_true hk, o1, hnn, beq_self_eq_true, Bool.and_self]
  · rw [← up_b x h0 h1]
    refine calls_of_run goodG oracleV0 80 (g := 182) (args := [.fl x, .f 9218868437227405312]) (ds := some [false, false, false, true, true]) (x := .f (IntKind.u64.wrap ((x.b : Int) + 1)).toNat) (M' := []) (ds' := some [])
      (ob := [(decide ((toF 0).k < x.k), true), (Ieee.double.order 9218868437227405312 x.b == some .gt, true), (decide (x.k = (toF 0).k), false), (Ieee.double.order x.b 9218868437227405312 == some .eq, false), (Ieee.double.order 9218868437227405312 9218868437227405312 != some .eq, false)]) (by kernel_rfl) (ObsOk.of_B ?_) rfl rfl w
    simp only [obsB, List.all_cons, List.all_nil, e0, decide_eq_false hk, decide_eq_true (show 0 < x.k by omega), o1, o2, hnn, beq_self_eq_true, Bool.and_self]
end Go.Proofs.YtmhhopfffeijnaaGreat
namespace Go.Proofs.YtmhhopfffeijnaaGreat
set_option linter.all false
open Go.RowKit Bu Rx

def oPart : List SV → Dec → Option (SV × Dec × Obs)
  | [u, b], ds => match intS u, intS b with
    | some (.u64, n), some (.u64, k) => some (.si .u64 ((n.toNat * 18446744073709551616 / k.toNat : Nat) : Int), ds, [(decide (0 ≤ n ∧ n < k ∧ k ≤ 18446744073709551615), true)])
    | _, _ => none
  | _, _ => none
def oTop : List SV → Dec → Option (SV × Dec × Obs)
  | [u], ds => match intS u with
    | some (.u64, n) => match takeB ds (decide (n.toNat % 2 ^ unitCut n.toNat ≠ 0)) with
      | some (d, ds', ob) => some (.tup [.fl (F.dy (n.toNat / 2 ^ unitCut n.toNat) (unitCut n.toNat)), .b d], ds', (decide (0 ≤ n ∧ n ≤ 18446744073709551615), true) :: ob)
      | none => none
    | _ => none
  | _, _ => none
def oNxt : List SV → Dec → Option (SV × Dec × Obs)
  | [.fl x, .f y], ds => if Nat.beq y 9218868437227405312 then some (.fl (F.of (x.k + 1)), ds, [(decide (0 ≤ x.k ∧ x.k + 1 < (T : Int)), true)]) else none
  | _, _ => none
theorem topP : PlainOk Tryz.prog 119 oTop := by
  intro args ds x ds' ob h ho
  unfold oTop at h
  split at h
  · rename_i u
    split at h
    · rename_i n hn
      split at h
      · rename_i d ds1 ob1 h1
        simp only [Option.some.injEq, Prod.mk.injEq] at h; obtain ⟨rfl, _, rfl⟩ := h
        have hs := of_decide_eq_true (ho _ (List.mem_cons_self ..))
        have ho' : ObsOk ob1 := fun p hp => ho p (List.mem_cons_of_mem _ hp)
        obtain ⟨p, rfl⟩ := Int.eq_ofNat_of_zero_le hs.1
        have hd := takeB_ok h1 ho'
        simp only [Int.toNat_natCast] at hd ⊢
        refine ⟨[.int .u64 p], .tuple #[.float .f64 (F.dy (p / 2 ^ unitCut p) (unitCut p)).b, .bool d], plains_cons (intS_plain hn) plains_nil, rfl, fun w => ?_⟩
        rw [hd]
        exact top_w p hs.2 w
      · cases h
    · cases h
  · cases h
theorem nxtP : PlainOk Tryz.prog 182 oNxt := by
  intro args ds x ds' ob h ho
  unfold oNxt at h
  split at h
  · rename_i x y
    split at h
    · rename_i hy
      have := Nat.eq_of_beq_eq_true hy
      subst this
      simp only [Option.some.injEq, Prod.mk.injEq] at h; obtain ⟨rfl, _, rfl⟩ := h
      have hs := of_decide_eq_true (obs1 ho)
      exact ⟨[.float .f64 x.b, .float .f64 9218868437227405312], .float .f64 (F.of (x.k + 1)).b, rfl, rfl, fun w => nextafter_w x hs.1 hs.2 w⟩
    · cases h
  · cases h
theorem rldP : PlainOk Tryz.prog 105 oLdexp := by
  intro args ds x ds' ob h ho
  unfold oLdexp at h
  split at h
  · rename_i x n
    split at h
    · rename_i k hk
      simp only [Option.some.injEq, Prod.mk.injEq] at h; obtain ⟨rfl, _, rfl⟩ := h
      have hs := of_decide_eq_true (obs1 ho)
      refine ⟨[.float .f64 x.b, .int .i64 k], .float .f64 (ldF x k).b, plains_cons rfl (plains_cons (intS_plain hk) plains_nil), rfl, fun w => (Ldexp_exact x (ldF x k) k w hs).mono ?_⟩
      rintro e w' ⟨rfl, rfl⟩; exact ⟨rfl, Below.refl _ _⟩
    · cases h
  · cases h
def OV1 : OracleF := lookO [(97, plainO oRight), (182, plainO oNxt), (166, plainO oInf), (119, plainO oTop), (105, plainO oLdexp)]
theorem oracleV1 : OracleOk Tryz.prog OV1 := .cons rRightP.of (.cons nxtP.of (.cons infP.of (.cons topP.of (.cons rldP.of (.nil _)))))

theorem next_of {x : F} (h0 : 0 ≤ x.k) (h1 : x.k + 1 < (T : Int)) : (nextF x true).1 = F.of (x.k + 1) := by
  unfold nextF outUp
  rw [if_pos rfl, if_neg (by omega)]
  show F.of (max (x.k + 1) (1 - T)) = _
  rw [show max (x.k + 1) (1 - (T : Int)) = x.k + 1 from by omega]

theorem rOf_w (n : Nat) (hn : (n : Int) ≤ 18446744073709551615) (w : World) :
    Calls Tryz.prog 43 #[.int .u64 n] w fun e w' => e = .returned (.agg #[.float .f64 (unitOf n).lo.b, .float .f64 (unitOf n).hi.b]) ∧ Below w.heap.size w w' := by
  obtain ⟨g1, g2, g3⟩ := unit_m n (by omega)
  have hT := T_num
  obtain ⟨lo, hi, nx, X, N, fp⟩ := unit_facts n (by omega)
  have hlo : (unitOf n).lo = unitLo n := rfl
  have hlk : 0 ≤ (unitLo n).k ∧ (unitLo n).k < 4607182418800017408 := by
    rw [← hlo, fp.of]; exact ⟨fp.lo, fp.lt⟩
  have hm2 : n / 2 ^ unitCut n ≤ 2 * Bu.P := by omega
  have hsc : Sc (F.dy (n / 2 ^ unitCut n) (unitCut n)) (unitLo n) (-64) := by
    have hb := blen_2P hm2
    have z1 := dy_z hm2 (show -1074 ≤ (unitCut n : Int) by omega) (by omega)
    have z2 := dy_z hm2 (show -1074 ≤ (unitCut n : Int) - 64 by omega) (by omega)
    unfold Sc
    unfold unitLo
    rw [z1, z2, show (-(-64 : Int)).toNat = 64 from rfl, show (-64 : Int).toNat = 0 from rfl, Nat.pow_zero, Int.natCast_one, Int.mul_one, ← Int.natCast_mul, Nat.mul_assoc, ← Nat.pow_add]
    congr 3
    omega
  have hld : ldF (F.dy (n / 2 ^ unitCut n) (unitCut n)) (-64) = unitLo n := ldF_eq hsc
  have e0 := zero_k'
  have hr : decide (0 ≤ (n : Int) ∧ (n : Int) ≤ 18446744073709551615) = true := decide_eq_true ⟨by omega, hn⟩
  by_cases c : n % 2 ^ unitCut n = 0
  · have hof : unitOf n = ⟨unitLo n, unitLo n⟩ := by unfold unitOf; rw [if_pos c]
    rw [hof]
    rw [← hld]
    have := calls_of_run goodG oracleV1 80 (g := 43) (args := [.si .u64 n]) (ds := some [false]) (x := .agg [.fl (ldF (F.dy ((n : Int).toNat / 2 ^ unitCut (n : Int).toNat) (unitCut (n : Int).toNat)) (-64)), .fl (ldF (F.dy ((n : Int).toNat / 2 ^ unitCut (n : Int).toNat) (unitCut (n : Int).toNat)) (-64))])
      (M' := [⟨24, [.fl (ldF (F.dy ((n : Int).toNat / 2 ^ unitCut (n : Int).toNat) (unitCut (n : Int).toNat)) (-64)), .fl (ldF (F.dy ((n : Int).toNat / 2 ^ unitCut (n : Int).toNat) (unitCut (n : Int).toNat)) (-64))]⟩]) (ds' := some [])
      (ob := [(decide (Sc (F.dy ((n : Int).toNat / 2 ^ unitCut (n : Int).toNat) (unitCut (n : Int).toNat)) (ldF (F.dy ((n : Int).toNat / 2 ^ unitCut (n : Int).toNat) (unitCut (n : Int).toNat)) (-64)) (-64)), true), (decide (0 ≤ (n : Int) ∧ (n : Int) ≤ 18446744073709551615), true), (decide ((n : Int).toNat % 2 ^ unitCut (n : Int).toNat ≠ 0), false)]) (by kernel_rfl) (ObsOk.of_B ?_) rfl rfl w
    · simpa only [Int.toNat_natCast] using this
    · have h1 : decide (n % 2 ^ unitCut n ≠ 0) = false := decide_eq_false (by simpa using c)
      simp only [obsB, List.all_cons, List.all_nil, Int.toNat_natCast, hld, decide_eq_true hsc, hr, h1, beq_self_eq_true, Bool.and_self]
  · have hof : unitOf n = ⟨unitLo n, F.of ((unitLo n).k + 1)⟩ := by unfold unitOf; rw [if_neg c, next_of hlk.1 (by omega)]
    rw [hof]
    rw [← hld]
    have := calls_of_run goodG oracleV1 80 (g := 43) (args := [.si .u64 n]) (ds := some [true, false]) (x := .agg [.fl (ldF (F.dy ((n : Int).toNat / 2 ^ unitCut (n : Int).toNat) (unitCut (n : Int).toNat)) (-64)), .fl (F.of ((ldF (F.dy ((n : Int).toNat / 2 ^ unitCut (n : Int).toNat) (unitCut (n : Int).toNat)) (-64)).k + 1))])
      (M' := [⟨24, [.fl (ldF (F.dy ((n : Int).toNat / 2 ^ unitCut (n : Int).toNat) (unitCut (n : Int).toNat)) (-64)), .fl (F.of ((ldF (F.dy ((n : Int).toNat / 2 ^ unitCut (n : Int).toNat) (unitCut (n : Int).toNat)) (-64)).k + 1))]⟩]) (ds' := some [])
      (ob := [(decide ((F.of ((ldF (F.dy ((n : Int).toNat / 2 ^ unitCut (n : Int).toNat) (unitCut (n : Int).toNat)) (-64)).k + 1)).k = (toF 0).k), false), (decide (0 ≤ (ldF (F.dy ((n : Int).toNat / 2 ^ unitCut (n : Int).toNat) (unitCut (n : Int).toNat)) (-64)).k ∧ (ldF (F.dy ((n : Int).toNat / 2 ^ unitCut (n : Int).toNat) (unitCut (n : Int).toNat)) (-64)).k + 1 < (T : Int)), true),
        (decide (Sc (F.dy ((n : Int).toNat / 2 ^ unitCut (n : Int).toNat) (unitCut (n : Int).toNat)) (ldF (F.dy ((n : Int).toNat / 2 ^ unitCut (n : Int).toNat) (unitCut (n : Int).toNat)) (-64)) (-64)), true), (decide (0 ≤ (n : Int) ∧ (n : Int) ≤ 18446744073709551615), true), (decide ((n : Int).toNat % 2 ^ unitCut (n : Int).toNat ≠ 0), true)]) (by kernel_rfl) (ObsOk.of_B ?_) rfl rfl w
    · simpa only [Int.toNat_natCast] using this
    · have h1 : decide (n % 2 ^ unitCut n ≠ 0) = true := decide_eq_true c
      have h2 : decide (0 ≤ (unitLo n).k ∧ (unitLo n).k + 1 < (T : Int)) = true := decide_eq_true ⟨hlk.1, by omega⟩
      have h3 : decide ((F.of ((unitLo n).k + 1)).k = 0) = false := decide_eq_false (by rw [F.of_k (by omega)]; omega)
      simp only [obsB, List.all_cons, List.all_nil, Int.toNat_natCast, hld, decide_eq_true hsc, hr, h1, h2, h3, e0, beq_self_eq_true, Bool.and_self]
end Go.Proofs.YtmhhopfffeijnaaGreat
