/- The document's answers on draws: the upper bits. -/
import Derived.Test.YtmhhopfffeijnaaGreatUt2
namespace Go.Proofs.YtmhhopfffeijnaaGreat
set_option linter.all false
open Go.RowKit Bu Rx

def gq (n : Int) (j : Nat) (d : Bool) : Bool × Bool := (decide (IntKind.u64.wrap (n.tdiv ((2 ^ j : Nat) : Int)) ≥ 9007199254740992), d)
def mulT (n : Int) (c : Nat) : Option Nat := Ieee.double.mul (toF (FloatKind.f64.nearest (IntKind.u64.wrap (n.tdiv ((2 ^ c : Nat) : Int))))).b (toF (FloatKind.f64.nearest ((2 ^ c : Nat) : Int))).b
def rq (n : Int) (c : Nat) (d : Bool) : Bool × Bool := (n.tmod ((2 ^ c : Nat) : Int) != 0, d)
def trn (n : Int) (c : Nat) : Bool × Bool := (rightB (FloatKind.f64.nearest (IntKind.u64.wrap (n.tdiv ((2 ^ c : Nat) : Int)))), true)
def prn (n : Int) (c : Nat) : Bool × Bool := (rightB ((mulT n c).getD 0), true)
/-- the tests of the loop -/
def gqs (n : Int) (c : Nat) : Nat → Obs
  | 0 => []
  | k + 1 => gq n k true :: gqs n c k
theorem gqs_ok {n : Int} {c : Nat} : ∀ k, (∀ j, j < k → (gq n j true).1 = true) → obsB (gqs n c k) = true
  | 0, _ => rfl
  | k + 1, h => by
    have h1 := h k (by omega)
    have h2 := gqs_ok (c := c) k fun j hj => h j (by omega)
    unfold obsB at h2 ⊢
    simp only [gqs, List.all_cons, h2, Bool.and_true]
    rw [h1]; rfl

set_option maxHeartbeats 4000000 in
theorem topRun (n : Int) (c : Nat) (d : Bool) (hc : c ≤ 11) (hg : obsB (gqs n c c) = true) (h1 : (gq n c false).1 = false) (h2 : (mulT n c).isSome = true) (h4 : (prn n c).1 = true) (h5 : (trn n c).1 = true) (h3 : (rq n c d).1 = d) (w : World) :
    Calls Tryz.prog 119 #[.int .u64 n] w fun e w' => e = .returned (.tuple #[.float .f64 (toF ((mulT n c).getD 0)).b, .bool d]) ∧ Below w.heap.size w w' := by
  have key : ∀ ob : Obs, ob = rq n c d :: ((mulT n c).isSome, true) :: prn n c :: trn n c :: gq n c false :: gqs n c c → ObsOk ob := by
    rintro ob rfl p hp
    rcases List.mem_cons.1 hp with rfl | hp
    · exact h3
    · rcases List.mem_cons.1 hp with rfl | hp
      · exact h2
      · rcases List.mem_cons.1 hp with rfl | hp
        · exact h4
        · rcases List.mem_cons.1 hp with rfl | hp
          · exact h5
          · rcases List.mem_cons.1 hp with rfl | hp
            · exact h1
            · exact ObsOk.of_B hg p hp
  match c, hc, key with
  | 0, _, key => cases d with
    | false => exact calls_of_run goodG oracleN 60 (g := 119) (args := [.si .u64 n]) (ds := some [false, false]) (x := .tup [.fl (toF ((mulT n 0).getD 0)), .b false]) (M' := []) (ds' := some []) (by kernel_rfl) (key _ rfl) rfl rfl w
    | true => exact calls_of_run goodG oracleN 60 (g := 119) (args := [.si .u64 n]) (ds := some [false, true]) (x := .tup [.fl (toF ((mulT n 0).getD 0)), .b true]) (M' := []) (ds' := some []) (by kernel_rfl) (key _ rfl) rfl rfl w
  | 1, _, key => cases d with
    | false => exact calls_of_run goodG oracleN 60 (g := 119) (args := [.si .u64 n]) (ds := some [true, false, false]) (x := .tup [.fl (toF ((mulT n 1).getD 0)), .b false]) (M' := []) (ds' := some []) (by kernel_rfl) (key _ rfl) rfl rfl w
    | true => exact calls_of_run goodG oracleN 60 (g := 119) (args := [.si .u64 n]) (ds := some [true, false, true]) (x := .tup [.fl (toF ((mulT n 1).getD 0)), .b true]) (M' := []) (ds' := some []) (by kernel_rfl) (key _ rfl) rfl rfl w
  | 2, _, key => cases d with
    | false => exact calls_of_run goodG oracleN 60 (g := 119) (args := [.si .u64 n]) (ds := some [true, true, false, false]) (x := .tup [.fl (toF ((mulT n 2).getD 0)), .b false]) (M' := []) (ds' := some []) (by kernel_rfl) (key _ rfl) rfl rfl w
    | true => exact calls_of_run goodG oracleN 60 (g := 119) (args := [.si .u64 n]) (ds := some [true, true, false, true]) (x := .tup [.fl (toF ((mulT n 2).getD 0)), .b true]) (M' := []) (ds' := some []) (by kernel_rfl) (key _ rfl) rfl rfl w
  | 3, _, key => cases d with
    | false => exact calls_of_run goodG oracleN 60 (g := 119) (args := [.si .u64 n]) (ds := some [true, true, true, false, false]) (x := .tup [.fl (toF ((mulT n 3).getD 0)), .b false]) (M' := []) (ds' := some []) (by kernel_rfl) (key _ rfl) rfl rfl w
    | true => exact calls_of_run goodG oracleN 60 (g := 119) (args := [.si .u64 n]) (ds := some [true, true, true, false, true]) (x := .tup [.fl (toF ((mulT n 3).getD 0)), .b true]) (M' := []) (ds' := some []) (by kernel_rfl) (key _ rfl) rfl rfl w
  | 4, _, key => cases d with
    | false => exact calls_of_run goodG oracleN 60 (g := 119) (args := [.si .u64 n]) (ds := some [true, true, true, true, false, false]) (x := .tup [.fl (toF ((mulT n 4).getD 0)), .b false]) (M' := []) (ds' := some []) (by kernel_rfl) (key _ rfl) rfl rfl w
    | true => exact calls_of_run goodG oracleN 60 (g := 119) (args := [.si .u64 n]) (ds := some [true, true, true, true, false, true]) (x := .tup [.fl (toF ((mulT n 4).getD 0)), .b true]) (M' := []) (ds' := some []) (by kernel_rfl) (key _ rfl) rfl rfl w
  | 5, _, key => cases d with
    | false => exact calls_of_run goodG oracleN 60 (g := 119) (args := [.si .u64 n]) (ds := some [true, true, true, true, true, false, false]) (x := .tup [.fl (toF ((mulT n 5).getD 0)), .b false]) (M' := []) (ds' := some []) (by kernel_rfl) (key _ rfl) rfl rfl w
    | true => exact calls_of_run goodG oracleN 60 (g := 119) (args := [.si .u64 n]) (ds := some [true, true, true, true, true, false, true]) (x := .tup [.fl (toF ((mulT n 5).getD 0)), .b true]) (M' := []) (ds' := some []) (by kernel_rfl) (key _ rfl) rfl rfl w
  | 6, _, key => cases d with
    | false => exact calls_of_run goodG oracleN 60 (g := 119) (args := [.si .u64 n]) (ds := some [true, true, true, true, true, true, false, false]) (x := .tup [.fl (toF ((mulT n 6).getD 0)), .b false]) (M' := []) (ds' := some []) (by kernel_rfl) (key _ rfl) rfl rfl w
    | true => exact calls_of_run goodG oracleN 60 (g := 119) (args := [.si .u64 n]) (ds := some [true, true, true, true, true, true, false, true]) (x := .tup [.fl (toF ((mulT n 6).getD 0)), .b true]) (M' := []) (ds' := some []) (by kernel_rfl) (key _ rfl) rfl rfl w
  | 7, _, key => cases d with
    | false => exact calls_of_run goodG oracleN 60 (g := 119) (args := [.si .u64 n]) (ds := some [true, true, true, true, true, true, true, false, false]) (x := .tup [.fl (toF ((mulT n 7).getD 0)), .b false]) (M' := []) (ds' := some []) (by kernel_rfl) (key _ rfl) rfl rfl w
    | true => exact calls_of_run goodG oracleN 60 (g := 119) (args := [.si .u64 n]) (ds := some [true, true, true, true, true, true, true, false, true]) (x := .tup [.fl (toF ((mulT n 7).getD 0)), .b true]) (M' := []) (ds' := some []) (by kernel_rfl) (key _ rfl) rfl rfl w
  | 8, _, key => cases d with
    | false => exact calls_of_run goodG oracleN 60 (g := 119) (args := [.si .u64 n]) (ds := some [true, true, true, true, true, true, true, true, false, false]) (x := .tup [.fl (toF ((mulT n 8).getD 0)), .b false]) (M' := []) (ds' := some []) (by kernel_rfl) (key _ rfl) rfl rfl w
    | true => exact calls_of_run goodG oracleN 60 (g := 119) (args := [.si .u64 n]) (ds := some [true, true, true, true, true, true, true, true, false, true]) (x := .tup [.fl (toF ((mulT n 8).getD 0)), .b true]) (M' := []) (ds' := some []) (by kernel_rfl) (key _ rfl) rfl rfl w
  | 9, _, key => cases d with
    | false => exact calls_of_run goodG oracleN 60 (g := 119) (args := [.si .u64 n]) (ds := some [true, true, true, true, true, true, true, true, true, false, false]) (x := .tup [.fl (toF ((mulT n 9).getD 0)), .b false]) (M' := []) (ds' := some []) (by kernel_rfl) (key _ rfl) rfl rfl w
    | true => exact calls_of_run goodG oracleN 60 (g := 119) (args := [.si .u64 n]) (ds := some [true, true, true, true, true, true, true, true, true, false, true]) (x := .tup [.fl (toF ((mulT n 9).getD 0)), .b true]) (M' := []) (ds' := some []) (by kernel_rfl) (key _ rfl) rfl rfl w
  | 10, _, key => cases d with
    | false => exact calls_of_run goodG oracleN 60 (g := 119) (args := [.si .u64 n]) (ds := some [true, true, true, true, true, true, true, true, true, true, false, false]) (x := .tup [.fl (toF ((mulT n 10).getD 0)), .b false]) (M' := []) (ds' := some []) (by kernel_rfl) (key _ rfl) rfl rfl w
    | true => exact calls_of_run goodG oracleN 60 (g := 119) (args := [.si .u64 n]) (ds := some [true, true, true, true, true, true, true, true, true, true, false, true]) (x := .tup [.fl (toF ((mulT n 10).getD 0)), .b true]) (M' := []) (ds' := some []) (by kernel_rfl) (key _ rfl) rfl rfl w
  | 11, _, key => cases d with
    | false => exact calls_of_run goodG oracleN 60 (g := 119) (args := [.si .u64 n]) (ds := some [true, true, true, true, true, true, true, true, true, true, true, false, false]) (x := .tup [.fl (toF ((mulT n 11).getD 0)), .b false]) (M' := []) (ds' := some []) (by kernel_rfl) (key _ rfl) rfl rfl w
    | true => exact calls_of_run goodG oracleN 60 (g := 119) (args := [.si .u64 n]) (ds := some [true, true, true, true, true, true, true, true, true, true, true, false, true]) (x := .tup [.fl (toF ((mulT n 11).getD 0)), .b true]) (M' := []) (ds' := some []) (by kernel_rfl) (key _ rfl) rfl rfl w
  | _ + 12, hc, _ => omega
end Go.Proofs.YtmhhopfffeijnaaGreat
