/- Tests in a row on any words; refusals of vndf.Draw and burnishref13.may (written by genrefuse.py). -/
import Derived.Test.YtmhhopfffeijnaaGreatZ30
namespace Bu
set_option linter.all false
open Rx Go

/-- held against a number, as the model does -/
def gew (a : Nat) (x : F) : Bool := Ieee.double.order a x.b == some .gt || Ieee.double.order a x.b == some .eq
def lew (a : Nat) (x : F) : Bool := Ieee.double.order a x.b == some .lt || Ieee.double.order a x.b == some .eq
inductive Tst where
  | R (k a b : Nat)
  | M (k : Nat) (c : Bool)
/-- the decisions, where i tests of the first kind, j of the second one hold ahead of one that does not -/
def tqD (i j : Nat) : List Tst → List Bool
  | [] => []
  | .R k _ _ :: l => bif Nat.ble k i then Nat.blt k i :: tqD i j l else tqD i j l
  | .M k _ :: l => bif Nat.ble k j then Nat.blt k j :: tqD i j l else tqD i j l
def tqO (r : Nat → Nat → Bool) (i j : Nat) : List Tst → Obs → Obs
  | [], o => o
  | .R k a b :: l, o => tqO r i j l (bif Nat.ble k i then (Nat.blt a 18446744073709551616, true) :: (Nat.blt b 18446744073709551616, true) :: (r a b, Nat.blt k i) :: o else o)
  | .M k c :: l, o => tqO r i j l (bif Nat.ble k j then (c, Nat.blt k j) :: o else o)
def okT (r : Nat → Nat → Bool) (i j : Nat) : Tst → Prop
  | .R k a b => a < 18446744073709551616 ∧ b < 18446744073709551616 ∧ (k < i → r a b = true) ∧ (k = i → r a b = false)
  | .M k c => (k < j → c = true) ∧ (k = j → c = false)
theorem val_d {k i : Nat} {c : Bool} (h1 : k < i → c = true) (h2 : k = i → c = false) (h : Nat.ble k i = true) : c = Nat.blt k i := by
  have h' := Nat.le_of_ble_eq_true h
  by_cases e : k = i
  · rw [h2 e]; subst e; exact (Bool.eq_false_iff.2 (fun g => by rw [Nat.blt_eq] at g; omega)).symm
  · rw [h1 (by omega)]; exact (show Nat.blt k i = true by rw [Nat.blt_eq]; omega).symm
theorem obs_c {c b : Bool} {ob : Obs} (h : c = b) (k : ObsOk ob) : ObsOk ((c, b) :: ob) := fun q hq => by
  rcases List.mem_cons.1 hq with rfl | hq
  · exact h
  · exact k q hq
theorem tqO_ok {r : Nat → Nat → Bool} {i j : Nat} : ∀ {l : List Tst} {o : Obs}, (∀ t ∈ l, okT r i j t) → ObsOk o → ObsOk (tqO r i j l o)
  | [], _, _, ho => ho
  | .R k a b :: l, o, h, ho => by
    obtain ⟨h1, h2, h3, h4⟩ := h _ (List.mem_cons_self ..)
    refine tqO_ok (l := l) (fun t ht => h t (List.mem_cons_of_mem _ ht)) ?_
    cases c : Nat.ble k i
    · exact ho
    · exact obs_c (by rw [Nat.blt_eq]; exact h1) (obs_c (by rw [Nat.blt_eq]; exact h2) (obs_c (val_d h3 h4 c) ho))
  | .M k a :: l, o, h, ho => by
    obtain ⟨h3, h4⟩ := h _ (List.mem_cons_self ..)
    refine tqO_ok (l := l) (fun t ht => h t (List.mem_cons_of_mem _ ht)) ?_
    cases c : Nat.ble k j
    · exact ho
    · exact obs_c (val_d h3 h4 c) ho
/-- how many hold ahead of one that does not -/
def lead : List Bool → Nat
  | [] => 0
  | b :: l => bif b then lead l + 1 else 0
theorem lead_at : ∀ {l : List Bool} {k : Nat} {c : Bool}, l[k]? = some c → (k < lead l → c = true) ∧ (k = lead l → c = false)
  | [], _, _, h => by simp at h
  | b :: l, k, c, h => by
    cases b
    · refine ⟨fun g => ?_, fun g => ?_⟩
      · simp only [lead, cond_false] at g; omega
      · simp only [lead, cond_false] at g; subst g; simpa using h.symm
    · cases k with
      | zero => refine ⟨fun _ => by simpa using h.symm, fun g => ?_⟩; simp only [lead, cond_true] at g; omega
      | succ k =>
        obtain ⟨a, b⟩ := lead_at (l := l) (k := k) (c := c) (by simpa using h)
        simp only [lead, cond_true]
        exact ⟨fun g => a (by omega), fun g => b (by omega)⟩
theorem lead_le : ∀ l : List Bool, lead l ≤ l.length
  | [] => Nat.le_refl _
  | b :: l => by
    have := lead_le l
    cases b <;> simp only [lead, cond_true, cond_false, List.length_cons] <;> omega
theorem lead_all : ∀ {l : List Bool}, lead l = l.length → l.all id = true
  | [], _ => rfl
  | b :: l, h => by
    cases b
    · simp [lead] at h
    · simp only [lead, cond_true, List.length_cons] at h
      simp only [List.all_cons, id, Bool.true_and]
      exact lead_all (by omega)
theorem lead_not : ∀ {l : List Bool}, lead l < l.length → l.all id = false
  | [], h => by simp at h
  | b :: l, h => by
    cases b
    · rfl
    · simp only [lead, cond_true, List.length_cons] at h
      simp only [List.all_cons, id, Bool.true_and]
      exact lead_not (by omega)
/-- the error of what is right, what may be -/
def codeE (R M : Bool) : Int := bif R then (bif M then 0 else 2) else 20
def Rv (x1 x2 x3 x4 x5 x6 : Nat) (r : Nat → Nat → Bool) : Bool := r x1 x2 && (r x3 x4 && r x5 x6)
def Mv (x1 x2 x3 x4 x5 x6 : Nat) : Bool := gew x1 mone64 && (lew x2 one64 && (gew x3 mone64 && (lew x4 one64 && (gew x5 z64 && lew x6 one64))))
def Ma (g h : Nat) : Bool := gew g minA && lew h one64
end Bu
namespace Go.Proofs.YtmhhopfffeijnaaGreat
set_option linter.all false
open Go.RowKit Bu Rx

def OW (r : Nat → Nat → Bool) : OracleF := lookO [(23, plainO (kRtW r))]
theorem oracleOW : OracleOk Tryz.prog (OW rtW) := .cons rightWG.of (.nil _)
def OW2 (r : Nat → Nat → Bool) : OracleF := lookO [(28, plainO (kRtW r))]
theorem oracleOW2 : OracleOk Tryz.prog (OW2 rtW) := .cons rrightWG.of (.nil _)
def w6 (x1 x2 x3 x4 x5 x6 : Nat) : SV := .agg [.f x1, .f x2, .f x3, .f x4, .f x5, .f x6]
def w2 (g h : Nat) : SV := .agg [.f g, .f h]
def cod (i n : Nat) : Int := bif Nat.blt i n then 20 else 2
def tsW (x1 x2 x3 x4 x5 x6 g h : Nat) : List Tst := [.R 0 g h, .M 0 (gew g minA), .M 1 (lew h one64), .R 1 x1 x2, .R 2 x3 x4, .R 3 x5 x6, .M 2 (gew x1 mone64), .M 3 (lew x2 one64), .M 4 (gew x3 mone64), .M 5 (lew x4 one64), .M 6 (gew x5 z64), .M 7 (lew x6 one64)]
def lkP (r : Nat → Nat → Bool) (x1 x2 x3 x4 x5 x6 g h : Nat) (a b : Int) (i j : Nat) : Prop := valR ((run Tryz.prog EG (OW r) 80).1 18 [w6 x1 x2 x3 x4 x5 x6, w2 g h, .si .u64 a, .si .u64 b] [] (some (tqD i j (tsW x1 x2 x3 x4 x5 x6 g h)))) = some (.tup [V3.zero.sv, .i .i64 (cod i 4)], some [], tqO r i j (tsW x1 x2 x3 x4 x5 x6 g h) [])
theorem lk_0_0 (r : Nat → Nat → Bool) (x1 x2 x3 x4 x5 x6 g h : Nat) (a b : Int) : lkP r x1 x2 x3 x4 x5 x6 g h a b 0 0 := by unfold lkP; kernel_rfl
theorem lk_0_1 (r : Nat → Nat → Bool) (x1 x2 x3 x4 x5 x6 g h : Nat) (a b : Int) : lkP r x1 x2 x3 x4 x5 x6 g h a b 0 1 := by unfold lkP; kernel_rfl
theorem lk_0_2 (r : Nat → Nat → Bool) (x1 x2 x3 x4 x5 x6 g h : Nat) (a b : Int) : lkP r x1 x2 x3 x4 x5 x6 g h a b 0 2 := by unfold lkP; kernel_rfl
theorem lk_0_3 (r : Nat → Nat → Bool) (x1 x2 x3 x4 x5 x6 g h : Nat) (a b : Int) : lkP r x1 x2 x3 x4 x5 x6 g h a b 0 3 := by unfold lkP; kernel_rfl
theorem lk_0_4 (r : Nat → Nat → Bool) (x1 x2 x3 x4 x5 x6 g h : Nat) (a b : Int) : lkP r x1 x2 x3 x4 x5 x6 g h a b 0 4 := by unfold lkP; kernel_rfl
theorem lk_0_5 (r : Nat → Nat → Bool) (x1 x2 x3 x4 x5 x6 g h : Nat) (a b : Int) : lkP r x1 x2 x3 x4 x5 x6 g h a b 0 5 := by unfold lkP; kernel_rfl
theorem lk_0_6 (r : Nat → Nat → Bool) (x1 x2 x3 x4 x5 x6 g h : Nat) (a b : Int) : lkP r x1 x2 x3 x4 x5 x6 g h a b 0 6 := by unfold lkP; kernel_rfl
theorem lk_0_7 (r : Nat → Nat → Bool) (x1 x2 x3 x4 x5 x6 g h : Nat) (a b : Int) : lkP r x1 x2 x3 x4 x5 x6 g h a b 0 7 := by unfold lkP; kernel_rfl
theorem lk_0_8 (r : Nat → Nat → Bool) (x1 x2 x3 x4 x5 x6 g h : Nat) (a b : Int) : lkP r x1 x2 x3 x4 x5 x6 g h a b 0 8 := by unfold lkP; kernel_rfl
theorem lk_1_0 (r : Nat → Nat → Bool) (x1 x2 x3 x4 x5 x6 g h : Nat) (a b : Int) : lkP r x1 x2 x3 x4 x5 x6 g h a b 1 0 := by unfold lkP; kernel_rfl
theorem lk_1_1 (r : Nat → Nat → Bool) (x1 x2 x3 x4 x5 x6 g h : Nat) (a b : Int) : lkP r x1 x2 x3 x4 x5 x6 g h a b 1 1 := by unfold lkP; kernel_rfl
theorem lk_1_2 (r : Nat → Nat → Bool) (x1 x2 x3 x4 x5 x6 g h : Nat) (a b : Int) : lkP r x1 x2 x3 x4 x5 x6 g h a b 1 2 := by unfold lkP; kernel_rfl
theorem lk_1_3 (r : Nat → Nat → Bool) (x1 x2 x3 x4 x5 x6 g h : Nat) (a b : Int) : lkP r x1 x2 x3 x4 x5 x6 g h a b 1 3 := by unfold lkP; kernel_rfl
theorem lk_1_4 (r : Nat → Nat → Bool) (x1 x2 x3 x4 x5 x6 g h : Nat) (a b : Int) : lkP r x1 x2 x3 x4 x5 x6 g h a b 1 4 := by unfold lkP; kernel_rfl
theorem lk_1_5 (r : Nat → Nat → Bool) (x1 x2 x3 x4 x5 x6 g h : Nat) (a b : Int) : lkP r x1 x2 x3 x4 x5 x6 g h a b 1 5 := by unfold lkP; kernel_rfl
theorem lk_1_6 (r : Nat → Nat → Bool) (x1 x2 x3 x4 x5 x6 g h : Nat) (a b : Int) : lkP r x1 x2 x3 x4 x5 x6 g h a b 1 6 := by unfold lkP; kernel_rfl
theorem lk_1_7 (r : Nat → Nat → Bool) (x1 x2 x3 x4 x5 x6 g h : Nat) (a b : Int) : lkP r x1 x2 x3 x4 x5 x6 g h a b 1 7 := by unfold lkP; kernel_rfl
theorem lk_1_8 (r : Nat → Nat → Bool) (x1 x2 x3 x4 x5 x6 g h : Nat) (a b : Int) : lkP r x1 x2 x3 x4 x5 x6 g h a b 1 8 := by unfold lkP; kernel_rfl
theorem lk_2_0 (r : Nat → Nat → Bool) (x1 x2 x3 x4 x5 x6 g h : Nat) (a b : Int) : lkP r x1 x2 x3 x4 x5 x6 g h a b 2 0 := by unfold lkP; kernel_rfl
theorem lk_2_1 (r : Nat → Nat → Bool) (x1 x2 x3 x4 x5 x6 g h : Nat) (a b : Int) : lkP r x1 x2 x3 x4 x5 x6 g h a b 2 1 := by unfold lkP; kernel_rfl
theorem lk_2_2 (r : Nat → Nat → Bool) (x1 x2 x3 x4 x5 x6 g h : Nat) (a b : Int) : lkP r x1 x2 x3 x4 x5 x6 g h a b 2 2 := by unfold lkP; kernel_rfl
theorem lk_2_3 (r : Nat → Nat → Bool) (x1 x2 x3 x4 x5 x6 g h : Nat) (a b : Int) : lkP r x1 x2 x3 x4 x5 x6 g h a b 2 3 := by unfold lkP; kernel_rfl
theorem lk_2_4 (r : Nat → Nat → Bool) (x1 x2 x3 x4 x5 x6 g h : Nat) (a b : Int) : lkP r x1 x2 x3 x4 x5 x6 g h a b 2 4 := by unfold lkP; kernel_rfl
theorem lk_2_5 (r : Nat → Nat → Bool) (x1 x2 x3 x4 x5 x6 g h : Nat) (a b : Int) : lkP r x1 x2 x3 x4 x5 x6 g h a b 2 5 := by unfold lkP; kernel_rfl
theorem lk_2_6 (r : Nat → Nat → Bool) (x1 x2 x3 x4 x5 x6 g h : Nat) (a b : Int) : lkP r x1 x2 x3 x4 x5 x6 g h a b 2 6 := by unfold lkP; kernel_rfl
theorem lk_2_7 (r : Nat → Nat → Bool) (x1 x2 x3 x4 x5 x6 g h : Nat) (a b : Int) : lkP r x1 x2 x3 x4 x5 x6 g h a b 2 7 := by unfold lkP; kernel_rfl
theorem lk_2_8 (r : Nat → Nat → Bool) (x1 x2 x3 x4 x5 x6 g h : Nat) (a b : Int) : lkP r x1 x2 x3 x4 x5 x6 g h a b 2 8 := by unfold lkP; kernel_rfl
theorem lk_3_0 (r : Nat → Nat → Bool) (x1 x2 x3 x4 x5 x6 g h : Nat) (a b : Int) : lkP r x1 x2 x3 x4 x5 x6 g h a b 3 0 := by unfold lkP; kernel_rfl
theorem lk_3_1 (r : Nat → Nat → Bool) (x1 x2 x3 x4 x5 x6 g h : Nat) (a b : Int) : lkP r x1 x2 x3 x4 x5 x6 g h a b 3 1 := by unfold lkP; kernel_rfl
theorem lk_3_2 (r : Nat → Nat → Bool) (x1 x2 x3 x4 x5 x6 g h : Nat) (a b : Int) : lkP r x1 x2 x3 x4 x5 x6 g h a b 3 2 := by unfold lkP; kernel_rfl
theorem lk_3_3 (r : Nat → Nat → Bool) (x1 x2 x3 x4 x5 x6 g h : Nat) (a b : Int) : lkP r x1 x2 x3 x4 x5 x6 g h a b 3 3 := by unfold lkP; kernel_rfl
theorem lk_3_4 (r : Nat → Nat → Bool) (x1 x2 x3 x4 x5 x6 g h : Nat) (a b : Int) : lkP r x1 x2 x3 x4 x5 x6 g h a b 3 4 := by unfold lkP; kernel_rfl
theorem lk_3_5 (r : Nat → Nat → Bool) (x1 x2 x3 x4 x5 x6 g h : Nat) (a b : Int) : lkP r x1 x2 x3 x4 x5 x6 g h a b 3 5 := by unfold lkP; kernel_rfl
theorem lk_3_6 (r : Nat → Nat → Bool) (x1 x2 x3 x4 x5 x6 g h : Nat) (a b : Int) : lkP r x1 x2 x3 x4 x5 x6 g h a b 3 6 := by unfold lkP; kernel_rfl
theorem lk_3_7 (r : Nat → Nat → Bool) (x1 x2 x3 x4 x5 x6 g h : Nat) (a b : Int) : lkP r x1 x2 x3 x4 x5 x6 g h a b 3 7 := by unfold lkP; kernel_rfl
theorem lk_3_8 (r : Nat → Nat → Bool) (x1 x2 x3 x4 x5 x6 g h : Nat) (a b : Int) : lkP r x1 x2 x3 x4 x5 x6 g h a b 3 8 := by unfold lkP; kernel_rfl
theorem lk_4_0 (r : Nat → Nat → Bool) (x1 x2 x3 x4 x5 x6 g h : Nat) (a b : Int) : lkP r x1 x2 x3 x4 x5 x6 g h a b 4 0 := by unfold lkP; kernel_rfl
theorem lk_4_1 (r : Nat → Nat → Bool) (x1 x2 x3 x4 x5 x6 g h : Nat) (a b : Int) : lkP r x1 x2 x3 x4 x5 x6 g h a b 4 1 := by unfold lkP; kernel_rfl
theorem lk_4_2 (r : Nat → Nat → Bool) (x1 x2 x3 x4 x5 x6 g h : Nat) (a b : Int) : lkP r x1 x2 x3 x4 x5 x6 g h a b 4 2 := by unfold lkP; kernel_rfl
theorem lk_4_3 (r : Nat → Nat → Bool) (x1 x2 x3 x4 x5 x6 g h : Nat) (a b : Int) : lkP r x1 x2 x3 x4 x5 x6 g h a b 4 3 := by unfold lkP; kernel_rfl
theorem lk_4_4 (r : Nat → Nat → Bool) (x1 x2 x3 x4 x5 x6 g h : Nat) (a b : Int) : lkP r x1 x2 x3 x4 x5 x6 g h a b 4 4 := by unfold lkP; kernel_rfl
theorem lk_4_5 (r : Nat → Nat → Bool) (x1 x2 x3 x4 x5 x6 g h : Nat) (a b : Int) : lkP r x1 x2 x3 x4 x5 x6 g h a b 4 5 := by unfold lkP; kernel_rfl
theorem lk_4_6 (r : Nat → Nat → Bool) (x1 x2 x3 x4 x5 x6 g h : Nat) (a b : Int) : lkP r x1 x2 x3 x4 x5 x6 g h a b 4 6 := by unfold lkP; kernel_rfl
theorem lk_4_7 (r : Nat → Nat → Bool) (x1 x2 x3 x4 x5 x6 g h : Nat) (a b : Int) : lkP r x1 x2 x3 x4 x5 x6 g h a b 4 7 := by unfold lkP; kernel_rfl
theorem lk_all (r : Nat → Nat → Bool) (x1 x2 x3 x4 x5 x6 g h : Nat) (a b : Int) {i j : Nat} (hh : i ≤ 4 ∧ j ≤ 8 ∧ (i < 4 ∨ j < 8)) : lkP r x1 x2 x3 x4 x5 x6 g h a b i j := by
  have hi : i = 0 ∨ i = 1 ∨ i = 2 ∨ i = 3 ∨ i = 4 := by omega
  rcases hi with rfl | rfl | rfl | rfl | rfl
  · have hj : j = 0 ∨ j = 1 ∨ j = 2 ∨ j = 3 ∨ j = 4 ∨ j = 5 ∨ j = 6 ∨ j = 7 ∨ j = 8 := by omega
    rcases hj with rfl | rfl | rfl | rfl | rfl | rfl | rfl | rfl | rfl
    · exact lk_0_0 r x1 x2 x3 x4 x5 x6 g h a b
    · exact lk_0_1 r x1 x2 x3 x4 x5 x6 g h a b
    · exact lk_0_2 r x1 x2 x3 x4 x5 x6 g h a b
    · exact lk_0_3 r x1 x2 x3 x4 x5 x6 g h a b
    · exact lk_0_4 r x1 x2 x3 x4 x5 x6 g h a b
    · exact lk_0_5 r x1 x2 x3 x4 x5 x6 g h a b
    · exact lk_0_6 r x1 x2 x3 x4 x5 x6 g h a b
    · exact lk_0_7 r x1 x2 x3 x4 x5 x6 g h a b
    · exact lk_0_8 r x1 x2 x3 x4 x5 x6 g h a b
  · have hj : j = 0 ∨ j = 1 ∨ j = 2 ∨ j = 3 ∨ j = 4 ∨ j = 5 ∨ j = 6 ∨ j = 7 ∨ j = 8 := by omega
    rcases hj with rfl | rfl | rfl | rfl | rfl | rfl | rfl | rfl | rfl
    · exact lk_1_0 r x1 x2 x3 x4 x5 x6 g h a b
    · exact lk_1_1 r x1 x2 x3 x4 x5 x6 g h a b
    · exact lk_1_2 r x1 x2 x3 x4 x5 x6 g h a b
    · exact lk_1_3 r x1 x2 x3 x4 x5 x6 g h a b
    · exact lk_1_4 r x1 x2 x3 x4 x5 x6 g h a b
    · exact lk_1_5 r x1 x2 x3 x4 x5 x6 g h a b
    · exact lk_1_6 r x1 x2 x3 x4 x5 x6 g h a b
    · exact lk_1_7 r x1 x2 x3 x4 x5 x6 g h a b
    · exact lk_1_8 r x1 x2 x3 x4 x5 x6 g h a b
  · have hj : j = 0 ∨ j = 1 ∨ j = 2 ∨ j = 3 ∨ j = 4 ∨ j = 5 ∨ j = 6 ∨ j = 7 ∨ j = 8 := by omega
    rcases hj with rfl | rfl | rfl | rfl | rfl | rfl | rfl | rfl | rfl
    · exact lk_2_0 r x1 x2 x3 x4 x5 x6 g h a b
    · exact lk_2_1 r x1 x2 x3 x4 x5 x6 g h a b
    · exact lk_2_2 r x1 x2 x3 x4 x5 x6 g h a b
    · exact lk_2_3 r x1 x2 x3 x4 x5 x6 g h a b
    · exact lk_2_4 r x1 x2 x3 x4 x5 x6 g h a b
    · exact lk_2_5 r x1 x2 x3 x4 x5 x6 g h a b
    · exact lk_2_6 r x1 x2 x3 x4 x5 x6 g h a b
    · exact lk_2_7 r x1 x2 x3 x4 x5 x6 g h a b
    · exact lk_2_8 r x1 x2 x3 x4 x5 x6 g h a b
  · have hj : j = 0 ∨ j = 1 ∨ j = 2 ∨ j = 3 ∨ j = 4 ∨ j = 5 ∨ j = 6 ∨ j = 7 ∨ j = 8 := by omega
    rcases hj with rfl | rfl | rfl | rfl | rfl | rfl | rfl | rfl | rfl
    · exact lk_3_0 r x1 x2 x3 x4 x5 x6 g h a b
    · exact lk_3_1 r x1 x2 x3 x4 x5 x6 g h a b
    · exact lk_3_2 r x1 x2 x3 x4 x5 x6 g h a b
    · exact lk_3_3 r x1 x2 x3 x4 x5 x6 g h a b
    · exact lk_3_4 r x1 x2 x3 x4 x5 x6 g h a b
    · exact lk_3_5 r x1 x2 x3 x4 x5 x6 g h a b
    · exact lk_3_6 r x1 x2 x3 x4 x5 x6 g h a b
    · exact lk_3_7 r x1 x2 x3 x4 x5 x6 g h a b
    · exact lk_3_8 r x1 x2 x3 x4 x5 x6 g h a b
  · have hj : j = 0 ∨ j = 1 ∨ j = 2 ∨ j = 3 ∨ j = 4 ∨ j = 5 ∨ j = 6 ∨ j = 7 := by omega
    rcases hj with rfl | rfl | rfl | rfl | rfl | rfl | rfl | rfl
    · exact lk_4_0 r x1 x2 x3 x4 x5 x6 g h a b
    · exact lk_4_1 r x1 x2 x3 x4 x5 x6 g h a b
    · exact lk_4_2 r x1 x2 x3 x4 x5 x6 g h a b
    · exact lk_4_3 r x1 x2 x3 x4 x5 x6 g h a b
    · exact lk_4_4 r x1 x2 x3 x4 x5 x6 g h a b
    · exact lk_4_5 r x1 x2 x3 x4 x5 x6 g h a b
    · exact lk_4_6 r x1 x2 x3 x4 x5 x6 g h a b
    · exact lk_4_7 r x1 x2 x3 x4 x5 x6 g h a b
def tsR (x1 x2 x3 x4 x5 x6 g h : Nat) : List Tst := [.R 0 x1 x2, .R 1 x3 x4, .R 2 x5 x6, .R 3 g h]
def tsM (x1 x2 x3 x4 x5 x6 g h : Nat) : List Tst := [.M 0 (gew x1 mone64), .M 1 (lew x2 one64), .M 2 (gew x3 mone64), .M 3 (lew x4 one64), .M 4 (gew x5 z64), .M 5 (lew x6 one64), .M 6 (gew g minA), .M 7 (lew h one64)]
def tsY (i : Nat) (x1 x2 x3 x4 x5 x6 g h : Nat) : List Tst := bif Nat.blt i 4 then tsR x1 x2 x3 x4 x5 x6 g h else tsR x1 x2 x3 x4 x5 x6 g h ++ tsM x1 x2 x3 x4 x5 x6 g h
def cod3 (i j : Nat) : Int := bif Nat.blt i 4 then 20 else bif Nat.blt j 8 then 2 else 0
def myP (r : Nat → Nat → Bool) (x1 x2 x3 x4 x5 x6 g h : Nat) (i j : Nat) : Prop := valR ((run Tryz.prog EH (OW2 r) 80).1 71 [w6 x1 x2 x3 x4 x5 x6, w2 g h] [] (some (tqD i j (tsY i x1 x2 x3 x4 x5 x6 g h)))) = some (.i .i64 (cod3 i j), some [], tqO r i j (tsY i x1 x2 x3 x4 x5 x6 g h) [])
theorem my_0_0 (r : Nat → Nat → Bool) (x1 x2 x3 x4 x5 x6 g h : Nat) : myP r x1 x2 x3 x4 x5 x6 g h 0 0 := by unfold myP; kernel_rfl
theorem my_1_0 (r : Nat → Nat → Bool) (x1 x2 x3 x4 x5 x6 g h : Nat) : myP r x1 x2 x3 x4 x5 x6 g h 1 0 := by unfold myP; kernel_rfl
theorem my_2_0 (r : Nat → Nat → Bool) (x1 x2 x3 x4 x5 x6 g h : Nat) : myP r x1 x2 x3 x4 x5 x6 g h 2 0 := by unfold myP; kernel_rfl
theorem my_3_0 (r : Nat → Nat → Bool) (x1 x2 x3 x4 x5 x6 g h : Nat) : myP r x1 x2 x3 x4 x5 x6 g h 3 0 := by unfold myP; kernel_rfl
theorem my_4_0 (r : Nat → Nat → Bool) (x1 x2 x3 x4 x5 x6 g h : Nat) : myP r x1 x2 x3 x4 x5 x6 g h 4 0 := by unfold myP; kernel_rfl
theorem my_4_1 (r : Nat → Nat → Bool) (x1 x2 x3 x4 x5 x6 g h : Nat) : myP r x1 x2 x3 x4 x5 x6 g h 4 1 := by unfold myP; kernel_rfl
theorem my_4_2 (r : Nat → Nat → Bool) (x1 x2 x3 x4 x5 x6 g h : Nat) : myP r x1 x2 x3 x4 x5 x6 g h 4 2 := by unfold myP; kernel_rfl
theorem my_4_3 (r : Nat → Nat → Bool) (x1 x2 x3 x4 x5 x6 g h : Nat) : myP r x1 x2 x3 x4 x5 x6 g h 4 3 := by unfold myP; kernel_rfl
theorem my_4_4 (r : Nat → Nat → Bool) (x1 x2 x3 x4 x5 x6 g h : Nat) : myP r x1 x2 x3 x4 x5 x6 g h 4 4 := by unfold myP; kernel_rfl
theorem my_4_5 (r : Nat → Nat → Bool) (x1 x2 x3 x4 x5 x6 g h : Nat) : myP r x1 x2 x3 x4 x5 x6 g h 4 5 := by unfold myP; kernel_rfl
theorem my_4_6 (r : Nat → Nat → Bool) (x1 x2 x3 x4 x5 x6 g h : Nat) : myP r x1 x2 x3 x4 x5 x6 g h 4 6 := by unfold myP; kernel_rfl
theorem my_4_7 (r : Nat → Nat → Bool) (x1 x2 x3 x4 x5 x6 g h : Nat) : myP r x1 x2 x3 x4 x5 x6 g h 4 7 := by unfold myP; kernel_rfl
theorem my_4_8 (r : Nat → Nat → Bool) (x1 x2 x3 x4 x5 x6 g h : Nat) : myP r x1 x2 x3 x4 x5 x6 g h 4 8 := by unfold myP; kernel_rfl
theorem my_all (r : Nat → Nat → Bool) (x1 x2 x3 x4 x5 x6 g h : Nat) {i j : Nat} (hh : i ≤ 4 ∧ j ≤ 8 ∧ (i < 4 → j = 0)) : myP r x1 x2 x3 x4 x5 x6 g h i j := by
  have hi : i = 0 ∨ i = 1 ∨ i = 2 ∨ i = 3 ∨ i = 4 := by omega
  rcases hi with rfl | rfl | rfl | rfl | rfl
  · have hj : j = 0 := by omega
    rcases hj with rfl
    · exact my_0_0 r x1 x2 x3 x4 x5 x6 g h
  · have hj : j = 0 := by omega
    rcases hj with rfl
    · exact my_1_0 r x1 x2 x3 x4 x5 x6 g h
  · have hj : j = 0 := by omega
    rcases hj with rfl
    · exact my_2_0 r x1 x2 x3 x4 x5 x6 g h
  · have hj : j = 0 := by omega
    rcases hj with rfl
    · exact my_3_0 r x1 x2 x3 x4 x5 x6 g h
  · have hj : j = 0 ∨ j = 1 ∨ j = 2 ∨ j = 3 ∨ j = 4 ∨ j = 5 ∨ j = 6 ∨ j = 7 ∨ j = 8 := by omega
    rcases hj with rfl | rfl | rfl | rfl | rfl | rfl | rfl | rfl | rfl
    · exact my_4_0 r x1 x2 x3 x4 x5 x6 g h
    · exact my_4_1 r x1 x2 x3 x4 x5 x6 g h
    · exact my_4_2 r x1 x2 x3 x4 x5 x6 g h
    · exact my_4_3 r x1 x2 x3 x4 x5 x6 g h
    · exact my_4_4 r x1 x2 x3 x4 x5 x6 g h
    · exact my_4_5 r x1 x2 x3 x4 x5 x6 g h
    · exact my_4_6 r x1 x2 x3 x4 x5 x6 g h
    · exact my_4_7 r x1 x2 x3 x4 x5 x6 g h
    · exact my_4_8 r x1 x2 x3 x4 x5 x6 g h
end Go.Proofs.YtmhhopfffeijnaaGreat
