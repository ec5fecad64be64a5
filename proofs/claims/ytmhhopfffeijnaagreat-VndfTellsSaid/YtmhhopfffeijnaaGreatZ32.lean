/- Refusals of vndf.Density (written by genrefuse.py). -/
import Derived.Test.YtmhhopfffeijnaaGreatZ31
namespace Go.Proofs.YtmhhopfffeijnaaGreat
set_option linter.all false
open Go.RowKit Bu Rx

def tsN (x1 x2 x3 x4 x5 x6 y1 y2 y3 y4 y5 y6 g h : Nat) : List Tst := [.R 0 g h, .M 0 (gew g minA), .M 1 (lew h one64), .R 1 x1 x2, .R 2 x3 x4, .R 3 x5 x6, .M 2 (gew x1 mone64), .M 3 (lew x2 one64), .M 4 (gew x3 mone64), .M 5 (lew x4 one64), .M 6 (gew x5 z64), .M 7 (lew x6 one64), .R 4 y1 y2, .R 5 y3 y4, .R 6 y5 y6, .M 8 (gew y1 mone64), .M 9 (lew y2 one64), .M 10 (gew y3 mone64), .M 11 (lew y4 one64), .M 12 (gew y5 z64), .M 13 (lew y6 one64)]
def lnP (r : Nat → Nat → Bool) (x1 x2 x3 x4 x5 x6 y1 y2 y3 y4 y5 y6 g h : Nat) (i j : Nat) : Prop := valR ((run Tryz.prog EG (OW r) 80).1 20 [w6 x1 x2 x3 x4 x5 x6, w6 y1 y2 y3 y4 y5 y6, w2 g h] [] (some (tqD i j (tsN x1 x2 x3 x4 x5 x6 y1 y2 y3 y4 y5 y6 g h)))) = some (.tup [ivS I.zero, .i .i64 (cod i 7)], some [], tqO r i j (tsN x1 x2 x3 x4 x5 x6 y1 y2 y3 y4 y5 y6 g h) [])
theorem ln_0_0 (r : Nat → Nat → Bool) (x1 x2 x3 x4 x5 x6 y1 y2 y3 y4 y5 y6 g h : Nat) : lnP r x1 x2 x3 x4 x5 x6 y1 y2 y3 y4 y5 y6 g h 0 0 := by unfold lnP; kernel_rfl
theorem ln_0_1 (r : Nat → Nat → Bool) (x1 x2 x3 x4 x5 x6 y1 y2 y3 y4 y5 y6 g h : Nat) : lnP r x1 x2 x3 x4 x5 x6 y1 y2 y3 y4 y5 y6 g h 0 1 := by unfold lnP; kernel_rfl
theorem ln_0_2 (r : Nat → Nat → Bool) (x1 x2 x3 x4 x5 x6 y1 y2 y3 y4 y5 y6 g h : Nat) : lnP r x1 x2 x3 x4 x5 x6 y1 y2 y3 y4 y5 y6 g h 0 2 := by unfold lnP; kernel_rfl
theorem ln_0_3 (r : Nat → Nat → Bool) (x1 x2 x3 x4 x5 x6 y1 y2 y3 y4 y5 y6 g h : Nat) : lnP r x1 x2 x3 x4 x5 x6 y1 y2 y3 y4 y5 y6 g h 0 3 := by unfold lnP; kernel_rfl
theorem ln_0_4 (r : Nat → Nat → Bool) (x1 x2 x3 x4 x5 x6 y1 y2 y3 y4 y5 y6 g h : Nat) : lnP r x1 x2 x3 x4 x5 x6 y1 y2 y3 y4 y5 y6 g h 0 4 := by unfold lnP; kernel_rfl
theorem ln_0_5 (r : Nat → Nat → Bool) (x1 x2 x3 x4 x5 x6 y1 y2 y3 y4 y5 y6 g h : Nat) : lnP r x1 x2 x3 x4 x5 x6 y1 y2 y3 y4 y5 y6 g h 0 5 := by unfold lnP; kernel_rfl
theorem ln_0_6 (r : Nat → Nat → Bool) (x1 x2 x3 x4 x5 x6 y1 y2 y3 y4 y5 y6 g h : Nat) : lnP r x1 x2 x3 x4 x5 x6 y1 y2 y3 y4 y5 y6 g h 0 6 := by unfold lnP; kernel_rfl
theorem ln_0_7 (r : Nat → Nat → Bool) (x1 x2 x3 x4 x5 x6 y1 y2 y3 y4 y5 y6 g h : Nat) : lnP r x1 x2 x3 x4 x5 x6 y1 y2 y3 y4 y5 y6 g h 0 7 := by unfold lnP; kernel_rfl
theorem ln_0_8 (r : Nat → Nat → Bool) (x1 x2 x3 x4 x5 x6 y1 y2 y3 y4 y5 y6 g h : Nat) : lnP r x1 x2 x3 x4 x5 x6 y1 y2 y3 y4 y5 y6 g h 0 8 := by unfold lnP; kernel_rfl
theorem ln_0_9 (r : Nat → Nat → Bool) (x1 x2 x3 x4 x5 x6 y1 y2 y3 y4 y5 y6 g h : Nat) : lnP r x1 x2 x3 x4 x5 x6 y1 y2 y3 y4 y5 y6 g h 0 9 := by unfold lnP; kernel_rfl
theorem ln_0_10 (r : Nat → Nat → Bool) (x1 x2 x3 x4 x5 x6 y1 y2 y3 y4 y5 y6 g h : Nat) : lnP r x1 x2 x3 x4 x5 x6 y1 y2 y3 y4 y5 y6 g h 0 10 := by unfold lnP; kernel_rfl
theorem ln_0_11 (r : Nat → Nat → Bool) (x1 x2 x3 x4 x5 x6 y1 y2 y3 y4 y5 y6 g h : Nat) : lnP r x1 x2 x3 x4 x5 x6 y1 y2 y3 y4 y5 y6 g h 0 11 := by unfold lnP; kernel_rfl
theorem ln_0_12 (r : Nat → Nat → Bool) (x1 x2 x3 x4 x5 x6 y1 y2 y3 y4 y5 y6 g h : Nat) : lnP r x1 x2 x3 x4 x5 x6 y1 y2 y3 y4 y5 y6 g h 0 12 := by unfold lnP; kernel_rfl
theorem ln_0_13 (r : Nat → Nat → Bool) (x1 x2 x3 x4 x5 x6 y1 y2 y3 y4 y5 y6 g h : Nat) : lnP r x1 x2 x3 x4 x5 x6 y1 y2 y3 y4 y5 y6 g h 0 13 := by unfold lnP; kernel_rfl
theorem ln_0_14 (r : Nat → Nat → Bool) (x1 x2 x3 x4 x5 x6 y1 y2 y3 y4 y5 y6 g h : Nat) : lnP r x1 x2 x3 x4 x5 x6 y1 y2 y3 y4 y5 y6 g h 0 14 := by unfold lnP; kernel_rfl
theorem ln_1_0 (r : Nat → Nat → Bool) (x1 x2 x3 x4 x5 x6 y1 y2 y3 y4 y5 y6 g h : Nat) : lnP r x1 x2 x3 x4 x5 x6 y1 y2 y3 y4 y5 y6 g h 1 0 := by unfold lnP; kernel_rfl
theorem ln_1_1 (r : Nat → Nat → Bool) (x1 x2 x3 x4 x5 x6 y1 y2 y3 y4 y5 y6 g h : Nat) : lnP r x1 x2 x3 x4 x5 x6 y1 y2 y3 y4 y5 y6 g h 1 1 := by unfold lnP; kernel_rfl
theorem ln_1_2 (r : Nat → Nat → Bool) (x1 x2 x3 x4 x5 x6 y1 y2 y3 y4 y5 y6 g h : Nat) : lnP r x1 x2 x3 x4 x5 x6 y1 y2 y3 y4 y5 y6 g h 1 2 := by unfold lnP; kernel_rfl
theorem ln_1_3 (r : Nat → Nat → Bool) (x1 x2 x3 x4 x5 x6 y1 y2 y3 y4 y5 y6 g h : Nat) : lnP r x1 x2 x3 x4 x5 x6 y1 y2 y3 y4 y5 y6 g h 1 3 := by unfold lnP; kernel_rfl
theorem ln_1_4 (r : Nat → Nat → Bool) (x1 x2 x3 x4 x5 x6 y1 y2 y3 y4 y5 y6 g h : Nat) : lnP r x1 x2 x3 x4 x5 x6 y1 y2 y3 y4 y5 y6 g h 1 4 := by unfold lnP; kernel_rfl
theorem ln_1_5 (r : Nat → Nat → Bool) (x1 x2 x3 x4 x5 x6 y1 y2 y3 y4 y5 y6 g h : Nat) : lnP r x1 x2 x3 x4 x5 x6 y1 y2 y3 y4 y5 y6 g h 1 5 := by unfold lnP; kernel_rfl
theorem ln_1_6 (r : Nat → Nat → Bool) (x1 x2 x3 x4 x5 x6 y1 y2 y3 y4 y5 y6 g h : Nat) : lnP r x1 x2 x3 x4 x5 x6 y1 y2 y3 y4 y5 y6 g h 1 6 := by unfold lnP; kernel_rfl
theorem ln_1_7 (r : Nat → Nat → Bool) (x1 x2 x3 x4 x5 x6 y1 y2 y3 y4 y5 y6 g h : Nat) : lnP r x1 x2 x3 x4 x5 x6 y1 y2 y3 y4 y5 y6 g h 1 7 := by unfold lnP; kernel_rfl
theorem ln_1_8 (r : Nat → Nat → Bool) (x1 x2 x3 x4 x5 x6 y1 y2 y3 y4 y5 y6 g h : Nat) : lnP r x1 x2 x3 x4 x5 x6 y1 y2 y3 y4 y5 y6 g h 1 8 := by unfold lnP; kernel_rfl
theorem ln_1_9 (r : Nat → Nat → Bool) (x1 x2 x3 x4 x5 x6 y1 y2 y3 y4 y5 y6 g h : Nat) : lnP r x1 x2 x3 x4 x5 x6 y1 y2 y3 y4 y5 y6 g h 1 9 := by unfold lnP; kernel_rfl
theorem ln_1_10 (r : Nat → Nat → Bool) (x1 x2 x3 x4 x5 x6 y1 y2 y3 y4 y5 y6 g h : Nat) : lnP r x1 x2 x3 x4 x5 x6 y1 y2 y3 y4 y5 y6 g h 1 10 := by unfold lnP; kernel_rfl
theorem ln_1_11 (r : Nat → Nat → Bool) (x1 x2 x3 x4 x5 x6 y1 y2 y3 y4 y5 y6 g h : Nat) : lnP r x1 x2 x3 x4 x5 x6 y1 y2 y3 y4 y5 y6 g h 1 11 := by unfold lnP; kernel_rfl
theorem ln_1_12 (r : Nat → Nat → Bool) (x1 x2 x3 x4 x5 x6 y1 y2 y3 y4 y5 y6 g h : Nat) : lnP r x1 x2 x3 x4 x5 x6 y1 y2 y3 y4 y5 y6 g h 1 12 := by unfold lnP; kernel_rfl
theorem ln_1_13 (r : Nat → Nat → Bool) (x1 x2 x3 x4 x5 x6 y1 y2 y3 y4 y5 y6 g h : Nat) : lnP r x1 x2 x3 x4 x5 x6 y1 y2 y3 y4 y5 y6 g h 1 13 := by unfold lnP; kernel_rfl
theorem ln_1_14 (r : Nat → Nat → Bool) (x1 x2 x3 x4 x5 x6 y1 y2 y3 y4 y5 y6 g h : Nat) : lnP r x1 x2 x3 x4 x5 x6 y1 y2 y3 y4 y5 y6 g h 1 14 := by unfold lnP; kernel_rfl
theorem ln_2_0 (r : Nat → Nat → Bool) (x1 x2 x3 x4 x5 x6 y1 y2 y3 y4 y5 y6 g h : Nat) : lnP r x1 x2 x3 x4 x5 x6 y1 y2 y3 y4 y5 y6 g h 2 0 := by unfold lnP; kernel_rfl
theorem ln_2_1 (r : Nat → Nat → Bool) (x1 x2 x3 x4 x5 x6 y1 y2 y3 y4 y5 y6 g h : Nat) : lnP r x1 x2 x3 x4 x5 x6 y1 y2 y3 y4 y5 y6 g h 2 1 := by unfold lnP; kernel_rfl
theorem ln_2_2 (r : Nat → Nat → Bool) (x1 x2 x3 x4 x5 x6 y1 y2 y3 y4 y5 y6 g h : Nat) : lnP r x1 x2 x3 x4 x5 x6 y1 y2 y3 y4 y5 y6 g h 2 2 := by unfold lnP; kernel_rfl
theorem ln_2_3 (r : Nat → Nat → Bool) (x1 x2 x3 x4 x5 x6 y1 y2 y3 y4 y5 y6 g h : Nat) : lnP r x1 x2 x3 x4 x5 x6 y1 y2 y3 y4 y5 y6 g h 2 3 := by unfold lnP; kernel_rfl
theorem ln_2_4 (r : Nat → Nat → Bool) (x1 x2 x3 x4 x5 x6 y1 y2 y3 y4 y5 y6 g h : Nat) : lnP r x1 x2 x3 x4 x5 x6 y1 y2 y3 y4 y5 y6 g h 2 4 := by unfold lnP; kernel_rfl
theorem ln_2_5 (r : Nat → Nat → Bool) (x1 x2 x3 x4 x5 x6 y1 y2 y3 y4 y5 y6 g h : Nat) : lnP r x1 x2 x3 x4 x5 x6 y1 y2 y3 y4 y5 y6 g h 2 5 := by unfold lnP; kernel_rfl
theorem ln_2_6 (r : Nat → Nat → Bool) (x1 x2 x3 x4 x5 x6 y1 y2 y3 y4 y5 y6 g h : Nat) : lnP r x1 x2 x3 x4 x5 x6 y1 y2 y3 y4 y5 y6 g h 2 6 := by unfold lnP; kernel_rfl
theorem ln_2_7 (r : Nat → Nat → Bool) (x1 x2 x3 x4 x5 x6 y1 y2 y3 y4 y5 y6 g h : Nat) : lnP r x1 x2 x3 x4 x5 x6 y1 y2 y3 y4 y5 y6 g h 2 7 := by unfold lnP; kernel_rfl
theorem ln_2_8 (r : Nat → Nat → Bool) (x1 x2 x3 x4 x5 x6 y1 y2 y3 y4 y5 y6 g h : Nat) : lnP r x1 x2 x3 x4 x5 x6 y1 y2 y3 y4 y5 y6 g h 2 8 := by unfold lnP; kernel_rfl
theorem ln_2_9 (r : Nat → Nat → Bool) (x1 x2 x3 x4 x5 x6 y1 y2 y3 y4 y5 y6 g h : Nat) : lnP r x1 x2 x3 x4 x5 x6 y1 y2 y3 y4 y5 y6 g h 2 9 := by unfold lnP; kernel_rfl
theorem ln_2_10 (r : Nat → Nat → Bool) (x1 x2 x3 x4 x5 x6 y1 y2 y3 y4 y5 y6 g h : Nat) : lnP r x1 x2 x3 x4 x5 x6 y1 y2 y3 y4 y5 y6 g h 2 10 := by unfold lnP; kernel_rfl
theorem ln_2_11 (r : Nat → Nat → Bool) (x1 x2 x3 x4 x5 x6 y1 y2 y3 y4 y5 y6 g h : Nat) : lnP r x1 x2 x3 x4 x5 x6 y1 y2 y3 y4 y5 y6 g h 2 11 := by unfold lnP; kernel_rfl
theorem ln_2_12 (r : Nat → Nat → Bool) (x1 x2 x3 x4 x5 x6 y1 y2 y3 y4 y5 y6 g h : Nat) : lnP r x1 x2 x3 x4 x5 x6 y1 y2 y3 y4 y5 y6 g h 2 12 := by unfold lnP; kernel_rfl
theorem ln_2_13 (r : Nat → Nat → Bool) (x1 x2 x3 x4 x5 x6 y1 y2 y3 y4 y5 y6 g h : Nat) : lnP r x1 x2 x3 x4 x5 x6 y1 y2 y3 y4 y5 y6 g h 2 13 := by unfold lnP; kernel_rfl
theorem ln_2_14 (r : Nat → Nat → Bool) (x1 x2 x3 x4 x5 x6 y1 y2 y3 y4 y5 y6 g h : Nat) : lnP r x1 x2 x3 x4 x5 x6 y1 y2 y3 y4 y5 y6 g h 2 14 := by unfold lnP; kernel_rfl
theorem ln_3_0 (r : Nat → Nat → Bool) (x1 x2 x3 x4 x5 x6 y1 y2 y3 y4 y5 y6 g h : Nat) : lnP r x1 x2 x3 x4 x5 x6 y1 y2 y3 y4 y5 y6 g h 3 0 := by unfold lnP; kernel_rfl
theorem ln_3_1 (r : Nat → Nat → Bool) (x1 x2 x3 x4 x5 x6 y1 y2 y3 y4 y5 y6 g h : Nat) : lnP r x1 x2 x3 x4 x5 x6 y1 y2 y3 y4 y5 y6 g h 3 1 := by unfold lnP; kernel_rfl
theorem ln_3_2 (r : Nat → Nat → Bool) (x1 x2 x3 x4 x5 x6 y1 y2 y3 y4 y5 y6 g h : Nat) : lnP r x1 x2 x3 x4 x5 x6 y1 y2 y3 y4 y5 y6 g h 3 2 := by unfold lnP; kernel_rfl
theorem ln_3_3 (r : Nat → Nat → Bool) (x1 x2 x3 x4 x5 x6 y1 y2 y3 y4 y5 y6 g h : Nat) : lnP r x1 x2 x3 x4 x5 x6 y1 y2 y3 y4 y5 y6 g h 3 3 := by unfold lnP; kernel_rfl
theorem ln_3_4 (r : Nat → Nat → Bool) (x1 x2 x3 x4 x5 x6 y1 y2 y3 y4 y5 y6 g h : Nat) : lnP r x1 x2 x3 x4 x5 x6 y1 y2 y3 y4 y5 y6 g h 3 4 := by unfold lnP; kernel_rfl
theorem ln_3_5 (r : Nat → Nat → Bool) (x1 x2 x3 x4 x5 x6 y1 y2 y3 y4 y5 y6 g h : Nat) : lnP r x1 x2 x3 x4 x5 x6 y1 y2 y3 y4 y5 y6 g h 3 5 := by unfold lnP; kernel_rfl
theorem ln_3_6 (r : Nat → Nat → Bool) (x1 x2 x3 x4 x5 x6 y1 y2 y3 y4 y5 y6 g h : Nat) : lnP r x1 x2 x3 x4 x5 x6 y1 y2 y3 y4 y5 y6 g h 3 6 := by unfold lnP; kernel_rfl
theorem ln_3_7 (r : Nat → Nat → Bool) (x1 x2 x3 x4 x5 x6 y1 y2 y3 y4 y5 y6 g h : Nat) : lnP r x1 x2 x3 x4 x5 x6 y1 y2 y3 y4 y5 y6 g h 3 7 := by unfold lnP; kernel_rfl
theorem ln_3_8 (r : Nat → Nat → Bool) (x1 x2 x3 x4 x5 x6 y1 y2 y3 y4 y5 y6 g h : Nat) : lnP r x1 x2 x3 x4 x5 x6 y1 y2 y3 y4 y5 y6 g h 3 8 := by unfold lnP; kernel_rfl
theorem ln_3_9 (r : Nat → Nat → Bool) (x1 x2 x3 x4 x5 x6 y1 y2 y3 y4 y5 y6 g h : Nat) : lnP r x1 x2 x3 x4 x5 x6 y1 y2 y3 y4 y5 y6 g h 3 9 := by unfold lnP; kernel_rfl
theorem ln_3_10 (r : Nat → Nat → Bool) (x1 x2 x3 x4 x5 x6 y1 y2 y3 y4 y5 y6 g h : Nat) : lnP r x1 x2 x3 x4 x5 x6 y1 y2 y3 y4 y5 y6 g h 3 10 := by unfold lnP; kernel_rfl
theorem ln_3_11 (r : Nat → Nat → Bool) (x1 x2 x3 x4 x5 x6 y1 y2 y3 y4 y5 y6 g h : Nat) : lnP r x1 x2 x3 x4 x5 x6 y1 y2 y3 y4 y5 y6 g h 3 11 := by unfold lnP; kernel_rfl
theorem ln_3_12 (r : Nat → Nat → Bool) (x1 x2 x3 x4 x5 x6 y1 y2 y3 y4 y5 y6 g h : Nat) : lnP r x1 x2 x3 x4 x5 x6 y1 y2 y3 y4 y5 y6 g h 3 12 := by unfold lnP; kernel_rfl
theorem ln_3_13 (r : Nat → Nat → Bool) (x1 x2 x3 x4 x5 x6 y1 y2 y3 y4 y5 y6 g h : Nat) : lnP r x1 x2 x3 x4 x5 x6 y1 y2 y3 y4 y5 y6 g h 3 13 := by unfold lnP; kernel_rfl
theorem ln_3_14 (r : Nat → Nat → Bool) (x1 x2 x3 x4 x5 x6 y1 y2 y3 y4 y5 y6 g h : Nat) : lnP r x1 x2 x3 x4 x5 x6 y1 y2 y3 y4 y5 y6 g h 3 14 := by unfold lnP; kernel_rfl
theorem ln_4_0 (r : Nat → Nat → Bool) (x1 x2 x3 x4 x5 x6 y1 y2 y3 y4 y5 y6 g h : Nat) : lnP r x1 x2 x3 x4 x5 x6 y1 y2 y3 y4 y5 y6 g h 4 0 := by unfold lnP; kernel_rfl
theorem ln_4_1 (r : Nat → Nat → Bool) (x1 x2 x3 x4 x5 x6 y1 y2 y3 y4 y5 y6 g h : Nat) : lnP r x1 x2 x3 x4 x5 x6 y1 y2 y3 y4 y5 y6 g h 4 1 := by unfold lnP; kernel_rfl
theorem ln_4_2 (r : Nat → Nat → Bool) (x1 x2 x3 x4 x5 x6 y1 y2 y3 y4 y5 y6 g h : Nat) : lnP r x1 x2 x3 x4 x5 x6 y1 y2 y3 y4 y5 y6 g h 4 2 := by unfold lnP; kernel_rfl
theorem ln_4_3 (r : Nat → Nat → Bool) (x1 x2 x3 x4 x5 x6 y1 y2 y3 y4 y5 y6 g h : Nat) : lnP r x1 x2 x3 x4 x5 x6 y1 y2 y3 y4 y5 y6 g h 4 3 := by unfold lnP; kernel_rfl
theorem ln_4_4 (r : Nat → Nat → Bool) (x1 x2 x3 x4 x5 x6 y1 y2 y3 y4 y5 y6 g h : Nat) : lnP r x1 x2 x3 x4 x5 x6 y1 y2 y3 y4 y5 y6 g h 4 4 := by unfold lnP; kernel_rfl
theorem ln_4_5 (r : Nat → Nat → Bool) (x1 x2 x3 x4 x5 x6 y1 y2 y3 y4 y5 y6 g h : Nat) : lnP r x1 x2 x3 x4 x5 x6 y1 y2 y3 y4 y5 y6 g h 4 5 := by unfold lnP; kernel_rfl
theorem ln_4_6 (r : Nat → Nat → Bool) (x1 x2 x3 x4 x5 x6 y1 y2 y3 y4 y5 y6 g h : Nat) : lnP r x1 x2 x3 x4 x5 x6 y1 y2 y3 y4 y5 y6 g h 4 6 := by unfold lnP; kernel_rfl
theorem ln_4_7 (r : Nat → Nat → Bool) (x1 x2 x3 x4 x5 x6 y1 y2 y3 y4 y5 y6 g h : Nat) : lnP r x1 x2 x3 x4 x5 x6 y1 y2 y3 y4 y5 y6 g h 4 7 := by unfold lnP; kernel_rfl
theorem ln_4_8 (r : Nat → Nat → Bool) (x1 x2 x3 x4 x5 x6 y1 y2 y3 y4 y5 y6 g h : Nat) : lnP r x1 x2 x3 x4 x5 x6 y1 y2 y3 y4 y5 y6 g h 4 8 := by unfold lnP; kernel_rfl
theorem ln_4_9 (r : Nat → Nat → Bool) (x1 x2 x3 x4 x5 x6 y1 y2 y3 y4 y5 y6 g h : Nat) : lnP r x1 x2 x3 x4 x5 x6 y1 y2 y3 y4 y5 y6 g h 4 9 := by unfold lnP; kernel_rfl
theorem ln_4_10 (r : Nat → Nat → Bool) (x1 x2 x3 x4 x5 x6 y1 y2 y3 y4 y5 y6 g h : Nat) : lnP r x1 x2 x3 x4 x5 x6 y1 y2 y3 y4 y5 y6 g h 4 10 := by unfold lnP; kernel_rfl
theorem ln_4_11 (r : Nat → Nat → Bool) (x1 x2 x3 x4 x5 x6 y1 y2 y3 y4 y5 y6 g h : Nat) : lnP r x1 x2 x3 x4 x5 x6 y1 y2 y3 y4 y5 y6 g h 4 11 := by unfold lnP; kernel_rfl
theorem ln_4_12 (r : Nat → Nat → Bool) (x1 x2 x3 x4 x5 x6 y1 y2 y3 y4 y5 y6 g h : Nat) : lnP r x1 x2 x3 x4 x5 x6 y1 y2 y3 y4 y5 y6 g h 4 12 := by unfold lnP; kernel_rfl
theorem ln_4_13 (r : Nat → Nat → Bool) (x1 x2 x3 x4 x5 x6 y1 y2 y3 y4 y5 y6 g h : Nat) : lnP r x1 x2 x3 x4 x5 x6 y1 y2 y3 y4 y5 y6 g h 4 13 := by unfold lnP; kernel_rfl
theorem ln_4_14 (r : Nat → Nat → Bool) (x1 x2 x3 x4 x5 x6 y1 y2 y3 y4 y5 y6 g h : Nat) : lnP r x1 x2 x3 x4 x5 x6 y1 y2 y3 y4 y5 y6 g h 4 14 := by unfold lnP; kernel_rfl
theorem ln_5_0 (r : Nat → Nat → Bool) (x1 x2 x3 x4 x5 x6 y1 y2 y3 y4 y5 y6 g h : Nat) : lnP r x1 x2 x3 x4 x5 x6 y1 y2 y3 y4 y5 y6 g h 5 0 := by unfold lnP; kernel_rfl
theorem ln_5_1 (r : Nat → Nat → Bool) (x1 x2 x3 x4 x5 x6 y1 y2 y3 y4 y5 y6 g h : Nat) : lnP r x1 x2 x3 x4 x5 x6 y1 y2 y3 y4 y5 y6 g h 5 1 := by unfold lnP; kernel_rfl
theorem ln_5_2 (r : Nat → Nat → Bool) (x1 x2 x3 x4 x5 x6 y1 y2 y3 y4 y5 y6 g h : Nat) : lnP r x1 x2 x3 x4 x5 x6 y1 y2 y3 y4 y5 y6 g h 5 2 := by unfold lnP; kernel_rfl
theorem ln_5_3 (r : Nat → Nat → Bool) (x1 x2 x3 x4 x5 x6 y1 y2 y3 y4 y5 y6 g h : Nat) : lnP r x1 x2 x3 x4 x5 x6 y1 y2 y3 y4 y5 y6 g h 5 3 := by unfold lnP; kernel_rfl
theorem ln_5_4 (r : Nat → Nat → Bool) (x1 x2 x3 x4 x5 x6 y1 y2 y3 y4 y5 y6 g h : Nat) : lnP r x1 x2 x3 x4 x5 x6 y1 y2 y3 y4 y5 y6 g h 5 4 := by unfold lnP; kernel_rfl
theorem ln_5_5 (r : Nat → Nat → Bool) (x1 x2 x3 x4 x5 x6 y1 y2 y3 y4 y5 y6 g h : Nat) : lnP r x1 x2 x3 x4 x5 x6 y1 y2 y3 y4 y5 y6 g h 5 5 := by unfold lnP; kernel_rfl
theorem ln_5_6 (r : Nat → Nat → Bool) (x1 x2 x3 x4 x5 x6 y1 y2 y3 y4 y5 y6 g h : Nat) : lnP r x1 x2 x3 x4 x5 x6 y1 y2 y3 y4 y5 y6 g h 5 6 := by unfold lnP; kernel_rfl
theorem ln_5_7 (r : Nat → Nat → Bool) (x1 x2 x3 x4 x5 x6 y1 y2 y3 y4 y5 y6 g h : Nat) : lnP r x1 x2 x3 x4 x5 x6 y1 y2 y3 y4 y5 y6 g h 5 7 := by unfold lnP; kernel_rfl
theorem ln_5_8 (r : Nat → Nat → Bool) (x1 x2 x3 x4 x5 x6 y1 y2 y3 y4 y5 y6 g h : Nat) : lnP r x1 x2 x3 x4 x5 x6 y1 y2 y3 y4 y5 y6 g h 5 8 := by unfold lnP; kernel_rfl
theorem ln_5_9 (r : Nat → Nat → Bool) (x1 x2 x3 x4 x5 x6 y1 y2 y3 y4 y5 y6 g h : Nat) : lnP r x1 x2 x3 x4 x5 x6 y1 y2 y3 y4 y5 y6 g h 5 9 := by unfold lnP; kernel_rfl
theorem ln_5_10 (r : Nat → Nat → Bool) (x1 x2 x3 x4 x5 x6 y1 y2 y3 y4 y5 y6 g h : Nat) : lnP r x1 x2 x3 x4 x5 x6 y1 y2 y3 y4 y5 y6 g h 5 10 := by unfold lnP; kernel_rfl
theorem ln_5_11 (r : Nat → Nat → Bool) (x1 x2 x3 x4 x5 x6 y1 y2 y3 y4 y5 y6 g h : Nat) : lnP r x1 x2 x3 x4 x5 x6 y1 y2 y3 y4 y5 y6 g h 5 11 := by unfold lnP; kernel_rfl
theorem ln_5_12 (r : Nat → Nat → Bool) (x1 x2 x3 x4 x5 x6 y1 y2 y3 y4 y5 y6 g h : Nat) : lnP r x1 x2 x3 x4 x5 x6 y1 y2 y3 y4 y5 y6 g h 5 12 := by unfold lnP; kernel_rfl
theorem ln_5_13 (r : Nat → Nat → Bool) (x1 x2 x3 x4 x5 x6 y1 y2 y3 y4 y5 y6 g h : Nat) : lnP r x1 x2 x3 x4 x5 x6 y1 y2 y3 y4 y5 y6 g h 5 13 := by unfold lnP; kernel_rfl
theorem ln_5_14 (r : Nat → Nat → Bool) (x1 x2 x3 x4 x5 x6 y1 y2 y3 y4 y5 y6 g h : Nat) : lnP r x1 x2 x3 x4 x5 x6 y1 y2 y3 y4 y5 y6 g h 5 14 := by unfold lnP; kernel_rfl
theorem ln_6_0 (r : Nat → Nat → Bool) (x1 x2 x3 x4 x5 x6 y1 y2 y3 y4 y5 y6 g h : Nat) : lnP r x1 x2 x3 x4 x5 x6 y1 y2 y3 y4 y5 y6 g h 6 0 := by unfold lnP; kernel_rfl
theorem ln_6_1 (r : Nat → Nat → Bool) (x1 x2 x3 x4 x5 x6 y1 y2 y3 y4 y5 y6 g h : Nat) : lnP r x1 x2 x3 x4 x5 x6 y1 y2 y3 y4 y5 y6 g h 6 1 := by unfold lnP; kernel_rfl
theorem ln_6_2 (r : Nat → Nat → Bool) (x1 x2 x3 x4 x5 x6 y1 y2 y3 y4 y5 y6 g h : Nat) : lnP r x1 x2 x3 x4 x5 x6 y1 y2 y3 y4 y5 y6 g h 6 2 := by unfold lnP; kernel_rfl
theorem ln_6_3 (r : Nat → Nat → Bool) (x1 x2 x3 x4 x5 x6 y1 y2 y3 y4 y5 y6 g h : Nat) : lnP r x1 x2 x3 x4 x5 x6 y1 y2 y3 y4 y5 y6 g h 6 3 := by unfold lnP; kernel_rfl
theorem ln_6_4 (r : Nat → Nat → Bool) (x1 x2 x3 x4 x5 x6 y1 y2 y3 y4 y5 y6 g h : Nat) : lnP r x1 x2 x3 x4 x5 x6 y1 y2 y3 y4 y5 y6 g h 6 4 := by unfold lnP; kernel_rfl
theorem ln_6_5 (r : Nat → Nat → Bool) (x1 x2 x3 x4 x5 x6 y1 y2 y3 y4 y5 y6 g h : Nat) : lnP r x1 x2 x3 x4 x5 x6 y1 y2 y3 y4 y5 y6 g h 6 5 := by unfold lnP; kernel_rfl
theorem ln_6_6 (r : Nat → Nat → Bool) (x1 x2 x3 x4 x5 x6 y1 y2 y3 y4 y5 y6 g h : Nat) : lnP r x1 x2 x3 x4 x5 x6 y1 y2 y3 y4 y5 y6 g h 6 6 := by unfold lnP; kernel_rfl
theorem ln_6_7 (r : Nat → Nat → Bool) (x1 x2 x3 x4 x5 x6 y1 y2 y3 y4 y5 y6 g h : Nat) : lnP r x1 x2 x3 x4 x5 x6 y1 y2 y3 y4 y5 y6 g h 6 7 := by unfold lnP; kernel_rfl
theorem ln_6_8 (r : Nat → Nat → Bool) (x1 x2 x3 x4 x5 x6 y1 y2 y3 y4 y5 y6 g h : Nat) : lnP r x1 x2 x3 x4 x5 x6 y1 y2 y3 y4 y5 y6 g h 6 8 := by unfold lnP; kernel_rfl
theorem ln_6_9 (r : Nat → Nat → Bool) (x1 x2 x3 x4 x5 x6 y1 y2 y3 y4 y5 y6 g h : Nat) : lnP r x1 x2 x3 x4 x5 x6 y1 y2 y3 y4 y5 y6 g h 6 9 := by unfold lnP; kernel_rfl
theorem ln_6_10 (r : Nat → Nat → Bool) (x1 x2 x3 x4 x5 x6 y1 y2 y3 y4 y5 y6 g h : Nat) : lnP r x1 x2 x3 x4 x5 x6 y1 y2 y3 y4 y5 y6 g h 6 10 := by unfold lnP; kernel_rfl
theorem ln_6_11 (r : Nat → Nat → Bool) (x1 x2 x3 x4 x5 x6 y1 y2 y3 y4 y5 y6 g h : Nat) : lnP r x1 x2 x3 x4 x5 x6 y1 y2 y3 y4 y5 y6 g h 6 11 := by unfold lnP; kernel_rfl
theorem ln_6_12 (r : Nat → Nat → Bool) (x1 x2 x3 x4 x5 x6 y1 y2 y3 y4 y5 y6 g h : Nat) : lnP r x1 x2 x3 x4 x5 x6 y1 y2 y3 y4 y5 y6 g h 6 12 := by unfold lnP; kernel_rfl
theorem ln_6_13 (r : Nat → Nat → Bool) (x1 x2 x3 x4 x5 x6 y1 y2 y3 y4 y5 y6 g h : Nat) : lnP r x1 x2 x3 x4 x5 x6 y1 y2 y3 y4 y5 y6 g h 6 13 := by unfold lnP; kernel_rfl
theorem ln_6_14 (r : Nat → Nat → Bool) (x1 x2 x3 x4 x5 x6 y1 y2 y3 y4 y5 y6 g h : Nat) : lnP r x1 x2 x3 x4 x5 x6 y1 y2 y3 y4 y5 y6 g h 6 14 := by unfold lnP; kernel_rfl
theorem ln_7_0 (r : Nat → Nat → Bool) (x1 x2 x3 x4 x5 x6 y1 y2 y3 y4 y5 y6 g h : Nat) : lnP r x1 x2 x3 x4 x5 x6 y1 y2 y3 y4 y5 y6 g h 7 0 := by unfold lnP; kernel_rfl
theorem ln_7_1 (r : Nat → Nat → Bool) (x1 x2 x3 x4 x5 x6 y1 y2 y3 y4 y5 y6 g h : Nat) : lnP r x1 x2 x3 x4 x5 x6 y1 y2 y3 y4 y5 y6 g h 7 1 := by unfold lnP; kernel_rfl
theorem ln_7_2 (r : Nat → Nat → Bool) (x1 x2 x3 x4 x5 x6 y1 y2 y3 y4 y5 y6 g h : Nat) : lnP r x1 x2 x3 x4 x5 x6 y1 y2 y3 y4 y5 y6 g h 7 2 := by unfold lnP; kernel_rfl
theorem ln_7_3 (r : Nat → Nat → Bool) (x1 x2 x3 x4 x5 x6 y1 y2 y3 y4 y5 y6 g h : Nat) : lnP r x1 x2 x3 x4 x5 x6 y1 y2 y3 y4 y5 y6 g h 7 3 := by unfold lnP; kernel_rfl
theorem ln_7_4 (r : Nat → Nat → Bool) (x1 x2 x3 x4 x5 x6 y1 y2 y3 y4 y5 y6 g h : Nat) : lnP r x1 x2 x3 x4 x5 x6 y1 y2 y3 y4 y5 y6 g h 7 4 := by unfold lnP; kernel_rfl
theorem ln_7_5 (r : Nat → Nat → Bool) (x1 x2 x3 x4 x5 x6 y1 y2 y3 y4 y5 y6 g h : Nat) : lnP r x1 x2 x3 x4 x5 x6 y1 y2 y3 y4 y5 y6 g h 7 5 := by unfold lnP; kernel_rfl
theorem ln_7_6 (r : Nat → Nat → Bool) (x1 x2 x3 x4 x5 x6 y1 y2 y3 y4 y5 y6 g h : Nat) : lnP r x1 x2 x3 x4 x5 x6 y1 y2 y3 y4 y5 y6 g h 7 6 := by unfold lnP; kernel_rfl
theorem ln_7_7 (r : Nat → Nat → Bool) (x1 x2 x3 x4 x5 x6 y1 y2 y3 y4 y5 y6 g h : Nat) : lnP r x1 x2 x3 x4 x5 x6 y1 y2 y3 y4 y5 y6 g h 7 7 := by unfold lnP; kernel_rfl
theorem ln_7_8 (r : Nat → Nat → Bool) (x1 x2 x3 x4 x5 x6 y1 y2 y3 y4 y5 y6 g h : Nat) : lnP r x1 x2 x3 x4 x5 x6 y1 y2 y3 y4 y5 y6 g h 7 8 := by unfold lnP; kernel_rfl
theorem ln_7_9 (r : Nat → Nat → Bool) (x1 x2 x3 x4 x5 x6 y1 y2 y3 y4 y5 y6 g h : Nat) : lnP r x1 x2 x3 x4 x5 x6 y1 y2 y3 y4 y5 y6 g h 7 9 := by unfold lnP; kernel_rfl
theorem ln_7_10 (r : Nat → Nat → Bool) (x1 x2 x3 x4 x5 x6 y1 y2 y3 y4 y5 y6 g h : Nat) : lnP r x1 x2 x3 x4 x5 x6 y1 y2 y3 y4 y5 y6 g h 7 10 := by unfold lnP; kernel_rfl
theorem ln_7_11 (r : Nat → Nat → Bool) (x1 x2 x3 x4 x5 x6 y1 y2 y3 y4 y5 y6 g h : Nat) : lnP r x1 x2 x3 x4 x5 x6 y1 y2 y3 y4 y5 y6 g h 7 11 := by unfold lnP; kernel_rfl
theorem ln_7_12 (r : Nat → Nat → Bool) (x1 x2 x3 x4 x5 x6 y1 y2 y3 y4 y5 y6 g h : Nat) : lnP r x1 x2 x3 x4 x5 x6 y1 y2 y3 y4 y5 y6 g h 7 12 := by unfold lnP; kernel_rfl
theorem ln_7_13 (r : Nat → Nat → Bool) (x1 x2 x3 x4 x5 x6 y1 y2 y3 y4 y5 y6 g h : Nat) : lnP r x1 x2 x3 x4 x5 x6 y1 y2 y3 y4 y5 y6 g h 7 13 := by unfold lnP; kernel_rfl
theorem ln_all (r : Nat → Nat → Bool) (x1 x2 x3 x4 x5 x6 y1 y2 y3 y4 y5 y6 g h : Nat) {i j : Nat} (hh : i ≤ 7 ∧ j ≤ 14 ∧ (i < 7 ∨ j < 14)) : lnP r x1 x2 x3 x4 x5 x6 y1 y2 y3 y4 y5 y6 g h i j := by
  have hi : i = 0 ∨ i = 1 ∨ i = 2 ∨ i = 3 ∨ i = 4 ∨ i = 5 ∨ i = 6 ∨ i = 7 := by omega
  rcases hi with rfl | rfl | rfl | rfl | rfl | rfl | rfl | rfl
  · have hj : j = 0 ∨ j = 1 ∨ j = 2 ∨ j = 3 ∨ j = 4 ∨ j = 5 ∨ j = 6 ∨ j = 7 ∨ j = 8 ∨ j = 9 ∨ j = 10 ∨ j = 11 ∨ j = 12 ∨ j = 13 ∨ j = 14 := by omega
    rcases hj with rfl | rfl | rfl | rfl | rfl | rfl | rfl | rfl | rfl | rfl | rfl | rfl | rfl | rfl | rfl
    · exact ln_0_0 r x1 x2 x3 x4 x5 x6 y1 y2 y3 y4 y5 y6 g h
    · exact ln_0_1 r x1 x2 x3 x4 x5 x6 y1 y2 y3 y4 y5 y6 g h
    · exact ln_0_2 r x1 x2 x3 x4 x5 x6 y1 y2 y3 y4 y5 y6 g h
    · exact ln_0_3 r x1 x2 x3 x4 x5 x6 y1 y2 y3 y4 y5 y6 g h
    · exact ln_0_4 r x1 x2 x3 x4 x5 x6 y1 y2 y3 y4 y5 y6 g h
    · exact ln_0_5 r x1 x2 x3 x4 x5 x6 y1 y2 y3 y4 y5 y6 g h
    · exact ln_0_6 r x1 x2 x3 x4 x5 x6 y1 y2 y3 y4 y5 y6 g h
    · exact ln_0_7 r x1 x2 x3 x4 x5 x6 y1 y2 y3 y4 y5 y6 g h
    · exact ln_0_8 r x1 x2 x3 x4 x5 x6 y1 y2 y3 y4 y5 y6 g h
    · exact ln_0_9 r x1 x2 x3 x4 x5 x6 y1 y2 y3 y4 y5 y6 g h
    · exact ln_0_10 r x1 x2 x3 x4 x5 x6 y1 y2 y3 y4 y5 y6 g h
    · exact ln_0_11 r x1 x2 x3 x4 x5 x6 y1 y2 y3 y4 y5 y6 g h
    · exact ln_0_12 r x1 x2 x3 x4 x5 x6 y1 y2 y3 y4 y5 y6 g h
    · exact ln_0_13 r x1 x2 x3 x4 x5 x6 y1 y2 y3 y4 y5 y6 g h
    · exact ln_0_14 r x1 x2 x3 x4 x5 x6 y1 y2 y3 y4 y5 y6 g h
  · have hj : j = 0 ∨ j = 1 ∨ j = 2 ∨ j = 3 ∨ j = 4 ∨ j = 5 ∨ j = 6 ∨ j = 7 ∨ j = 8 ∨ j = 9 ∨ j = 10 ∨ j = 11 ∨ j = 12 ∨ j = 13 ∨ j = 14 := by omega
    rcases hj with rfl | rfl | rfl | rfl | rfl | rfl | rfl | rfl | rfl | rfl | rfl | rfl | rfl | rfl | rfl
    · exact ln_1_0 r x1 x2 x3 x4 x5 x6 y1 y2 y3 y4 y5 y6 g h
    · exact ln_1_1 r x1 x2 x3 x4 x5 x6 y1 y2 y3 y4 y5 y6 g h
    · exact ln_1_2 r x1 x2 x3 x4 x5 x6 y1 y2 y3 y4 y5 y6 g h
    · exact ln_1_3 r x1 x2 x3 x4 x5 x6 y1 y2 y3 y4 y5 y6 g h
    · exact ln_1_4 r x1 x2 x3 x4 x5 x6 y1 y2 y3 y4 y5 y6 g h
    · exact ln_1_5 r x1 x2 x3 x4 x5 x6 y1 y2 y3 y4 y5 y6 g h
    · exact ln_1_6 r x1 x2 x3 x4 x5 x6 y1 y2 y3 y4 y5 y6 g h
    · exact ln_1_7 r x1 x2 x3 x4 x5 x6 y1 y2 y3 y4 y5 y6 g h
    · exact ln_1_8 r x1 x2 x3 x4 x5 x6 y1 y2 y3 y4 y5 y6 g h
    · exact ln_1_9 r x1 x2 x3 x4 x5 x6 y1 y2 y3 y4 y5 y6 g h
    · exact ln_1_10 r x1 x2 x3 x4 x5 x6 y1 y2 y3 y4 y5 y6 g h
    · exact ln_1_11 r x1 x2 x3 x4 x5 x6 y1 y2 y3 y4 y5 y6 g h
    · exact ln_1_12 r x1 x2 x3 x4 x5 x6 y1 y2 y3 y4 y5 y6 g h
    · exact ln_1_13 r x1 x2 x3 x4 x5 x6 y1 y2 y3 y4 y5 y6 g h
    · exact ln_1_14 r x1 x2 x3 x4 x5 x6 y1 y2 y3 y4 y5 y6 g h
  · have hj : j = 0 ∨ j = 1 ∨ j = 2 ∨ j = 3 ∨ j = 4 ∨ j = 5 ∨ j = 6 ∨ j = 7 ∨ j = 8 ∨ j = 9 ∨ j = 10 ∨ j = 11 ∨ j = 12 ∨ j = 13 ∨ j = 14 := by omega
    rcases hj with rfl | rfl | rfl | rfl | rfl | rfl | rfl | rfl | rfl | rfl | rfl | rfl | rfl | rfl | rfl
    · exact ln_2_0 r x1 x2 x3 x4 x5 x6 y1 y2 y3 y4 y5 y6 g h
    · exact ln_2_1 r x1 x2 x3 x4 x5 x6 y1 y2 y3 y4 y5 y6 g h
    · exact ln_2_2 r x1 x2 x3 x4 x5 x6 y1 y2 y3 y4 y5 y6 g h
    · exact ln_2_3 r x1 x2 x3 x4 x5 x6 y1 y2 y3 y4 y5 y6 g h
    · exact ln_2_4 r x1 x2 x3 x4 x5 x6 y1 y2 y3 y4 y5 y6 g h
    · exact ln_2_5 r x1 x2 x3 x4 x5 x6 y1 y2 y3 y4 y5 y6 g h
    · exact ln_2_6 r x1 x2 x3 x4 x5 x6 y1 y2 y3 y4 y5 y6 g h
    · exact ln_2_7 r x1 x2 x3 x4 x5 x6 y1 y2 y3 y4 y5 y6 g h
    · exact ln_2_8 r x1 x2 x3 x4 x5 x6 y1 y2 y3 y4 y5 y6 g h
    · exact ln_2_9 r x1 x2 x3 x4 x5 x6 y1 y2 y3 y4 y5 y6 g h
    · exact ln_2_10 r x1 x2 x3 x4 x5 x6 y1 y2 y3 y4 y5 y6 g h
    · exact ln_2_11 r x1 x2 x3 x4 x5 x6 y1 y2 y3 y4 y5 y6 g h
    · exact ln_2_12 r x1 x2 x3 x4 x5 x6 y1 y2 y3 y4 y5 y6 g h
    · exact ln_2_13 r x1 x2 x3 x4 x5 x6 y1 y2 y3 y4 y5 y6 g h
    · exact ln_2_14 r x1 x2 x3 x4 x5 x6 y1 y2 y3 y4 y5 y6 g h
  · have hj : j = 0 ∨ j = 1 ∨ j = 2 ∨ j = 3 ∨ j = 4 ∨ j = 5 ∨ j = 6 ∨ j = 7 ∨ j = 8 ∨ j = 9 ∨ j = 10 ∨ j = 11 ∨ j = 12 ∨ j = 13 ∨ j = 14 := by omega
    rcases hj with rfl | rfl | rfl | rfl | rfl | rfl | rfl | rfl | rfl | rfl | rfl | rfl | rfl | rfl | rfl
    · exact ln_3_0 r x1 x2 x3 x4 x5 x6 y1 y2 y3 y4 y5 y6 g h
    · exact ln_3_1 r x1 x2 x3 x4 x5 x6 y1 y2 y3 y4 y5 y6 g h
    · exact ln_3_2 r x1 x2 x3 x4 x5 x6 y1 y2 y3 y4 y5 y6 g h
    · exact ln_3_3 r x1 x2 x3 x4 x5 x6 y1 y2 y3 y4 y5 y6 g h
    · exact ln_3_4 r x1 x2 x3 x4 x5 x6 y1 y2 y3 y4 y5 y6 g h
    · exact ln_3_5 r x1 x2 x3 x4 x5 x6 y1 y2 y3 y4 y5 y6 g h
    · exact ln_3_6 r x1 x2 x3 x4 x5 x6 y1 y2 y3 y4 y5 y6 g h
    · exact ln_3_7 r x1 x2 x3 x4 x5 x6 y1 y2 y3 y4 y5 y6 g h
    · exact ln_3_8 r x1 x2 x3 x4 x5 x6 y1 y2 y3 y4 y5 y6 g h
    · exact ln_3_9 r x1 x2 x3 x4 x5 x6 y1 y2 y3 y4 y5 y6 g h
    · exact ln_3_10 r x1 x2 x3 x4 x5 x6 y1 y2 y3 y4 y5 y6 g h
    · exact ln_3_11 r x1 x2 x3 x4 x5 x6 y1 y2 y3 y4 y5 y6 g h
    · exact ln_3_12 r x1 x2 x3 x4 x5 x6 y1 y2 y3 y4 y5 y6 g h
    · exact ln_3_13 r x1 x2 x3 x4 x5 x6 y1 y2 y3 y4 y5 y6 g h
    · exact ln_3_14 r x1 x2 x3 x4 x5 x6 y1 y2 y3 y4 y5 y6 g h
  · have hj : j = 0 ∨ j = 1 ∨ j = 2 ∨ j = 3 ∨ j = 4 ∨ j = 5 ∨ j = 6 ∨ j = 7 ∨ j = 8 ∨ j = 9 ∨ j = 10 ∨ j = 11 ∨ j = 12 ∨ j = 13 ∨ j = 14 := by omega
    rcases hj with rfl | rfl | rfl | rfl | rfl | rfl | rfl | rfl | rfl | rfl | rfl | rfl | rfl | rfl | rfl
    · exact ln_4_0 r x1 x2 x3 x4 x5 x6 y1 y2 y3 y4 y5 y6 g h
    · exact ln_4_1 r x1 x2 x3 x4 x5 x6 y1 y2 y3 y4 y5 y6 g h
    · exact ln_4_2 r x1 x2 x3 x4 x5 x6 y1 y2 y3 y4 y5 y6 g h
    · exact ln_4_3 r x1 x2 x3 x4 x5 x6 y1 y2 y3 y4 y5 y6 g h
    · exact ln_4_4 r x1 x2 x3 x4 x5 x6 y1 y2 y3 y4 y5 y6 g h
    · exact ln_4_5 r x1 x2 x3 x4 x5 x6 y1 y2 y3 y4 y5 y6 g h
    · exact ln_4_6 r x1 x2 x3 x4 x5 x6 y1 y2 y3 y4 y5 y6 g h
    · exact ln_4_7 r x1 x2 x3 x4 x5 x6 y1 y2 y3 y4 y5 y6 g h
    · exact ln_4_8 r x1 x2 x3 x4 x5 x6 y1 y2 y3 y4 y5 y6 g h
    · exact ln_4_9 r x1 x2 x3 x4 x5 x6 y1 y2 y3 y4 y5 y6 g h
    · exact ln_4_10 r x1 x2 x3 x4 x5 x6 y1 y2 y3 y4 y5 y6 g h
    · exact ln_4_11 r x1 x2 x3 x4 x5 x6 y1 y2 y3 y4 y5 y6 g h
    · exact ln_4_12 r x1 x2 x3 x4 x5 x6 y1 y2 y3 y4 y5 y6 g h
    · exact ln_4_13 r x1 x2 x3 x4 x5 x6 y1 y2 y3 y4 y5 y6 g h
    · exact ln_4_14 r x1 x2 x3 x4 x5 x6 y1 y2 y3 y4 y5 y6 g h
  · have hj : j = 0 ∨ j = 1 ∨ j = 2 ∨ j = 3 ∨ j = 4 ∨ j = 5 ∨ j = 6 ∨ j = 7 ∨ j = 8 ∨ j = 9 ∨ j = 10 ∨ j = 11 ∨ j = 12 ∨ j = 13 ∨ j = 14 := by omega
    rcases hj with rfl | rfl | rfl | rfl | rfl | rfl | rfl | rfl | rfl | rfl | rfl | rfl | rfl | rfl | rfl
    · exact ln_5_0 r x1 x2 x3 x4 x5 x6 y1 y2 y3 y4 y5 y6 g h
    · exact ln_5_1 r x1 x2 x3 x4 x5 x6 y1 y2 y3 y4 y5 y6 g h
    · exact ln_5_2 r x1 x2 x3 x4 x5 x6 y1 y2 y3 y4 y5 y6 g h
    · exact ln_5_3 r x1 x2 x3 x4 x5 x6 y1 y2 y3 y4 y5 y6 g h
    · exact ln_5_4 r x1 x2 x3 x4 x5 x6 y1 y2 y3 y4 y5 y6 g h
    · exact ln_5_5 r x1 x2 x3 x4 x5 x6 y1 y2 y3 y4 y5 y6 g h
    · exact ln_5_6 r x1 x2 x3 x4 x5 x6 y1 y2 y3 y4 y5 y6 g h
    · exact ln_5_7 r x1 x2 x3 x4 x5 x6 y1 y2 y3 y4 y5 y6 g h
    · exact ln_5_8 r x1 x2 x3 x4 x5 x6 y1 y2 y3 y4 y5 y6 g h
    · exact ln_5_9 r x1 x2 x3 x4 x5 x6 y1 y2 y3 y4 y5 y6 g h
    · exact ln_5_10 r x1 x2 x3 x4 x5 x6 y1 y2 y3 y4 y5 y6 g h
    · exact ln_5_11 r x1 x2 x3 x4 x5 x6 y1 y2 y3 y4 y5 y6 g h
    · exact ln_5_12 r x1 x2 x3 x4 x5 x6 y1 y2 y3 y4 y5 y6 g h
    · exact ln_5_13 r x1 x2 x3 x4 x5 x6 y1 y2 y3 y4 y5 y6 g h
    · exact ln_5_14 r x1 x2 x3 x4 x5 x6 y1 y2 y3 y4 y5 y6 g h
  · have hj : j = 0 ∨ j = 1 ∨ j = 2 ∨ j = 3 ∨ j = 4 ∨ j = 5 ∨ j = 6 ∨ j = 7 ∨ j = 8 ∨ j = 9 ∨ j = 10 ∨ j = 11 ∨ j = 12 ∨ j = 13 ∨ j = 14 := by omega
    rcases hj with rfl | rfl | rfl | rfl | rfl | rfl | rfl | rfl | rfl | rfl | rfl | rfl | rfl | rfl | rfl
    · exact ln_6_0 r x1 x2 x3 x4 x5 x6 y1 y2 y3 y4 y5 y6 g h
    · exact ln_6_1 r x1 x2 x3 x4 x5 x6 y1 y2 y3 y4 y5 y6 g h
    · exact ln_6_2 r x1 x2 x3 x4 x5 x6 y1 y2 y3 y4 y5 y6 g h
    · exact ln_6_3 r x1 x2 x3 x4 x5 x6 y1 y2 y3 y4 y5 y6 g h
    · exact ln_6_4 r x1 x2 x3 x4 x5 x6 y1 y2 y3 y4 y5 y6 g h
    · exact ln_6_5 r x1 x2 x3 x4 x5 x6 y1 y2 y3 y4 y5 y6 g h
    · exact ln_6_6 r x1 x2 x3 x4 x5 x6 y1 y2 y3 y4 y5 y6 g h
    · exact ln_6_7 r x1 x2 x3 x4 x5 x6 y1 y2 y3 y4 y5 y6 g h
    · exact ln_6_8 r x1 x2 x3 x4 x5 x6 y1 y2 y3 y4 y5 y6 g h
    · exact ln_6_9 r x1 x2 x3 x4 x5 x6 y1 y2 y3 y4 y5 y6 g h
    · exact ln_6_10 r x1 x2 x3 x4 x5 x6 y1 y2 y3 y4 y5 y6 g h
    · exact ln_6_11 r x1 x2 x3 x4 x5 x6 y1 y2 y3 y4 y5 y6 g h
    · exact ln_6_12 r x1 x2 x3 x4 x5 x6 y1 y2 y3 y4 y5 y6 g h
    · exact ln_6_13 r x1 x2 x3 x4 x5 x6 y1 y2 y3 y4 y5 y6 g h
    · exact ln_6_14 r x1 x2 x3 x4 x5 x6 y1 y2 y3 y4 y5 y6 g h
  · have hj : j = 0 ∨ j = 1 ∨ j = 2 ∨ j = 3 ∨ j = 4 ∨ j = 5 ∨ j = 6 ∨ j = 7 ∨ j = 8 ∨ j = 9 ∨ j = 10 ∨ j = 11 ∨ j = 12 ∨ j = 13 := by omega
    rcases hj with rfl | rfl | rfl | rfl | rfl | rfl | rfl | rfl | rfl | rfl | rfl | rfl | rfl | rfl
    · exact ln_7_0 r x1 x2 x3 x4 x5 x6 y1 y2 y3 y4 y5 y6 g h
    · exact ln_7_1 r x1 x2 x3 x4 x5 x6 y1 y2 y3 y4 y5 y6 g h
    · exact ln_7_2 r x1 x2 x3 x4 x5 x6 y1 y2 y3 y4 y5 y6 g h
    · exact ln_7_3 r x1 x2 x3 x4 x5 x6 y1 y2 y3 y4 y5 y6 g h
    · exact ln_7_4 r x1 x2 x3 x4 x5 x6 y1 y2 y3 y4 y5 y6 g h
    · exact ln_7_5 r x1 x2 x3 x4 x5 x6 y1 y2 y3 y4 y5 y6 g h
    · exact ln_7_6 r x1 x2 x3 x4 x5 x6 y1 y2 y3 y4 y5 y6 g h
    · exact ln_7_7 r x1 x2 x3 x4 x5 x6 y1 y2 y3 y4 y5 y6 g h
    · exact ln_7_8 r x1 x2 x3 x4 x5 x6 y1 y2 y3 y4 y5 y6 g h
    · exact ln_7_9 r x1 x2 x3 x4 x5 x6 y1 y2 y3 y4 y5 y6 g h
    · exact ln_7_10 r x1 x2 x3 x4 x5 x6 y1 y2 y3 y4 y5 y6 g h
    · exact ln_7_11 r x1 x2 x3 x4 x5 x6 y1 y2 y3 y4 y5 y6 g h
    · exact ln_7_12 r x1 x2 x3 x4 x5 x6 y1 y2 y3 y4 y5 y6 g h
    · exact ln_7_13 r x1 x2 x3 x4 x5 x6 y1 y2 y3 y4 y5 y6 g h
end Go.Proofs.YtmhhopfffeijnaaGreat
