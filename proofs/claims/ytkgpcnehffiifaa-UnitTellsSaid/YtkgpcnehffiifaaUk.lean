/- Walk of the examples of layer 3. -/
import Derived.Test.YtkgpcnehffiifaaUl
namespace Go.Proofs.Ytkgpcnehffiifaa
set_option linter.all false
open Go.RowKit Bu

set_option maxRecDepth 100000 in
set_option maxHeartbeats 2000000 in
theorem awake_w (w : World) :
    Calls Try.prog 10 #[] w fun e w' => e = .returned (.bool true) ∧ Below w.heap.size w w' := by
  have hsub := aw13
  go_enter Try.func10, Try.ntmps10
  go_upto_region 2 with (go_at_call 9; refine (aw9 _).mono ?_; rintro e w' ⟨rfl, rfl⟩)
  generalize hW : World.alloc _ _ = W
  have c0 : W.cell? ⟨w.heap.size, 0, none⟩ = some (.float .f64 4602678819172646912) := by subst hW; simp (disch := (simp; try omega)) only [World.cell?_drew, World.cell?_alloc_at, World.cell?_alloc_past]; rfl
  have c1 : W.cell? ⟨w.heap.size, 1, none⟩ = some (.float .f64 4602678819172646912) := by subst hW; simp (disch := (simp; try omega)) only [World.cell?_drew, World.cell?_alloc_at, World.cell?_alloc_past]; rfl
  have hz : w.heap.size < W.heap.size := by rw [← hW]; simp
  have hB : Below w.heap.size w W := by rw [← hW]; exact (Below.refl _ _).alloc (Nat.le_refl _) _
  clear hW
  go_upto_region 10 with (first | (go_at_call 13; first | ((with_reducible refine (aw11 _).mono ?_); rintro e w' ⟨rfl, rfl⟩) | ((with_reducible refine (aw12 _).mono ?_); rintro e w' ⟨rfl, rfl⟩)) | (go_at_call 12; first | ((with_reducible refine (aw1 _).mono ?_); rintro e w' ⟨rfl, hbb⟩; replace c0 := (hbb.cell (p := ⟨w.heap.size, 0, none⟩) hz).trans c0; replace c1 := (hbb.cell (p := ⟨w.heap.size, 1, none⟩) hz).trans c1; replace hB := hB.trans (hbb.mono (Nat.le_of_lt hz)); replace hz := Nat.lt_of_lt_of_le hz hbb.size; clear hbb) | ((with_reducible refine (aw2 _).mono ?_); rintro e w' ⟨rfl, hbb⟩; replace c0 := (hbb.cell (p := ⟨w.heap.size, 0, none⟩) hz).trans c0; replace c1 := (hbb.cell (p := ⟨w.heap.size, 1, none⟩) hz).trans c1; replace hB := hB.trans (hbb.mono (Nat.le_of_lt hz)); replace hz := Nat.lt_of_lt_of_le hz hbb.size; clear hbb) | ((with_reducible refine (aw3 _).mono ?_); rintro e w' ⟨rfl, hbb⟩; replace c0 := (hbb.cell (p := ⟨w.heap.size, 0, none⟩) hz).trans c0; replace c1 := (hbb.cell (p := ⟨w.heap.size, 1, none⟩) hz).trans c1; replace hB := hB.trans (hbb.mono (Nat.le_of_lt hz)); replace hz := Nat.lt_of_lt_of_le hz hbb.size; clear hbb) | ((with_reducible refine (aw4 _).mono ?_); rintro e w' ⟨rfl, hbb⟩; replace c0 := (hbb.cell (p := ⟨w.heap.size, 0, none⟩) hz).trans c0; replace c1 := (hbb.cell (p := ⟨w.heap.size, 1, none⟩) hz).trans c1; replace hB := hB.trans (hbb.mono (Nat.le_of_lt hz)); replace hz := Nat.lt_of_lt_of_le hz hbb.size; clear hbb) | ((with_reducible refine (aw5 _).mono ?_); rintro e w' ⟨rfl, hbb⟩; replace c0 := (hbb.cell (p := ⟨w.heap.size, 0, none⟩) hz).trans c0; replace c1 := (hbb.cell (p := ⟨w.heap.size, 1, none⟩) hz).trans c1; replace hB := hB.trans (hbb.mono (Nat.le_of_lt hz)); replace hz := Nat.lt_of_lt_of_le hz hbb.size; clear hbb)))
  simp only [List.append]
  go_region_held3 (fun w' => w'.cell? ⟨w.heap.size, 0, none⟩ = some (.float .f64 4602678819172646912) ∧ w'.cell? ⟨w.heap.size, 1, none⟩ = some (.float .f64 4602678819172646912) ∧ w.heap.size < w'.heap.size ∧ Below w.heap.size w w')
    (first | exact ⟨c0, c1, hz, hB.drew⟩ | (go_split_ands; refine ⟨(hbb.cell (p := ⟨w.heap.size, 0, none⟩) ?_).trans ?_, (hbb.cell (p := ⟨w.heap.size, 1, none⟩) ?_).trans ?_, Nat.lt_of_lt_of_le ?_ hbb.size, Below.trans ?_ (hbb.mono (Nat.le_of_lt ?_))⟩ <;> assumption))
    (first | (go_at_call 7; first | ((with_reducible refine (aw6 _).mono ?_); rintro e w1 ⟨rfl, hbb⟩) | ((with_reducible refine (aw7 _).mono ?_); rintro e w1 ⟨rfl, hbb⟩) | ((with_reducible refine (aw8 _).mono ?_); rintro e w1 ⟨rfl, hbb⟩)) | (go_at_call 9; refine (aw10b _).mono ?_; rintro e w1 ⟨rfl, hbb⟩) | (go_at_call 16; refine (same_lit _ _ _ _ (by decide +kernel) (by decide +kernel) rfl rfl _).mono ?_; rintro e w1 ⟨rfl, hbb⟩))
  go_split_ands
  go_wp2
  go_ret
  exact ⟨ret_bool rfl, by assumption⟩
end Go.Proofs.Ytkgpcnehffiifaa
