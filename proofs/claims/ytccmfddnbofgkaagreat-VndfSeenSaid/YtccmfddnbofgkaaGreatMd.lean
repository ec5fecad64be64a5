/- VndfSeen: the walk, joined. -/
import Derived.Test.YtccmfddnbofgkaaGreatKv
import Derived.Test.YtccmfddnbofgkaaGreatMe
namespace Go.Proofs.YtccmfddnbofgkaaGreat
set_option linter.all false
open Go.RowKit Bu Rx

theorem vndfSeen_row (a b c v d e : Int) (ha : (Lit.int .u32 a).wf = true) (hb : (Lit.int .u32 b).wf = true) (hc : (Lit.int .u32 c).wf = true) (hv : (Lit.int .u32 v).wf = true) (hd : (Lit.int .u64 d).wf = true) (he : (Lit.int .u64 e).wf = true) (w : World) :
    Calls Tryz.prog 3 #[.agg #[.int .u32 a, .int .u32 b, .int .u32 c], .int .u32 v, .int .u64 d, .int .u64 e] w fun e w' => e = .returned (.bool true) ∧ Below w.heap.size w w' := by
  have ha' := u32_13 ha
  have hb' := u32_13 hb
  have hc' := u32_13 hc
  have hw' := u32_13 hv
  have hd' : u64w d := u64_13 hd
  have he' : u64w e := u64_13 he
  have h1 := oneV_ok a b c
  have hal := alF_ok v
  have hO : obsB (vsO1 WR a b c v d e) = true := ob2 (ob2 (vo_ok h1 hal hd' he') (alFO_ok hw')) (oneO_ok ha' hb' hc')
  have er := dr_er h1 hal hd' he'
  have gr := oneV_gr c ha' hb'
  have e1 : WR.vd (oneV WR a b c) (alF WR v) d e = drR KkR (envR (oneV WR a b c) (alF WR v) d e) := rfl
  have ok : (WR.vd (oneV WR a b c) (alF WR v) d e).2 = 0 → NrP (WR.vd (oneV WR a b c) (alF WR v) d e).1 ∧ VsP (oneV WR a b c) (WR.vd (oneV WR a b c) (alF WR v) d e).1 (alF WR v) := by
    rw [e1]
    intro k
    obtain ⟨L, S⟩ := dr_seen h1 hal hd' he' k
    exact ⟨dr_nr k, vs_ok h1 (dr_nr k) hal L S gr.1 gr.2 (dr_gr h1 hal hd' he' gr.1 gr.2 k)⟩
  rw [← e1] at er
  have r0 := vsRun0 WR a b c v d e
  have r1 := vsRun1 WR a b c v d e
  have r2 := vsRun2 WR a b c v d e
  clear e1
  generalize WR.vd (oneV WR a b c) (alF WR v) d e = V at *
  rcases er with h | h | h
  · obtain ⟨hn, P⟩ := ok h
    exact calls_of_val goodG oracle14 80 (r2 _) (ObsOk.of_B (vsO2_ok hO h hn P rfl)) rfl rfl w
  · exact calls_of_val goodG oracle14 80 r1 (ObsOk.of_B (obsB_yes (decide_eq_true h) (obsB_yes (decide_eq_false (by omega)) hO))) rfl rfl w
  · exact calls_of_val goodG oracle14 80 r0 (ObsOk.of_B (obsB_yes (decide_eq_true h) hO)) rfl rfl w
end Go.Proofs.YtccmfddnbofgkaaGreat
