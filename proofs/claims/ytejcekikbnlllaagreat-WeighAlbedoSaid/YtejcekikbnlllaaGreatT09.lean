/- Package dir by the reckoner: what is known. Package dir by the reckoner: sums. Package .. -/
import Derived.Test.YtejcekikbnlllaaGreatT05
import Derived.Test.YtejcekikbnlllaaGreatT01
import Derived.Test.YtejcekikbnlllaaGreatT08
import Derived.Shelf.Spec.BitsCarry
import Derived.WalkKit
import Derived.Test.YtejcekikbnlllaaGreatShelf
import Derived.Deep.CutBlock
import Derived.Deep.DeepCutAuto
import Derived.Test.YtejcekikbnlllaaGreatT04
set_option linter.all false
namespace Go.Proofs.YtejcekikbnlllaaGreat
open Go.RowKit Bu Rx
theorem fbE:ExtOne Tryz.prog 130 oFb := by
 intro args x ob h _ m vs hvs
 unfold oFb at h
 split at h
 ·simp only [Option.some.injEq,Prod.mk.injEq] at h; obtain ⟨rfl,_⟩ := h
  simp only [dens,den,Option.bind_some,Option.map_some,Option.some.injEq] at hvs; subst hvs
  exact ⟨_,rfl,fun w => run_fbits _ w⟩
 ·simp only [Option.some.injEq,Prod.mk.injEq] at h; obtain ⟨rfl,_⟩ := h
  simp only [dens,den,Option.bind_some,Option.map_some,Option.some.injEq] at hvs; subst hvs
  exact ⟨_,rfl,fun w => run_fbits _ w⟩
 ·cases h
theorem ffE:ExtOne Tryz.prog 129 oFf := by
 intro args x ob h _ m vs hvs
 unfold oFf at h
 split at h
 ·simp only [Option.some.injEq,Prod.mk.injEq] at h; obtain ⟨rfl,_⟩ := h
  simp only [dens,den,Option.bind_some,Option.map_some,Option.some.injEq] at hvs; subst hvs
  exact ⟨_,rfl,fun w => run_ffrom _ w⟩
 ·simp only [Option.some.injEq,Prod.mk.injEq] at h; obtain ⟨rfl,_⟩ := h
  simp only [dens,den,Option.bind_some,Option.map_some,Option.some.injEq] at hvs; subst hvs
  exact ⟨_,rfl,fun w => run_ffrom _ w⟩
 ·cases h
theorem add64_f (x y c:Nat) (hc:c ≤ 1) (w:World):(callFunc 241 #[.int .u64 x,.int .u64 y,.int .u64 c]).run Tryz.prog w =
  .ok (.value (.tuple #[.int .u64 (((x + y + c) % 18446744073709551616:Nat):Int),.int .u64 (((x + y + c) / 18446744073709551616:Nat):Int)])) w := by
 rw [run_callFunc_extern (e := add64Entry) Tryz.func241 (by kernel_rfl) (by kernel_rfl) (by kernel_rfl) (by kernel_rfl),run_add64 x y c (by omega) (by omega) (by omega) (by omega)]
 simp only [Result.andThen]
 congr 5 <;> omega
theorem sub64_f (x y b:Nat) (hb:b ≤ 1) (w:World):(callFunc 242 #[.int .u64 x,.int .u64 y,.int .u64 b]).run Tryz.prog w =
  .ok (.value (.tuple #[.int .u64 (((x + 18446744073709551616 - y - b) % 18446744073709551616:Nat):Int),.int .u64 ((if x < y + b then 1 else 0:Nat):Int)])) w := by
 rw [run_callFunc_extern (e := sub64Entry) Tryz.func242 (by kernel_rfl) (by kernel_rfl) (by kernel_rfl) (by kernel_rfl),run_sub64 x y b hb]
 rfl
theorem plains3 {x y z:SV} {vs:List Value} {a b c:Value} (hx:plain x = some a) (hy:plain y = some b) (hz:plain z = some c) {m:Nms} (h:dens m [x,y,z] = some vs):vs = [a,b,c] := by
 have := dens_plains (m := m) (plains_cons hx (plains_cons hy (plains_cons hz plains_nil)))
 rw [h] at this
 exact Option.some.inj this
theorem addE:ExtOne Tryz.prog 241 oAdd64 := by
 intro args x ob h ho m vs hvs
 unfold oAdd64 at h
 split at h
 ·split at h
  ·rename_i a b c ha hb hc
   simp only [Option.some.injEq,Prod.mk.injEq] at h; obtain ⟨rfl,rfl⟩ := h
   have h1 := of_decide_eq_true (obs1 ho)
   obtain rfl := plains3 (intS_plain ha) (intS_plain hb) (intS_plain hc) hvs
   obtain ⟨p,rfl⟩ := Int.eq_ofNat_of_zero_le h1.1
   obtain ⟨q,rfl⟩ := Int.eq_ofNat_of_zero_le h1.2.1
   obtain ⟨r,rfl⟩ := Int.eq_ofNat_of_zero_le h1.2.2.1
   refine ⟨_,rfl,fun w => ?_⟩
   rw [show ([Value.int .u64 (p:Int),.int .u64 (q:Int),.int .u64 (r:Int)]:List Value).toArray = #[.int .u64 (p:Int),.int .u64 (q:Int),.int .u64 (r:Int)] from rfl,add64_f p q r (by omega)]
   have e1:(((p + q + r) % 18446744073709551616:Nat):Int) = ((p:Int) + q + r) % 18446744073709551616 := by omega
   have e2:(((p + q + r) / 18446744073709551616:Nat):Int) = ((p:Int) + q + r) / 18446744073709551616 := by omega
   rw [e1,e2]
  ·cases h
 ·cases h
theorem subE:ExtOne Tryz.prog 242 oSub64 := by
 intro args x ob h ho m vs hvs
 unfold oSub64 at h
 split at h
 ·split at h
  ·rename_i a b c ha hb hc
   simp only [Option.some.injEq,Prod.mk.injEq] at h; obtain ⟨rfl,rfl⟩ := h
   have h1 := of_decide_eq_true (obs1 ho)
   obtain rfl := plains3 (intS_plain ha) (intS_plain hb) (intS_plain hc) hvs
   obtain ⟨p,rfl⟩ := Int.eq_ofNat_of_zero_le h1.1
   obtain ⟨q,rfl⟩ := Int.eq_ofNat_of_zero_le h1.2.1
   obtain ⟨r,rfl⟩ := Int.eq_ofNat_of_zero_le h1.2.2.1
   refine ⟨_,rfl,fun w => ?_⟩
   rw [show ([Value.int .u64 (p:Int),.int .u64 (q:Int),.int .u64 (r:Int)]:List Value).toArray = #[.int .u64 (p:Int),.int .u64 (q:Int),.int .u64 (r:Int)] from rfl,sub64_f p q r (by omega)]
   have e1:(((p + 18446744073709551616 - q - r) % 18446744073709551616:Nat):Int) = ((p:Int) - q - r) % 18446744073709551616 := by omega
   have e2:((if p < q + r then 1 else 0:Nat):Int) = if (p:Int) < q + r then 1 else 0 := by split <;> split <;> omega
   rw [e1,e2]
  ·cases h
 ·cases h
def EG:ExtF := lookE [(130,oFb),(129,oFf),(241,oAdd64),(242,oSub64)]
theorem goodG:Rx.Good Tryz.prog EG := Rx.Good.of (by kernel_rfl) (by kernel_rfl) (.cons fbE (.cons ffE (.cons addE (.cons subE (.nil _)))))
theorem oracle0:OracleOk Tryz.prog (lookO []) := .nil _
theorem wadd_w (a b c d:Int) (h:u64B a = true ∧ u64B b = true ∧ u64B c = true ∧ u64B d = true) (w:World) :
  Calls Tryz.prog 170 #[.agg #[.int .u64 a,.int .u64 b],.agg #[.int .u64 c,.int .u64 d]] w fun e w' =>
   e = .returned (.agg #[.int .u64 ((a + c + (b + d + 0) / 18446744073709551616) % 18446744073709551616),.int .u64 ((b + d + 0) % 18446744073709551616)]) ∧ Below w.heap.size w w' := by
 unfold u64B at h
 simp only [decide_eq_true_eq] at h
 refine calls_of_run goodG oracle0 60 (g := 170) (args := [.agg [.si .u64 a,.si .u64 b],.agg [.si .u64 c,.si .u64 d]]) (ds := some []) (x := .agg [.si .u64 ((a + c + (b + d + 0) / 18446744073709551616) % 18446744073709551616),.si .u64 ((b + d + 0) % 18446744073709551616)])
  (M' := [⟨210,[.si .u64 a,.si .u64 b],.ex⟩,⟨210,[.si .u64 c,.si .u64 d],.ex⟩,⟨210,[.si .u64 ((a + c + (b + d + 0) / 18446744073709551616) % 18446744073709551616),.si .u64 ((b + d + 0) % 18446744073709551616)],.ex⟩]) (ds' := some [])
  (ob := [(decide (0 ≤ a ∧ 0 ≤ c ∧ 0 ≤ (b + d + 0) / 18446744073709551616 ∧ (b + d + 0) / 18446744073709551616 ≤ 1),true),(decide (0 ≤ b ∧ 0 ≤ d ∧ (0:Int) ≤ 0 ∧ (0:Int) ≤ 1),true)]) (by kernel_rfl) (ObsOk.of_B ?_) rfl rfl w
 have h1:decide (0 ≤ a ∧ 0 ≤ c ∧ 0 ≤ (b + d + 0) / 18446744073709551616 ∧ (b + d + 0) / 18446744073709551616 ≤ 1) = true := decide_eq_true (by omega)
 have h2:decide (0 ≤ b ∧ 0 ≤ d ∧ (0:Int) ≤ 0 ∧ (0:Int) ≤ 1) = true := decide_eq_true (by omega)
 simp only [obsB,List.all_cons,List.all_nil,h1,h2,beq_self_eq_true,Bool.and_self]
theorem wsub_w (a b c d:Int) (h:u64B a = true ∧ u64B b = true ∧ u64B c = true ∧ u64B d = true) (w:World) :
  Calls Tryz.prog 171 #[.agg #[.int .u64 a,.int .u64 b],.agg #[.int .u64 c,.int .u64 d]] w fun e w' =>
   e = .returned (.agg #[.int .u64 ((a - c - (if b < d + 0 then 1 else 0)) % 18446744073709551616),.int .u64 ((b - d - 0) % 18446744073709551616)]) ∧ Below w.heap.size w w' := by
 unfold u64B at h
 simp only [decide_eq_true_eq] at h
 refine calls_of_run goodG oracle0 60 (g := 171) (args := [.agg [.si .u64 a,.si .u64 b],.agg [.si .u64 c,.si .u64 d]]) (ds := some []) (x := .agg [.si .u64 ((a - c - (if b < d + 0 then 1 else 0)) % 18446744073709551616),.si .u64 ((b - d - 0) % 18446744073709551616)])
  (M' := [⟨210,[.si .u64 a,.si .u64 b],.ex⟩,⟨210,[.si .u64 c,.si .u64 d],.ex⟩,⟨210,[.si .u64 ((a - c - (if b < d + 0 then 1 else 0)) % 18446744073709551616),.si .u64 ((b - d - 0) % 18446744073709551616)],.ex⟩]) (ds' := some [])
  (ob := [(decide (0 ≤ a ∧ 0 ≤ c ∧ 0 ≤ (if b < d + 0 then 1 else 0:Int) ∧ (if b < d + 0 then 1 else 0:Int) ≤ 1 ∧ a ≤ 18446744073709551615 ∧ c ≤ 18446744073709551615),true),(decide (0 ≤ b ∧ 0 ≤ d ∧ (0:Int) ≤ 0 ∧ (0:Int) ≤ 1 ∧ b ≤ 18446744073709551615 ∧ d ≤ 18446744073709551615),true)]) (by kernel_rfl) (ObsOk.of_B ?_) rfl rfl w
 have h1:decide (0 ≤ a ∧ 0 ≤ c ∧ 0 ≤ (if b < d + 0 then 1 else 0:Int) ∧ (if b < d + 0 then 1 else 0:Int) ≤ 1 ∧ a ≤ 18446744073709551615 ∧ c ≤ 18446744073709551615) = true := decide_eq_true (by split <;> omega)
 have h2:decide (0 ≤ b ∧ 0 ≤ d ∧ (0:Int) ≤ 0 ∧ (0:Int) ≤ 1 ∧ b ≤ 18446744073709551615 ∧ d ≤ 18446744073709551615) = true := decide_eq_true (by omega)
 simp only [obsB,List.all_cons,List.all_nil,h1,h2,beq_self_eq_true,Bool.and_self]
def oParts:List SV → Dec → Option (SV × Dec × Obs)
 | [.fl x],ds => (takeB ds (sg x)).map fun r => (.tup [.b r.1,.si .u64 (mn x),.si .i64 ((ex x:Int) - 1074)],r.2.1,r.2.2)
 | _,_ => none
def oDown:List SV → Dec → Option (SV × Dec × Obs)
 | [.agg [x, y], z], ds => match intS x, intS y, intS z with
   | some (.u64, a), some (.u64, b), some (.i64, n) => (takeB ds (decide (wn a b % 2 ^ n.toNat ≠ 0))).map fun r =>
     (.tup [.agg [.si .u64 (hi (wn a b / 2 ^ n.toNat)),.si .u64 (lo (wn a b / 2 ^ n.toNat))],.b r.1],r.2.1,(u64B a,true) :: (u64B b,true) :: (decide (0 ≤ n),true) :: r.2.2)
   | _,_,_ => none
 | _,_ => none
def oRound:List SV → Dec → Option (SV × Dec × Obs)
 | [.agg [.b minus, x, y, .b more, z], .b up], ds => match intS x, intS y, intS z with
   | some (.u64,a),some (.u64,b),some (.i64,e) => some (.tup [.fl (rndG minus (wn a b) more e up).1,.si .i64 (rndG minus (wn a b) more e up).2],ds,[(u64B a,true),(u64B b,true),(decide (-5000 ≤ e ∧ e ≤ 5000),true)])
   | _,_,_ => none
 | _,_ => none
def oWadd:List SV → Dec → Option (SV × Dec × Obs)
 | [.agg [x, y], .agg [z, u]], ds => match intS x, intS y, intS z, intS u with
   | some (.u64,a),some (.u64,b),some (.u64,c),some (.u64,d) => some (.agg [.si .u64 ((a + c + (b + d + 0) / 18446744073709551616) % 18446744073709551616),.si .u64 ((b + d + 0) % 18446744073709551616)],ds,[(u64B a,true),(u64B b,true),(u64B c,true),(u64B d,true)])
   | _,_,_,_ => none
 | _,_ => none
def oWsub:List SV → Dec → Option (SV × Dec × Obs)
 | [.agg [x, y], .agg [z, u]], ds => match intS x, intS y, intS z, intS u with
   | some (.u64,a),some (.u64,b),some (.u64,c),some (.u64,d) => some (.agg [.si .u64 ((a - c - (if b < d + 0 then 1 else 0)) % 18446744073709551616),.si .u64 ((b - d - 0) % 18446744073709551616)],ds,[(u64B a,true),(u64B b,true),(u64B c,true),(u64B d,true)])
   | _,_,_,_ => none
 | _,_ => none
theorem rightG:PlainOk Tryz.prog 60 oRight := by
 intro args ds x ds' ob h ho
 unfold oRight at h
 split at h
 ·rename_i x
  simp only [Option.some.injEq,Prod.mk.injEq] at h; obtain ⟨rfl,_,_⟩ := h
  refine ⟨[.float .f64 x.b],.bool true,rfl,rfl,fun w => (right_F_w x w).mono ?_⟩
  rintro e w' ⟨rfl,rfl⟩; exact ⟨rfl,Below.refl _ _⟩
 ·rename_i v
  split at h
  ·rename_i hb
   simp only [Option.some.injEq,Prod.mk.injEq] at h; obtain ⟨rfl,_,rfl⟩ := h
   have hr := takeB_ok hb ho
   obtain ⟨y,rfl⟩ := F_of_right hr.symm
   refine ⟨[.float .f64 y.b],.bool true,rfl,rfl,fun w => (right_F_w y w).mono ?_⟩
   rintro e w' ⟨rfl,rfl⟩; exact ⟨rfl,Below.refl _ _⟩
  ·rename_i o hb
   simp only [Option.some.injEq,Prod.mk.injEq] at h; obtain ⟨rfl,_,rfl⟩ := h
   have hr := takeB_ok hb (ObsOk.right (a := [_]) ho)
   have hlt := Nat.blt_eq.mp (ho _ (List.mem_cons_self ..))
   refine ⟨[.float .f64 v],.bool false,rfl,rfl,fun w => (right_no_w v hlt hr.symm w).mono ?_⟩
   rintro e w' ⟨rfl,rfl⟩; exact ⟨rfl,Below.refl _ _⟩
  ·cases h
 ·cases h
theorem partsG:PlainOk Tryz.prog 154 oParts := by
 intro args ds x ds' ob h ho
 unfold oParts at h
 split at h
 ·rename_i x
  simp only [Option.map_eq_some_iff,Prod.mk.injEq] at h
  obtain ⟨⟨d,_,_⟩,h1,rfl,rfl,rfl⟩ := h
  refine ⟨[.float .f64 x.b],.tuple #[.bool d,.int .u64 (mn x),.int .i64 ((ex x:Int) - 1074)],rfl,rfl,fun w => (parts_F x w).mono ?_⟩
  rintro e w' ⟨rfl,rfl⟩
  rw [takeB_ok h1 ho]
  exact ⟨rfl,Below.refl _ _⟩
 ·cases h
theorem u64_of {n:Int} (h:u64B n = true):0 ≤ n ∧ n ≤ 18446744073709551615 := of_decide_eq_true h
theorem downG:PlainOk Tryz.prog 164 oDown := by
 intro args ds x ds' ob h ho
 unfold oDown at h
 split at h
 ·rename_i x y z
  split at h
  ·rename_i a b n ha hb hn
   simp only [Option.map_eq_some_iff,Prod.mk.injEq] at h
   obtain ⟨⟨d,_,o⟩,h1,rfl,rfl,rfl⟩ := h
   have k1 := u64_of (ho (u64B a,true) (by simp))
   have k2 := u64_of (ho (u64B b,true) (by simp))
   have k3 := of_decide_eq_true (ho (decide (0 ≤ n),true) (by simp))
   have ho':ObsOk o := fun p hp => ho p (by simp [hp])
   obtain ⟨q,rfl⟩ := Int.eq_ofNat_of_zero_le k3
   have hd := takeB_ok h1 ho'
   simp only [Int.toNat_natCast] at hd ⊢
   refine ⟨[.agg #[.int .u64 a,.int .u64 b],.int .i64 q],.tuple #[.agg #[.int .u64 (hi (wn a b / 2 ^ q)),.int .u64 (lo (wn a b / 2 ^ q))],.bool d],plains_cons (plain_agg (plains_cons (intS_plain ha) (plains_cons (intS_plain hb) plains_nil))) (plains_cons (intS_plain hn) plains_nil),rfl,fun w => ?_⟩
   rw [hd]
   exact down_w a b q w k1.1 k1.2 k2.1 k2.2
  ·cases h
 ·cases h
theorem roundG:PlainOk Tryz.prog 156 oRound := by
 intro args ds x ds' ob h ho
 unfold oRound at h
 split at h
 ·rename_i minus x y more z up
  split at h
  ·rename_i a b e ha hb he
   simp only [Option.some.injEq,Prod.mk.injEq] at h
   obtain ⟨rfl,rfl,rfl⟩ := h
   have k1 := u64_of (ho (u64B a,true) (by simp))
   have k2 := u64_of (ho (u64B b,true) (by simp))
   have k3 := of_decide_eq_true (ho (decide (-5000 ≤ e ∧ e ≤ 5000),true) (by simp))
   exact ⟨[.agg #[.bool minus,.int .u64 a,.int .u64 b,.bool more,.int .i64 e],.bool up],.tuple #[.float .f64 (rndG minus (wn a b) more e up).1.b,.int .i64 (rndG minus (wn a b) more e up).2],
    plains_cons (plain_agg (plains_cons rfl (plains_cons (intS_plain ha) (plains_cons (intS_plain hb) (plains_cons rfl (plains_cons (intS_plain he) plains_nil)))))) (plains_cons rfl plains_nil),rfl,fun w => rounded_w minus more up a b e w k1.1 k1.2 k2.1 k2.2 k3.1 k3.2⟩
  ·cases h
 ·cases h
theorem waddG:PlainOk Tryz.prog 170 oWadd := by
 intro args ds x ds' ob h ho
 unfold oWadd at h
 split at h
 ·rename_i x y z u
  split at h
  ·rename_i a b c d ha hb hc hd
   simp only [Option.some.injEq,Prod.mk.injEq] at h
   obtain ⟨rfl,rfl,rfl⟩ := h
   exact ⟨[.agg #[.int .u64 a,.int .u64 b],.agg #[.int .u64 c,.int .u64 d]],_,plains_cons (plain_agg (plains_cons (intS_plain ha) (plains_cons (intS_plain hb) plains_nil))) (plains_cons (plain_agg (plains_cons (intS_plain hc) (plains_cons (intS_plain hd) plains_nil))) plains_nil),rfl,
    fun w => wadd_w a b c d ⟨ho (u64B a,true) (by simp),ho (u64B b,true) (by simp),ho (u64B c,true) (by simp),ho (u64B d,true) (by simp)⟩ w⟩
  ·cases h
 ·cases h
theorem wsubG:PlainOk Tryz.prog 171 oWsub := by
 intro args ds x ds' ob h ho
 unfold oWsub at h
 split at h
 ·rename_i x y z u
  split at h
  ·rename_i a b c d ha hb hc hd
   simp only [Option.some.injEq,Prod.mk.injEq] at h
   obtain ⟨rfl,rfl,rfl⟩ := h
   exact ⟨[.agg #[.int .u64 a,.int .u64 b],.agg #[.int .u64 c,.int .u64 d]],_,plains_cons (plain_agg (plains_cons (intS_plain ha) (plains_cons (intS_plain hb) plains_nil))) (plains_cons (plain_agg (plains_cons (intS_plain hc) (plains_cons (intS_plain hd) plains_nil))) plains_nil),rfl,
    fun w => wsub_w a b c d ⟨ho (u64B a,true) (by simp),ho (u64B b,true) (by simp),ho (u64B c,true) (by simp),ho (u64B d,true) (by simp)⟩ w⟩
  ·cases h
 ·cases h
def OG1:OracleF := lookO [(60,plainO oRight),(154,plainO oParts),(164,plainO oDown),(156,plainO oRound),(170,plainO oWadd),(171,plainO oWsub)]
theorem oracleG1:OracleOk Tryz.prog OG1 := .cons rightG.of (.cons partsG.of (.cons downG.of (.cons roundG.of (.cons waddG.of (.cons wsubG.of (.nil _))))))
theorem kParts_R:kParts KR = oParts := rfl
theorem kDown_R:kDown KR = oDown := rfl
theorem kRound_R:kRound KR = oRound := rfl
theorem kWadd_R:kWadd KR = oWadd := rfl
theorem kWsub_R:kWsub KR = oWsub := rfl
def OGK (K:Kd):OracleF := lookO [(60,plainO oRight),(154,plainO (kParts K)),(164,plainO (kDown K)),(156,plainO (kRound K)),(170,plainO (kWadd K)),(171,plainO (kWsub K))]
theorem oracleGK:OracleOk Tryz.prog (OGK KR) := by
 unfold OGK
 rw [kParts_R,kDown_R,kRound_R,kWadd_R,kWsub_R]
 exact oracleG1
def kP (K:Kd) (a b:F) (same more up sa:Bool):SV := .tup [.fl (K.rF sa (hK K same more a b) (lK K same more a b) more (eK K a) up),.si .i64 (K.rI sa (hK K same more a b) (lK K same more a b) more (eK K a) up)]
def gtK (a b:Int) (d:Bool):Bool × Bool := (decide (a > b),d)
def eqK (a b:Int) (d:Bool):Bool × Bool := (decide (a = b),d)
theorem addRun (x y a b:F) (up:Bool) {ds:List Bool} {ob:Obs} {same more sa:Bool} (h:valR ((run Tryz.prog EG (OGK KR) 100).1 102 [.fl x,.fl y,.b up] [] (some ds)) = some (kP KR a b same more up sa,some [],ob)) (ho:obsB ob = true)
  (hq:rndG sa (wn (hA same more a b) (lA same more a b)) more (eI a) up = dAdd up x y) (w:World) :
  Calls Tryz.prog 102 #[.float .f64 x.b,.float .f64 y.b,.bool up] w fun e w' => e = .returned (.tuple #[.float .f64 (dAdd up x y).1.b,.int .i64 (dAdd up x y).2]) ∧ Below w.heap.size w w' := by
 rw [← hq]
 exact calls_of_val goodG oracleGK 100 h (ObsOk.of_B ho) rfl rfl w
def ob_far (K:Kd) (x y:F):Obs := [gtK (K.ex y) (K.ex x) true]
theorem run_far_000 (K:Kd) (x y:F) (up:Bool):valR ((run Tryz.prog EG (OGK K) 100).1 102 [.fl x,.fl y,.b up] [] (some [false,false,true,false])) = some (kP K y x true false up false,some [],obK K true false y x ++ ob_far K x y ++ [(K.sg y,false),(K.sg x,false)]) := by kernel_rfl
theorem run_far_001 (K:Kd) (x y:F) (up:Bool):valR ((run Tryz.prog EG (OGK K) 100).1 102 [.fl x,.fl y,.b up] [] (some [false,true,true,false])) = some (kP K y x false false up true,some [],obK K false false y x ++ ob_far K x y ++ [(K.sg y,true),(K.sg x,false)]) := by kernel_rfl
theorem run_far_010 (K:Kd) (x y:F) (up:Bool):valR ((run Tryz.prog EG (OGK K) 100).1 102 [.fl x,.fl y,.b up] [] (some [true,false,true,false])) = some (kP K y x false false up false,some [],obK K false false y x ++ ob_far K x y ++ [(K.sg y,false),(K.sg x,true)]) := by kernel_rfl
theorem run_far_011 (K:Kd) (x y:F) (up:Bool):valR ((run Tryz.prog EG (OGK K) 100).1 102 [.fl x,.fl y,.b up] [] (some [true,true,true,false])) = some (kP K y x true false up true,some [],obK K true false y x ++ ob_far K x y ++ [(K.sg y,true),(K.sg x,true)]) := by kernel_rfl
theorem run_far_100 (K:Kd) (x y:F) (up:Bool):valR ((run Tryz.prog EG (OGK K) 100).1 102 [.fl x,.fl y,.b up] [] (some [false,false,true,true])) = some (kP K y x true true up false,some [],obK K true true y x ++ ob_far K x y ++ [(K.sg y,false),(K.sg x,false)]) := by kernel_rfl
theorem run_far_101 (K:Kd) (x y:F) (up:Bool):valR ((run Tryz.prog EG (OGK K) 100).1 102 [.fl x,.fl y,.b up] [] (some [false,true,true,true])) = some (kP K y x false true up true,some [],obK K false true y x ++ ob_far K x y ++ [(K.sg y,true),(K.sg x,false)]) := by kernel_rfl
theorem run_far_110 (K:Kd) (x y:F) (up:Bool):valR ((run Tryz.prog EG (OGK K) 100).1 102 [.fl x,.fl y,.b up] [] (some [true,false,true,true])) = some (kP K y x false true up false,some [],obK K false true y x ++ ob_far K x y ++ [(K.sg y,false),(K.sg x,true)]) := by kernel_rfl
theorem run_far_111 (K:Kd) (x y:F) (up:Bool):valR ((run Tryz.prog EG (OGK K) 100).1 102 [.fl x,.fl y,.b up] [] (some [true,true,true,true])) = some (kP K y x true true up true,some [],obK K true true y x ++ ob_far K x y ++ [(K.sg y,true),(K.sg x,true)]) := by kernel_rfl
theorem add_far (x y:F) (up:Bool) (h:Fst y x) (ho:obsB (ob_far KR x y) = true) (w:World) :
  Calls Tryz.prog 102 #[.float .f64 x.b,.float .f64 y.b,.bool up] w fun e w' => e = .returned (.tuple #[.float .f64 (dAdd up x y).1.b,.int .i64 (dAdd up x y).2]) ∧ Below w.heap.size w w' := by
 have hv := add_val up h
 rw [dAdd_comm] at hv
 have hk:∀ same,obsB (obA same (moreN (mn x) (ex y - ex x)) y x) = true := fun same => obA_ok same h
 have hob:∀ s m p q,obsB (obA s m y x) = true → sg y = q → sg x = p → obsB (obK KR s m y x ++ ob_far KR x y ++ [(KR.sg y,q),(KR.sg x,p)]) = true := by
  intro s m p q h1 h2 h3
  rw [obsB_app,obsB_app,obK_R,h1,ho]
  exact obsB_yes h2 (obsB_yes h3 obsB_nil)
 cases hm:moreN (mn x) (ex y - ex x) <;> cases hx:sg x <;> cases hy:sg y <;> rw [hm] at hk hv <;> rw [hx,hy] at hv
 ·exact addRun x y y x up (run_far_000 KR x y up) (hob _ _ _ _ (hk _) hy hx) hv w
 ·exact addRun x y y x up (run_far_001 KR x y up) (hob _ _ _ _ (hk _) hy hx) hv w
 ·exact addRun x y y x up (run_far_010 KR x y up) (hob _ _ _ _ (hk _) hy hx) hv w
 ·exact addRun x y y x up (run_far_011 KR x y up) (hob _ _ _ _ (hk _) hy hx) hv w
 ·exact addRun x y y x up (run_far_100 KR x y up) (hob _ _ _ _ (hk _) hy hx) hv w
 ·exact addRun x y y x up (run_far_101 KR x y up) (hob _ _ _ _ (hk _) hy hx) hv w
 ·exact addRun x y y x up (run_far_110 KR x y up) (hob _ _ _ _ (hk _) hy hx) hv w
 ·exact addRun x y y x up (run_far_111 KR x y up) (hob _ _ _ _ (hk _) hy hx) hv w
def ob_low (K:Kd) (x y:F):Obs := [eqK (K.ex y) (K.ex x) false,gtK (K.ex y) (K.ex x) false]
theorem run_low_000 (K:Kd) (x y:F) (up:Bool):valR ((run Tryz.prog EG (OGK K) 100).1 102 [.fl x,.fl y,.b up] [] (some [false,false,false,false,false])) = some (kP K x y true false up false,some [],obK K true false x y ++ ob_low K x y ++ [(K.sg y,false),(K.sg x,false)]) := by kernel_rfl
theorem run_low_001 (K:Kd) (x y:F) (up:Bool):valR ((run Tryz.prog EG (OGK K) 100).1 102 [.fl x,.fl y,.b up] [] (some [false,true,false,false,false])) = some (kP K x y false false up false,some [],obK K false false x y ++ ob_low K x y ++ [(K.sg y,true),(K.sg x,false)]) := by kernel_rfl
theorem run_low_010 (K:Kd) (x y:F) (up:Bool):valR ((run Tryz.prog EG (OGK K) 100).1 102 [.fl x,.fl y,.b up] [] (some [true,false,false,false,false])) = some (kP K x y false false up true,some [],obK K false false x y ++ ob_low K x y ++ [(K.sg y,false),(K.sg x,true)]) := by kernel_rfl
theorem run_low_011 (K:Kd) (x y:F) (up:Bool):valR ((run Tryz.prog EG (OGK K) 100).1 102 [.fl x,.fl y,.b up] [] (some [true,true,false,false,false])) = some (kP K x y true false up true,some [],obK K true false x y ++ ob_low K x y ++ [(K.sg y,true),(K.sg x,true)]) := by kernel_rfl
theorem run_low_100 (K:Kd) (x y:F) (up:Bool):valR ((run Tryz.prog EG (OGK K) 100).1 102 [.fl x,.fl y,.b up] [] (some [false,false,false,false,true])) = some (kP K x y true true up false,some [],obK K true true x y ++ ob_low K x y ++ [(K.sg y,false),(K.sg x,false)]) := by kernel_rfl
theorem run_low_101 (K:Kd) (x y:F) (up:Bool):valR ((run Tryz.prog EG (OGK K) 100).1 102 [.fl x,.fl y,.b up] [] (some [false,true,false,false,true])) = some (kP K x y false true up false,some [],obK K false true x y ++ ob_low K x y ++ [(K.sg y,true),(K.sg x,false)]) := by kernel_rfl
theorem run_low_110 (K:Kd) (x y:F) (up:Bool):valR ((run Tryz.prog EG (OGK K) 100).1 102 [.fl x,.fl y,.b up] [] (some [true,false,false,false,true])) = some (kP K x y false true up true,some [],obK K false true x y ++ ob_low K x y ++ [(K.sg y,false),(K.sg x,true)]) := by kernel_rfl
theorem run_low_111 (K:Kd) (x y:F) (up:Bool):valR ((run Tryz.prog EG (OGK K) 100).1 102 [.fl x,.fl y,.b up] [] (some [true,true,false,false,true])) = some (kP K x y true true up true,some [],obK K true true x y ++ ob_low K x y ++ [(K.sg y,true),(K.sg x,true)]) := by kernel_rfl
theorem add_low (x y:F) (up:Bool) (h:Fst x y) (ho:obsB (ob_low KR x y) = true) (w:World) :
  Calls Tryz.prog 102 #[.float .f64 x.b,.float .f64 y.b,.bool up] w fun e w' => e = .returned (.tuple #[.float .f64 (dAdd up x y).1.b,.int .i64 (dAdd up x y).2]) ∧ Below w.heap.size w w' := by
 have hv := add_val up h
 have hk:∀ same,obsB (obA same (moreN (mn y) (ex x - ex y)) x y) = true := fun same => obA_ok same h
 have hob:∀ s m p q,obsB (obA s m x y) = true → sg y = q → sg x = p → obsB (obK KR s m x y ++ ob_low KR x y ++ [(KR.sg y,q),(KR.sg x,p)]) = true := by
  intro s m p q h1 h2 h3
  rw [obsB_app,obsB_app,obK_R,h1,ho]
  exact obsB_yes h2 (obsB_yes h3 obsB_nil)
 cases hm:moreN (mn y) (ex x - ex y) <;> cases hx:sg x <;> cases hy:sg y <;> rw [hm] at hk hv <;> rw [hx,hy] at hv
 ·exact addRun x y x y up (run_low_000 KR x y up) (hob _ _ _ _ (hk _) hy hx) hv w
 ·exact addRun x y x y up (run_low_001 KR x y up) (hob _ _ _ _ (hk _) hy hx) hv w
 ·exact addRun x y x y up (run_low_010 KR x y up) (hob _ _ _ _ (hk _) hy hx) hv w
 ·exact addRun x y x y up (run_low_011 KR x y up) (hob _ _ _ _ (hk _) hy hx) hv w
 ·exact addRun x y x y up (run_low_100 KR x y up) (hob _ _ _ _ (hk _) hy hx) hv w
 ·exact addRun x y x y up (run_low_101 KR x y up) (hob _ _ _ _ (hk _) hy hx) hv w
 ·exact addRun x y x y up (run_low_110 KR x y up) (hob _ _ _ _ (hk _) hy hx) hv w
 ·exact addRun x y x y up (run_low_111 KR x y up) (hob _ _ _ _ (hk _) hy hx) hv w
def ob_top (K:Kd) (x y:F):Obs := [gtK (K.mn y) (K.mn x) true,eqK (K.ex y) (K.ex x) true,gtK (K.ex y) (K.ex x) false]
theorem run_top_000 (K:Kd) (x y:F) (up:Bool):valR ((run Tryz.prog EG (OGK K) 100).1 102 [.fl x,.fl y,.b up] [] (some [false,false,false,true,true,false])) = some (kP K y x true false up false,some [],obK K true false y x ++ ob_top K x y ++ [(K.sg y,false),(K.sg x,false)]) := by kernel_rfl
theorem run_top_001 (K:Kd) (x y:F) (up:Bool):valR ((run Tryz.prog EG (OGK K) 100).1 102 [.fl x,.fl y,.b up] [] (some [false,true,false,true,true,false])) = some (kP K y x false false up true,some [],obK K false false y x ++ ob_top K x y ++ [(K.sg y,true),(K.sg x,false)]) := by kernel_rfl
theorem run_top_010 (K:Kd) (x y:F) (up:Bool):valR ((run Tryz.prog EG (OGK K) 100).1 102 [.fl x,.fl y,.b up] [] (some [true,false,false,true,true,false])) = some (kP K y x false false up false,some [],obK K false false y x ++ ob_top K x y ++ [(K.sg y,false),(K.sg x,true)]) := by kernel_rfl
theorem run_top_011 (K:Kd) (x y:F) (up:Bool):valR ((run Tryz.prog EG (OGK K) 100).1 102 [.fl x,.fl y,.b up] [] (some [true,true,false,true,true,false])) = some (kP K y x true false up true,some [],obK K true false y x ++ ob_top K x y ++ [(K.sg y,true),(K.sg x,true)]) := by kernel_rfl
theorem run_top_100 (K:Kd) (x y:F) (up:Bool):valR ((run Tryz.prog EG (OGK K) 100).1 102 [.fl x,.fl y,.b up] [] (some [false,false,false,true,true,true])) = some (kP K y x true true up false,some [],obK K true true y x ++ ob_top K x y ++ [(K.sg y,false),(K.sg x,false)]) := by kernel_rfl
theorem run_top_101 (K:Kd) (x y:F) (up:Bool):valR ((run Tryz.prog EG (OGK K) 100).1 102 [.fl x,.fl y,.b up] [] (some [false,true,false,true,true,true])) = some (kP K y x false true up true,some [],obK K false true y x ++ ob_top K x y ++ [(K.sg y,true),(K.sg x,false)]) := by kernel_rfl
theorem run_top_110 (K:Kd) (x y:F) (up:Bool):valR ((run Tryz.prog EG (OGK K) 100).1 102 [.fl x,.fl y,.b up] [] (some [true,false,false,true,true,true])) = some (kP K y x false true up false,some [],obK K false true y x ++ ob_top K x y ++ [(K.sg y,false),(K.sg x,true)]) := by kernel_rfl
theorem run_top_111 (K:Kd) (x y:F) (up:Bool):valR ((run Tryz.prog EG (OGK K) 100).1 102 [.fl x,.fl y,.b up] [] (some [true,true,false,true,true,true])) = some (kP K y x true true up true,some [],obK K true true y x ++ ob_top K x y ++ [(K.sg y,true),(K.sg x,true)]) := by kernel_rfl
theorem add_top (x y:F) (up:Bool) (h:Fst y x) (ho:obsB (ob_top KR x y) = true) (w:World) :
  Calls Tryz.prog 102 #[.float .f64 x.b,.float .f64 y.b,.bool up] w fun e w' => e = .returned (.tuple #[.float .f64 (dAdd up x y).1.b,.int .i64 (dAdd up x y).2]) ∧ Below w.heap.size w w' := by
 have hv := add_val up h
 rw [dAdd_comm] at hv
 have hk:∀ same,obsB (obA same (moreN (mn x) (ex y - ex x)) y x) = true := fun same => obA_ok same h
 have hob:∀ s m p q,obsB (obA s m y x) = true → sg y = q → sg x = p → obsB (obK KR s m y x ++ ob_top KR x y ++ [(KR.sg y,q),(KR.sg x,p)]) = true := by
  intro s m p q h1 h2 h3
  rw [obsB_app,obsB_app,obK_R,h1,ho]
  exact obsB_yes h2 (obsB_yes h3 obsB_nil)
 cases hm:moreN (mn x) (ex y - ex x) <;> cases hx:sg x <;> cases hy:sg y <;> rw [hm] at hk hv <;> rw [hx,hy] at hv
 ·exact addRun x y y x up (run_top_000 KR x y up) (hob _ _ _ _ (hk _) hy hx) hv w
 ·exact addRun x y y x up (run_top_001 KR x y up) (hob _ _ _ _ (hk _) hy hx) hv w
 ·exact addRun x y y x up (run_top_010 KR x y up) (hob _ _ _ _ (hk _) hy hx) hv w
 ·exact addRun x y y x up (run_top_011 KR x y up) (hob _ _ _ _ (hk _) hy hx) hv w
 ·exact addRun x y y x up (run_top_100 KR x y up) (hob _ _ _ _ (hk _) hy hx) hv w
 ·exact addRun x y y x up (run_top_101 KR x y up) (hob _ _ _ _ (hk _) hy hx) hv w
 ·exact addRun x y y x up (run_top_110 KR x y up) (hob _ _ _ _ (hk _) hy hx) hv w
 ·exact addRun x y y x up (run_top_111 KR x y up) (hob _ _ _ _ (hk _) hy hx) hv w
def ob_eq (K:Kd) (x y:F):Obs := [gtK (K.mn y) (K.mn x) false,eqK (K.ex y) (K.ex x) true,gtK (K.ex y) (K.ex x) false]
theorem run_eq_000 (K:Kd) (x y:F) (up:Bool):valR ((run Tryz.prog EG (OGK K) 100).1 102 [.fl x,.fl y,.b up] [] (some [false,false,false,true,false,false])) = some (kP K x y true false up false,some [],obK K true false x y ++ ob_eq K x y ++ [(K.sg y,false),(K.sg x,false)]) := by kernel_rfl
theorem run_eq_001 (K:Kd) (x y:F) (up:Bool):valR ((run Tryz.prog EG (OGK K) 100).1 102 [.fl x,.fl y,.b up] [] (some [false,true,false,true,false,false])) = some (kP K x y false false up false,some [],obK K false false x y ++ ob_eq K x y ++ [(K.sg y,true),(K.sg x,false)]) := by kernel_rfl
theorem run_eq_010 (K:Kd) (x y:F) (up:Bool):valR ((run Tryz.prog EG (OGK K) 100).1 102 [.fl x,.fl y,.b up] [] (some [true,false,false,true,false,false])) = some (kP K x y false false up true,some [],obK K false false x y ++ ob_eq K x y ++ [(K.sg y,false),(K.sg x,true)]) := by kernel_rfl
theorem run_eq_011 (K:Kd) (x y:F) (up:Bool):valR ((run Tryz.prog EG (OGK K) 100).1 102 [.fl x,.fl y,.b up] [] (some [true,true,false,true,false,false])) = some (kP K x y true false up true,some [],obK K true false x y ++ ob_eq K x y ++ [(K.sg y,true),(K.sg x,true)]) := by kernel_rfl
theorem run_eq_100 (K:Kd) (x y:F) (up:Bool):valR ((run Tryz.prog EG (OGK K) 100).1 102 [.fl x,.fl y,.b up] [] (some [false,false,false,true,false,true])) = some (kP K x y true true up false,some [],obK K true true x y ++ ob_eq K x y ++ [(K.sg y,false),(K.sg x,false)]) := by kernel_rfl
theorem run_eq_101 (K:Kd) (x y:F) (up:Bool):valR ((run Tryz.prog EG (OGK K) 100).1 102 [.fl x,.fl y,.b up] [] (some [false,true,false,true,false,true])) = some (kP K x y false true up false,some [],obK K false true x y ++ ob_eq K x y ++ [(K.sg y,true),(K.sg x,false)]) := by kernel_rfl
theorem run_eq_110 (K:Kd) (x y:F) (up:Bool):valR ((run Tryz.prog EG (OGK K) 100).1 102 [.fl x,.fl y,.b up] [] (some [true,false,false,true,false,true])) = some (kP K x y false true up true,some [],obK K false true x y ++ ob_eq K x y ++ [(K.sg y,false),(K.sg x,true)]) := by kernel_rfl
theorem run_eq_111 (K:Kd) (x y:F) (up:Bool):valR ((run Tryz.prog EG (OGK K) 100).1 102 [.fl x,.fl y,.b up] [] (some [true,true,false,true,false,true])) = some (kP K x y true true up true,some [],obK K true true x y ++ ob_eq K x y ++ [(K.sg y,true),(K.sg x,true)]) := by kernel_rfl
theorem add_eq (x y:F) (up:Bool) (h:Fst x y) (ho:obsB (ob_eq KR x y) = true) (w:World) :
  Calls Tryz.prog 102 #[.float .f64 x.b,.float .f64 y.b,.bool up] w fun e w' => e = .returned (.tuple #[.float .f64 (dAdd up x y).1.b,.int .i64 (dAdd up x y).2]) ∧ Below w.heap.size w w' := by
 have hv := add_val up h
 have hk:∀ same,obsB (obA same (moreN (mn y) (ex x - ex y)) x y) = true := fun same => obA_ok same h
 have hob:∀ s m p q,obsB (obA s m x y) = true → sg y = q → sg x = p → obsB (obK KR s m x y ++ ob_eq KR x y ++ [(KR.sg y,q),(KR.sg x,p)]) = true := by
  intro s m p q h1 h2 h3
  rw [obsB_app,obsB_app,obK_R,h1,ho]
  exact obsB_yes h2 (obsB_yes h3 obsB_nil)
 cases hm:moreN (mn y) (ex x - ex y) <;> cases hx:sg x <;> cases hy:sg y <;> rw [hm] at hk hv <;> rw [hx,hy] at hv
 ·exact addRun x y x y up (run_eq_000 KR x y up) (hob _ _ _ _ (hk _) hy hx) hv w
 ·exact addRun x y x y up (run_eq_001 KR x y up) (hob _ _ _ _ (hk _) hy hx) hv w
 ·exact addRun x y x y up (run_eq_010 KR x y up) (hob _ _ _ _ (hk _) hy hx) hv w
 ·exact addRun x y x y up (run_eq_011 KR x y up) (hob _ _ _ _ (hk _) hy hx) hv w
 ·exact addRun x y x y up (run_eq_100 KR x y up) (hob _ _ _ _ (hk _) hy hx) hv w
 ·exact addRun x y x y up (run_eq_101 KR x y up) (hob _ _ _ _ (hk _) hy hx) hv w
 ·exact addRun x y x y up (run_eq_110 KR x y up) (hob _ _ _ _ (hk _) hy hx) hv w
 ·exact addRun x y x y up (run_eq_111 KR x y up) (hob _ _ _ _ (hk _) hy hx) hv w
theorem add_F_w (x y:F) (up:Bool) (w:World) :
  Calls Tryz.prog 102 #[.float .f64 x.b,.float .f64 y.b,.bool up] w fun e w' => e = .returned (.tuple #[.float .f64 (dAdd up x y).1.b,.int .i64 (dAdd up x y).2]) ∧ Below w.heap.size w w' := by
 by_cases h1:ex x < ex y
 ·exact add_far x y up (Or.inl h1) (obsB_yes (decide_eq_true (show (ex y:Int) - 1074 > (ex x:Int) - 1074 by omega)) obsB_nil) w
 ·have g1 := decide_eq_false (show ¬ (ex y:Int) - 1074 > (ex x:Int) - 1074 by omega)
  by_cases h2:ex y = ex x
  ·have g2 := decide_eq_true (show (ex y:Int) - 1074 = (ex x:Int) - 1074 by omega)
   by_cases h3:mn x < mn y
   ·exact add_top x y up (Or.inr ⟨h2,by omega⟩) (obsB_yes (decide_eq_true (show ((mn y:Nat):Int) > ((mn x:Nat):Int) by omega)) (obsB_yes g2 (obsB_yes g1 obsB_nil))) w
   ·exact add_eq x y up (Or.inr ⟨h2.symm,by omega⟩) (obsB_yes (decide_eq_false (show ¬ ((mn y:Nat):Int) > ((mn x:Nat):Int) by omega)) (obsB_yes g2 (obsB_yes g1 obsB_nil))) w
  ·have g2 := decide_eq_false (show ¬ (ex y:Int) - 1074 = (ex x:Int) - 1074 by omega)
   exact add_low x y up (Or.inl (by omega)) (obsB_yes g2 (obsB_yes g1 obsB_nil)) w
def kTwo (f:Bool → F → F → F × Int):List SV → Dec → Option (SV × Dec × Obs)
 | [.fl x,.fl y,.b up],ds => some (.tup [.fl (f up x y).1,.si .i64 (f up x y).2],ds,[])
 | _,_ => none
theorem two_ok {g:FuncId} {f:Bool → F → F → F × Int} (h:∀ x y up w,Calls Tryz.prog g #[.float .f64 x.b,.float .f64 y.b,.bool up] w fun e w' => e = .returned (.tuple #[.float .f64 (f up x y).1.b,.int .i64 (f up x y).2]) ∧ Below w.heap.size w w'):PlainOk Tryz.prog g (kTwo f) := by
 intro args ds x ds' ob h1 ho
 unfold kTwo at h1
 split at h1
 ·rename_i x y up
  simp only [Option.some.injEq,Prod.mk.injEq] at h1
  obtain ⟨rfl,_,_⟩ := h1
  exact ⟨[.float .f64 x.b,.float .f64 y.b,.bool up],_,rfl,rfl,fun w => h x y up w⟩
 ·cases h1
def OGA (f:Bool → F → F → F × Int):OracleF := lookO [(60,plainO oRight),(102,plainO (kTwo f))]
theorem oracleGA:OracleOk Tryz.prog (OGA dAdd) := .cons rightG.of (.cons (two_ok add_F_w).of (.nil _))
theorem subRun0 (f:Bool → F → F → F × Int) (x y:F) (up:Bool):valR ((run Tryz.prog EG (OGA f) 100).1 98 [.fl x,.fl y,.b up] [] (some [false])) = some (.tup [.fl (f up x y).1,.si .i64 (f up x y).2],some [],[(!decide (y.k = (toF 0).k),false)]) := by kernel_rfl
theorem subRun1 (f:Bool → F → F → F × Int) (x y:F) (up:Bool):valR ((run Tryz.prog EG (OGA f) 100).1 98 [.fl x,.fl y,.b up] [] (some [true])) = some (.tup [.fl (f up x y.neg).1,.si .i64 (f up x y.neg).2],some [],[(!decide (y.k = 0),true),(!decide (y.k = (toF 0).k),true)]) := by kernel_rfl
theorem sub_F_w (x y:F) (up:Bool) (w:World) :
  Calls Tryz.prog 98 #[.float .f64 x.b,.float .f64 y.b,.bool up] w fun e w' => e = .returned (.tuple #[.float .f64 (dSub up x y).1.b,.int .i64 (dSub up x y).2]) ∧ Below w.heap.size w w' := by
 by_cases h:y.k = 0
 ·rw [dSub_zero up x y h]
  exact calls_of_val goodG oracleGA 100 (subRun0 dAdd x y up) (ObsOk.of_B (obsB_yes (by rw [zero_k',h]; rfl) obsB_nil)) rfl rfl w
 ·rw [dSub_neg]
  have e:(!decide (y.k = 0)) = true := by simp [h]
  exact calls_of_val goodG oracleGA 100 (subRun1 dAdd x y up) (ObsOk.of_B (obsB_yes e (obsB_yes (by rw [zero_k']; exact e) obsB_nil))) rfl rfl w
def kMul (f g:Int → Int → Int) (u:Int → Bool):List SV → Dec → Option (SV × Dec × Obs)
 | [x, y], ds => match intS x, intS y with
   | some (.u64,a),some (.u64,b) => some (.tup [.si .u64 (f a b),.si .u64 (g a b)],ds,[(u a,true),(u b,true)])
   | _,_ => none
 | _,_ => none
def mulH (a b:Int):Int := hi (a.toNat * b.toNat)
def mulL (a b:Int):Int := lo (a.toNat * b.toNat)
theorem mulG:PlainOk Tryz.prog 155 (kMul mulH mulL u64B) := by
 intro args ds x ds' ob h ho
 unfold kMul at h
 split at h
 ·rename_i x y
  split at h
  ·rename_i a b ha hb
   simp only [Option.some.injEq,Prod.mk.injEq] at h
   obtain ⟨rfl,rfl,rfl⟩ := h
   have k1 := u64_of (ho (u64B a,true) (by simp))
   have k2 := u64_of (ho (u64B b,true) (by simp))
   obtain ⟨p,rfl⟩ := Int.eq_ofNat_of_zero_le k1.1
   obtain ⟨q,rfl⟩ := Int.eq_ofNat_of_zero_le k2.1
   refine ⟨[.int .u64 p,.int .u64 q],_,plains_cons (intS_plain ha) (plains_cons (intS_plain hb) plains_nil),rfl,fun w => (Tryz.bits_Mul64 p q (by omega) (by omega) w).mono ?_⟩
   rintro e w' ⟨rfl,rfl⟩
   exact ⟨rfl,Below.refl _ _⟩
  ·cases h
 ·cases h
def OGM (K:Kd) (f g:Int → Int → Int):OracleF := lookO [(60,plainO oRight),(154,plainO (kParts K)),(156,plainO (kRound K)),(155,plainO (kMul f g K.u))]
theorem oracleGM:OracleOk Tryz.prog (OGM KR mulH mulL) := .cons rightG.of (.cons partsG.of (.cons roundG.of (.cons mulG.of (.nil _))))
theorem mulRun (K:Kd) (f g:Int → Int → Int) (x y:F) (up p q:Bool):valR ((run Tryz.prog EG (OGM K f g) 100).1 81 [.fl x,.fl y,.b up] [] (some [p,q])) =
  some (.tup [.fl (K.rF (p != q) (f (K.mn x) (K.mn y)) (g (K.mn x) (K.mn y)) false (IntKind.i64.wrap (K.ex x + K.ex y)) up),.si .i64 (K.rI (p != q) (f (K.mn x) (K.mn y)) (g (K.mn x) (K.mn y)) false (IntKind.i64.wrap (K.ex x + K.ex y)) up)],
   some [],rdK K (f (K.mn x) (K.mn y)) (g (K.mn x) (K.mn y)) (IntKind.i64.wrap (K.ex x + K.ex y)) ++ [(K.u (K.mn x),true),(K.u (K.mn y),true),(K.sg y,q),(K.sg x,p)]) := by cases p <;> cases q <;> kernel_rfl
theorem hi_u {n:Nat} (h:n < W128):u64B (hi n) = true := u64_mk (hi_nonneg _) (hi_le _ h)
theorem lo_u (n:Nat):u64B (lo n) = true := u64_mk (lo_nonneg _) (lo_le _)
theorem wn_back (n:Nat):wn (hi n) (lo n) = n := by
 unfold wn hi lo
 rw [Int.toNat_natCast,Int.toNat_natCast]
 omega
theorem mn_mul_lt (x y:F):mn x * mn y < W128 := by
 rw [W128_q]
 exact Nat.mul_lt_mul'' (by have := mn_lt x; omega) (by have := mn_lt y; omega)
theorem mul_F_w (x y:F) (up:Bool) (w:World) :
  Calls Tryz.prog 81 #[.float .f64 x.b,.float .f64 y.b,.bool up] w fun e w' => e = .returned (.tuple #[.float .f64 (dMul up x y).1.b,.int .i64 (dMul up x y).2]) ∧ Below w.heap.size w w' := by
 have h1 := ex_le x
 have h2 := ex_le y
 have he:IntKind.i64.wrap ((ex x:Int) - 1074 + ((ex y:Int) - 1074)) = (ex x:Int) - 1074 + ((ex y:Int) - 1074) := Bu.wrap_small (by omega) (by omega)
 have hH:mulH (KR.mn x) (KR.mn y) = hi (mn x * mn y) := by show hi ((mn x:Int).toNat * (mn y:Int).toNat) = _; rw [Int.toNat_natCast,Int.toNat_natCast]
 have hL:mulL (KR.mn x) (KR.mn y) = lo (mn x * mn y) := by show lo ((mn x:Int).toNat * (mn y:Int).toNat) = _; rw [Int.toNat_natCast,Int.toNat_natCast]
 have hr := mulRun KR mulH mulL x y up (sg x) (sg y)
 rw [show IntKind.i64.wrap (KR.ex x + KR.ex y) = _ from he,hH,hL] at hr
 have hv:rndG (sg x != sg y) (wn (hi (mn x * mn y)) (lo (mn x * mn y))) false ((ex x:Int) - 1074 + ((ex y:Int) - 1074)) up = dMul up x y := by rw [wn_back,rndG_mul]
 rw [← hv]
 refine calls_of_val goodG oracleGM 100 hr (ObsOk.of_B ?_) rfl rfl w
 rw [obsB_app]
 have o1:obsB (rdK KR (hi (mn x * mn y)) (lo (mn x * mn y)) ((ex x:Int) - 1074 + ((ex y:Int) - 1074))) = true :=
  obsB_yes (hi_u (mn_mul_lt x y)) (obsB_yes (lo_u _) (obsB_yes (decide_eq_true (by omega)) obsB_nil))
 have o2:obsB [(KR.u (KR.mn x),true),(KR.u (KR.mn y),true),(KR.sg y,sg y),(KR.sg x,sg x)] = true := obsB_yes (mn_u64 x) (obsB_yes (mn_u64 y) (obsB_yes rfl (obsB_yes rfl obsB_nil)))
 rw [o1,o2]; rfl
end Go.Proofs.YtejcekikbnlllaaGreat
namespace Bu
structure Kn (U u1 y y1 y0 q r:Nat):Prop where
 eq:q * y1 + r = U
 lt:U * 4294967296 + u1 < (q + 1) * y
 le:q ≤ 4294967297
 rl:r < 4294967296
theorem kn_startB {U u1 y y1 b:Nat} (h1:0 < y1) (hy:y1 * b ≤ y) (hu:u1 < b):U * b + u1 < (U / y1 + 1) * y := by
 have hd := Nat.div_add_mod U y1
 have hm := Nat.mod_lt U h1
 have:U + 1 ≤ (U / y1 + 1) * y1 := by rw [Nat.add_mul,Nat.mul_comm]; omega
 have h3:(U + 1) * b ≤ (U / y1 + 1) * y1 * b := Nat.mul_le_mul_right b this
 have h4:(U / y1 + 1) * (y1 * b) ≤ (U / y1 + 1) * y := Nat.mul_le_mul_left _ hy
 rw [Nat.mul_assoc,Nat.add_mul] at h3
 omega
theorem kn_start {U u1 y y1 y0:Nat} (hy:y = y1 * 4294967296 + y0) (h1:2147483648 ≤ y1) (h2:y1 < 4294967296) (h0:y0 < 4294967296) (hU:U < y) (hu:u1 < 4294967296) :
  Kn U u1 y y1 y0 (U / y1) (U % y1) := by
 have hd := Nat.div_add_mod U y1
 have hm := Nat.mod_lt U (show 0 < y1 by omega)
 refine ⟨by rw [Nat.mul_comm]; exact hd,?_,?_,by omega⟩
 ·exact kn_startB (by omega) (by omega) hu
 ·have h5:U / y1 < 4294967298 := by
   rw [Nat.div_lt_iff_lt_mul (by omega)]
   omega
  omega
theorem kn_stay {U u1 y y1 y0 q r:Nat} (hy:y = y1 * 4294967296 + y0) (h:Kn U u1 y y1 y0 q r) (hc:q * y0 ≤ 4294967296 * r + u1):q = (U * 4294967296 + u1) / y := by
 have hy0:0 < y := by
  have := h.lt
  by_cases c:0 < y
  ·exact c
  ·have:y = 0 := by omega
   subst this; omega
 symm
 rw [Nat.div_eq_iff hy0]
 have h1 := h.eq
 have h2 := h.lt
 have e:q * y = q * y1 * 4294967296 + q * y0 := by rw [hy,Nat.mul_add,Nat.mul_assoc]
 have e2:U * 4294967296 = q * y1 * 4294967296 + r * 4294967296 := by rw [← h1,Nat.add_mul]
 rw [Nat.add_mul,Nat.one_mul] at h2
 omega
theorem kn_test {U u1 y y1 y0 q r:Nat} (hy:y = y1 * 4294967296 + y0) (hU:U < y) (hu:u1 < 4294967296) (h:Kn U u1 y y1 y0 q r) (hc:4294967296 ≤ q ∨ 4294967296 * r + u1 < q * y0) :
  U * 4294967296 + u1 < q * y := by
 have h1 := h.eq
 have e:q * y = q * y1 * 4294967296 + q * y0 := by rw [hy,Nat.mul_add,Nat.mul_assoc]
 have e2:U * 4294967296 = q * y1 * 4294967296 + r * 4294967296 := by rw [← h1,Nat.add_mul]
 rcases hc with c | c
 ·have:4294967296 * y ≤ q * y := Nat.mul_le_mul_right _ c
  omega
 ·omega
theorem kn_pos {U u1 y y1 y0 q r:Nat} (hy:y = y1 * 4294967296 + y0) (hU:U < y) (hu:u1 < 4294967296) (h:Kn U u1 y y1 y0 q r) (hc:4294967296 ≤ q ∨ 4294967296 * r + u1 < q * y0):1 ≤ q := by
 have := kn_test hy hU hu h hc
 by_cases c:q = 0
 ·subst c; omega
 ·omega
theorem kn_next {U u1 y y1 y0 q r:Nat} (hy:y = y1 * 4294967296 + y0) (hU:U < y) (hu:u1 < 4294967296) (h:Kn U u1 y y1 y0 q r) (hc:4294967296 ≤ q ∨ 4294967296 * r + u1 < q * y0) (hr:r + y1 < 4294967296) :
  Kn U u1 y y1 y0 (q - 1) (r + y1) := by
 have h1 := h.eq
 have hp := kn_pos hy hU hu h hc
 obtain ⟨t,rfl⟩:∃ t,q = t + 1 := ⟨q - 1,by omega⟩
 have hl := h.le
 refine ⟨?_,?_,by omega,hr⟩
 ·rw [Nat.add_mul] at h1; simp only [Nat.add_sub_cancel]; omega
 ·simp only [Nat.add_sub_cancel]; exact kn_test hy hU hu h hc
theorem kn_break {U u1 y y1 y0 q r:Nat} (hy:y = y1 * 4294967296 + y0) (h0:y0 < 4294967296) (hU:U < y) (hu:u1 < 4294967296) (h:Kn U u1 y y1 y0 q r) (hc:4294967296 ≤ q ∨ 4294967296 * r + u1 < q * y0) (hr:4294967296 ≤ r + y1) :
  q - 1 = (U * 4294967296 + u1) / y := by
 have h1 := h.eq
 have hp := kn_pos hy hU hu h hc
 have ht := kn_test hy hU hu h hc
 obtain ⟨t,rfl⟩:∃ t,q = t + 1 := ⟨q - 1,by omega⟩
 have hl := h.le
 simp only [Nat.add_sub_cancel]
 symm
 rw [Nat.div_eq_iff (by omega)]
 have e:t * y = t * y1 * 4294967296 + t * y0 := by rw [hy,Nat.mul_add,Nat.mul_assoc]
 have e2:U * 4294967296 = t * y1 * 4294967296 + (r + y1) * 4294967296 := by rw [← h1,← Nat.add_mul]; grind
 have e3:t * y0 ≤ 4294967296 * 4294967295 := Nat.mul_le_mul (by omega) (by omega)
 rw [Nat.add_mul,Nat.one_mul] at ht
 omega
theorem kn_norm {h l y s:Nat} (hs:s ≤ 63) (hy:h < y) (hY:y * 2 ^ s < 18446744073709551616) (hl:l < 18446744073709551616) :
  (h * 2 ^ s + l / 2 ^ (64 - s)) * 18446744073709551616 + l * 2 ^ s % 18446744073709551616 = (h * 18446744073709551616 + l) * 2 ^ s
  ∧ h * 2 ^ s + l / 2 ^ (64 - s) < y * 2 ^ s ∧ h * 2 ^ s < 18446744073709551616 ∧ l / 2 ^ (64 - s) < 2 ^ s := by
 obtain ⟨a,b,c,d,e⟩ := up_parts h l s (by omega) hl
 have hlt:h * 2 ^ s + 2 ^ s ≤ y * 2 ^ s := by
  have := Nat.mul_le_mul_right (2 ^ s) (show h + 1 ≤ y by omega)
  rw [Nat.add_mul,Nat.one_mul] at this
  exact this
 have hpos := Nat.two_pow_pos s
 rw [W128_eq] at a b
 rw [Nat.mod_eq_of_lt (show h * 2 ^ s < 18446744073709551616 by omega)] at a e
 have hlim:(h * 18446744073709551616 + l) * 2 ^ s < 340282366920938463463374607431768211456 := by
  have h1:h * 18446744073709551616 + l < (h + 1) * 18446744073709551616 := by omega
  have h2 := Nat.mul_lt_mul_of_pos_right h1 hpos
  have h3:(h + 1) * 18446744073709551616 * 2 ^ s = (h * 2 ^ s + 2 ^ s) * 18446744073709551616 := by grind
  omega
 rw [Nat.mod_eq_of_lt hlim] at a b
 refine ⟨?_,by omega,by omega,d⟩
 rw [← a,← b]
 exact Nat.div_add_mod' _ _
theorem kn_bothB {U u1 u0 y q1 q0 R b:Nat} (hy:0 < y) (hU:U < y) (h1:u1 < b) (h0:u0 < b) (hq1:q1 = (U * b + u1) / y) (hR:R = (U * b + u1) % y) (hq0:q0 = (R * b + u0) / y) :
  q1 * b + q0 = (U * (b * b) + (u1 * b + u0)) / y ∧ (R * b + u0) % y = (U * (b * b) + (u1 * b + u0)) % y ∧ q1 < b ∧ q0 < b := by
 have hd := Nat.div_add_mod (U * b + u1) y
 have hm := Nat.mod_lt (U * b + u1) hy
 rw [← hq1,← hR] at hd
 rw [← hR] at hm
 have hd0 := Nat.div_add_mod (R * b + u0) y
 have hm0 := Nat.mod_lt (R * b + u0) hy
 rw [← hq0] at hd0
 have l1:U * b + u1 < y * b := by
  have:(U + 1) * b ≤ y * b := Nat.mul_le_mul_right _ (by omega)
  rw [Nat.add_mul] at this; omega
 have l0:R * b + u0 < y * b := by
  have:(R + 1) * b ≤ y * b := Nat.mul_le_mul_right _ (by omega)
  rw [Nat.add_mul] at this; omega
 generalize (R * b + u0) % y = r0 at *
 have e:U * (b * b) + (u1 * b + u0) = y * (q1 * b + q0) + r0 := by
  have:U * (b * b) + (u1 * b + u0) = (U * b + u1) * b + u0 := by grind
  rw [this,← hd,Nat.add_mul,Nat.add_assoc,← hd0]
  grind
 rw [e]
 refine ⟨?_,?_,?_,?_⟩
 ·rw [Nat.mul_add_div hy,Nat.div_eq_of_lt hm0]; omega
 ·rw [Nat.mul_add_mod,Nat.mod_eq_of_lt hm0]
 ·rw [hq1,Nat.div_lt_iff_lt_mul hy,Nat.mul_comm b]; exact l1
 ·rw [hq0,Nat.div_lt_iff_lt_mul hy,Nat.mul_comm b]; exact l0
theorem kn_both {U u1 u0 y q1 q0 R:Nat} (hy:0 < y) (hU:U < y) (h1:u1 < 4294967296) (h0:u0 < 4294967296) (hq1:q1 = (U * 4294967296 + u1) / y) (hR:R = (U * 4294967296 + u1) % y) (hq0:q0 = (R * 4294967296 + u0) / y) :
  q1 * 4294967296 + q0 = (U * 18446744073709551616 + (u1 * 4294967296 + u0)) / y ∧ (R * 4294967296 + u0) % y = (U * 18446744073709551616 + (u1 * 4294967296 + u0)) % y ∧ q1 < 4294967296 ∧ q0 < 4294967296 :=
 kn_bothB hy hU h1 h0 hq1 hR hq0
open Go in
theorem kn_pack (h l y:Nat) (hy:h < y) (hy2:y < 18446744073709551616) (hl:l < 18446744073709551616):∃ s Y U L y1 y0 u1 u0:Nat,
  64 - blen y = s ∧ s ≤ 63 ∧ IntKind.u64.wrap ((y:Int) * 2 ^ s) = Y ∧ bits BinOp.or IntKind.u64 (IntKind.u64.wrap ((h:Int) * 2 ^ s)) ((l:Int) / 2 ^ (64 - s)) = U ∧
  IntKind.u64.wrap ((l:Int) * 2 ^ s) = L ∧ (Y:Int) / 4294967296 = y1 ∧ bits BinOp.and IntKind.u64 (Y:Int) 4294967295 = y0 ∧ (L:Int) / 4294967296 = u1 ∧ bits BinOp.and IntKind.u64 (L:Int) 4294967295 = u0 ∧
  Y = y1 * 4294967296 + y0 ∧ 2147483648 ≤ y1 ∧ y1 < 4294967296 ∧ y0 < 4294967296 ∧ u1 < 4294967296 ∧ u0 < 4294967296 ∧ U < Y ∧ U * 18446744073709551616 + (u1 * 4294967296 + u0) = (h * 18446744073709551616 + l) * 2 ^ s ∧ Y = y * 2 ^ s ∧ Y < 18446744073709551616 := by
 have hb1 := lt_blen y
 have hb2:blen y ≤ 64 := blen_le hy2
 have hy0:y ≠ 0 := by omega
 have hb3:blen y = y.log2 + 1 := by unfold blen; rw [if_neg hy0]
 have hb4 := Nat.log2_self_le hy0
 obtain ⟨s,hs⟩:∃ s,64 - blen y = s := ⟨_,rfl⟩
 have hs63:s ≤ 63 := by omega
 have hpos := Nat.two_pow_pos s
 have hY1:y * 2 ^ s < 18446744073709551616 := by
  have := Nat.mul_lt_mul_of_pos_right hb1 hpos
  rw [← Nat.pow_add,show blen y + s = 64 from by omega] at this
  exact this
 have hY2:9223372036854775808 ≤ y * 2 ^ s := by
  have := Nat.mul_le_mul_right (2 ^ s) hb4
  rw [← Nat.pow_add,show y.log2 + s = 63 from by omega] at this
  exact this
 obtain ⟨n1,n2,n3,n4⟩ := kn_norm hs63 hy hY1 hl
 have hmod:h * 2 ^ s % 2 ^ s = 0 := Nat.mul_mod_left _ _
 have a1:IntKind.u64.wrap ((y:Int) * 2 ^ s) = ((y * 2 ^ s:Nat):Int) := by
  have e:(y:Int) * 2 ^ s = ((y * 2 ^ s:Nat):Int) := by simp
  rw [e,IntKind.wrap_u64]; omega
 have a2:IntKind.u64.wrap ((h:Int) * 2 ^ s) = ((h * 2 ^ s:Nat):Int) := by
  have e:(h:Int) * 2 ^ s = ((h * 2 ^ s:Nat):Int) := by simp
  rw [e,IntKind.wrap_u64]; omega
 have a3:(l:Int) / 2 ^ (64 - s) = ((l / 2 ^ (64 - s):Nat):Int) := by simp
 have a4:IntKind.u64.wrap ((l:Int) * 2 ^ s) = ((l * 2 ^ s % 18446744073709551616:Nat):Int) := by
  have e:(l:Int) * 2 ^ s = ((l * 2 ^ s:Nat):Int) := by simp
  rw [e,IntKind.wrap_u64]; omega
 have hLlt:l * 2 ^ s % 18446744073709551616 < 18446744073709551616 := Nat.mod_lt _ (by omega)
 have hUlt:h * 2 ^ s + l / 2 ^ (64 - s) < 18446744073709551616 := by omega
 have hlq:l / 2 ^ (64 - s) < 18446744073709551616 := by omega
 have b2:bits BinOp.or IntKind.u64 ((h * 2 ^ s:Nat):Int) ((l / 2 ^ (64 - s):Nat):Int) = ((h * 2 ^ s + l / 2 ^ (64 - s):Nat):Int) := by
  rw [u64_or_nat _ _ n3 hlq,nat_join s _ _ hmod n4]
 have mask:∀ x:Nat,x < 18446744073709551616 → bits BinOp.and IntKind.u64 (x:Int) 4294967295 = ((x % 4294967296:Nat):Int) := by
  intro x hx
  have := and_mask x 32 hx (by omega)
  exact this
 generalize h * 2 ^ s + l / 2 ^ (64 - s) = U at *
 generalize l * 2 ^ s % 18446744073709551616 = L at *
 refine ⟨s,y * 2 ^ s,U,L,y * 2 ^ s / 4294967296,y * 2 ^ s % 4294967296,L / 4294967296,L % 4294967296,hs,hs63,a1,by rw [a2,a3,b2],a4,by omega,mask _ hY1,by omega,mask _ hLlt,?_,?_,?_,?_,?_,?_,n2,?_,rfl,hY1⟩
 ·omega
 ·omega
 ·omega
 ·omega
 ·omega
 ·omega
 ·rw [← n1]; omega
theorem kn_final {h l y s Y U u1 u0 q1 R q0:Nat} (hy:0 < y) (hY:Y = y * 2 ^ s) (hU:U < Y) (hD:U * 18446744073709551616 + (u1 * 4294967296 + u0) = (h * 18446744073709551616 + l) * 2 ^ s)
  (h1:u1 < 4294967296) (h0:u0 < 4294967296) (hq1:q1 = (U * 4294967296 + u1) / Y) (hR:R = (U * 4294967296 + u1) % Y) (hq0:q0 = (R * 4294967296 + u0) / Y) :
  q1 * 4294967296 + q0 = (h * 18446744073709551616 + l) / y ∧ (R * 4294967296 + u0) % Y / 2 ^ s = (h * 18446744073709551616 + l) % y ∧ q1 < 4294967296 ∧ q0 < 4294967296 := by
 have hpos := Nat.two_pow_pos s
 have hYp:0 < Y := by rw [hY]; exact Nat.mul_pos hy hpos
 obtain ⟨a,b,c,d⟩ := kn_both hYp hU h1 h0 hq1 hR hq0
 refine ⟨?_,?_,c,d⟩
 ·rw [a,hD,hY,Nat.mul_div_mul_right _ _ hpos]
 ·rw [b,hD,hY,Nat.mul_mod_mul_right,Nat.mul_div_cancel _ hpos]
end Bu
namespace Go.Proofs.YtejcekikbnlllaaGreat
open Go.RowKit Bu
theorem lz_w (n:Nat) (w:World) (h:(n:Int) ≤ 18446744073709551615) :
  Calls Tryz.prog 163 #[.int .u64 n] w fun e w' => e = .returned (.int .i64 (64 - (blen n:Int))) ∧ w = w' :=
 (Tryz.bits_LeadingZeros64 n w (by omega) h).mono fun e w' ⟨h1,h2⟩ => ⟨by rw [h1,Int.toNat_natCast,lib_blen n (by omega)],h2.symm⟩
set_option maxRecDepth 100000 in
set_option maxHeartbeats 1000000 in
theorem div64_zero (l y:Nat) (hy:0 < (y:Int)) (hl:(l:Int) ≤ 18446744073709551615) (w:World) :
  Calls Tryz.prog 219 #[.int .u64 0,.int .u64 l,.int .u64 y] w fun e w' => e = .returned (.tuple #[.int .u64 ((l / y:Nat):Int),.int .u64 ((l % y:Nat):Int)]) ∧ Below w.heap.size w w' := by
 have hy1:(1:Int) ≤ y := by omega
 have T1:((y:Int) == 0) = false := by rw [beq_eq_false_iff_ne]; omega
 have T2:¬ ((y:Int) ≤ 0) := by omega
 have E1:IntKind.u64.wrap ((l:Int) / y) = ((l / y:Nat):Int) := by
  have h := Nat.div_le_self l y
  rw [← Int.natCast_ediv,IntKind.wrap_u64]
  generalize l / y = q at *
  omega
 have H1 := Lib.hid E1
 clear E1
 go_enter Tryz.func219,Tryz.ntmps219
 go_wp2
 go_quiet (fail)
 go_wp2
 go_ret2
 refine ⟨ret_tup ?_,below_drewN (Below.refl _ _) _⟩
 rw [← H1.out,Int.natCast_emod]
 rfl
theorem val_u64 {a:Int} {b:Nat} (h:a = b):Value.int .u64 a = .int .u64 b := by rw [h]
theorem lz_s (n s:Nat) (hs:64 - blen n = s) (w:World) (h:(n:Int) ≤ 18446744073709551615) :
  Calls Tryz.prog 163 #[.int .u64 n] w fun e w' => e = .returned (.int .i64 s) ∧ w = w' :=
 (lz_w n w h).mono fun e w' ⟨h1,h2⟩ => ⟨by rw [h1]; have:blen n ≤ 64 := blen_le (by omega); exact ret_int (by omega),h2⟩
set_option maxRecDepth 100000 in
set_option maxHeartbeats 1000000 in
theorem div64_pos (h l y:Nat) (hh:0 < (h:Int)) (hy:(h:Int) < y) (hy2:(y:Int) ≤ 18446744073709551615) (hl:(l:Int) ≤ 18446744073709551615) (w:World) :
  Calls Tryz.prog 219 #[.int .u64 h,.int .u64 l,.int .u64 y] w fun e w' => e = .returned (.tuple #[.int .u64 (((h * 18446744073709551616 + l) / y:Nat):Int),.int .u64 (((h * 18446744073709551616 + l) % y:Nat):Int)]) ∧ w = w' := by
 have T1:((y:Int) == 0) = false := by rw [beq_eq_false_iff_ne]; omega
 have T3:((h:Int) == 0) = false := by rw [beq_eq_false_iff_ne]; omega
 have T4:¬ (y:Int) ≤ h := by omega
 obtain ⟨s,Y,U,L,y1,y0,u1,u0,g1,g2,e1,e2,e3,e4,e5,e6,e7,p1,p2,p3,p4,p5,p6,p7,p8,p9,p10⟩ := kn_pack h l y (by omega) (by omega) (by omega)
 have G1 := Lib.hid g1
 have P1 := Lib.hid (show Y = y1 * 4294967296 + y0 ∧ y0 < 4294967296 ∧ U < Y from ⟨p1,p4,p7⟩)
 have P8 := Lib.hid p8
 have P9 := Lib.hid p9
 have i1:(2147483648:Int) ≤ y1 := by omega
 have i2:(y1:Int) < 4294967296 := by omega
 have i3:(y0:Int) < 4294967296 := by omega
 have i4:(u1:Int) < 4294967296 := by omega
 have i5:(u0:Int) < 4294967296 := by omega
 have i6:(U:Int) < Y := by omega
 have i7:(Y:Int) ≤ 18446744073709551615 := by omega
 have i8:(s:Int) ≤ 63 := by omega
 have ks := kn_start p1 p2 p3 p4 p7 p5
 have z1:((y1:Int) == 0) = false := by rw [beq_eq_false_iff_ne]; omega
 have f1:(U:Int) / y1 = ((U / y1:Nat):Int) := by simp
 generalize U / y1 = qa at *
 generalize U % y1 = ra at *
 have f2:(U:Int) - (qa:Int) * y1 = ra := by have := ks.eq; rw [← Int.natCast_mul]; omega
 have f3:(0:Int) ≤ (qa:Int) * y1 := by rw [← Int.natCast_mul]; omega
 have f4:(qa:Int) * y1 ≤ 18446744073709551615 := by have := ks.eq; rw [← Int.natCast_mul]; omega
 have f5:(qa:Int) ≤ 4294967297 := by have := ks.le; omega
 have f6:(ra:Int) < 4294967296 := by have := ks.rl; omega
 have KS := Lib.hid ks
 clear g1 p1 p2 p3 p4 p5 p6 p7 p8 p9 p10 g2 ks
 go_enter Tryz.func219,Tryz.ntmps219
 go_upto_block 0 with (go_at_call 163; refine (lz_s _ _ G1.out _ (by omega)).mono ?_; rintro e w' ⟨rfl,rfl⟩)
 go_cut [15,16] (fun q r wx => q = .int .u64 (((U * 4294967296 + u1) / Y:Nat):Int) ∧ (∃ t:Int,r = .int .u64 t) ∧ w = wx)
 case first =>
  go_wp2
  go_loop [15,16] (fun q r => ∃ qn rn:Nat,Kn U u1 Y y1 y0 qn rn ∧ q = .int .u64 qn ∧ r = .int .u64 rn) (fun q _ => (intOf q).toNat)
  case atStart => exact ⟨qa,ra,KS.out,rfl,rfl⟩
  case round =>
   obtain ⟨qn,rn,hk,rfl,rfl⟩ := hrel
   have j1 := hk.le
   have j2 := hk.rl
   have v1:(qn:Int) ≤ 4294967297 := by omega
   have v2:(rn:Int) < 4294967296 := by omega
   have v3:(0:Int) ≤ (qn:Int) * y0 := by rw [← Int.natCast_mul]; omega
   have v4:(qn:Int) * y0 ≤ 18446744073709551615 := by
    have := Nat.mul_le_mul (show qn ≤ 4294967297 by omega) (show y0 ≤ 4294967295 by omega)
    rw [← Int.natCast_mul]; omega
   have KN := Lib.hid hk
   clear hk j1 j2
   by_cases c1:(4294967296:Int) ≤ qn
   ·have hc := Lib.hid (show 4294967296 ≤ qn ∨ 4294967296 * rn + u1 < qn * y0 from Or.inl (by omega))
    have hq1:(1:Int) ≤ qn := by omega
    by_cases c3:(4294967296:Int) ≤ (rn:Int) + y1
    ·have hX := Lib.hid (kn_break P1.out.1 P1.out.2.1 P1.out.2.2 (by omega) KN.out hc.out (by omega))
     go_wp2
     go_meet
     case rel => exact ⟨by rw [← hX.out]; exact val_u64 (by omega),⟨_,rfl⟩,rfl⟩
    ·have hX := Lib.hid (kn_next P1.out.1 (by omega) (by omega) KN.out hc.out (show rn + y1 < 4294967296 by omega))
     go_wp2
     go_round
     case rel => exact ⟨qn - 1,rn + y1,hX.out,val_u64 (by omega),val_u64 (by omega)⟩
     case measure => simp [intOf]; omega
   ·by_cases c2:(4294967296:Int) * rn + u1 < (qn:Int) * y0
    ·have hc := Lib.hid (show 4294967296 ≤ qn ∨ 4294967296 * rn + u1 < qn * y0 from Or.inr (by rw [← Int.natCast_mul] at c2; omega))
     have hq1:(1:Int) ≤ qn := by have := kn_pos P1.out.1 (by omega) (by omega) KN.out hc.out; omega
     by_cases c3:(4294967296:Int) ≤ (rn:Int) + y1
     ·have hX := Lib.hid (kn_break P1.out.1 P1.out.2.1 P1.out.2.2 (by omega) KN.out hc.out (by omega))
      go_wp2
      go_meet
      case rel => exact ⟨by rw [← hX.out]; exact val_u64 (by omega),⟨_,rfl⟩,rfl⟩
     ·have hX := Lib.hid (kn_next P1.out.1 (by omega) (by omega) KN.out hc.out (show rn + y1 < 4294967296 by omega))
      go_wp2
      go_round
      case rel => exact ⟨qn - 1,rn + y1,hX.out,val_u64 (by omega),val_u64 (by omega)⟩
      case measure => simp [intOf]; omega
    ·have hX := Lib.hid (kn_stay P1.out.1 KN.out (by rw [← Int.natCast_mul] at c2; omega))
     go_wp2
     go_meet
     case rel => exact ⟨by rw [← hX.out],⟨_,rfl⟩,rfl⟩
 case rest =>
  obtain ⟨rfl,⟨t,rfl⟩,rfl⟩ := hcut
  have hYp:0 < Y := by omega
  have hdm := Nat.div_add_mod (U * 4294967296 + u1) Y
  have hml := Nat.mod_lt (U * 4294967296 + u1) hYp
  have HQ1 := Lib.hid (rfl:(U * 4294967296 + u1) / Y = (U * 4294967296 + u1) / Y)
  have HR1 := Lib.hid (rfl:(U * 4294967296 + u1) % Y = (U * 4294967296 + u1) % Y)
  obtain ⟨q1,hq1⟩:∃ q,q = (U * 4294967296 + u1) / Y := ⟨_,rfl⟩
  obtain ⟨R,hR⟩:∃ q,q = (U * 4294967296 + u1) % Y := ⟨_,rfl⟩
  rw [← hq1,← hR] at hdm
  rw [← hR] at hml
  rw [← hq1]
  have e21:IntKind.u64.wrap (IntKind.u64.wrap (IntKind.u64.wrap ((U:Int) * 4294967296) + u1) - IntKind.u64.wrap ((q1:Int) * Y)) = R := by
   rw [← Int.natCast_mul,Nat.mul_comm q1 Y]
   simp only [IntKind.wrap_u64]
   omega
  have kb := kn_start P1.out.1 (by omega) (by omega) P1.out.2.1 hml (show u0 < 4294967296 by omega)
  have l1:(R:Int) / y1 = ((R / y1:Nat):Int) := by simp
  obtain ⟨qb,hqb⟩:∃ q,q = R / y1 := ⟨_,rfl⟩
  obtain ⟨rb,hrb⟩:∃ q,q = R % y1 := ⟨_,rfl⟩
  rw [← hqb] at kb l1
  rw [← hrb] at kb
  have l2:(R:Int) - (qb:Int) * y1 = rb := by have := kb.eq; rw [← Int.natCast_mul]; omega
  have l3:(0:Int) ≤ (qb:Int) * y1 := by rw [← Int.natCast_mul]; omega
  have l4:(qb:Int) * y1 ≤ 18446744073709551615 := by have := kb.eq; rw [← Int.natCast_mul]; omega
  have l5:(qb:Int) ≤ 4294967297 := by have := kb.le; omega
  have l6:(rb:Int) < 4294967296 := by have := kb.rl; omega
  have l7:(R:Int) < Y := by omega
  have KB := Lib.hid kb
  have FQ1 := Lib.hid hq1
  have FR := Lib.hid hR
  have P2 := Lib.hid (show Y = y1 * 4294967296 + y0 ∧ y0 < 4294967296 ∧ R < Y from ⟨P1.out.1,P1.out.2.1,hml⟩)
  clear f1 f2 f3 f4 f5 f6 KS kb hqb hrb hq1 hR hdm hml HQ1 HR1 P1
  obtain ⟨P1⟩:Nonempty (Hid (Y = y1 * 4294967296 + y0 ∧ y0 < 4294967296 ∧ R < Y)) := ⟨P2⟩
  go_upto_block 2 with fail
  go_cut [18,16] (fun q r wx => q = .int .u64 (((R * 4294967296 + u0) / Y:Nat):Int) ∧ (∃ t:Int,r = .int .u64 t) ∧ w = wx)
  case first =>
   go_wp2
   go_loop [18,16] (fun q r => ∃ qn rn:Nat,Kn R u0 Y y1 y0 qn rn ∧ q = .int .u64 qn ∧ r = .int .u64 rn) (fun q _ => (intOf q).toNat)
   case atStart => exact ⟨qb,rb,KB.out,rfl,rfl⟩
   case round =>
    obtain ⟨qn,rn,hk,rfl,rfl⟩ := hrel
    have j1 := hk.le
    have j2 := hk.rl
    have v1:(qn:Int) ≤ 4294967297 := by omega
    have v2:(rn:Int) < 4294967296 := by omega
    have v3:(0:Int) ≤ (qn:Int) * y0 := by rw [← Int.natCast_mul]; omega
    have v4:(qn:Int) * y0 ≤ 18446744073709551615 := by
     have := Nat.mul_le_mul (show qn ≤ 4294967297 by omega) (show y0 ≤ 4294967295 by omega)
     rw [← Int.natCast_mul]; omega
    have KN := Lib.hid hk
    clear hk j1 j2
    by_cases c1:(4294967296:Int) ≤ qn
    ·have hc := Lib.hid (show 4294967296 ≤ qn ∨ 4294967296 * rn + u0 < qn * y0 from Or.inl (by omega))
     have hq1:(1:Int) ≤ qn := by omega
     by_cases c3:(4294967296:Int) ≤ (rn:Int) + y1
     ·have hX := Lib.hid (kn_break P1.out.1 P1.out.2.1 P1.out.2.2 (by omega) KN.out hc.out (by omega))
      go_wp2
      go_meet
      case rel => exact ⟨by rw [← hX.out]; exact val_u64 (by omega),⟨_,rfl⟩,rfl⟩
     ·have hX := Lib.hid (kn_next P1.out.1 (by omega) (by omega) KN.out hc.out (show rn + y1 < 4294967296 by omega))
      go_wp2
      go_round
      case rel => exact ⟨qn - 1,rn + y1,hX.out,val_u64 (by omega),val_u64 (by omega)⟩
      case measure => simp [intOf]; omega
    ·by_cases c2:(4294967296:Int) * rn + u0 < (qn:Int) * y0
     ·have hc := Lib.hid (show 4294967296 ≤ qn ∨ 4294967296 * rn + u0 < qn * y0 from Or.inr (by rw [← Int.natCast_mul] at c2; omega))
      have hq1:(1:Int) ≤ qn := by have := kn_pos P1.out.1 (by omega) (by omega) KN.out hc.out; omega
      by_cases c3:(4294967296:Int) ≤ (rn:Int) + y1
      ·have hX := Lib.hid (kn_break P1.out.1 P1.out.2.1 P1.out.2.2 (by omega) KN.out hc.out (by omega))
       go_wp2
       go_meet
       case rel => exact ⟨by rw [← hX.out]; exact val_u64 (by omega),⟨_,rfl⟩,rfl⟩
      ·have hX := Lib.hid (kn_next P1.out.1 (by omega) (by omega) KN.out hc.out (show rn + y1 < 4294967296 by omega))
       go_wp2
       go_round
       case rel => exact ⟨qn - 1,rn + y1,hX.out,val_u64 (by omega),val_u64 (by omega)⟩
       case measure => simp [intOf]; omega
     ·have hX := Lib.hid (kn_stay P1.out.1 KN.out (by rw [← Int.natCast_mul] at c2; omega))
      go_wp2
      go_meet
      case rel => exact ⟨by rw [← hX.out],⟨_,rfl⟩,rfl⟩
  case rest =>
   obtain ⟨rfl,⟨t,rfl⟩,rfl⟩ := hcut
   have hdm := Nat.div_add_mod (R * 4294967296 + u0) Y
   have hml := Nat.mod_lt (R * 4294967296 + u0) hYp
   obtain ⟨q0,hq0⟩:∃ q,q = (R * 4294967296 + u0) / Y := ⟨_,rfl⟩
   obtain ⟨R0,hR0⟩:∃ q,q = (R * 4294967296 + u0) % Y := ⟨_,rfl⟩
   obtain ⟨m1,m2,m3,m4⟩ := kn_final (show 0 < y by omega) P9.out (show U < Y by omega) P8.out (show u1 < 4294967296 by omega) (show u0 < 4294967296 by omega) FQ1.out FR.out hq0
   rw [← hq0,← hR0] at hdm
   rw [← hR0] at hml m2
   rw [← hq0]
   have e22:IntKind.u64.wrap (IntKind.u64.wrap (IntKind.u64.wrap ((R:Int) * 4294967296) + u0) - IntKind.u64.wrap ((q0:Int) * Y)) = R0 := by
    rw [← Int.natCast_mul,Nat.mul_comm q0 Y]
    simp only [IntKind.wrap_u64]
    omega
   have n1:(q1:Int) < 4294967296 := by omega
   have n2:(q0:Int) < 4294967296 := by omega
   have M1 := Lib.hid (show (q1:Int) * 4294967296 + q0 = (((h * 18446744073709551616 + l) / y:Nat):Int) from by rw [← m1]; omega)
   have M2 := Lib.hid (show (R0:Int) / 2 ^ s = (((h * 18446744073709551616 + l) % y:Nat):Int) from by rw [← m2]; simp)
   clear m1 m2 m3 m4 hdm hml hq0 hR0 l1 l2 l3 l4 l5 l6 KB
   go_wp2_with fail
   go_ret2
   refine ⟨?_,rfl⟩
   rw [← M1.out,← M2.out]
   exact ret_tup rfl
end Go.Proofs.YtejcekikbnlllaaGreat
namespace Go.Proofs.YtejcekikbnlllaaGreat
open Go.RowKit Bu Rx
def kLz (L:Int → Int) (u:Int → Bool):List SV → Dec → Option (SV × Dec × Obs)
 | [x], ds => match intS x with
   | some (.u64,a) => some (.si .i64 (L a),ds,[(u a,true)])
   | _ => none
 | _,_ => none
def kDiv (q r:Int → Int → Int → Int) (c:Int → Int → Int → Bool):List SV → Dec → Option (SV × Dec × Obs)
 | [x, y, z], ds => match intS x, intS y, intS z with
   | some (.u64,h),some (.u64,l),some (.u64,y) => some (.tup [.si .u64 (q h l y),.si .u64 (r h l y)],ds,[(c h l y,true)])
   | _,_,_ => none
 | _,_ => none
def lzI (a:Int):Int := 64 - (blen a.toNat:Int)
def dqI (h l y:Int):Int := ((h.toNat * 18446744073709551616 + l.toNat) / y.toNat:Nat)
def drI (h l y:Int):Int := ((h.toNat * 18446744073709551616 + l.toNat) % y.toNat:Nat)
def dcI (h l y:Int):Bool := decide (0 < h ∧ h < y ∧ y ≤ 18446744073709551615 ∧ 0 ≤ l ∧ l ≤ 18446744073709551615)
theorem lzG:PlainOk Tryz.prog 163 (kLz lzI u64B) := by
 intro args ds x ds' ob h ho
 unfold kLz at h
 split at h
 ·rename_i x
  split at h
  ·rename_i a ha
   simp only [Option.some.injEq,Prod.mk.injEq] at h
   obtain ⟨rfl,rfl,rfl⟩ := h
   have k1 := u64_of (ho (u64B a,true) (by simp))
   obtain ⟨p,rfl⟩ := Int.eq_ofNat_of_zero_le k1.1
   refine ⟨[.int .u64 p],_,plains_cons (intS_plain ha) plains_nil,rfl,fun w => (lz_w p w k1.2).mono ?_⟩
   rintro e w' ⟨rfl,rfl⟩
   exact ⟨rfl,Below.refl _ _⟩
  ·cases h
 ·cases h
theorem divG:PlainOk Tryz.prog 219 (kDiv dqI drI dcI) := by
 intro args ds x ds' ob h ho
 unfold kDiv at h
 split at h
 ·rename_i x y z
  split at h
  ·rename_i a b c ha hb hc
   simp only [Option.some.injEq,Prod.mk.injEq] at h
   obtain ⟨rfl,rfl,rfl⟩ := h
   have k1 := of_decide_eq_true (ho (dcI a b c,true) (by simp))
   obtain ⟨p,rfl⟩ := Int.eq_ofNat_of_zero_le (show 0 ≤ a by omega)
   obtain ⟨q,rfl⟩ := Int.eq_ofNat_of_zero_le (show 0 ≤ b by omega)
   obtain ⟨r,rfl⟩ := Int.eq_ofNat_of_zero_le (show 0 ≤ c by omega)
   refine ⟨[.int .u64 p,.int .u64 q,.int .u64 r],_,plains_cons (intS_plain ha) (plains_cons (intS_plain hb) (plains_cons (intS_plain hc) plains_nil)),rfl,fun w => (div64_pos p q r k1.1 k1.2.1 k1.2.2.1 k1.2.2.2.2 w).mono ?_⟩
   rintro e w' ⟨rfl,rfl⟩
   exact ⟨rfl,Below.refl _ _⟩
  ·cases h
 ·cases h
def OGD (K:Kd) (L:Int → Int) (q r:Int → Int → Int → Int) (c:Int → Int → Int → Bool):OracleF :=
 lookO [(60,plainO oRight),(154,plainO (kParts K)),(156,plainO (kRound K)),(163,plainO (kLz L K.u)),(219,plainO (kDiv q r c))]
theorem oracleGD:OracleOk Tryz.prog (OGD KR lzI dqI drI dcI) := .cons rightG.of (.cons partsG.of (.cons roundG.of (.cons lzG.of (.cons divG.of (.nil _)))))
def nA (K:Kd) (L:Int → Int) (x:F):Int := IntKind.u64.wrap (K.mn x * 2 ^ min (L (K.mn x)).toNat IntKind.u64.bits)
def nH (K:Kd) (L:Int → Int) (x:F):Int := (nA K L x).fdiv (2 ^ min (Int.toNat 1) IntKind.u64.bits)
def nL (K:Kd) (L:Int → Int) (x:F):Int := IntKind.u64.wrap (nA K L x * 2 ^ min (Int.toNat 63) IntKind.u64.bits)
def nE (K:Kd) (L:Int → Int) (x y:F):Int := IntKind.i64.wrap (IntKind.i64.wrap (IntKind.i64.wrap (K.ex x - L (K.mn x)) - IntKind.i64.wrap (K.ex y - L (K.mn y))) - 63)
def obD (K:Kd) (L:Int → Int) (q r:Int → Int → Int → Int) (c:Int → Int → Int → Bool) (x y:F) (s t d:Bool):Obs :=
 [(K.u 0,true),(K.u (q (nH K L x) (nL K L x) (nA K L y)),true),(K.re (nE K L x y),true),(decide (r (nH K L x) (nL K L x) (nA K L y) > 0),d),(c (nH K L x) (nL K L x) (nA K L y),true),
   (decide (0 ≤ L (K.mn y)),true),(decide (0 ≤ L (K.mn x)),true),(K.u (K.mn y),true),(K.u (K.mn x),true),(K.sg y,t),(K.sg x,s),(decide (x.k = (toF 0).k),false),(decide (y.k = (toF 0).k),false)]
theorem divRun (K:Kd) (L:Int → Int) (q r:Int → Int → Int → Int) (c:Int → Int → Int → Bool) (x y:F) (up s t d:Bool):valR ((run Tryz.prog EG (OGD K L q r c) 100).1 141 [.fl x,.fl y,.b up] [] (some [false,false,s,t,d])) =
  some (.tup [.fl (K.rF (s != t) 0 (q (nH K L x) (nL K L x) (nA K L y)) d (nE K L x y) up),.si .i64 (K.rI (s != t) 0 (q (nH K L x) (nL K L x) (nA K L y)) d (nE K L x y) up)],some [],obD K L q r c x y s t d) := by
 cases s <;> cases t <;> cases d <;> kernel_rfl
theorem divRun0 (K:Kd) (L:Int → Int) (q r:Int → Int → Int → Int) (c:Int → Int → Int → Bool) (x y:F) (up:Bool):valR ((run Tryz.prog EG (OGD K L q r c) 100).1 141 [.fl x,.fl y,.b up] [] (some [true])) =
  some (.tup [.fl (toF 0),.i .i64 11],some [],[(decide (y.k = (toF 0).k),true)]) := by kernel_rfl
theorem divRunZ (K:Kd) (L:Int → Int) (q r:Int → Int → Int → Int) (c:Int → Int → Int → Bool) (x y:F) (up:Bool):valR ((run Tryz.prog EG (OGD K L q r c) 100).1 141 [.fl x,.fl y,.b up] [] (some [false,true])) =
  some (.tup [.fl (toF 0),.i .i64 0],some [],[(decide (x.k = (toF 0).k),true),(decide (y.k = (toF 0).k),false)]) := by kernel_rfl
structure DivFacts (x y:F):Prop where
 lx:lzI (mn x) = nlz (mn x)
 a:nA KR lzI x = divM x
 b:nA KR lzI y = divM y
 h:nH KR lzI x = ((divM x / 2:Nat):Int)
 l:nL KR lzI x = ((divM x * 9223372036854775808 % 18446744073709551616:Nat):Int)
 e:nE KR lzI x y = divE x y
 r:-5000 ≤ divE x y ∧ divE x y ≤ 5000
theorem lzI_mn (x:F):lzI (mn x) = nlz (mn x) := by
 have := blen_mn x
 unfold lzI nlz
 rw [Int.toNat_natCast]; omega
theorem nA_eq {x:F} (h:x.k ≠ 0):nA KR lzI x = divM x := by
 have hb := norm_bounds (mn_pos h) (mn_64 x)
 have e1:min (lzI (KR.mn x)).toNat IntKind.u64.bits = nlz (mn x) := by
  show min (lzI (mn x)).toNat 64 = _
  rw [lzI_mn,Int.toNat_natCast]
  exact Nat.min_eq_left (nlz_le _)
 unfold nA
 rw [e1]
 show IntKind.u64.wrap ((mn x:Int) * 2 ^ nlz (mn x)) = _
 have e2:(mn x:Int) * 2 ^ nlz (mn x) = ((divM x:Nat):Int) := by unfold divM; rw [Int.natCast_mul,Int.natCast_pow]; rfl
 rw [e2,IntKind.wrap_u64]
 unfold divM
 generalize mn x * 2 ^ nlz (mn x) = M at *
 omega
theorem divFacts {x y:F} (hx:x.k ≠ 0) (hy:y.k ≠ 0):DivFacts x y := by
 have h1 := ex_le x
 have h2 := ex_le y
 have h3 := nlz_le (mn x)
 have h4 := nlz_le (mn y)
 have hr:-5000 ≤ divE x y ∧ divE x y ≤ 5000 := by unfold divE; omega
 refine ⟨lzI_mn x,nA_eq hx,nA_eq hy,?_,?_,?_,hr⟩
 ·unfold nH
  rw [nA_eq hx]
  show ((divM x:Nat):Int).fdiv 2 = _
  rw [Int.fdiv_eq_ediv_of_nonneg _ (by omega)]; rfl
 ·unfold nL
  rw [nA_eq hx,IntKind.wrap_u64]
  show ((divM x:Nat):Int) * 9223372036854775808 % 18446744073709551616 = _
  omega
 ·unfold nE
  show IntKind.i64.wrap (IntKind.i64.wrap (IntKind.i64.wrap ((ex x:Int) - 1074 - lzI (mn x)) - IntKind.i64.wrap ((ex y:Int) - 1074 - lzI (mn y))) - 63) = _
  rw [lzI_mn,lzI_mn]
  unfold divE
  rw [Bu.wrap_small (n := (ex x:Int) - 1074 - nlz (mn x)) (by omega) (by omega),Bu.wrap_small (n := (ex y:Int) - 1074 - nlz (mn y)) (by omega) (by omega),Bu.wrap_small (n := (ex x:Int) - 1074 - nlz (mn x) - _) (by omega) (by omega),Bu.wrap_small (by omega) (by omega)]
theorem toF_zero:toF 0 = F.zero := by decide +kernel
def qDiv (up:Bool) (a b:F):F × Int := if b.k = 0 then (F.zero,11) else dDiv up a b
theorem div_F_w (x y:F) (up:Bool) (w:World) :
  Calls Tryz.prog 141 #[.float .f64 x.b,.float .f64 y.b,.bool up] w fun e w' => e = .returned (.tuple #[.float .f64 (qDiv up x y).1.b,.int .i64 (qDiv up x y).2]) ∧ Below w.heap.size w w' := by
 unfold qDiv
 by_cases hy:y.k = 0
 ·rw [if_pos hy,← toF_zero]
  exact calls_of_val goodG oracleGD 100 (divRun0 KR lzI dqI drI dcI x y up) (ObsOk.of_B (obsB_yes (decide_eq_true (by rw [zero_k']; exact hy)) obsB_nil)) rfl rfl w
 have oy:decide (y.k = (toF 0).k) = false := decide_eq_false (by rw [zero_k']; exact hy)
 rw [if_neg hy]
 by_cases hx:x.k = 0
 ·rw [dDiv_zero up x y hx,← toF_zero]
  exact calls_of_val goodG oracleGD 100 (divRunZ KR lzI dqI drI dcI x y up) (ObsOk.of_B (obsB_yes (decide_eq_true (by rw [zero_k']; exact hx)) (obsB_yes oy obsB_nil))) rfl rfl w
 have ox:decide (x.k = (toF 0).k) = false := decide_eq_false (by rw [zero_k']; exact hx)
 have f := divFacts hx hy
 have nx := norm_bounds (mn_pos hx) (mn_64 x)
 have ny := norm_bounds (mn_pos hy) (mn_64 y)
 have hcat := divM_eq (divM x)
 have hl:(divM x * 9223372036854775808 % 18446744073709551616:Nat) < 18446744073709551616 := Nat.mod_lt _ (by decide)
 have hq:dqI (nH KR lzI x) (nL KR lzI x) (nA KR lzI y) = ((divM x * 9223372036854775808 / divM y:Nat):Int) := by
  rw [f.h,f.l,f.b]; unfold dqI; rw [Int.toNat_natCast,Int.toNat_natCast,Int.toNat_natCast,hcat]
 have hr:drI (nH KR lzI x) (nL KR lzI x) (nA KR lzI y) = ((divM x * 9223372036854775808 % divM y:Nat):Int) := by
  rw [f.h,f.l,f.b]; unfold drI; rw [Int.toNat_natCast,Int.toNat_natCast,Int.toNat_natCast,hcat]
 have hc:dcI (nH KR lzI x) (nL KR lzI x) (nA KR lzI y) = true := by
  rw [f.h,f.l,f.b]
  have k1:9223372036854775808 ≤ divM x ∧ divM x < 18446744073709551616 := nx
  have k2:9223372036854775808 ≤ divM y ∧ divM y < 18446744073709551616 := ny
  generalize divM x * 9223372036854775808 % 18446744073709551616 = l at *
  unfold dcI
  exact decide_eq_true ⟨by omega,by omega,by omega,by omega,by omega⟩
 have hqb:((divM x * 9223372036854775808 / divM y:Nat):Int) ≤ 18446744073709551615 := by
  have k1:9223372036854775808 ≤ divM x ∧ divM x < 18446744073709551616 := nx
  have k2:9223372036854775808 ≤ divM y ∧ divM y < 18446744073709551616 := ny
  have:divM x * 9223372036854775808 / divM y < 18446744073709551616 := by
   rw [Nat.div_lt_iff_lt_mul (by omega)]
   generalize divM x = M at *
   generalize divM y = N at *
   omega
  omega
 have hd:decide (drI (nH KR lzI x) (nL KR lzI x) (nA KR lzI y) > 0) = decide (0 < divM x * 9223372036854775808 % divM y) := by
  rw [hr]
  generalize divM x * 9223372036854775808 % divM y = R
  exact decide_eq_decide.2 (by omega)
 have hv:rndG (sg x != sg y) (wn 0 ((divM x * 9223372036854775808 / divM y:Nat):Int)) (decide (0 < divM x * 9223372036854775808 % divM y)) (divE x y) up = dDiv up x y := by
  rw [← rndG_div up x y hx hy]
  unfold wn
  rw [Int.toNat_natCast,Int.toNat_zero,Nat.zero_mul,Nat.zero_add]
 have hrun := divRun KR lzI dqI drI dcI x y up (sg x) (sg y) (decide (0 < divM x * 9223372036854775808 % divM y))
 rw [f.e,hq] at hrun
 have ho:obsB (obD KR lzI dqI drI dcI x y (sg x) (sg y) (decide (0 < divM x * 9223372036854775808 % divM y))) = true := by
  unfold obD
  rw [hq,f.e]
  refine obsB_yes u64_0 (obsB_yes (u64_mk (Int.natCast_nonneg _) hqb) (obsB_yes (decide_eq_true f.r) (obsB_yes hd (obsB_yes hc (obsB_yes ?_ (obsB_yes ?_ (obsB_yes (mn_u64 y) (obsB_yes (mn_u64 x) (obsB_yes rfl (obsB_yes rfl (obsB_yes ox (obsB_yes oy obsB_nil))))))))))))
  ·exact decide_eq_true (by show 0 ≤ lzI (mn y); rw [lzI_mn]; omega)
  ·exact decide_eq_true (by show 0 ≤ lzI (mn x); rw [lzI_mn]; omega)
 rw [← hv]
 exact calls_of_val goodG oracleGD 100 hrun (ObsOk.of_B ho) rfl rfl w
theorem toF0:toF 0 = F.zero := F.ext' zero_k'
def OIR:OracleF := lookO [(60,plainO oRight)]
theorem oracleIR:OracleOk Tryz.prog OIR := .cons rightG.of (.nil _)
theorem irightRun (a b:F) (d:Bool):valR ((run Tryz.prog EG OIR 60).1 67 [.agg [.fl a,.fl b]] [] (some [d])) = some (.b d,some [],[(decide (a.k ≤ b.k),d)]) := by cases d <;> kernel_rfl
theorem irightG:PlainOk Tryz.prog 67 oRt := by
 intro args ds x ds' ob h ho
 unfold oRt at h
 split at h
 ·rename_i a b
  simp only [Option.map_eq_some_iff,Prod.mk.injEq] at h
  obtain ⟨⟨d,e,o⟩,h1,rfl,rfl,rfl⟩ := h
  have hd:d = decide (a.k ≤ b.k) := takeB_ok h1 ho
  refine ⟨[.agg #[.float .f64 a.b,.float .f64 b.b]],.bool d,rfl,rfl,fun w => ?_⟩
  exact calls_of_val goodG oracleIR 60 (irightRun a b d) (ObsOk.of_B (obsB_yes hd.symm obsB_nil)) rfl rfl w
 ·cases h
def OIH:OracleF := lookO [(67,plainO oRt)]
theorem oracleIH:OracleOk Tryz.prog OIH := .cons irightG.of (.nil _)
theorem ihasRun0 (a b x:F):valR ((run Tryz.prog EG OIH 60).1 140 [.agg [.fl a,.fl b],.fl x] [] (some [false])) = some (.b false,some [],[(rt ⟨a,b⟩,false)]) := by kernel_rfl
theorem ihasRun1 (a b x:F):valR ((run Tryz.prog EG OIH 60).1 140 [.agg [.fl a,.fl b],.fl x] [] (some [true,false])) = some (.b false,some [],[(decide (a.k ≤ x.k),false),(rt ⟨a,b⟩,true)]) := by kernel_rfl
theorem ihasRun2 (a b x:F) (d:Bool):valR ((run Tryz.prog EG OIH 60).1 140 [.agg [.fl a,.fl b],.fl x] [] (some [true,true,d])) = some (.b d,some [],[(decide (x.k ≤ b.k),d),(decide (a.k ≤ x.k),true),(rt ⟨a,b⟩,true)]) := by cases d <;> kernel_rfl
theorem ihasG:PlainOk Tryz.prog 140 oHas := by
 intro args ds x ds' ob h ho
 unfold oHas at h
 split at h
 ·rename_i a b z
  simp only [Option.map_eq_some_iff,Prod.mk.injEq] at h
  obtain ⟨⟨d,e,o⟩,h1,rfl,rfl,rfl⟩ := h
  have hd:d = hasB ⟨a,b⟩ z := takeB_ok h1 ho
  refine ⟨[.agg #[.float .f64 a.b,.float .f64 b.b],.float .f64 z.b],.bool d,rfl,rfl,fun w => ?_⟩
  subst hd
  cases h1:rt ⟨a,b⟩
  ·rw [show hasB ⟨a,b⟩ z = false from by simp [hasB,h1]]
   exact calls_of_val goodG oracleIH 60 (ihasRun0 a b z) (ObsOk.of_B (obsB_yes h1 obsB_nil)) rfl rfl w
  ·cases h2:decide (a.k ≤ z.k)
   ·rw [show hasB ⟨a,b⟩ z = false from by simp [hasB,h1,h2]]
    exact calls_of_val goodG oracleIH 60 (ihasRun1 a b z) (ObsOk.of_B (obsB_yes h2 (obsB_yes h1 obsB_nil))) rfl rfl w
   ·rw [show hasB ⟨a,b⟩ z = decide (z.k ≤ b.k) from by simp [hasB,h1,h2]]
    exact calls_of_val goodG oracleIH 60 (ihasRun2 a b z (decide (z.k ≤ b.k))) (ObsOk.of_B (obsB_yes rfl (obsB_yes h2 (obsB_yes h1 obsB_nil)))) rfl rfl w
 ·cases h
def subZ (s:Nat → Option Nat) (b:F):F := toF ((s b.b).getD 0)
def obZ (s:Nat → Option Nat) (b:F):Obs := [((s b.b).isSome,true),(rightB ((s b.b).getD 0),true)]
theorem subZ_neg (b:F):subZ (Ieee.double.sub (toF 0).b) b = b.neg := by unfold subZ; rw [toF0,sub_zero_F,Option.getD_some,toF_F]
theorem obZ_ok (b:F):obsB (obZ (Ieee.double.sub (toF 0).b) b) = true := by
 unfold obZ; rw [toF0,sub_zero_F]; exact obsB_yes rfl (obsB_yes (right_F _) obsB_nil)
theorem turnRun (a b:F):valR ((run Tryz.prog EG OIH 60).1 169 [.agg [.fl a,.fl b]] [] (some [])) = some (.agg [.fl (subZ (Ieee.double.sub (toF 0).b) b),.fl (subZ (Ieee.double.sub (toF 0).b) a)],some [],obZ (Ieee.double.sub (toF 0).b) a ++ obZ (Ieee.double.sub (toF 0).b) b) := by kernel_rfl
theorem turnG:PlainOk Tryz.prog 169 (oI1 turnI) := by
 intro args ds x ds' ob h ho
 unfold oI1 at h
 split at h
 ·rename_i a b
  simp only [Option.some.injEq,Prod.mk.injEq] at h
  obtain ⟨rfl,_,_⟩ := h
  refine ⟨[.agg #[.float .f64 a.b,.float .f64 b.b]],_,rfl,rfl,fun w => ?_⟩
  have hr := turnRun a b
  rw [subZ_neg,subZ_neg] at hr
  exact calls_of_val goodG oracleIH 60 hr (ObsOk.of_B (by rw [obsB_app,obZ_ok,obZ_ok]; rfl)) rfl rfl w
 ·cases h
def OIB:OracleF := lookO [(169,plainO (oI1 turnI))]
theorem oracleIB:OracleOk Tryz.prog OIB := .cons turnG.of (.nil _)
theorem bareRun0 (a b:F):valR ((run Tryz.prog EG OIB 60).1 101 [.agg [.fl a,.fl b]] [] (some [true])) = some (.agg [.fl a,.fl b],some [],[(decide ((toF 0).k ≤ a.k),true)]) := by kernel_rfl
theorem bareRun1 (a b:F):valR ((run Tryz.prog EG OIB 60).1 101 [.agg [.fl a,.fl b]] [] (some [false,true])) = some (.agg [.fl b.neg,.fl a.neg],some [],[(decide (b.k ≤ (toF 0).k),true),(decide ((toF 0).k ≤ a.k),false)]) := by kernel_rfl
theorem bareRun2 (a b:F):valR ((run Tryz.prog EG OIB 60).1 101 [.agg [.fl a,.fl b]] [] (some [false,false])) = some (.agg [.fl F.zero,.fl (mxF b a.neg)],some [],[(!decide (a.k = 0),true),(decide (b.k ≤ (toF 0).k),false),(decide ((toF 0).k ≤ a.k),false)]) := by kernel_rfl
theorem bareG:PlainOk Tryz.prog 101 (oI1 bareI) := by
 intro args ds x ds' ob h ho
 unfold oI1 at h
 split at h
 ·rename_i a b
  simp only [Option.some.injEq,Prod.mk.injEq] at h
  obtain ⟨rfl,_,_⟩ := h
  refine ⟨[.agg #[.float .f64 a.b,.float .f64 b.b]],_,rfl,rfl,fun w => ?_⟩
  cases h1:decide (0 ≤ a.k)
  ·cases h2:decide (b.k ≤ 0)
   ·rw [show bareI ⟨a,b⟩ = ⟨F.zero,mxF b a.neg⟩ from by simp only [bareI,h1,h2,cond_false]]
    exact calls_of_val goodG oracleIB 60 (bareRun2 a b) (ObsOk.of_B (obsB_yes (by have := of_decide_eq_false h1; simp; omega) (obsB_yes (by rw [zero_k']; exact h2) (obsB_yes (by rw [zero_k']; exact h1) obsB_nil)))) rfl rfl w
   ·rw [show bareI ⟨a,b⟩ = ⟨b.neg,a.neg⟩ from by simp only [bareI,turnI,h1,h2,cond_false,cond_true]]
    exact calls_of_val goodG oracleIB 60 (bareRun1 a b) (ObsOk.of_B (obsB_yes (by rw [zero_k']; exact h2) (obsB_yes (by rw [zero_k']; exact h1) obsB_nil))) rfl rfl w
  ·rw [show bareI ⟨a,b⟩ = ⟨a,b⟩ from by simp only [bareI,h1,cond_true]]
   exact calls_of_val goodG oracleIB 60 (bareRun0 a b) (ObsOk.of_B (obsB_yes (by rw [zero_k']; exact h1) obsB_nil)) rfl rfl w
 ·cases h
theorem hullRun (a b c d:F):valR ((run Tryz.prog EG OIR 60).1 157 [.agg [.fl a,.fl b],.agg [.fl c,.fl d]] [] (some [])) = some (.agg [.fl (mnF a c),.fl (mxF b d)],some [],[]) := by kernel_rfl
theorem hullG:PlainOk Tryz.prog 157 (oI2 hullI) := by
 intro args ds x ds' ob h ho
 unfold oI2 at h
 split at h
 ·rename_i a b c d
  simp only [Option.some.injEq,Prod.mk.injEq] at h
  obtain ⟨rfl,_,_⟩ := h
  exact ⟨[.agg #[.float .f64 a.b,.float .f64 b.b],.agg #[.float .f64 c.b,.float .f64 d.b]],_,rfl,rfl,fun w => calls_of_val goodG oracleIR 60 (hullRun a b c d) (ObsOk.of_B obsB_nil) rfl rfl w⟩
 ·cases h
def OIAdd (f:Bool → F → F → F × Int):OracleF := lookO [(67,plainO oRt),(102,plainO (kTwo f))]
theorem oracleIAdd {f:Bool → F → F → F × Int} (hf:PlainOk Tryz.prog 102 (kTwo f)):OracleOk Tryz.prog (OIAdd f) := .cons irightG.of (.cons hf.of (.nil _))
theorem cadd_p0 (f:Bool → F → F → F × Int) (t:Nat) (n:Int) (a b c d:F):takeR 1 ((run Tryz.prog EG (OIAdd f) 60).1 42 (.p 0 0 :: [.agg [.fl a,.fl b],.agg [.fl c,.fl d]]) [⟨t,[.si .i64 n],.ex⟩] (some [false,false])) = some (.agg [.fl F.zero,.fl F.zero],[⟨t,[.i .i64 20],.ex⟩],some [],[(rt ⟨a,b⟩,false),((!(n == 0)),false)]) := by kernel_rfl
theorem cadd_p1 (f:Bool → F → F → F × Int) (t:Nat) (n:Int) (a b c d:F):takeR 1 ((run Tryz.prog EG (OIAdd f) 60).1 42 (.p 0 0 :: [.agg [.fl a,.fl b],.agg [.fl c,.fl d]]) [⟨t,[.si .i64 n],.ex⟩] (some [false,true,false])) = some (.agg [.fl F.zero,.fl F.zero],[⟨t,[.i .i64 20],.ex⟩],some [],[(rt ⟨c,d⟩,false),(rt ⟨a,b⟩,true),((!(n == 0)),false)]) := by kernel_rfl
theorem cadd_p2 (f:Bool → F → F → F × Int) (t:Nat) (n:Int) (a b c d:F):takeR 1 ((run Tryz.prog EG (OIAdd f) 60).1 42 (.p 0 0 :: [.agg [.fl a,.fl b],.agg [.fl c,.fl d]]) [⟨t,[.si .i64 n],.ex⟩] (some [false,true,true,false,false])) = some (.agg [.fl (f false a c).1,.fl (f true b d).1],[⟨t,[.si .i64 n],.ex⟩],some [],[((!((f true b d).2 == 0)),false),((!((f false a c).2 == 0)),false),(rt ⟨c,d⟩,true),(rt ⟨a,b⟩,true),((!(n == 0)),false)]) := by kernel_rfl
theorem cadd_p3 (f:Bool → F → F → F × Int) (t:Nat) (n:Int) (a b c d:F):takeR 1 ((run Tryz.prog EG (OIAdd f) 60).1 42 (.p 0 0 :: [.agg [.fl a,.fl b],.agg [.fl c,.fl d]]) [⟨t,[.si .i64 n],.ex⟩] (some [false,true,true,false,true])) = some (.agg [.fl F.zero,.fl F.zero],[⟨t,[.si .i64 (f true b d).2],.ex⟩],some [],[((!((f true b d).2 == 0)),true),((!((f false a c).2 == 0)),false),(rt ⟨c,d⟩,true),(rt ⟨a,b⟩,true),((!(n == 0)),false)]) := by kernel_rfl
theorem cadd_p4 (f:Bool → F → F → F × Int) (t:Nat) (n:Int) (a b c d:F):takeR 1 ((run Tryz.prog EG (OIAdd f) 60).1 42 (.p 0 0 :: [.agg [.fl a,.fl b],.agg [.fl c,.fl d]]) [⟨t,[.si .i64 n],.ex⟩] (some [false,true,true,true,true])) = some (.agg [.fl F.zero,.fl F.zero],[⟨t,[.si .i64 (f false a c).2],.ex⟩],some [],[((!((f false a c).2 == 0)),true),((!((f false a c).2 == 0)),true),(rt ⟨c,d⟩,true),(rt ⟨a,b⟩,true),((!(n == 0)),false)]) := by kernel_rfl
theorem cadd_p5 (f:Bool → F → F → F × Int) (t:Nat) (n:Int) (a b c d:F):takeR 1 ((run Tryz.prog EG (OIAdd f) 60).1 42 (.p 0 0 :: [.agg [.fl a,.fl b],.agg [.fl c,.fl d]]) [⟨t,[.si .i64 n],.ex⟩] (some [true])) = some (.agg [.fl F.zero,.fl F.zero],[⟨t,[.si .i64 n],.ex⟩],some [],[((!(n == 0)),true)]) := by kernel_rfl
theorem cadd_I {f:Bool → F → F → F × Int} (hf:PlainOk Tryz.prog 102 (kTwo f)):OfOk Tryz.prog 42 (kC (aII (cAdd f))) := by
 refine ofII fun a b c d t n => ?_
 cases h0:(!(n == 0))
 ·skip
  cases h1:rt ⟨a,b⟩
  ·skip
   exact calc_path goodG (oracleIAdd hf) (cadd_p0 f t n a b c d) (obsB_yes h1 (obsB_yes h0 obsB_nil)) (by simp only [cAdd,askI,endsI,I.zero,h0,h1,cond_true,cond_false,Bool.and_true,Bool.true_and,Bool.and_false,Bool.false_and]) rfl
  ·skip
   cases h2:rt ⟨c,d⟩
   ·skip
    exact calc_path goodG (oracleIAdd hf) (cadd_p1 f t n a b c d) (obsB_yes h2 (obsB_yes h1 (obsB_yes h0 obsB_nil))) (by simp only [cAdd,askI,endsI,I.zero,h0,h1,h2,cond_true,cond_false,Bool.and_true,Bool.true_and,Bool.and_false,Bool.false_and]) rfl
   ·skip
    cases h3:(!((f false a c).2 == 0))
    ·skip
     cases h4:(!((f true b d).2 == 0))
     ·skip
      exact calc_path goodG (oracleIAdd hf) (cadd_p2 f t n a b c d) (obsB_yes h4 (obsB_yes h3 (obsB_yes h2 (obsB_yes h1 (obsB_yes h0 obsB_nil))))) (by simp only [cAdd,askI,endsI,I.zero,h0,h1,h2,h3,h4,cond_true,cond_false,Bool.and_true,Bool.true_and,Bool.and_false,Bool.false_and]) rfl
     ·skip
      exact calc_path goodG (oracleIAdd hf) (cadd_p3 f t n a b c d) (obsB_yes h4 (obsB_yes h3 (obsB_yes h2 (obsB_yes h1 (obsB_yes h0 obsB_nil))))) (by simp only [cAdd,askI,endsI,I.zero,h0,h1,h2,h3,h4,cond_true,cond_false,Bool.and_true,Bool.true_and,Bool.and_false,Bool.false_and]) rfl
    ·skip
     exact calc_path goodG (oracleIAdd hf) (cadd_p4 f t n a b c d) (obsB_yes h3 (obsB_yes h3 (obsB_yes h2 (obsB_yes h1 (obsB_yes h0 obsB_nil))))) (by simp only [cAdd,askI,endsI,I.zero,h0,h1,h2,h3,cond_true,cond_false,Bool.and_true,Bool.true_and,Bool.and_false,Bool.false_and]) rfl
 ·skip
  exact calc_path goodG (oracleIAdd hf) (cadd_p5 f t n a b c d) (obsB_yes h0 obsB_nil) (by simp only [cAdd,askI,endsI,I.zero,h0,cond_true,cond_false,Bool.and_true,Bool.true_and,Bool.and_false,Bool.false_and]) rfl
def OISub (f:Bool → F → F → F × Int):OracleF := lookO [(67,plainO oRt),(98,plainO (kTwo f))]
theorem oracleISub {f:Bool → F → F → F × Int} (hf:PlainOk Tryz.prog 98 (kTwo f)):OracleOk Tryz.prog (OISub f) := .cons irightG.of (.cons hf.of (.nil _))
theorem csub_p0 (f:Bool → F → F → F × Int) (t:Nat) (n:Int) (a b c d:F):takeR 1 ((run Tryz.prog EG (OISub f) 60).1 39 (.p 0 0 :: [.agg [.fl a,.fl b],.agg [.fl c,.fl d]]) [⟨t,[.si .i64 n],.ex⟩] (some [false,false])) = some (.agg [.fl F.zero,.fl F.zero],[⟨t,[.i .i64 20],.ex⟩],some [],[(rt ⟨a,b⟩,false),((!(n == 0)),false)]) := by kernel_rfl
theorem csub_p1 (f:Bool → F → F → F × Int) (t:Nat) (n:Int) (a b c d:F):takeR 1 ((run Tryz.prog EG (OISub f) 60).1 39 (.p 0 0 :: [.agg [.fl a,.fl b],.agg [.fl c,.fl d]]) [⟨t,[.si .i64 n],.ex⟩] (some [false,true,false])) = some (.agg [.fl F.zero,.fl F.zero],[⟨t,[.i .i64 20],.ex⟩],some [],[(rt ⟨c,d⟩,false),(rt ⟨a,b⟩,true),((!(n == 0)),false)]) := by kernel_rfl
theorem csub_p2 (f:Bool → F → F → F × Int) (t:Nat) (n:Int) (a b c d:F):takeR 1 ((run Tryz.prog EG (OISub f) 60).1 39 (.p 0 0 :: [.agg [.fl a,.fl b],.agg [.fl c,.fl d]]) [⟨t,[.si .i64 n],.ex⟩] (some [false,true,true,false,false])) = some (.agg [.fl (f false a d).1,.fl (f true b c).1],[⟨t,[.si .i64 n],.ex⟩],some [],[((!((f true b c).2 == 0)),false),((!((f false a d).2 == 0)),false),(rt ⟨c,d⟩,true),(rt ⟨a,b⟩,true),((!(n == 0)),false)]) := by kernel_rfl
theorem csub_p3 (f:Bool → F → F → F × Int) (t:Nat) (n:Int) (a b c d:F):takeR 1 ((run Tryz.prog EG (OISub f) 60).1 39 (.p 0 0 :: [.agg [.fl a,.fl b],.agg [.fl c,.fl d]]) [⟨t,[.si .i64 n],.ex⟩] (some [false,true,true,false,true])) = some (.agg [.fl F.zero,.fl F.zero],[⟨t,[.si .i64 (f true b c).2],.ex⟩],some [],[((!((f true b c).2 == 0)),true),((!((f false a d).2 == 0)),false),(rt ⟨c,d⟩,true),(rt ⟨a,b⟩,true),((!(n == 0)),false)]) := by kernel_rfl
theorem csub_p4 (f:Bool → F → F → F × Int) (t:Nat) (n:Int) (a b c d:F):takeR 1 ((run Tryz.prog EG (OISub f) 60).1 39 (.p 0 0 :: [.agg [.fl a,.fl b],.agg [.fl c,.fl d]]) [⟨t,[.si .i64 n],.ex⟩] (some [false,true,true,true,true])) = some (.agg [.fl F.zero,.fl F.zero],[⟨t,[.si .i64 (f false a d).2],.ex⟩],some [],[((!((f false a d).2 == 0)),true),((!((f false a d).2 == 0)),true),(rt ⟨c,d⟩,true),(rt ⟨a,b⟩,true),((!(n == 0)),false)]) := by kernel_rfl
theorem csub_p5 (f:Bool → F → F → F × Int) (t:Nat) (n:Int) (a b c d:F):takeR 1 ((run Tryz.prog EG (OISub f) 60).1 39 (.p 0 0 :: [.agg [.fl a,.fl b],.agg [.fl c,.fl d]]) [⟨t,[.si .i64 n],.ex⟩] (some [true])) = some (.agg [.fl F.zero,.fl F.zero],[⟨t,[.si .i64 n],.ex⟩],some [],[((!(n == 0)),true)]) := by kernel_rfl
theorem csub_I {f:Bool → F → F → F × Int} (hf:PlainOk Tryz.prog 98 (kTwo f)):OfOk Tryz.prog 39 (kC (aII (cSub f))) := by
 refine ofII fun a b c d t n => ?_
 cases h0:(!(n == 0))
 ·skip
  cases h1:rt ⟨a,b⟩
  ·skip
   exact calc_path goodG (oracleISub hf) (csub_p0 f t n a b c d) (obsB_yes h1 (obsB_yes h0 obsB_nil)) (by simp only [cSub,askI,endsI,I.zero,h0,h1,cond_true,cond_false,Bool.and_true,Bool.true_and,Bool.and_false,Bool.false_and]) rfl
  ·skip
   cases h2:rt ⟨c,d⟩
   ·skip
    exact calc_path goodG (oracleISub hf) (csub_p1 f t n a b c d) (obsB_yes h2 (obsB_yes h1 (obsB_yes h0 obsB_nil))) (by simp only [cSub,askI,endsI,I.zero,h0,h1,h2,cond_true,cond_false,Bool.and_true,Bool.true_and,Bool.and_false,Bool.false_and]) rfl
   ·skip
    cases h3:(!((f false a d).2 == 0))
    ·skip
     cases h4:(!((f true b c).2 == 0))
     ·skip
      exact calc_path goodG (oracleISub hf) (csub_p2 f t n a b c d) (obsB_yes h4 (obsB_yes h3 (obsB_yes h2 (obsB_yes h1 (obsB_yes h0 obsB_nil))))) (by simp only [cSub,askI,endsI,I.zero,h0,h1,h2,h3,h4,cond_true,cond_false,Bool.and_true,Bool.true_and,Bool.and_false,Bool.false_and]) rfl
     ·skip
      exact calc_path goodG (oracleISub hf) (csub_p3 f t n a b c d) (obsB_yes h4 (obsB_yes h3 (obsB_yes h2 (obsB_yes h1 (obsB_yes h0 obsB_nil))))) (by simp only [cSub,askI,endsI,I.zero,h0,h1,h2,h3,h4,cond_true,cond_false,Bool.and_true,Bool.true_and,Bool.and_false,Bool.false_and]) rfl
    ·skip
     exact calc_path goodG (oracleISub hf) (csub_p4 f t n a b c d) (obsB_yes h3 (obsB_yes h3 (obsB_yes h2 (obsB_yes h1 (obsB_yes h0 obsB_nil))))) (by simp only [cSub,askI,endsI,I.zero,h0,h1,h2,h3,cond_true,cond_false,Bool.and_true,Bool.true_and,Bool.and_false,Bool.false_and]) rfl
 ·skip
  exact calc_path goodG (oracleISub hf) (csub_p5 f t n a b c d) (obsB_yes h0 obsB_nil) (by simp only [cSub,askI,endsI,I.zero,h0,cond_true,cond_false,Bool.and_true,Bool.true_and,Bool.and_false,Bool.false_and]) rfl
def OIMul (f:Bool → F → F → F × Int):OracleF := lookO [(67,plainO oRt),(157,plainO (oI2 hullI)),(81,plainO (kTwo f))]
theorem oracleIMul {f:Bool → F → F → F × Int} (hf:PlainOk Tryz.prog 81 (kTwo f)):OracleOk Tryz.prog (OIMul f) := .cons irightG.of (.cons hullG.of (.cons hf.of (.nil _)))
theorem cmul_p0 (f:Bool → F → F → F × Int) (t:Nat) (n:Int) (a b c d:F):takeR 1 ((run Tryz.prog EG (OIMul f) 60).1 28 (.p 0 0 :: [.agg [.fl a,.fl b],.agg [.fl c,.fl d]]) [⟨t,[.si .i64 n],.ex⟩] (some [false,false])) = some (.agg [.fl F.zero,.fl F.zero],[⟨t,[.i .i64 20],.ex⟩],some [],[(rt ⟨a,b⟩,false),((!(n == 0)),false)]) := by kernel_rfl
theorem cmul_p1 (f:Bool → F → F → F × Int) (t:Nat) (n:Int) (a b c d:F):takeR 1 ((run Tryz.prog EG (OIMul f) 60).1 28 (.p 0 0 :: [.agg [.fl a,.fl b],.agg [.fl c,.fl d]]) [⟨t,[.si .i64 n],.ex⟩] (some [false,true,false])) = some (.agg [.fl F.zero,.fl F.zero],[⟨t,[.i .i64 20],.ex⟩],some [],[(rt ⟨c,d⟩,false),(rt ⟨a,b⟩,true),((!(n == 0)),false)]) := by kernel_rfl
theorem cmul_p2 (f:Bool → F → F → F × Int) (t:Nat) (n:Int) (a b c d:F):takeR 1 ((run Tryz.prog EG (OIMul f) 60).1 28 (.p 0 0 :: [.agg [.fl a,.fl b],.agg [.fl c,.fl d]]) [⟨t,[.si .i64 n],.ex⟩] (some [false,true,true,false,false,false,false,false,false,false,false])) = some (.agg [.fl (mnF (mnF (mnF (mnF (f false a c).1 (f false a c).1) (f false a d).1) (f false b c).1) (f false b d).1),.fl (mxF (mxF (mxF (mxF (f true a c).1 (f true a c).1) (f true a d).1) (f true b c).1) (f true b d).1)],[⟨t,[.si .i64 n],.ex⟩],some [],[((!((f true b d).2 == 0)),false),((!((f false b d).2 == 0)),false),((!((f true b c).2 == 0)),false),((!((f false b c).2 == 0)),false),((!((f true a d).2 == 0)),false),((!((f false a d).2 == 0)),false),((!((f true a c).2 == 0)),false),((!((f false a c).2 == 0)),false),(rt ⟨c,d⟩,true),(rt ⟨a,b⟩,true),((!(n == 0)),false)]) := by kernel_rfl
theorem cmul_p3 (f:Bool → F → F → F × Int) (t:Nat) (n:Int) (a b c d:F):takeR 1 ((run Tryz.prog EG (OIMul f) 60).1 28 (.p 0 0 :: [.agg [.fl a,.fl b],.agg [.fl c,.fl d]]) [⟨t,[.si .i64 n],.ex⟩] (some [false,true,true,false,false,false,false,false,false,false,true,true])) = some (.agg [.fl F.zero,.fl F.zero],[⟨t,[.si .i64 (f true b d).2],.ex⟩],some [],[((!((f true b d).2 == 0)),true),((!((f true b d).2 == 0)),true),((!((f false b d).2 == 0)),false),((!((f true b c).2 == 0)),false),((!((f false b c).2 == 0)),false),((!((f true a d).2 == 0)),false),((!((f false a d).2 == 0)),false),((!((f true a c).2 == 0)),false),((!((f false a c).2 == 0)),false),(rt ⟨c,d⟩,true),(rt ⟨a,b⟩,true),((!(n == 0)),false)]) := by kernel_rfl
theorem cmul_p4 (f:Bool → F → F → F × Int) (t:Nat) (n:Int) (a b c d:F):takeR 1 ((run Tryz.prog EG (OIMul f) 60).1 28 (.p 0 0 :: [.agg [.fl a,.fl b],.agg [.fl c,.fl d]]) [⟨t,[.si .i64 n],.ex⟩] (some [false,true,true,false,false,false,false,false,false,true,true,true])) = some (.agg [.fl F.zero,.fl F.zero],[⟨t,[.si .i64 (f false b d).2],.ex⟩],some [],[((!((f false b d).2 == 0)),true),((!((f false b d).2 == 0)),true),((!((f false b d).2 == 0)),true),((!((f true b c).2 == 0)),false),((!((f false b c).2 == 0)),false),((!((f true a d).2 == 0)),false),((!((f false a d).2 == 0)),false),((!((f true a c).2 == 0)),false),((!((f false a c).2 == 0)),false),(rt ⟨c,d⟩,true),(rt ⟨a,b⟩,true),((!(n == 0)),false)]) := by kernel_rfl
theorem cmul_p5 (f:Bool → F → F → F × Int) (t:Nat) (n:Int) (a b c d:F):takeR 1 ((run Tryz.prog EG (OIMul f) 60).1 28 (.p 0 0 :: [.agg [.fl a,.fl b],.agg [.fl c,.fl d]]) [⟨t,[.si .i64 n],.ex⟩] (some [false,true,true,false,false,false,false,false,true,true])) = some (.agg [.fl F.zero,.fl F.zero],[⟨t,[.si .i64 (f true b c).2],.ex⟩],some [],[((!((f true b c).2 == 0)),true),((!((f true b c).2 == 0)),true),((!((f false b c).2 == 0)),false),((!((f true a d).2 == 0)),false),((!((f false a d).2 == 0)),false),((!((f true a c).2 == 0)),false),((!((f false a c).2 == 0)),false),(rt ⟨c,d⟩,true),(rt ⟨a,b⟩,true),((!(n == 0)),false)]) := by kernel_rfl
theorem cmul_p6 (f:Bool → F → F → F × Int) (t:Nat) (n:Int) (a b c d:F):takeR 1 ((run Tryz.prog EG (OIMul f) 60).1 28 (.p 0 0 :: [.agg [.fl a,.fl b],.agg [.fl c,.fl d]]) [⟨t,[.si .i64 n],.ex⟩] (some [false,true,true,false,false,false,false,true,true,true])) = some (.agg [.fl F.zero,.fl F.zero],[⟨t,[.si .i64 (f false b c).2],.ex⟩],some [],[((!((f false b c).2 == 0)),true),((!((f false b c).2 == 0)),true),((!((f false b c).2 == 0)),true),((!((f true a d).2 == 0)),false),((!((f false a d).2 == 0)),false),((!((f true a c).2 == 0)),false),((!((f false a c).2 == 0)),false),(rt ⟨c,d⟩,true),(rt ⟨a,b⟩,true),((!(n == 0)),false)]) := by kernel_rfl
theorem cmul_p7 (f:Bool → F → F → F × Int) (t:Nat) (n:Int) (a b c d:F):takeR 1 ((run Tryz.prog EG (OIMul f) 60).1 28 (.p 0 0 :: [.agg [.fl a,.fl b],.agg [.fl c,.fl d]]) [⟨t,[.si .i64 n],.ex⟩] (some [false,true,true,false,false,false,true,true])) = some (.agg [.fl F.zero,.fl F.zero],[⟨t,[.si .i64 (f true a d).2],.ex⟩],some [],[((!((f true a d).2 == 0)),true),((!((f true a d).2 == 0)),true),((!((f false a d).2 == 0)),false),((!((f true a c).2 == 0)),false),((!((f false a c).2 == 0)),false),(rt ⟨c,d⟩,true),(rt ⟨a,b⟩,true),((!(n == 0)),false)]) := by kernel_rfl
theorem cmul_p8 (f:Bool → F → F → F × Int) (t:Nat) (n:Int) (a b c d:F):takeR 1 ((run Tryz.prog EG (OIMul f) 60).1 28 (.p 0 0 :: [.agg [.fl a,.fl b],.agg [.fl c,.fl d]]) [⟨t,[.si .i64 n],.ex⟩] (some [false,true,true,false,false,true,true,true])) = some (.agg [.fl F.zero,.fl F.zero],[⟨t,[.si .i64 (f false a d).2],.ex⟩],some [],[((!((f false a d).2 == 0)),true),((!((f false a d).2 == 0)),true),((!((f false a d).2 == 0)),true),((!((f true a c).2 == 0)),false),((!((f false a c).2 == 0)),false),(rt ⟨c,d⟩,true),(rt ⟨a,b⟩,true),((!(n == 0)),false)]) := by kernel_rfl
theorem cmul_p9 (f:Bool → F → F → F × Int) (t:Nat) (n:Int) (a b c d:F):takeR 1 ((run Tryz.prog EG (OIMul f) 60).1 28 (.p 0 0 :: [.agg [.fl a,.fl b],.agg [.fl c,.fl d]]) [⟨t,[.si .i64 n],.ex⟩] (some [false,true,true,false,true,true])) = some (.agg [.fl F.zero,.fl F.zero],[⟨t,[.si .i64 (f true a c).2],.ex⟩],some [],[((!((f true a c).2 == 0)),true),((!((f true a c).2 == 0)),true),((!((f false a c).2 == 0)),false),(rt ⟨c,d⟩,true),(rt ⟨a,b⟩,true),((!(n == 0)),false)]) := by kernel_rfl
theorem cmul_p10 (f:Bool → F → F → F × Int) (t:Nat) (n:Int) (a b c d:F):takeR 1 ((run Tryz.prog EG (OIMul f) 60).1 28 (.p 0 0 :: [.agg [.fl a,.fl b],.agg [.fl c,.fl d]]) [⟨t,[.si .i64 n],.ex⟩] (some [false,true,true,true,true,true])) = some (.agg [.fl F.zero,.fl F.zero],[⟨t,[.si .i64 (f false a c).2],.ex⟩],some [],[((!((f false a c).2 == 0)),true),((!((f false a c).2 == 0)),true),((!((f false a c).2 == 0)),true),(rt ⟨c,d⟩,true),(rt ⟨a,b⟩,true),((!(n == 0)),false)]) := by kernel_rfl
theorem cmul_p11 (f:Bool → F → F → F × Int) (t:Nat) (n:Int) (a b c d:F):takeR 1 ((run Tryz.prog EG (OIMul f) 60).1 28 (.p 0 0 :: [.agg [.fl a,.fl b],.agg [.fl c,.fl d]]) [⟨t,[.si .i64 n],.ex⟩] (some [true])) = some (.agg [.fl F.zero,.fl F.zero],[⟨t,[.si .i64 n],.ex⟩],some [],[((!(n == 0)),true)]) := by kernel_rfl
theorem cmul_I {f:Bool → F → F → F × Int} (hf:PlainOk Tryz.prog 81 (kTwo f)):OfOk Tryz.prog 28 (kC (aII (cMul f))) := by
 refine ofII fun a b c d t n => ?_
 cases h0:(!(n == 0))
 ·skip
  cases h1:rt ⟨a,b⟩
  ·skip
   exact calc_path goodG (oracleIMul hf) (cmul_p0 f t n a b c d) (obsB_yes h1 (obsB_yes h0 obsB_nil)) (by simp only [cMul,askI,allI,thenI,oneI,endsI,hullI,show (!((0:Int) == 0)) = false from rfl,show (!((11:Int) == 0)) = true from rfl,I.zero,h0,h1,cond_true,cond_false,Bool.and_true,Bool.true_and,Bool.and_false,Bool.false_and]) rfl
  ·skip
   cases h2:rt ⟨c,d⟩
   ·skip
    exact calc_path goodG (oracleIMul hf) (cmul_p1 f t n a b c d) (obsB_yes h2 (obsB_yes h1 (obsB_yes h0 obsB_nil))) (by simp only [cMul,askI,allI,thenI,oneI,endsI,hullI,show (!((0:Int) == 0)) = false from rfl,show (!((11:Int) == 0)) = true from rfl,I.zero,h0,h1,h2,cond_true,cond_false,Bool.and_true,Bool.true_and,Bool.and_false,Bool.false_and]) rfl
   ·skip
    cases h10:(!((f false a c).2 == 0))
    ·skip
     cases h11:(!((f true a c).2 == 0))
     ·skip
      cases h12:(!((f false a d).2 == 0))
      ·skip
       cases h13:(!((f true a d).2 == 0))
       ·skip
        cases h14:(!((f false b c).2 == 0))
        ·skip
         cases h15:(!((f true b c).2 == 0))
         ·skip
          cases h16:(!((f false b d).2 == 0))
          ·skip
           cases h17:(!((f true b d).2 == 0))
           ·skip
            exact calc_path goodG (oracleIMul hf) (cmul_p2 f t n a b c d) (obsB_yes h17 (obsB_yes h16 (obsB_yes h15 (obsB_yes h14 (obsB_yes h13 (obsB_yes h12 (obsB_yes h11 (obsB_yes h10 (obsB_yes h2 (obsB_yes h1 (obsB_yes h0 obsB_nil))))))))))) (by simp only [cMul,askI,allI,thenI,oneI,endsI,hullI,show (!((0:Int) == 0)) = false from rfl,show (!((11:Int) == 0)) = true from rfl,I.zero,h0,h1,h2,h10,h11,h12,h13,h14,h15,h16,h17,cond_true,cond_false,Bool.and_true,Bool.true_and,Bool.and_false,Bool.false_and]) rfl
           ·skip
            exact calc_path goodG (oracleIMul hf) (cmul_p3 f t n a b c d) (obsB_yes h17 (obsB_yes h17 (obsB_yes h16 (obsB_yes h15 (obsB_yes h14 (obsB_yes h13 (obsB_yes h12 (obsB_yes h11 (obsB_yes h10 (obsB_yes h2 (obsB_yes h1 (obsB_yes h0 obsB_nil)))))))))))) (by simp only [cMul,askI,allI,thenI,oneI,endsI,hullI,show (!((0:Int) == 0)) = false from rfl,show (!((11:Int) == 0)) = true from rfl,I.zero,h0,h1,h2,h10,h11,h12,h13,h14,h15,h16,h17,cond_true,cond_false,Bool.and_true,Bool.true_and,Bool.and_false,Bool.false_and]) rfl
          ·skip
           exact calc_path goodG (oracleIMul hf) (cmul_p4 f t n a b c d) (obsB_yes h16 (obsB_yes h16 (obsB_yes h16 (obsB_yes h15 (obsB_yes h14 (obsB_yes h13 (obsB_yes h12 (obsB_yes h11 (obsB_yes h10 (obsB_yes h2 (obsB_yes h1 (obsB_yes h0 obsB_nil)))))))))))) (by simp only [cMul,askI,allI,thenI,oneI,endsI,hullI,show (!((0:Int) == 0)) = false from rfl,show (!((11:Int) == 0)) = true from rfl,I.zero,h0,h1,h2,h10,h11,h12,h13,h14,h15,h16,cond_true,cond_false,Bool.and_true,Bool.true_and,Bool.and_false,Bool.false_and]) rfl
         ·skip
          exact calc_path goodG (oracleIMul hf) (cmul_p5 f t n a b c d) (obsB_yes h15 (obsB_yes h15 (obsB_yes h14 (obsB_yes h13 (obsB_yes h12 (obsB_yes h11 (obsB_yes h10 (obsB_yes h2 (obsB_yes h1 (obsB_yes h0 obsB_nil)))))))))) (by simp only [cMul,askI,allI,thenI,oneI,endsI,hullI,show (!((0:Int) == 0)) = false from rfl,show (!((11:Int) == 0)) = true from rfl,I.zero,h0,h1,h2,h10,h11,h12,h13,h14,h15,cond_true,cond_false,Bool.and_true,Bool.true_and,Bool.and_false,Bool.false_and]) rfl
        ·skip
         exact calc_path goodG (oracleIMul hf) (cmul_p6 f t n a b c d) (obsB_yes h14 (obsB_yes h14 (obsB_yes h14 (obsB_yes h13 (obsB_yes h12 (obsB_yes h11 (obsB_yes h10 (obsB_yes h2 (obsB_yes h1 (obsB_yes h0 obsB_nil)))))))))) (by simp only [cMul,askI,allI,thenI,oneI,endsI,hullI,show (!((0:Int) == 0)) = false from rfl,show (!((11:Int) == 0)) = true from rfl,I.zero,h0,h1,h2,h10,h11,h12,h13,h14,cond_true,cond_false,Bool.and_true,Bool.true_and,Bool.and_false,Bool.false_and]) rfl
       ·skip
        exact calc_path goodG (oracleIMul hf) (cmul_p7 f t n a b c d) (obsB_yes h13 (obsB_yes h13 (obsB_yes h12 (obsB_yes h11 (obsB_yes h10 (obsB_yes h2 (obsB_yes h1 (obsB_yes h0 obsB_nil)))))))) (by simp only [cMul,askI,allI,thenI,oneI,endsI,hullI,show (!((0:Int) == 0)) = false from rfl,show (!((11:Int) == 0)) = true from rfl,I.zero,h0,h1,h2,h10,h11,h12,h13,cond_true,cond_false,Bool.and_true,Bool.true_and,Bool.and_false,Bool.false_and]) rfl
      ·skip
       exact calc_path goodG (oracleIMul hf) (cmul_p8 f t n a b c d) (obsB_yes h12 (obsB_yes h12 (obsB_yes h12 (obsB_yes h11 (obsB_yes h10 (obsB_yes h2 (obsB_yes h1 (obsB_yes h0 obsB_nil)))))))) (by simp only [cMul,askI,allI,thenI,oneI,endsI,hullI,show (!((0:Int) == 0)) = false from rfl,show (!((11:Int) == 0)) = true from rfl,I.zero,h0,h1,h2,h10,h11,h12,cond_true,cond_false,Bool.and_true,Bool.true_and,Bool.and_false,Bool.false_and]) rfl
     ·skip
      exact calc_path goodG (oracleIMul hf) (cmul_p9 f t n a b c d) (obsB_yes h11 (obsB_yes h11 (obsB_yes h10 (obsB_yes h2 (obsB_yes h1 (obsB_yes h0 obsB_nil)))))) (by simp only [cMul,askI,allI,thenI,oneI,endsI,hullI,show (!((0:Int) == 0)) = false from rfl,show (!((11:Int) == 0)) = true from rfl,I.zero,h0,h1,h2,h10,h11,cond_true,cond_false,Bool.and_true,Bool.true_and,Bool.and_false,Bool.false_and]) rfl
    ·skip
     exact calc_path goodG (oracleIMul hf) (cmul_p10 f t n a b c d) (obsB_yes h10 (obsB_yes h10 (obsB_yes h10 (obsB_yes h2 (obsB_yes h1 (obsB_yes h0 obsB_nil)))))) (by simp only [cMul,askI,allI,thenI,oneI,endsI,hullI,show (!((0:Int) == 0)) = false from rfl,show (!((11:Int) == 0)) = true from rfl,I.zero,h0,h1,h2,h10,cond_true,cond_false,Bool.and_true,Bool.true_and,Bool.and_false,Bool.false_and]) rfl
 ·skip
  exact calc_path goodG (oracleIMul hf) (cmul_p11 f t n a b c d) (obsB_yes h0 obsB_nil) (by simp only [cMul,askI,allI,thenI,oneI,endsI,hullI,show (!((0:Int) == 0)) = false from rfl,show (!((11:Int) == 0)) = true from rfl,I.zero,h0,cond_true,cond_false,Bool.and_true,Bool.true_and,Bool.and_false,Bool.false_and]) rfl
def OIDiv (f:Bool → F → F → F × Int):OracleF := lookO [(67,plainO oRt),(140,plainO oHas),(157,plainO (oI2 hullI)),(141,plainO (kTwo f))]
theorem oracleIDiv {f:Bool → F → F → F × Int} (hf:PlainOk Tryz.prog 141 (kTwo f)):OracleOk Tryz.prog (OIDiv f) := .cons irightG.of (.cons ihasG.of (.cons hullG.of (.cons hf.of (.nil _))))
theorem cdiv_p0 (f:Bool → F → F → F × Int) (t:Nat) (n:Int) (a b c d:F):takeR 1 ((run Tryz.prog EG (OIDiv f) 60).1 65 (.p 0 0 :: [.agg [.fl a,.fl b],.agg [.fl c,.fl d]]) [⟨t,[.si .i64 n],.ex⟩] (some [false,false])) = some (.agg [.fl F.zero,.fl F.zero],[⟨t,[.i .i64 20],.ex⟩],some [],[(rt ⟨a,b⟩,false),((!(n == 0)),false)]) := by kernel_rfl
theorem cdiv_p1 (f:Bool → F → F → F × Int) (t:Nat) (n:Int) (a b c d:F):takeR 1 ((run Tryz.prog EG (OIDiv f) 60).1 65 (.p 0 0 :: [.agg [.fl a,.fl b],.agg [.fl c,.fl d]]) [⟨t,[.si .i64 n],.ex⟩] (some [false,true,false])) = some (.agg [.fl F.zero,.fl F.zero],[⟨t,[.i .i64 20],.ex⟩],some [],[(rt ⟨c,d⟩,false),(rt ⟨a,b⟩,true),((!(n == 0)),false)]) := by kernel_rfl
theorem cdiv_p2 (f:Bool → F → F → F × Int) (t:Nat) (n:Int) (a b c d:F):takeR 1 ((run Tryz.prog EG (OIDiv f) 60).1 65 (.p 0 0 :: [.agg [.fl a,.fl b],.agg [.fl c,.fl d]]) [⟨t,[.si .i64 n],.ex⟩] (some [false,true,true,false,false,false,false,false,false,false,false,false])) = some (.agg [.fl (mnF (mnF (mnF (mnF (f false a c).1 (f false a c).1) (f false a d).1) (f false b c).1) (f false b d).1),.fl (mxF (mxF (mxF (mxF (f true a c).1 (f true a c).1) (f true a d).1) (f true b c).1) (f true b d).1)],[⟨t,[.si .i64 n],.ex⟩],some [],[((!((f true b d).2 == 0)),false),((!((f false b d).2 == 0)),false),((!((f true b c).2 == 0)),false),((!((f false b c).2 == 0)),false),((!((f true a d).2 == 0)),false),((!((f false a d).2 == 0)),false),((!((f true a c).2 == 0)),false),((!((f false a c).2 == 0)),false),(hasB ⟨c,d⟩ F.zero,false),(rt ⟨c,d⟩,true),(rt ⟨a,b⟩,true),((!(n == 0)),false)]) := by kernel_rfl
theorem cdiv_p3 (f:Bool → F → F → F × Int) (t:Nat) (n:Int) (a b c d:F):takeR 1 ((run Tryz.prog EG (OIDiv f) 60).1 65 (.p 0 0 :: [.agg [.fl a,.fl b],.agg [.fl c,.fl d]]) [⟨t,[.si .i64 n],.ex⟩] (some [false,true,true,false,false,false,false,false,false,false,false,true,true])) = some (.agg [.fl F.zero,.fl F.zero],[⟨t,[.si .i64 (f true b d).2],.ex⟩],some [],[((!((f true b d).2 == 0)),true),((!((f true b d).2 == 0)),true),((!((f false b d).2 == 0)),false),((!((f true b c).2 == 0)),false),((!((f false b c).2 == 0)),false),((!((f true a d).2 == 0)),false),((!((f false a d).2 == 0)),false),((!((f true a c).2 == 0)),false),((!((f false a c).2 == 0)),false),(hasB ⟨c,d⟩ F.zero,false),(rt ⟨c,d⟩,true),(rt ⟨a,b⟩,true),((!(n == 0)),false)]) := by kernel_rfl
theorem cdiv_p4 (f:Bool → F → F → F × Int) (t:Nat) (n:Int) (a b c d:F):takeR 1 ((run Tryz.prog EG (OIDiv f) 60).1 65 (.p 0 0 :: [.agg [.fl a,.fl b],.agg [.fl c,.fl d]]) [⟨t,[.si .i64 n],.ex⟩] (some [false,true,true,false,false,false,false,false,false,false,true,true,true])) = some (.agg [.fl F.zero,.fl F.zero],[⟨t,[.si .i64 (f false b d).2],.ex⟩],some [],[((!((f false b d).2 == 0)),true),((!((f false b d).2 == 0)),true),((!((f false b d).2 == 0)),true),((!((f true b c).2 == 0)),false),((!((f false b c).2 == 0)),false),((!((f true a d).2 == 0)),false),((!((f false a d).2 == 0)),false),((!((f true a c).2 == 0)),false),((!((f false a c).2 == 0)),false),(hasB ⟨c,d⟩ F.zero,false),(rt ⟨c,d⟩,true),(rt ⟨a,b⟩,true),((!(n == 0)),false)]) := by kernel_rfl
theorem cdiv_p5 (f:Bool → F → F → F × Int) (t:Nat) (n:Int) (a b c d:F):takeR 1 ((run Tryz.prog EG (OIDiv f) 60).1 65 (.p 0 0 :: [.agg [.fl a,.fl b],.agg [.fl c,.fl d]]) [⟨t,[.si .i64 n],.ex⟩] (some [false,true,true,false,false,false,false,false,false,true,true])) = some (.agg [.fl F.zero,.fl F.zero],[⟨t,[.si .i64 (f true b c).2],.ex⟩],some [],[((!((f true b c).2 == 0)),true),((!((f true b c).2 == 0)),true),((!((f false b c).2 == 0)),false),((!((f true a d).2 == 0)),false),((!((f false a d).2 == 0)),false),((!((f true a c).2 == 0)),false),((!((f false a c).2 == 0)),false),(hasB ⟨c,d⟩ F.zero,false),(rt ⟨c,d⟩,true),(rt ⟨a,b⟩,true),((!(n == 0)),false)]) := by kernel_rfl
theorem cdiv_p6 (f:Bool → F → F → F × Int) (t:Nat) (n:Int) (a b c d:F):takeR 1 ((run Tryz.prog EG (OIDiv f) 60).1 65 (.p 0 0 :: [.agg [.fl a,.fl b],.agg [.fl c,.fl d]]) [⟨t,[.si .i64 n],.ex⟩] (some [false,true,true,false,false,false,false,false,true,true,true])) = some (.agg [.fl F.zero,.fl F.zero],[⟨t,[.si .i64 (f false b c).2],.ex⟩],some [],[((!((f false b c).2 == 0)),true),((!((f false b c).2 == 0)),true),((!((f false b c).2 == 0)),true),((!((f true a d).2 == 0)),false),((!((f false a d).2 == 0)),false),((!((f true a c).2 == 0)),false),((!((f false a c).2 == 0)),false),(hasB ⟨c,d⟩ F.zero,false),(rt ⟨c,d⟩,true),(rt ⟨a,b⟩,true),((!(n == 0)),false)]) := by kernel_rfl
theorem cdiv_p7 (f:Bool → F → F → F × Int) (t:Nat) (n:Int) (a b c d:F):takeR 1 ((run Tryz.prog EG (OIDiv f) 60).1 65 (.p 0 0 :: [.agg [.fl a,.fl b],.agg [.fl c,.fl d]]) [⟨t,[.si .i64 n],.ex⟩] (some [false,true,true,false,false,false,false,true,true])) = some (.agg [.fl F.zero,.fl F.zero],[⟨t,[.si .i64 (f true a d).2],.ex⟩],some [],[((!((f true a d).2 == 0)),true),((!((f true a d).2 == 0)),true),((!((f false a d).2 == 0)),false),((!((f true a c).2 == 0)),false),((!((f false a c).2 == 0)),false),(hasB ⟨c,d⟩ F.zero,false),(rt ⟨c,d⟩,true),(rt ⟨a,b⟩,true),((!(n == 0)),false)]) := by kernel_rfl
theorem cdiv_p8 (f:Bool → F → F → F × Int) (t:Nat) (n:Int) (a b c d:F):takeR 1 ((run Tryz.prog EG (OIDiv f) 60).1 65 (.p 0 0 :: [.agg [.fl a,.fl b],.agg [.fl c,.fl d]]) [⟨t,[.si .i64 n],.ex⟩] (some [false,true,true,false,false,false,true,true,true])) = some (.agg [.fl F.zero,.fl F.zero],[⟨t,[.si .i64 (f false a d).2],.ex⟩],some [],[((!((f false a d).2 == 0)),true),((!((f false a d).2 == 0)),true),((!((f false a d).2 == 0)),true),((!((f true a c).2 == 0)),false),((!((f false a c).2 == 0)),false),(hasB ⟨c,d⟩ F.zero,false),(rt ⟨c,d⟩,true),(rt ⟨a,b⟩,true),((!(n == 0)),false)]) := by kernel_rfl
theorem cdiv_p9 (f:Bool → F → F → F × Int) (t:Nat) (n:Int) (a b c d:F):takeR 1 ((run Tryz.prog EG (OIDiv f) 60).1 65 (.p 0 0 :: [.agg [.fl a,.fl b],.agg [.fl c,.fl d]]) [⟨t,[.si .i64 n],.ex⟩] (some [false,true,true,false,false,true,true])) = some (.agg [.fl F.zero,.fl F.zero],[⟨t,[.si .i64 (f true a c).2],.ex⟩],some [],[((!((f true a c).2 == 0)),true),((!((f true a c).2 == 0)),true),((!((f false a c).2 == 0)),false),(hasB ⟨c,d⟩ F.zero,false),(rt ⟨c,d⟩,true),(rt ⟨a,b⟩,true),((!(n == 0)),false)]) := by kernel_rfl
theorem cdiv_p10 (f:Bool → F → F → F × Int) (t:Nat) (n:Int) (a b c d:F):takeR 1 ((run Tryz.prog EG (OIDiv f) 60).1 65 (.p 0 0 :: [.agg [.fl a,.fl b],.agg [.fl c,.fl d]]) [⟨t,[.si .i64 n],.ex⟩] (some [false,true,true,false,true,true,true])) = some (.agg [.fl F.zero,.fl F.zero],[⟨t,[.si .i64 (f false a c).2],.ex⟩],some [],[((!((f false a c).2 == 0)),true),((!((f false a c).2 == 0)),true),((!((f false a c).2 == 0)),true),(hasB ⟨c,d⟩ F.zero,false),(rt ⟨c,d⟩,true),(rt ⟨a,b⟩,true),((!(n == 0)),false)]) := by kernel_rfl
theorem cdiv_p11 (f:Bool → F → F → F × Int) (t:Nat) (n:Int) (a b c d:F):takeR 1 ((run Tryz.prog EG (OIDiv f) 60).1 65 (.p 0 0 :: [.agg [.fl a,.fl b],.agg [.fl c,.fl d]]) [⟨t,[.si .i64 n],.ex⟩] (some [false,true,true,true])) = some (.agg [.fl F.zero,.fl F.zero],[⟨t,[.i .i64 11],.ex⟩],some [],[(hasB ⟨c,d⟩ F.zero,true),(rt ⟨c,d⟩,true),(rt ⟨a,b⟩,true),((!(n == 0)),false)]) := by kernel_rfl
theorem cdiv_p12 (f:Bool → F → F → F × Int) (t:Nat) (n:Int) (a b c d:F):takeR 1 ((run Tryz.prog EG (OIDiv f) 60).1 65 (.p 0 0 :: [.agg [.fl a,.fl b],.agg [.fl c,.fl d]]) [⟨t,[.si .i64 n],.ex⟩] (some [true])) = some (.agg [.fl F.zero,.fl F.zero],[⟨t,[.si .i64 n],.ex⟩],some [],[((!(n == 0)),true)]) := by kernel_rfl
theorem cdiv_I {f:Bool → F → F → F × Int} (hf:PlainOk Tryz.prog 141 (kTwo f)):OfOk Tryz.prog 65 (kC (aII (cDiv f))) := by
 refine ofII fun a b c d t n => ?_
 cases h0:(!(n == 0))
 ·skip
  cases h1:rt ⟨a,b⟩
  ·skip
   exact calc_path goodG (oracleIDiv hf) (cdiv_p0 f t n a b c d) (obsB_yes h1 (obsB_yes h0 obsB_nil)) (by simp only [cDiv,askI,allI,thenI,oneI,endsI,hullI,show (!((0:Int) == 0)) = false from rfl,show (!((11:Int) == 0)) = true from rfl,I.zero,h0,h1,cond_true,cond_false,Bool.and_true,Bool.true_and,Bool.and_false,Bool.false_and]) rfl
  ·skip
   cases h2:rt ⟨c,d⟩
   ·skip
    exact calc_path goodG (oracleIDiv hf) (cdiv_p1 f t n a b c d) (obsB_yes h2 (obsB_yes h1 (obsB_yes h0 obsB_nil))) (by simp only [cDiv,askI,allI,thenI,oneI,endsI,hullI,show (!((0:Int) == 0)) = false from rfl,show (!((11:Int) == 0)) = true from rfl,I.zero,h0,h1,h2,cond_true,cond_false,Bool.and_true,Bool.true_and,Bool.and_false,Bool.false_and]) rfl
   ·skip
    cases h9:hasB ⟨c,d⟩ F.zero
    ·skip
     cases h10:(!((f false a c).2 == 0))
     ·skip
      cases h11:(!((f true a c).2 == 0))
      ·skip
       cases h12:(!((f false a d).2 == 0))
       ·skip
        cases h13:(!((f true a d).2 == 0))
        ·skip
         cases h14:(!((f false b c).2 == 0))
         ·skip
          cases h15:(!((f true b c).2 == 0))
          ·skip
           cases h16:(!((f false b d).2 == 0))
           ·skip
            cases h17:(!((f true b d).2 == 0))
            ·skip
             exact calc_path goodG (oracleIDiv hf) (cdiv_p2 f t n a b c d) (obsB_yes h17 (obsB_yes h16 (obsB_yes h15 (obsB_yes h14 (obsB_yes h13 (obsB_yes h12 (obsB_yes h11 (obsB_yes h10 (obsB_yes h9 (obsB_yes h2 (obsB_yes h1 (obsB_yes h0 obsB_nil)))))))))))) (by simp only [cDiv,askI,allI,thenI,oneI,endsI,hullI,show (!((0:Int) == 0)) = false from rfl,show (!((11:Int) == 0)) = true from rfl,I.zero,h0,h1,h2,h9,h10,h11,h12,h13,h14,h15,h16,h17,cond_true,cond_false,Bool.and_true,Bool.true_and,Bool.and_false,Bool.false_and]) rfl
            ·skip
             exact calc_path goodG (oracleIDiv hf) (cdiv_p3 f t n a b c d) (obsB_yes h17 (obsB_yes h17 (obsB_yes h16 (obsB_yes h15 (obsB_yes h14 (obsB_yes h13 (obsB_yes h12 (obsB_yes h11 (obsB_yes h10 (obsB_yes h9 (obsB_yes h2 (obsB_yes h1 (obsB_yes h0 obsB_nil))))))))))))) (by simp only [cDiv,askI,allI,thenI,oneI,endsI,hullI,show (!((0:Int) == 0)) = false from rfl,show (!((11:Int) == 0)) = true from rfl,I.zero,h0,h1,h2,h9,h10,h11,h12,h13,h14,h15,h16,h17,cond_true,cond_false,Bool.and_true,Bool.true_and,Bool.and_false,Bool.false_and]) rfl
           ·skip
            exact calc_path goodG (oracleIDiv hf) (cdiv_p4 f t n a b c d) (obsB_yes h16 (obsB_yes h16 (obsB_yes h16 (obsB_yes h15 (obsB_yes h14 (obsB_yes h13 (obsB_yes h12 (obsB_yes h11 (obsB_yes h10 (obsB_yes h9 (obsB_yes h2 (obsB_yes h1 (obsB_yes h0 obsB_nil))))))))))))) (by simp only [cDiv,askI,allI,thenI,oneI,endsI,hullI,show (!((0:Int) == 0)) = false from rfl,show (!((11:Int) == 0)) = true from rfl,I.zero,h0,h1,h2,h9,h10,h11,h12,h13,h14,h15,h16,cond_true,cond_false,Bool.and_true,Bool.true_and,Bool.and_false,Bool.false_and]) rfl
          ·skip
           exact calc_path goodG (oracleIDiv hf) (cdiv_p5 f t n a b c d) (obsB_yes h15 (obsB_yes h15 (obsB_yes h14 (obsB_yes h13 (obsB_yes h12 (obsB_yes h11 (obsB_yes h10 (obsB_yes h9 (obsB_yes h2 (obsB_yes h1 (obsB_yes h0 obsB_nil))))))))))) (by simp only [cDiv,askI,allI,thenI,oneI,endsI,hullI,show (!((0:Int) == 0)) = false from rfl,show (!((11:Int) == 0)) = true from rfl,I.zero,h0,h1,h2,h9,h10,h11,h12,h13,h14,h15,cond_true,cond_false,Bool.and_true,Bool.true_and,Bool.and_false,Bool.false_and]) rfl
         ·skip
          exact calc_path goodG (oracleIDiv hf) (cdiv_p6 f t n a b c d) (obsB_yes h14 (obsB_yes h14 (obsB_yes h14 (obsB_yes h13 (obsB_yes h12 (obsB_yes h11 (obsB_yes h10 (obsB_yes h9 (obsB_yes h2 (obsB_yes h1 (obsB_yes h0 obsB_nil))))))))))) (by simp only [cDiv,askI,allI,thenI,oneI,endsI,hullI,show (!((0:Int) == 0)) = false from rfl,show (!((11:Int) == 0)) = true from rfl,I.zero,h0,h1,h2,h9,h10,h11,h12,h13,h14,cond_true,cond_false,Bool.and_true,Bool.true_and,Bool.and_false,Bool.false_and]) rfl
        ·skip
         exact calc_path goodG (oracleIDiv hf) (cdiv_p7 f t n a b c d) (obsB_yes h13 (obsB_yes h13 (obsB_yes h12 (obsB_yes h11 (obsB_yes h10 (obsB_yes h9 (obsB_yes h2 (obsB_yes h1 (obsB_yes h0 obsB_nil))))))))) (by simp only [cDiv,askI,allI,thenI,oneI,endsI,hullI,show (!((0:Int) == 0)) = false from rfl,show (!((11:Int) == 0)) = true from rfl,I.zero,h0,h1,h2,h9,h10,h11,h12,h13,cond_true,cond_false,Bool.and_true,Bool.true_and,Bool.and_false,Bool.false_and]) rfl
       ·skip
        exact calc_path goodG (oracleIDiv hf) (cdiv_p8 f t n a b c d) (obsB_yes h12 (obsB_yes h12 (obsB_yes h12 (obsB_yes h11 (obsB_yes h10 (obsB_yes h9 (obsB_yes h2 (obsB_yes h1 (obsB_yes h0 obsB_nil))))))))) (by simp only [cDiv,askI,allI,thenI,oneI,endsI,hullI,show (!((0:Int) == 0)) = false from rfl,show (!((11:Int) == 0)) = true from rfl,I.zero,h0,h1,h2,h9,h10,h11,h12,cond_true,cond_false,Bool.and_true,Bool.true_and,Bool.and_false,Bool.false_and]) rfl
      ·skip
       exact calc_path goodG (oracleIDiv hf) (cdiv_p9 f t n a b c d) (obsB_yes h11 (obsB_yes h11 (obsB_yes h10 (obsB_yes h9 (obsB_yes h2 (obsB_yes h1 (obsB_yes h0 obsB_nil))))))) (by simp only [cDiv,askI,allI,thenI,oneI,endsI,hullI,show (!((0:Int) == 0)) = false from rfl,show (!((11:Int) == 0)) = true from rfl,I.zero,h0,h1,h2,h9,h10,h11,cond_true,cond_false,Bool.and_true,Bool.true_and,Bool.and_false,Bool.false_and]) rfl
     ·skip
      exact calc_path goodG (oracleIDiv hf) (cdiv_p10 f t n a b c d) (obsB_yes h10 (obsB_yes h10 (obsB_yes h10 (obsB_yes h9 (obsB_yes h2 (obsB_yes h1 (obsB_yes h0 obsB_nil))))))) (by simp only [cDiv,askI,allI,thenI,oneI,endsI,hullI,show (!((0:Int) == 0)) = false from rfl,show (!((11:Int) == 0)) = true from rfl,I.zero,h0,h1,h2,h9,h10,cond_true,cond_false,Bool.and_true,Bool.true_and,Bool.and_false,Bool.false_and]) rfl
    ·skip
     exact calc_path goodG (oracleIDiv hf) (cdiv_p11 f t n a b c d) (obsB_yes h9 (obsB_yes h2 (obsB_yes h1 (obsB_yes h0 obsB_nil)))) (by simp only [cDiv,askI,allI,thenI,oneI,endsI,hullI,show (!((0:Int) == 0)) = false from rfl,show (!((11:Int) == 0)) = true from rfl,I.zero,h0,h1,h2,h9,cond_true,cond_false,Bool.and_true,Bool.true_and,Bool.and_false,Bool.false_and]) rfl
 ·skip
  exact calc_path goodG (oracleIDiv hf) (cdiv_p12 f t n a b c d) (obsB_yes h0 obsB_nil) (by simp only [cDiv,askI,allI,thenI,oneI,endsI,hullI,show (!((0:Int) == 0)) = false from rfl,show (!((11:Int) == 0)) = true from rfl,I.zero,h0,cond_true,cond_false,Bool.and_true,Bool.true_and,Bool.and_false,Bool.false_and]) rfl
def OISqr (f:Bool → F → F → F × Int):OracleF := lookO [(67,plainO oRt),(101,plainO (oI1 bareI)),(81,plainO (kTwo f))]
theorem oracleISqr {f:Bool → F → F → F × Int} (hf:PlainOk Tryz.prog 81 (kTwo f)):OracleOk Tryz.prog (OISqr f) := .cons irightG.of (.cons bareG.of (.cons hf.of (.nil _)))
theorem csqr_p0 (f:Bool → F → F → F × Int) (t:Nat) (n:Int) (a b:F):takeR 1 ((run Tryz.prog EG (OISqr f) 60).1 40 (.p 0 0 :: [.agg [.fl a,.fl b]]) [⟨t,[.si .i64 n],.ex⟩] (some [false,false])) = some (.agg [.fl F.zero,.fl F.zero],[⟨t,[.i .i64 20],.ex⟩],some [],[(rt ⟨a,b⟩,false),((!(n == 0)),false)]) := by kernel_rfl
theorem csqr_p1 (f:Bool → F → F → F × Int) (t:Nat) (n:Int) (a b:F):takeR 1 ((run Tryz.prog EG (OISqr f) 60).1 40 (.p 0 0 :: [.agg [.fl a,.fl b]]) [⟨t,[.si .i64 n],.ex⟩] (some [false,true,false,false])) = some (.agg [.fl (f false (bareI ⟨a,b⟩).lo (bareI ⟨a,b⟩).lo).1,.fl (f true (bareI ⟨a,b⟩).hi (bareI ⟨a,b⟩).hi).1],[⟨t,[.si .i64 n],.ex⟩],some [],[((!((f true (bareI ⟨a,b⟩).hi (bareI ⟨a,b⟩).hi).2 == 0)),false),((!((f false (bareI ⟨a,b⟩).lo (bareI ⟨a,b⟩).lo).2 == 0)),false),(rt ⟨a,b⟩,true),((!(n == 0)),false)]) := by kernel_rfl
theorem csqr_p2 (f:Bool → F → F → F × Int) (t:Nat) (n:Int) (a b:F):takeR 1 ((run Tryz.prog EG (OISqr f) 60).1 40 (.p 0 0 :: [.agg [.fl a,.fl b]]) [⟨t,[.si .i64 n],.ex⟩] (some [false,true,false,true])) = some (.agg [.fl F.zero,.fl F.zero],[⟨t,[.si .i64 (f true (bareI ⟨a,b⟩).hi (bareI ⟨a,b⟩).hi).2],.ex⟩],some [],[((!((f true (bareI ⟨a,b⟩).hi (bareI ⟨a,b⟩).hi).2 == 0)),true),((!((f false (bareI ⟨a,b⟩).lo (bareI ⟨a,b⟩).lo).2 == 0)),false),(rt ⟨a,b⟩,true),((!(n == 0)),false)]) := by kernel_rfl
theorem csqr_p3 (f:Bool → F → F → F × Int) (t:Nat) (n:Int) (a b:F):takeR 1 ((run Tryz.prog EG (OISqr f) 60).1 40 (.p 0 0 :: [.agg [.fl a,.fl b]]) [⟨t,[.si .i64 n],.ex⟩] (some [false,true,true,true])) = some (.agg [.fl F.zero,.fl F.zero],[⟨t,[.si .i64 (f false (bareI ⟨a,b⟩).lo (bareI ⟨a,b⟩).lo).2],.ex⟩],some [],[((!((f false (bareI ⟨a,b⟩).lo (bareI ⟨a,b⟩).lo).2 == 0)),true),((!((f false (bareI ⟨a,b⟩).lo (bareI ⟨a,b⟩).lo).2 == 0)),true),(rt ⟨a,b⟩,true),((!(n == 0)),false)]) := by kernel_rfl
theorem csqr_p4 (f:Bool → F → F → F × Int) (t:Nat) (n:Int) (a b:F):takeR 1 ((run Tryz.prog EG (OISqr f) 60).1 40 (.p 0 0 :: [.agg [.fl a,.fl b]]) [⟨t,[.si .i64 n],.ex⟩] (some [true])) = some (.agg [.fl F.zero,.fl F.zero],[⟨t,[.si .i64 n],.ex⟩],some [],[((!(n == 0)),true)]) := by kernel_rfl
theorem csqr_I {f:Bool → F → F → F × Int} (hf:PlainOk Tryz.prog 81 (kTwo f)):OfOk Tryz.prog 40 (kC (aI (cSqr f))) := by
 refine ofI fun a b t n => ?_
 cases h0:(!(n == 0))
 ·skip
  cases h1:rt ⟨a,b⟩
  ·skip
   exact calc_path goodG (oracleISqr hf) (csqr_p0 f t n a b) (obsB_yes h1 (obsB_yes h0 obsB_nil)) (by simp only [cSqr,askI,endsI,I.zero,h0,h1,cond_true,cond_false,Bool.and_true,Bool.true_and,Bool.and_false,Bool.false_and]) rfl
  ·skip
   cases h3:(!((f false (bareI ⟨a,b⟩).lo (bareI ⟨a,b⟩).lo).2 == 0))
   ·skip
    cases h4:(!((f true (bareI ⟨a,b⟩).hi (bareI ⟨a,b⟩).hi).2 == 0))
    ·skip
     exact calc_path goodG (oracleISqr hf) (csqr_p1 f t n a b) (obsB_yes h4 (obsB_yes h3 (obsB_yes h1 (obsB_yes h0 obsB_nil)))) (by simp only [cSqr,askI,endsI,I.zero,h0,h1,h3,h4,cond_true,cond_false,Bool.and_true,Bool.true_and,Bool.and_false,Bool.false_and]) rfl
    ·skip
     exact calc_path goodG (oracleISqr hf) (csqr_p2 f t n a b) (obsB_yes h4 (obsB_yes h3 (obsB_yes h1 (obsB_yes h0 obsB_nil)))) (by simp only [cSqr,askI,endsI,I.zero,h0,h1,h3,h4,cond_true,cond_false,Bool.and_true,Bool.true_and,Bool.and_false,Bool.false_and]) rfl
   ·skip
    exact calc_path goodG (oracleISqr hf) (csqr_p3 f t n a b) (obsB_yes h3 (obsB_yes h3 (obsB_yes h1 (obsB_yes h0 obsB_nil)))) (by simp only [cSqr,askI,endsI,I.zero,h0,h1,h3,cond_true,cond_false,Bool.and_true,Bool.true_and,Bool.and_false,Bool.false_and]) rfl
 ·skip
  exact calc_path goodG (oracleISqr hf) (csqr_p4 f t n a b) (obsB_yes h0 obsB_nil) (by simp only [cSqr,askI,endsI,I.zero,h0,cond_true,cond_false,Bool.and_true,Bool.true_and,Bool.and_false,Bool.false_and]) rfl
def OIN:OracleF := lookO [(60,plainO oRight),(67,plainO oRt),(169,plainO (oI1 turnI)),(101,plainO (oI1 bareI))]
theorem oracleIN:OracleOk Tryz.prog OIN := .cons rightG.of (.cons irightG.of (.cons turnG.of (.cons bareG.of (.nil _))))
theorem cnum_p0  (t:Nat) (n:Int) (a:F):takeR 1 ((run Tryz.prog EG (OIN) 60).1 35 (.p 0 0 :: [.fl a]) [⟨t,[.si .i64 n],.ex⟩] (some [false])) = some (.agg [.fl a,.fl a],[⟨t,[.si .i64 n],.ex⟩],some [],[((!(n == 0)),false)]) := by kernel_rfl
theorem cnum_p1  (t:Nat) (n:Int) (a:F):takeR 1 ((run Tryz.prog EG (OIN) 60).1 35 (.p 0 0 :: [.fl a]) [⟨t,[.si .i64 n],.ex⟩] (some [true])) = some (.agg [.fl F.zero,.fl F.zero],[⟨t,[.si .i64 n],.ex⟩],some [],[((!(n == 0)),true)]) := by kernel_rfl
theorem cnum_I :OfOk Tryz.prog 35 (kC (aF cNum)) := by
 refine ofF fun a t n => ?_
 cases h0:(!(n == 0))
 ·skip
  exact calc_path goodG oracleIN (cnum_p0  t n a) (obsB_yes h0 obsB_nil) (by simp only [cNum,askI,show (!((0:Int) == 0)) = false from rfl,I.zero,h0,cond_true,cond_false,Bool.and_true,Bool.true_and,Bool.and_false,Bool.false_and]) rfl
 ·skip
  exact calc_path goodG oracleIN (cnum_p1  t n a) (obsB_yes h0 obsB_nil) (by simp only [cNum,askI,show (!((0:Int) == 0)) = false from rfl,I.zero,h0,cond_true,cond_false,Bool.and_true,Bool.true_and,Bool.and_false,Bool.false_and]) rfl
theorem cneg_p0  (t:Nat) (n:Int) (a b:F):takeR 1 ((run Tryz.prog EG (OIN) 60).1 109 (.p 0 0 :: [.agg [.fl a,.fl b]]) [⟨t,[.si .i64 n],.ex⟩] (some [false,false])) = some (.agg [.fl F.zero,.fl F.zero],[⟨t,[.i .i64 20],.ex⟩],some [],[(rt ⟨a,b⟩,false),((!(n == 0)),false)]) := by kernel_rfl
theorem cneg_p1  (t:Nat) (n:Int) (a b:F):takeR 1 ((run Tryz.prog EG (OIN) 60).1 109 (.p 0 0 :: [.agg [.fl a,.fl b]]) [⟨t,[.si .i64 n],.ex⟩] (some [false,true])) = some (.agg [.fl b.neg,.fl a.neg],[⟨t,[.si .i64 n],.ex⟩],some [],[(rt ⟨a,b⟩,true),((!(n == 0)),false)]) := by kernel_rfl
theorem cneg_p2  (t:Nat) (n:Int) (a b:F):takeR 1 ((run Tryz.prog EG (OIN) 60).1 109 (.p 0 0 :: [.agg [.fl a,.fl b]]) [⟨t,[.si .i64 n],.ex⟩] (some [true])) = some (.agg [.fl F.zero,.fl F.zero],[⟨t,[.si .i64 n],.ex⟩],some [],[((!(n == 0)),true)]) := by kernel_rfl
theorem cneg_I :OfOk Tryz.prog 109 (kC (aI cNeg)) := by
 refine ofI fun a b t n => ?_
 cases h0:(!(n == 0))
 ·skip
  cases h1:rt ⟨a,b⟩
  ·skip
   exact calc_path goodG oracleIN (cneg_p0  t n a b) (obsB_yes h1 (obsB_yes h0 obsB_nil)) (by simp only [cNeg,turnI,askI,show (!((0:Int) == 0)) = false from rfl,I.zero,h0,h1,cond_true,cond_false,Bool.and_true,Bool.true_and,Bool.and_false,Bool.false_and]) rfl
  ·skip
   exact calc_path goodG oracleIN (cneg_p1  t n a b) (obsB_yes h1 (obsB_yes h0 obsB_nil)) (by simp only [cNeg,turnI,askI,show (!((0:Int) == 0)) = false from rfl,I.zero,h0,h1,cond_true,cond_false,Bool.and_true,Bool.true_and,Bool.and_false,Bool.false_and]) rfl
 ·skip
  exact calc_path goodG oracleIN (cneg_p2  t n a b) (obsB_yes h0 obsB_nil) (by simp only [cNeg,turnI,askI,show (!((0:Int) == 0)) = false from rfl,I.zero,h0,cond_true,cond_false,Bool.and_true,Bool.true_and,Bool.and_false,Bool.false_and]) rfl
theorem cmax_p0  (t:Nat) (n:Int) (a b c d:F):takeR 1 ((run Tryz.prog EG (OIN) 60).1 38 (.p 0 0 :: [.agg [.fl a,.fl b],.agg [.fl c,.fl d]]) [⟨t,[.si .i64 n],.ex⟩] (some [false,false])) = some (.agg [.fl F.zero,.fl F.zero],[⟨t,[.i .i64 20],.ex⟩],some [],[(rt ⟨a,b⟩,false),((!(n == 0)),false)]) := by kernel_rfl
theorem cmax_p1  (t:Nat) (n:Int) (a b c d:F):takeR 1 ((run Tryz.prog EG (OIN) 60).1 38 (.p 0 0 :: [.agg [.fl a,.fl b],.agg [.fl c,.fl d]]) [⟨t,[.si .i64 n],.ex⟩] (some [false,true,false])) = some (.agg [.fl F.zero,.fl F.zero],[⟨t,[.i .i64 20],.ex⟩],some [],[(rt ⟨c,d⟩,false),(rt ⟨a,b⟩,true),((!(n == 0)),false)]) := by kernel_rfl
theorem cmax_p2  (t:Nat) (n:Int) (a b c d:F):takeR 1 ((run Tryz.prog EG (OIN) 60).1 38 (.p 0 0 :: [.agg [.fl a,.fl b],.agg [.fl c,.fl d]]) [⟨t,[.si .i64 n],.ex⟩] (some [false,true,true])) = some (.agg [.fl (mxF a c),.fl (mxF b d)],[⟨t,[.si .i64 n],.ex⟩],some [],[(rt ⟨c,d⟩,true),(rt ⟨a,b⟩,true),((!(n == 0)),false)]) := by kernel_rfl
theorem cmax_p3  (t:Nat) (n:Int) (a b c d:F):takeR 1 ((run Tryz.prog EG (OIN) 60).1 38 (.p 0 0 :: [.agg [.fl a,.fl b],.agg [.fl c,.fl d]]) [⟨t,[.si .i64 n],.ex⟩] (some [true])) = some (.agg [.fl F.zero,.fl F.zero],[⟨t,[.si .i64 n],.ex⟩],some [],[((!(n == 0)),true)]) := by kernel_rfl
theorem cmax_I :OfOk Tryz.prog 38 (kC (aII cMax)) := by
 refine ofII fun a b c d t n => ?_
 cases h0:(!(n == 0))
 ·skip
  cases h1:rt ⟨a,b⟩
  ·skip
   exact calc_path goodG oracleIN (cmax_p0  t n a b c d) (obsB_yes h1 (obsB_yes h0 obsB_nil)) (by simp only [cMax,maxI,askI,show (!((0:Int) == 0)) = false from rfl,I.zero,h0,h1,cond_true,cond_false,Bool.and_true,Bool.true_and,Bool.and_false,Bool.false_and]) rfl
  ·skip
   cases h2:rt ⟨c,d⟩
   ·skip
    exact calc_path goodG oracleIN (cmax_p1  t n a b c d) (obsB_yes h2 (obsB_yes h1 (obsB_yes h0 obsB_nil))) (by simp only [cMax,maxI,askI,show (!((0:Int) == 0)) = false from rfl,I.zero,h0,h1,h2,cond_true,cond_false,Bool.and_true,Bool.true_and,Bool.and_false,Bool.false_and]) rfl
   ·skip
    exact calc_path goodG oracleIN (cmax_p2  t n a b c d) (obsB_yes h2 (obsB_yes h1 (obsB_yes h0 obsB_nil))) (by simp only [cMax,maxI,askI,show (!((0:Int) == 0)) = false from rfl,I.zero,h0,h1,h2,cond_true,cond_false,Bool.and_true,Bool.true_and,Bool.and_false,Bool.false_and]) rfl
 ·skip
  exact calc_path goodG oracleIN (cmax_p3  t n a b c d) (obsB_yes h0 obsB_nil) (by simp only [cMax,maxI,askI,show (!((0:Int) == 0)) = false from rfl,I.zero,h0,cond_true,cond_false,Bool.and_true,Bool.true_and,Bool.and_false,Bool.false_and]) rfl
end Go.Proofs.YtejcekikbnlllaaGreat
