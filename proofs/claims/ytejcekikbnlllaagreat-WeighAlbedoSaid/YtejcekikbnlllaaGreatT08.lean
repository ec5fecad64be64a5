/- A unit vector's height is narrow. A unit vector's height is narrow: joined. A weight's .. -/
import Derived.Test.YtejcekikbnlllaaGreatT07
import Derived.Test.YtejcekikbnlllaaGreatT01
import Derived.Maps.Own
import Derived.Carry
import Derived.Test.YtejcekikbnlllaaGreatT04
import Derived.Test.YtejcekikbnlllaaGreatT05
import Derived.RangeFuncNested
import Derived.RangeFuncBound
import Derived.RangeFuncCalls
import Derived.RangeFuncLeaves
import Derived.RangeFuncBox
import Derived.Shelf.Abstract
import Derived.WalkKit
import Derived.OwnWalkIn
import Derived.TacticsInMore
import Derived.LoopNIn
import Derived.LoopIn
import Derived.Test.YtejcekikbnlllaaGreatProg
import Derived.Test.YtejcekikbnlllaaGreatRows
import Derived.WalkSpells
import Derived.WalkLawsBesides
import Derived.Laws.BitsAll
import Derived.Lib.Hide
import Derived.Test.YtejcekikbnlllaaGreatShelf
import Derived.RegionTactic
import Derived.Deep.QuietTactic
import Derived.BigQuiet
import Derived.Deep.RegionWith
import Derived.Deep.RegionHeld3
import Derived.Outline
import Derived.Deep.DeepCutAuto
set_option linter.all false
namespace Bu
open Rx Go
theorem Rl.mono {m n r v:Rat} (h:Rl m r v) (hv:0 ≤ v) (hm:m ≤ n):Rl n r v := by
 have := Rat.mul_nonneg hv (Rat.mul_nonneg (show 0 ≤ n - m by grind) (Rat.le_of_lt rl_pos))
 have a := h.lo; have b := h.hi
 clear h
 constructor <;> grind
theorem Rl.self (v:Rat):Rl 0 v v := by constructor <;> grind
theorem len_nar {S L H a b:Rat} (hS:0 ≤ S) (hL:0 ≤ L) (hH:0 ≤ H) (h1:a ≤ L * L + L * L * (8 * rl)) (h2:H * H - H * H * (8 * rl) ≤ b) (ha:S - S * (6 * rl) ≤ a) (hb:b ≤ S + S * (6 * rl)):H ≤ L + L * (40 * rl) := by
 have r0 := rl_v; have rp := rl_pos
 generalize rl = d at *
 have d1:d ≤ 1 / 1024 := by grind
 have LL := Rat.mul_nonneg hL hL
 have HH := Rat.mul_nonneg hH hH
 refine sq_le' hH ?_ ?_
 ·have := Rat.mul_nonneg hL (Rat.le_of_lt rp); grind
 have k1:S * (1 - 6 * d) ≤ L * L * (1 + 8 * d) := by grind
 have k2:H * H * (1 - 8 * d) ≤ S * (1 + 6 * d) := by grind
 generalize hA:L * L = A at *
 generalize hB:H * H = B at *
 -- B (1 - 8 d) (1 - 6 d) <= S (1 + 6 d) (1 - 6 d) <= A (1 + 8 d) (1 + 6 d)
 have k3 := Rat.mul_nonneg (show 0 ≤ S * (1 + 6 * d) - B * (1 - 8 * d) by grind) (show 0 ≤ 1 - 6 * d by grind)
 have k4 := Rat.mul_nonneg (show 0 ≤ A * (1 + 8 * d) - S * (1 - 6 * d) by grind) (show 0 ≤ 1 + 6 * d by grind)
 have k5:B * ((1 - 8 * d) * (1 - 6 * d)) ≤ A * ((1 + 8 * d) * (1 + 6 * d)) := by grind
 have k6:1 - 14 * d ≤ (1 - 8 * d) * (1 - 6 * d) := by have := Rat.mul_nonneg (Rat.le_of_lt rp) (Rat.le_of_lt rp); grind
 have k7:(1 + 8 * d) * (1 + 6 * d) ≤ 1 + 15 * d := by have := Rat.mul_nonneg (Rat.le_of_lt rp) (show 0 ≤ 1 / 1024 - d by grind); grind
 have k8 := Rat.mul_nonneg HH (show 0 ≤ (1 - 8 * d) * (1 - 6 * d) - (1 - 14 * d) by grind)
 have k9 := Rat.mul_nonneg LL (show 0 ≤ 1 + 15 * d - (1 + 8 * d) * (1 + 6 * d) by grind)
 have ka:B * (1 - 14 * d) ≤ A * (1 + 15 * d) := by grind
 have kb := Rat.mul_nonneg (show 0 ≤ A * (1 + 15 * d) - B * (1 - 14 * d) by grind) (show 0 ≤ 1 + 20 * d by grind)
 have kc:1 ≤ (1 - 14 * d) * (1 + 20 * d) := by have := Rat.mul_nonneg (Rat.le_of_lt rp) (show 0 ≤ 1 / 1024 - d by grind); grind
 have kd:(1 + 15 * d) * (1 + 20 * d) ≤ 1 + 40 * d := by have := Rat.mul_nonneg (Rat.le_of_lt rp) (show 0 ≤ 1 / 1024 - d by grind); grind
 have ke := Rat.mul_nonneg HH (show 0 ≤ (1 - 14 * d) * (1 + 20 * d) - 1 by grind)
 have kf := Rat.mul_nonneg LL (show 0 ≤ 1 + 40 * d - (1 + 15 * d) * (1 + 20 * d) by grind)
 have kg:B ≤ A + A * (40 * d) := by grind
 have e:(L + L * (40 * d)) * (L + L * (40 * d)) = A + A * (80 * d) + A * (1600 * (d * d)) := by rw [← hA]; grind
 have kh := Rat.mul_nonneg LL (Rat.mul_nonneg (Rat.le_of_lt rp) (Rat.le_of_lt rp))
 have ki := Rat.mul_nonneg LL (Rat.le_of_lt rp)
 rw [e]
 grind
theorem rl_sm:rl ≤ 1 / 1024 := by have := rl_v; generalize rl = d at *; grind
theorem p81:((2 ^ 81:Nat):Rat) = 2 * ((2 ^ 80:Nat):Rat) := by decide +kernel
theorem rl_half {n v r:Rat} (h:Rl n r v) (hv:0 ≤ v) (hn:0 ≤ n) (hn8:n ≤ 32):v ≤ 2 * r ∧ r ≤ v + v * (1 / 32) := by
 have a := h.lo; have b := h.hi
 clear h
 have e:n * rl ≤ 1 / 32 := by
  have := Rat.mul_nonneg hn (show 0 ≤ 1 / 1024 - rl by have := rl_sm; grind)
  grind
 have k := Rat.mul_nonneg hv (show 0 ≤ 1 / 32 - n * rl by grind)
 generalize n * rl = e at *
 constructor <;> grind
theorem sum_rl {a b v w n:Rat} (ha:Rl n a v) (hb:Rl n b w) (hv:0 ≤ v) (hw:0 ≤ w) (hn:0 ≤ n) (hn8:n ≤ 32) (big:1 ≤ ((2 ^ 80:Nat):Rat) * v) (h3:v + w ≤ 3):1 ≤ ((2 ^ 81:Nat):Rat) * (a + b) ∧ a + b ≤ 4 ∧ Rl n (a + b) (v + w) := by
 have h := ha.add hb
 obtain ⟨k1,k2⟩ := rl_half h (by grind) hn hn8
 refine ⟨?_,by grind,h⟩
 rw [p81]
 have hp:(0:Rat) < ((2 ^ 80:Nat):Rat) := pow_q 80
 generalize ((2 ^ 80:Nat):Rat) = p at *
 have e1 := Rat.mul_nonneg (Rat.le_of_lt hp) (show 0 ≤ 2 * (a + b) - (v + w) by grind)
 have e2 := Rat.mul_nonneg (Rat.le_of_lt hp) hw
 grind
theorem sum_dn {r:F} {a b v w n:Rat} (d:Dn r (a + b)) (ha:Rl n a v) (hb:Rl n b w) (hv:0 ≤ v) (hw:0 ≤ w) (hn:0 ≤ n) (hn8:n ≤ 32) (big:1 ≤ ((2 ^ 80:Nat):Rat) * v) (h3:v + w ≤ 3):Rl (n + 2) r.q (v + w) := by
 obtain ⟨k1,k2,k3⟩ := sum_rl ha hb hv hw hn hn8 big h3
 exact ⟨k3.dn (by grind) hn (by grind) d (by decide) k1 k2,Rat.le_trans d.le (k3.mono (n := n + 2) (by grind) (by grind)).hi⟩
theorem sum_up {r:F} {a b v w n:Rat} (d:Up r (a + b)) (ha:Rl n a v) (hb:Rl n b w) (hv:0 ≤ v) (hw:0 ≤ w) (hn:0 ≤ n) (hn8:n ≤ 32) (big:1 ≤ ((2 ^ 80:Nat):Rat) * v) (h3:v + w ≤ 3):Rl (n + 2) r.q (v + w) := by
 obtain ⟨k1,k2,k3⟩ := sum_rl ha hb hv hw hn hn8 big h3
 exact ⟨Rat.le_trans (k3.mono (n := n + 2) (by grind) (by grind)).lo d.ge,k3.up (by grind) hn (by grind) d (by decide) k1 k2⟩
theorem sqr_rl {x:F} {q:I} (hx:N1 x) (d:Dn q.lo (x.q * x.q)) (u:Up q.hi (x.q * x.q)) (big:1 ≤ ((2 ^ 80:Nat):Rat) * (x.q * x.q)):Rl 2 q.lo.q (x.q * x.q) ∧ Rl 2 q.hi.q (x.q * x.q) ∧ 0 ≤ x.q * x.q ∧ x.q * x.q ≤ 1 := by
 have h1 := sq_bd (x := x.q) (m := 1) hx.lo hx.hi
 have h0:0 ≤ x.q * x.q := by
  rcases (Rat.le_total:0 ≤ x.q ∨ x.q ≤ 0) with g | g
  ·exact Rat.mul_nonneg g g
  ·have := Rat.mul_nonneg (show 0 ≤ -x.q by grind) (show 0 ≤ -x.q by grind); grind
 have S := Rl.self (x.q * x.q)
 have e:(0:Rat) + 2 = 2 := by decide +kernel
 have a := S.dn h0 Rat.le_refl (by decide) d (s := 80) (by decide) big (by grind)
 have b := S.up h0 Rat.le_refl (by decide) u (s := 80) (by decide) big (by grind)
 rw [e] at a b
 have m := S.mono (n := 2) h0 (by decide)
 exact ⟨⟨a,Rat.le_trans d.le m.hi⟩,⟨Rat.le_trans m.lo u.ge,b⟩,h0,by grind⟩
theorem quot_nar {z L H:Rat} {r:I} (h:AllR r (z / L) (z / H) (z / L) (z / H)) (hz:0 < z) (z1:z ≤ 1) (zb:1 / 64 ≤ z) (hL:1 / 64 ≤ L) (hLH:L ≤ H) (hH:H ≤ 2) (hzL:z / L ≤ 2) (hn:H ≤ L + L * (40 * rl)):r.hi.q ≤ r.lo.q + r.lo.q * (64 * rl) := by
 have r0 := rl_v; have rp := rl_pos; have rs := rl_sm
 have eL:z / L * L = z := Rat.div_mul_cancel (by grind)
 have eH:z / H * H = z := Rat.div_mul_cancel (by grind)
 have tH:0 < z / H := by
  apply Rat.not_le.1
  intro g
  have := Rat.mul_nonneg (show 0 ≤ -(z / H) by grind) (show 0 ≤ H by grind)
  grind
 have tL:0 < z / L := by
  apply Rat.not_le.1
  intro g
  have := Rat.mul_nonneg (show 0 ≤ -(z / L) by grind) (show 0 ≤ L by grind)
  grind
 have b1:1 / 128 ≤ z / H := by
  apply Rat.not_lt.1
  intro g
  have := Rat.mul_pos (show 0 < 1 / 128 - z / H by grind) (show 0 < H by grind)
  grind
 have tt:z / H ≤ z / L := by
  apply Rat.not_lt.1
  intro g
  have := Rat.mul_pos (show 0 < z / H - z / L by grind) (show 0 < L by grind)
  have := Rat.mul_nonneg (Rat.le_of_lt tH) (show 0 ≤ H - L by grind)
  grind
 -- z / L <= z / H (1 + 40 d)
 have t2:z / L ≤ z / H + z / H * (40 * rl) := by
  apply Rat.not_lt.1
  intro g
  have k1 := Rat.mul_pos (show 0 < z / L - (z / H + z / H * (40 * rl)) by grind) (show 0 < L by grind)
  have k2 := Rat.mul_nonneg (Rat.le_of_lt tH) (show 0 ≤ L + L * (40 * rl) - H by grind)
  generalize rl = d at *
  generalize z / L = a at *
  generalize z / H = b at *
  grind
 have p7:((2 ^ 7:Nat):Rat) = 128 := by decide +kernel
 obtain ⟨_,c,c1,c2⟩ := fl_near (v := z / H) (s := 7) (by decide) (by rw [p7]; grind) (by grind)
 obtain ⟨⟨e,e1,e2⟩,_⟩ := fl_near (v := z / L) (s := 7) (by decide) (by rw [p7]; grind) (by grind)
 have lo := h.top (c := c) (by grind) c1 (by grind) c1
 have hi := h.bot (c := e) e1 (by grind) e1 (by grind)
 clear h
 generalize rl = d at *
 generalize z / L = a at *
 generalize z / H = b at *
 -- hi <= a (1 + d) <= b (1 + 40 d) (1 + d),lo >= b (1 - d)
 have bd := Rat.mul_nonneg (Rat.le_of_lt tH) (Rat.le_of_lt rp)
 have g1 := Rat.mul_nonneg (show 0 ≤ b + b * (40 * d) - a by grind) (Rat.le_of_lt rp)
 have g2 := Rat.mul_nonneg bd (show 0 ≤ 1 / 1024 - d by grind)
 have g3:r.hi.q ≤ b + b * (42 * d) := by grind
 have g4:b - b * d ≤ r.lo.q := by grind
 have g5 := Rat.mul_nonneg (show 0 ≤ r.lo.q - (b - b * d) by grind) (Rat.le_of_lt rp)
 grind
theorem two_of {z L H d:Rat} (a:z ≤ H) (b:H ≤ L + L * (40 * d)) (c:0 ≤ L * (1 / 1024 - d)) (e:0 ≤ L):z ≤ 2 * L := by grind
theorem pos_of {z:Rat} (h:1 / 64 ≤ z):0 < z := by grind
theorem un_nar {x y z:F} (hx:N1 x) (hy:N1 y) (z0:1 / 64 ≤ z.q) (z1:z.q ≤ 1) (nx:1 ≤ ((2 ^ 80:Nat):Rat) * (x.q * x.q)) (ny:1 ≤ ((2 ^ 80:Nat):Rat) * (y.q * y.q)):(unV KkR x y z).z.hi.q ≤ (unV KkR x y z).z.lo.q + (unV KkR x y z).z.lo.q * (64 * rl) := by
 have hz:N1 z := ⟨by grind,z1⟩
 have ix := pt_in hx; have iy := pt_in hy; have iz := pt_in hz
 obtain ⟨qx,e1,a1,m1⟩ := sqr_in ix
 obtain ⟨qy,e2,a2,m2⟩ := sqr_in iy
 obtain ⟨s1,e3,d3,u3⟩ := cAdd_ok a1.sm a2.sm
 obtain ⟨qz,e4,a4,m4⟩ := sqr_in iz
 obtain ⟨qx',f1,dx1,ux1⟩ := sqr_pt hx
 obtain rfl:qx = qx' := congrArg Prod.fst (e1.symm.trans f1)
 obtain ⟨qy',f2_,dy1,uy1⟩ := sqr_pt hy
 obtain rfl:qy = qy' := congrArg Prod.fst (e2.symm.trans f2_)
 obtain ⟨qz',f3,dz1,uz1⟩ := sqr_pt hz
 obtain rfl:qz = qz' := congrArg Prod.fst (e4.symm.trans f3)
 have zz0:1 / 4096 ≤ z.q * z.q := by
  have := sq_bd (x := 1 / 64) (m := z.q) (by grind) z0
  grind
 have nz:1 ≤ ((2 ^ 80:Nat):Rat) * (z.q * z.q) := by
  have e:((2 ^ 80:Nat):Rat) = 1208925819614629174706176 := by decide +kernel
  rw [e]
  have := Rat.mul_nonneg (show (0:Rat) ≤ 1208925819614629174706176 by decide) (show 0 ≤ z.q * z.q - 1 / 4096 by grind)
  grind
 obtain ⟨X1,X2,X0,X3⟩ := sqr_rl hx dx1 ux1 nx
 obtain ⟨Y1,Y2,Y0,Y3⟩ := sqr_rl hy dy1 uy1 ny
 obtain ⟨Z1,Z2,Z0,Z3⟩ := sqr_rl hz dz1 uz1 nz
 have l1 := a1.lo; have h1 := a1.hi; have r1 := a1.rt; have l2 := a2.lo; have h2 := a2.hi; have r2 := a2.rt
 obtain ⟨f2,g2⟩ := fl_ex 2 0 (by decide) (by decide) 2 (by decide +kernel)
 obtain ⟨f4,g4⟩ := fl_ex 4 0 (by decide) (by decide) 4 (by decide +kernel)
 have s1lo:0 ≤ s1.lo.q := dn_nn d3 (by grind)
 have s1hi:s1.hi.q ≤ 2 := by have := u3.bot f2 (by rw [g2]; grind); rwa [g2] at this
 have s1rt:s1.lo.q ≤ s1.hi.q := by have := d3.le; have := u3.ge; grind
 have s1sm:Sm s1 := ⟨by grind,s1rt,by grind⟩
 obtain ⟨s2,e5,d5,u5⟩ := cAdd_ok s1sm a4.sm
 have l4 := a4.lo; have h4 := a4.hi; have r4 := a4.rt
 have S1 := sum_dn d3 X1 Y1 X0 Y0 (by decide) (by decide) nx (by grind)
 have S2 := sum_up u3 X2 Y2 X0 Y0 (by decide) (by decide) nx (by grind)
 have e22:(2:Rat) + 2 = 4 := by decide +kernel
 have e42:(4:Rat) + 2 = 6 := by decide +kernel
 rw [e22] at S1 S2
 have nxy:1 ≤ ((2 ^ 80:Nat):Rat) * (x.q * x.q + y.q * y.q) := by
  have := Rat.mul_nonneg (Rat.le_of_lt (pow_q 80)) Y0
  generalize ((2 ^ 80:Nat):Rat) = p at *
  grind
 have T1 := sum_dn d5 S1 (Z1.mono (n := 4) Z0 (by decide)) (by grind) Z0 (by decide) (by decide) nxy (by grind)
 have T2 := sum_up u5 S2 (Z2.mono (n := 4) Z0 (by decide)) (by grind) Z0 (by decide) (by decide) nxy (by grind)
 rw [e42] at T1 T2
 clear nx ny nz nxy
 have Sp:1 / 4096 ≤ x.q * x.q + y.q * y.q + z.q * z.q := by grind
 have Q1 := (rl_half T1 (by grind) (by decide) (by decide)).1
 have s2lo:1 / 8192 ≤ s2.lo.q := by grind
 have s2hi:s2.hi.q ≤ 4 := by have := u5.bot f4 (by rw [g4]; grind); rwa [g4] at this
 have s2rt:s2.lo.q ≤ s2.hi.q := by have := d5.le; have := u5.ge; grind
 obtain ⟨nn,e6,r6,d6,u6⟩ := sqrt_mk (rt_q s2rt) (by grind)
 obtain ⟨f12,g12⟩ := fl_ex 1 12 (by decide) (by decide) (1 / 4096) (by decide +kernel)
 obtain ⟨f6,g6⟩ := fl_ex 1 6 (by decide) (by decide) (1 / 64) (by decide +kernel)
 have qzlo:1 / 4096 ≤ qz.lo.q := by rw [← g12]; exact dz1.top f12 (by rw [g12]; exact zz0)
 have s2lo':1 / 4096 ≤ s2.lo.q := by have := d5.top f12 (by rw [g12]; grind); rwa [g12] at this
 have nlo:1 / 64 ≤ nn.lo.q := by have := d6.top f6 (by rw [g6]; grind) (by rw [g6]; grind); rwa [g6] at this
 have nhi:nn.hi.q ≤ 2 := by have := u6.bot f2 (by rw [g2]; grind) (by rw [g2]; grind); rwa [g2] at this
 have nrt := rt_le r6
 have p6:((2 ^ 6:Nat):Rat) = 64 := by decide +kernel
 have dr := d6.rel (s := 6) (by decide) (by rw [p6]; grind) (by grind)
 have ur := u6.rel (s := 6) (by decide) (by rw [p6]; grind) nhi
 have nar:nn.hi.q ≤ nn.lo.q + nn.lo.q * (40 * rl) := len_nar (S := x.q * x.q + y.q * y.q + z.q * z.q) (by grind) (by grind) (by grind) dr ur T1.lo T2.hi
 have pr:∀ w:F,rt (pt w) = true := fun w => decide_eq_true (Int.le_refl _)
 have bd:∀ {w:F},N1 w → -(9007199254740992 * nn.lo.q) ≤ (pt w).lo.q ∧ (pt w).hi.q ≤ 9007199254740992 * nn.lo.q := by
  intro w hw
  have a := hw.lo; have b := hw.hi
  have:(pt w).lo.q = w.q := rfl
  have:(pt w).hi.q = w.q := rfl
  constructor <;> grind
 obtain ⟨dx,e7,_⟩ := div_mk (pr x) r6 (by grind) (bd hx).1 (bd hx).2
 obtain ⟨dy,e8,_⟩ := div_mk (pr y) r6 (by grind) (bd hy).1 (bd hy).2
 obtain ⟨dz,e9,h9⟩ := div_mk (pr z) r6 (by grind) (bd hz).1 (bd hz).2
 have hE:unE KkR x y z = ([withI dz,dz,withI dy,dy,withI dx,dx,nn,s2,qz,s1,qy,qx,pt z,pt y,pt x],0) := by
  unfold unE unP
  refine (eval_cons (r := pt x) (e' := 0) ?_).trans ?_
  ·exact rfl
  refine (eval_cons (r := pt y) (e' := 0) ?_).trans ?_
  ·exact rfl
  refine (eval_cons (r := pt z) (e' := 0) ?_).trans ?_
  ·exact rfl
  refine (eval_cons (r := qx) (e' := 0) ?_).trans ?_
  ·exact e1
  refine (eval_cons (r := qy) (e' := 0) ?_).trans ?_
  ·exact e2
  refine (eval_cons (r := s1) (e' := 0) ?_).trans ?_
  ·exact e3
  refine (eval_cons (r := qz) (e' := 0) ?_).trans ?_
  ·exact e4
  refine (eval_cons (r := s2) (e' := 0) ?_).trans ?_
  ·exact e5
  refine (eval_cons (r := nn) (e' := 0) ?_).trans ?_
  ·exact e6
  refine (eval_cons (r := dx) (e' := 0) ?_).trans ?_
  ·exact e7
  refine (eval_cons (r := withI dx) (e' := 0) ?_).trans ?_
  ·exact rfl
  refine (eval_cons (r := dy) (e' := 0) ?_).trans ?_
  ·exact e8
  refine (eval_cons (r := withI dy) (e' := 0) ?_).trans ?_
  ·exact rfl
  refine (eval_cons (r := dz) (e' := 0) ?_).trans ?_
  ·exact e9
  refine (eval_cons (r := withI dz) (e' := 0) ?_).trans ?_
  ·exact rfl
  rfl
 have hV:unV KkR x y z = ⟨withI dx,withI dy,withI dz⟩ := by unfold unV; rw [hE]; rfl
 rw [hV]
 clear hV hE
 have zn:z.q ≤ nn.hi.q := by
  refine sq_le' (by grind) (by grind) ?_
  have a := u6.ge
  have b := uz1.ge
  have c := u5.ge
  grind
 have eH:z.q / nn.hi.q * nn.hi.q = z.q := Rat.div_mul_cancel (by grind)
 have eL:z.q / nn.lo.q * nn.lo.q = z.q := Rat.div_mul_cancel (by grind)
 have top:z.q / nn.hi.q ≤ 1 := by
  generalize z.q / nn.hi.q = t at *
  apply Rat.not_lt.1
  intro g
  have := Rat.mul_pos (show 0 < t - 1 by grind) (show 0 < nn.hi.q by grind)
  grind
 have bot:-1 ≤ z.q / nn.hi.q := by
  generalize z.q / nn.hi.q = t at *
  apply Rat.not_lt.1
  intro g
  have := Rat.mul_pos (show 0 < -1 - t by grind) (show 0 < nn.hi.q by grind)
  grind
 have two:z.q / nn.lo.q ≤ 2 := by
  have hd:rl ≤ 1 / 1024 := rl_sm
  have k := Rat.mul_nonneg (show 0 ≤ nn.lo.q by grind) (show 0 ≤ 1 / 1024 - rl by grind)
  have zl:z.q ≤ 2 * nn.lo.q := two_of zn nar k (by grind)
  clear k nar dr ur
  generalize z.q / nn.lo.q = t at *
  apply Rat.not_lt.1
  intro g
  have := Rat.mul_pos (show 0 < t - 2 by grind) (show 0 < nn.lo.q by grind)
  grind
 have mz:Mem dz (z.q / nn.hi.q) := ⟨h9.lo.2.1,h9.hi.2.1⟩
 have Q := quot_nar (r := dz) h9 (pos_of z0) z1 z0 nlo nrt nhi two nar
 show (withI dz).hi.q ≤ (withI dz).lo.q + (withI dz).lo.q * (64 * rl)
 rw [withI_eq mz bot top]
 show (mnF dz.hi one64).q ≤ (mxF dz.lo mone64).q + (mxF dz.lo mone64).q * (64 * rl)
 have w1 := (mnF_q dz.hi one64).1
 have w2 := (mxF_q dz.lo mone64).1
 have w3 := Rat.mul_nonneg (show 0 ≤ (mxF dz.lo mone64).q - dz.lo.q by grind) (Rat.le_of_lt rl_pos)
 clear T1 T2 S1 S2 X1 X2 Y1 Y2 Z1 Z2 dr ur nar
 generalize (mxF dz.lo mone64).q = u at *
 generalize (mnF dz.hi one64).q = v at *
 generalize dz.lo.q = a at *
 generalize dz.hi.q = b at *
 generalize rl = d at *
 clear h9 mz top bot two eL eH zn
 grind
theorem al_hi {r pl ph Zl Zh f q F M P u h e t:Rat} (r0:0 ≤ r) (r1:r ≤ 1) (f0:0 ≤ f) (q0:1 / 512 ≤ q) (Z0:0 ≤ Zl) (Z1:Zh ≤ 1) (u0:0 ≤ u) (h0:0 ≤ h) (e0:0 ≤ e) (t0:0 ≤ t) (t1:t ≤ 1) (he:e + h + e * h ≤ 2 * h) (ht:2 * h + 2560 * u ≤ t)
  (hf:f * pl = r) (hq:q * ph = Zl) (hp:ph ≤ pl + pl * e) (hZ:Zh ≤ Zl + Zl * h) (hZh:0 ≤ Zh) (hF:F ≤ f + u) (hM:M ≤ F * Zh + u) (hP:q - u ≤ P):M ≤ (r + t) * P := by
 have k1 := Rat.mul_nonneg (Rat.mul_nonneg f0 (show 0 ≤ q by grind)) (show 0 ≤ pl + pl * e - ph by grind)
 have k2:f * Zl ≤ r * q + r * q * e := by rw [← hq,← hf]; grind
 have k3 := Rat.mul_nonneg f0 (show 0 ≤ Zl + Zl * h - Zh by grind)
 have k4 := Rat.mul_nonneg (show 0 ≤ r * q + r * q * e - f * Zl by grind) h0
 have k5 := Rat.mul_nonneg (show 0 ≤ f + u - F by grind) hZh
 have k6 := Rat.mul_nonneg u0 (show 0 ≤ 1 - Zh by grind)
 have rq:0 ≤ r * q := Rat.mul_nonneg r0 (by grind)
 have k7 := Rat.mul_nonneg rq (show 0 ≤ 2 * h - (e + h + e * h) by grind)
 have k8:M ≤ r * q + r * q * (2 * h) + 2 * u := by grind
 have k9 := Rat.mul_nonneg (show 0 ≤ r + t by grind) (show 0 ≤ P - (q - u) by grind)
 have ka := Rat.mul_nonneg u0 (show 0 ≤ 2 - (r + t) by grind)
 have kb:r * q + t * q - 2 * u ≤ (r + t) * P := by grind
 have kc := Rat.mul_nonneg (show 0 ≤ q by grind) (show 0 ≤ t - (2 * h + 2560 * u) by grind)
 have kd := Rat.mul_nonneg u0 (show 0 ≤ q - 1 / 512 by grind)
 have ke := Rat.mul_nonneg (Rat.mul_nonneg (show 0 ≤ q by grind) h0) (show 0 ≤ 1 - r by grind)
 clear k1 k2 k3 k4 k5 k6 k7 k9 ka hf hq hp hZ hF hM hP
 grind
theorem al_lo {r pl ph Zl Zh f q F M P u h e t:Rat} (r0:0 ≤ r) (r1:r ≤ 1) (f0:0 ≤ f) (q0:1 / 512 ≤ q) (Z0:0 ≤ Zl) (Z1:Zl ≤ 1) (u0:0 ≤ u) (h0:0 ≤ h) (e0:0 ≤ e) (t0:0 ≤ t) (t1:t ≤ 1) (he:e + h + e * h ≤ 2 * h) (ht:2 * h + 2560 * u ≤ t)
  (hf:f * ph = r) (hq:q * pl = Zh) (hp:ph ≤ pl + pl * e) (hpp:pl ≤ ph) (hZ:Zh ≤ Zl + Zl * h) (hZl:Zl ≤ Zh) (hF:f - u ≤ F) (hM:F * Zl - u ≤ M) (hM0:0 ≤ M) (hP:P ≤ q + u) (hP0:0 ≤ P):(r - t) * P ≤ M := by
 by_cases g:r ≤ t
 ·have := Rat.mul_nonneg (show 0 ≤ t - r by grind) hP0
  grind
 have qn:0 ≤ q := by grind
 have k1 := Rat.mul_nonneg (Rat.mul_nonneg f0 qn) (show 0 ≤ pl + pl * e - ph by grind)
 have e1:r * q ≤ f * Zh + f * Zh * e := by rw [← hq,← hf]; grind
 have k2 := Rat.mul_nonneg f0 (show 0 ≤ Zl + Zl * h - Zh by grind)
 have k3 := Rat.mul_nonneg (Rat.mul_nonneg f0 (show 0 ≤ Zl + Zl * h - Zh by grind)) e0
 have fz:0 ≤ f * Zl := Rat.mul_nonneg f0 Z0
 have k4 := Rat.mul_nonneg fz (show 0 ≤ 2 * h - (e + h + e * h) by grind)
 have e2:r * q ≤ f * Zl + f * Zl * (2 * h) := by grind
 -- f Zl <= r q
 have k5 := Rat.mul_nonneg (Rat.mul_nonneg f0 qn) (show 0 ≤ ph - pl by grind)
 have k6 := Rat.mul_nonneg f0 (show 0 ≤ Zh - Zl by grind)
 have e3:f * Zl ≤ r * q := by
  have:f * Zh ≤ r * q := by rw [← hq,← hf]; grind
  grind
 have k7 := Rat.mul_nonneg (show 0 ≤ r * q - f * Zl by grind) h0
 have k8 := Rat.mul_nonneg (show 0 ≤ F - (f - u) by grind) Z0
 have k9 := Rat.mul_nonneg u0 (show 0 ≤ 1 - Zl by grind)
 have ea:r * q - r * q * (2 * h) - 2 * u ≤ M := by
  clear k1 k2 k3 k4 k5 k6 hf hq hp hpp hZ hZl e1
  grind
 have kb := Rat.mul_nonneg (show 0 ≤ r - t by grind) (show 0 ≤ q + u - P by grind)
 have kc := Rat.mul_nonneg u0 (show 0 ≤ 1 - (r - t) by grind)
 have kd := Rat.mul_nonneg qn (show 0 ≤ t - (2 * h + 2560 * u) by grind)
 have ke := Rat.mul_nonneg u0 (show 0 ≤ q - 1 / 512 by grind)
 have kf := Rat.mul_nonneg (Rat.mul_nonneg qn h0) (show 0 ≤ 1 - r by grind)
 clear k1 k2 k3 k4 k5 k6 k7 k8 k9 hf hq hp hpp hZ hZl e1 e2 e3 hF hM hP
 grind
set_option maxRecDepth 100000 in
theorem pi_lo:PIc.lo.q * 2251799813685248 = 7074237752028440 := q_of' (n := 7074237752028440) (s := 51) (by decide +kernel) (by decide +kernel)
set_option maxRecDepth 100000 in
theorem pi_hi:PIc.hi.q * 2251799813685248 = 7074237752028441 := q_of' (n := 7074237752028441) (s := 51) (by decide +kernel) (by decide +kernel)
theorem pi_rt:rt PIc = true := by decide +kernel
theorem pi_bd:3 ≤ PIc.lo.q ∧ PIc.hi.q ≤ 4 ∧ PIc.lo.q ≤ PIc.hi.q ∧ PIc.hi.q ≤ PIc.lo.q + PIc.lo.q * rl := by
 have a := pi_lo; have b := pi_hi; have c := rl_v
 generalize PIc.lo.q = x at *
 generalize PIc.hi.q = y at *
 generalize rl = d at *
 have e:x * d * 2251799813685248 = x := by grind
 refine ⟨by grind,by grind,by grind,by grind⟩
theorem divpi {a:I} (ha:rt a = true) (h0:0 ≤ a.lo.q) (h1:a.hi.q ≤ 1):∃ r,cDiv pDiv 0 a PIc = (r,0) ∧ AllR r (a.lo.q / PIc.lo.q) (a.lo.q / PIc.hi.q) (a.hi.q / PIc.lo.q) (a.hi.q / PIc.hi.q) := by
 obtain ⟨p1,p2,p3,p4⟩ := pi_bd
 exact div_mk ha pi_rt (by grind) (by grind) (by grind)
def tW:Rat := 15 / 35184372088832
theorem quo_nn {a b:Rat} (ha:0 ≤ a) (hb:0 < b):0 ≤ a / b := by
 have e:a / b * b = a := Rat.div_mul_cancel (by grind)
 apply Rat.not_lt.1
 intro g
 have := Rat.mul_pos (show 0 < -(a / b) by grind) hb
 grind
theorem quo_le {a b c:Rat} (hb:0 < b) (h:a ≤ c * b):a / b ≤ c := by
 have e:a / b * b = a := Rat.div_mul_cancel (by grind)
 apply Rat.not_lt.1
 intro g
 have := Rat.mul_pos (show 0 < a / b - c by grind) hb
 grind
theorem quo_ge {a b c:Rat} (hb:0 < b) (h:c * b ≤ a):c ≤ a / b := by
 have e:a / b * b = a := Rat.div_mul_cancel (by grind)
 apply Rat.not_lt.1
 intro g
 have := Rat.mul_pos (show 0 < c - a / b by grind) hb
 grind
theorem over_pi {a:I} (ha:rt a = true) (h0:0 ≤ a.lo.q) (h1:a.hi.q ≤ 1):∃ r,cDiv pDiv 0 a PIc = (r,0) ∧ rt r = true ∧ 0 ≤ r.lo.q ∧ r.hi.q ≤ 1 ∧ a.lo.q / PIc.hi.q - ulp ≤ r.lo.q ∧ r.hi.q ≤ a.hi.q / PIc.lo.q + ulp ∧ ∀ v,Mem a v → Mem r (v / PIc.lo.q) := by
 obtain ⟨r,e,h⟩ := divpi ha h0 h1
 obtain ⟨p1,p2,p3,p4⟩ := pi_bd
 have l := rt_le ha
 have b0:0 ≤ a.lo.q / PIc.hi.q := quo_nn h0 (by grind)
 have m1:a.lo.q / PIc.hi.q ≤ a.lo.q / PIc.lo.q := quo_ge (by grind) (by
  have e1:a.lo.q / PIc.hi.q * PIc.hi.q = a.lo.q := Rat.div_mul_cancel (by grind)
  have := Rat.mul_nonneg b0 (show 0 ≤ PIc.hi.q - PIc.lo.q by grind)
  grind)
 have m2:a.lo.q / PIc.hi.q ≤ a.hi.q / PIc.hi.q := quo_ge (by grind) (by
  have e1:a.lo.q / PIc.hi.q * PIc.hi.q = a.lo.q := Rat.div_mul_cancel (by grind)
  grind)
 have n0:0 ≤ a.hi.q / PIc.hi.q := quo_nn (by grind) (by grind)
 have m3:a.hi.q / PIc.hi.q ≤ a.hi.q / PIc.lo.q := quo_ge (by grind) (by
  have e1:a.hi.q / PIc.hi.q * PIc.hi.q = a.hi.q := Rat.div_mul_cancel (by grind)
  have := Rat.mul_nonneg n0 (show 0 ≤ PIc.hi.q - PIc.lo.q by grind)
  grind)
 have m4:a.lo.q / PIc.lo.q ≤ a.hi.q / PIc.lo.q := quo_le (by grind) (by
  have e1:a.hi.q / PIc.lo.q * PIc.lo.q = a.hi.q := Rat.div_mul_cancel (by grind)
  grind)
 have m5:a.hi.q / PIc.lo.q ≤ 1 := quo_le (by grind) (by grind)
 have B:-1 ≤ a.lo.q / PIc.lo.q ∧ a.lo.q / PIc.lo.q ≤ 1 ∧ -1 ≤ a.lo.q / PIc.hi.q ∧ a.lo.q / PIc.hi.q ≤ 1 ∧ -1 ≤ a.hi.q / PIc.lo.q ∧ a.hi.q / PIc.lo.q ≤ 1 ∧ -1 ≤ a.hi.q / PIc.hi.q ∧ a.hi.q / PIc.hi.q ≤ 1 := by refine ⟨?_,?_,?_,?_,?_,?_,?_,?_⟩ <;> grind
 have lo := h.near_lo (m := a.lo.q / PIc.hi.q) m1 Rat.le_refl (by grind) m2 B
 have hi := h.near_hi (m := a.hi.q / PIc.lo.q) m4 (by grind) Rat.le_refl m3 B
 have lz:0 ≤ r.lo.q := by
  have := h.top (c := F.zero) (by rw [q_zero]; grind) (by rw [q_zero]; grind) (by rw [q_zero]; grind) (by rw [q_zero]; grind)
  rwa [q_zero] at this
 have ho:r.hi.q ≤ 1 := by
  have := h.bot (c := one64) (by rw [one_q]; grind) (by rw [one_q]; grind) (by rw [one_q]; grind) (by rw [one_q]; grind)
  rwa [one_q] at this
 have hl := h.lo; have hh := h.hi
 refine ⟨r,e,rt_q (by grind),lz,ho,lo,hi,fun v hv => ⟨?_,?_⟩⟩
 ·refine Rat.le_trans hl.1 (quo_ge (by grind) ?_)
  rw [Rat.div_mul_cancel (by grind)]; exact hv.lo
 ·refine Rat.le_trans (quo_le (by grind) ?_) hh.2.2.1
  rw [Rat.div_mul_cancel (by grind)]; exact hv.hi
theorem ulp_v:ulp * 9007199254740992 = 1 := by unfold ulp; decide +kernel
theorem rl_ulp:rl = 4 * ulp := rfl
theorem tW_v:tW * 35184372088832 = 15 := by unfold tW; decide +kernel
theorem over_ch {M P:I} {rho:Rat} (hM:rt M = true) (hP:rt P = true) (M0:0 ≤ M.lo.q) (M1:M.hi.q ≤ 1) (P0:1 / 1024 ≤ P.lo.q) (r0:0 ≤ rho) (r1:rho ≤ 1) (hi:M.hi.q ≤ (rho + tW) * P.lo.q) (lo:(rho - tW) * P.hi.q ≤ M.lo.q) :
  ∃ a,cDiv pDiv 0 M P = (a,0) ∧ rt a = true ∧ a.hi.q ≤ rho + tW + 2 * rl ∧ rho - tW - rl ≤ a.lo.q ∧ ∀ m p,Mem M m → Mem P p → Mem a (m / p) := by
 have lM := rt_le hM; have lP := rt_le hP
 have tv := tW_v; have rv := rl_v
 obtain ⟨a,e,h⟩ := div_mk hM hP (by grind) (by grind) (by grind)
 have P1:0 < P.lo.q := by grind
 have P2:0 < P.hi.q := by grind
 have up:∀ {m p:Rat},m ≤ M.hi.q → P.lo.q ≤ p → m / p ≤ rho + tW := fun {m p} h1 h2 => quo_le (by grind) (by
  have := Rat.mul_nonneg (show 0 ≤ rho + tW by grind) (show 0 ≤ p - P.lo.q by grind)
  grind)
 have nn:∀ {m p:Rat},0 ≤ m → P.lo.q ≤ p → 0 ≤ m / p := fun h1 h2 => quo_nn h1 (by grind)
 have hl := h.lo; have hh := h.hi
 have q1:a.hi.q ≤ rho + tW + 2 * rl := by
  have p42:((2 ^ 42:Nat):Rat) = 4398046511104 := by decide +kernel
  obtain ⟨⟨c,c1,c2⟩,_⟩ := fl_near (v := rho + tW) (s := 42) (by decide) (by rw [p42]; grind) (by grind)
  have := h.bot (c := c) (Rat.le_trans (up lM Rat.le_refl) c1) (Rat.le_trans (up lM lP) c1) (Rat.le_trans (up Rat.le_refl Rat.le_refl) c1) (Rat.le_trans (up Rat.le_refl lP) c1)
  have k := Rat.mul_nonneg (show 0 ≤ 2 - (rho + tW) by grind) (Rat.le_of_lt rl_pos)
  clear h hl hh
  grind
 have a0:0 ≤ a.lo.q := by
  have := h.top (c := F.zero) (by rw [q_zero]; exact nn M0 Rat.le_refl) (by rw [q_zero]; exact nn M0 lP) (by rw [q_zero]; exact nn (by grind) Rat.le_refl) (by rw [q_zero]; exact nn (by grind) lP)
  rwa [q_zero] at this
 have q2:rho - tW - rl ≤ a.lo.q := by
  by_cases g:rho - tW < 1 / 1152921504606846976
  ·have:(1:Rat) / 1152921504606846976 ≤ rl := by grind
   grind
  have p60:((2 ^ 60:Nat):Rat) = 1152921504606846976 := by decide +kernel
  obtain ⟨_,c,c1,c2⟩ := fl_near (v := rho - tW) (s := 60) (by decide) (by rw [p60]; grind) (by grind)
  have dn:∀ {m p:Rat},M.lo.q ≤ m → 0 < p → p ≤ P.hi.q → rho - tW ≤ m / p := fun {m p} h1 h2 h3 => quo_ge h2 (by
   have := Rat.mul_nonneg (show 0 ≤ rho - tW by grind) (show 0 ≤ P.hi.q - p by grind)
   grind)
  have := h.top (c := c) (Rat.le_trans c1 (dn Rat.le_refl P1 lP)) (Rat.le_trans c1 (dn Rat.le_refl P2 Rat.le_refl)) (Rat.le_trans c1 (dn lM P1 lP)) (Rat.le_trans c1 (dn lM P2 Rat.le_refl))
  have k := Rat.mul_nonneg (show 0 ≤ 1 - (rho - tW) by grind) (Rat.le_of_lt rl_pos)
  clear h hl hh
  grind
 refine ⟨a,e,rt_q (by grind),q1,q2,fun m p hm hp => ⟨?_,?_⟩⟩
 ·have h1 := hm.lo; have h2 := hp.lo; have h3 := hp.hi
  have n0:0 ≤ M.lo.q / P.hi.q := nn M0 lP
  refine Rat.le_trans hl.2.1 (quo_ge (by grind) ?_)
  have e1:M.lo.q / P.hi.q * P.hi.q = M.lo.q := Rat.div_mul_cancel (by grind)
  have := Rat.mul_nonneg n0 (show 0 ≤ P.hi.q - p by grind)
  grind
 ·have h1 := hm.hi; have h2 := hp.lo; have h3 := hp.hi; have h4 := hm.lo
  have n0:0 ≤ M.hi.q / P.lo.q := nn (by grind) Rat.le_refl
  refine Rat.le_trans (quo_le (by grind) ?_) hh.2.2.1
  have e1:M.hi.q / P.lo.q * P.lo.q = M.hi.q := Rat.div_mul_cancel (by grind)
  have := Rat.mul_nonneg n0 (show 0 ≤ p - P.lo.q by grind)
  grind
theorem he_ok:rl + 64 * rl + rl * (64 * rl) ≤ 2 * (64 * rl) := by
 have := Rat.mul_nonneg (Rat.le_of_lt rl_pos) (show 0 ≤ 1 / 1024 - rl by have := rl_sm; grind)
 have := rl_pos
 grind
theorem ht_ok:2 * (64 * rl) + 2560 * ulp ≤ tW := by
 have a := tW_v; have b := ulp_v; rw [rl_ulp]
 generalize ulp = u at *
 generalize tW = t at *
 grind
theorem al_core {rho:F} {Z:I} (r0:0 ≤ rho.q) (r1:rho.q ≤ 1) (hZ:rt Z = true) (Z0:1 / 128 ≤ Z.lo.q) (Z1:Z.hi.q ≤ 1) (nar:Z.hi.q ≤ Z.lo.q + Z.lo.q * (64 * rl)) :
  ∃ A P M a,cDiv pDiv 0 (pt rho) PIc = (A,0) ∧ cDiv pDiv 0 Z PIc = (P,0) ∧ cMul dMul 0 A Z = (M,0) ∧ cDiv pDiv 0 M P = (a,0) ∧ rt a = true ∧ Mem a rho.q ∧ a.hi.q - a.lo.q ≤ 1 / 1099511627776 := by
 have lZ := rt_le hZ
 have pr:rt (pt rho) = true := decide_eq_true (Int.le_refl _)
 have e1:(pt rho).lo.q = rho.q := rfl
 have e2:(pt rho).hi.q = rho.q := rfl
 obtain ⟨A,eA,rA,A0,A1,Al,Ah,Am⟩ := over_pi (a := pt rho) pr r0 r1
 obtain ⟨P,eP,rP,P0,P1,Pl,Ph,Pm⟩ := over_pi hZ (by grind) Z1
 rw [e1] at Al
 rw [e2] at Ah
 obtain ⟨p1,p2,p3,p4⟩ := pi_bd
 have lA := rt_le rA; have lP := rt_le rP
 have uv := ulp_v; have up := ulp_pos
 obtain ⟨M,eM,hM⟩ := cMul_ok (a := A) (b := Z) ⟨by grind,lA,by grind⟩ ⟨by grind,lZ,by grind⟩
 have n1 := Rat.mul_nonneg A0 (show 0 ≤ Z.lo.q by grind)
 have n2 := Rat.mul_nonneg A0 (show 0 ≤ Z.hi.q - Z.lo.q by grind)
 have n3 := Rat.mul_nonneg (show 0 ≤ A.hi.q - A.lo.q by grind) (show 0 ≤ Z.lo.q by grind)
 have n4 := Rat.mul_nonneg (show 0 ≤ A.hi.q - A.lo.q by grind) (show 0 ≤ Z.hi.q by grind)
 have n5 := Rat.mul_nonneg (show 0 ≤ A.hi.q by grind) (show 0 ≤ Z.hi.q - Z.lo.q by grind)
 have n6 := Rat.mul_nonneg (show 0 ≤ A.hi.q by grind) (show 0 ≤ 1 - Z.hi.q by grind)
 have o1:A.lo.q * Z.lo.q ≤ A.lo.q * Z.hi.q := by grind
 have o2:A.lo.q * Z.lo.q ≤ A.hi.q * Z.lo.q := by grind
 have o3:A.lo.q * Z.hi.q ≤ A.hi.q * Z.hi.q := by grind
 have o4:A.hi.q * Z.lo.q ≤ A.hi.q * Z.hi.q := by grind
 have o5:A.hi.q * Z.hi.q ≤ 1 := by grind
 clear n2 n3 n4 n5 n6
 have Ml := hM.near_lo (m := A.lo.q * Z.lo.q) Rat.le_refl o1 o2 (by grind) ⟨by grind,by grind,by grind,by grind,by grind,by grind,by grind,by grind⟩
 have Mh := hM.near_hi (m := A.hi.q * Z.hi.q) (by grind) o3 o4 Rat.le_refl ⟨by grind,by grind,by grind,by grind,by grind,by grind,by grind,by grind⟩
 have M0:0 ≤ M.lo.q := by
  have := hM.top (c := F.zero) (by rw [q_zero]; grind) (by rw [q_zero]; grind) (by rw [q_zero]; grind) (by rw [q_zero]; grind)
  rwa [q_zero] at this
 have M1:M.hi.q ≤ 1 := by
  have := hM.bot (c := one64) (by rw [one_q]; grind) (by rw [one_q]; grind) (by rw [one_q]; grind) (by rw [one_q]; grind)
  rwa [one_q] at this
 have ml := hM.lo; have mh := hM.hi
 have rM:rt M = true := rt_q (by grind)
 clear o1 o2 o3 o4 o5 n1
 have q1:1 / 512 ≤ Z.lo.q / PIc.hi.q := quo_ge (by grind) (by grind)
 have q2:1 / 512 ≤ Z.hi.q / PIc.lo.q := Rat.le_trans q1 (quo_le (by grind) (by
  have h := quo_nn (a := Z.hi.q) (b := PIc.lo.q) (by grind) (by grind)
  have e:Z.hi.q / PIc.lo.q * PIc.lo.q = Z.hi.q := Rat.div_mul_cancel (by grind)
  have := Rat.mul_nonneg h (show 0 ≤ PIc.hi.q - PIc.lo.q by grind)
  grind))
 have f1:rho.q / PIc.lo.q * PIc.lo.q = rho.q := Rat.div_mul_cancel (by grind)
 have f2:rho.q / PIc.hi.q * PIc.hi.q = rho.q := Rat.div_mul_cancel (by grind)
 have g1:Z.lo.q / PIc.hi.q * PIc.hi.q = Z.lo.q := Rat.div_mul_cancel (by grind)
 have g2:Z.hi.q / PIc.lo.q * PIc.lo.q = Z.hi.q := Rat.div_mul_cancel (by grind)
 have rp := Rat.le_of_lt rl_pos
 have h64:0 ≤ 64 * rl := by grind
 have t0:0 ≤ tW := by have := tW_v; grind
 have t1:tW ≤ 1 := by have := tW_v; grind
 have hi:M.hi.q ≤ (rho.q + tW) * P.lo.q := al_hi (pl := PIc.lo.q) (ph := PIc.hi.q) (Zl := Z.lo.q) (Zh := Z.hi.q) (f := rho.q / PIc.lo.q) (q := Z.lo.q / PIc.hi.q) (F := A.hi.q) (u := ulp) (h := 64 * rl) (e := rl)
  r0 r1 (quo_nn r0 (by grind)) q1 (by grind) Z1 (Rat.le_of_lt up) h64 rp t0 t1 he_ok ht_ok f1 g1 p4 nar (by grind) Ah Mh Pl
 have lo:(rho.q - tW) * P.hi.q ≤ M.lo.q := al_lo (pl := PIc.lo.q) (ph := PIc.hi.q) (Zl := Z.lo.q) (Zh := Z.hi.q) (f := rho.q / PIc.hi.q) (q := Z.hi.q / PIc.lo.q) (F := A.lo.q) (u := ulp) (h := 64 * rl) (e := rl)
  r0 r1 (quo_nn r0 (by grind)) q2 (by grind) (by grind) (Rat.le_of_lt up) h64 rp t0 t1 he_ok ht_ok f2 g2 p4 p3 nar lZ Al Ml M0 Ph (by grind)
 have Pb:1 / 1024 ≤ P.lo.q := by clear hi lo f1 f2 g1 g2 nar Ml Mh; grind
 obtain ⟨a,ea,ra,ah,al,am⟩ := over_ch rM rP M0 M1 Pb r0 r1 hi lo
 refine ⟨A,P,M,a,eA,eP,eM,ea,ra,?_,?_⟩
 ·have fz := Am rho.q ⟨Rat.le_refl,Rat.le_refl⟩
  have pz := Pm Z.lo.q ⟨Rat.le_refl,lZ⟩
  clear hi lo g1 g2 f2 nar Ml Mh
  have Mm:Mem M (rho.q / PIc.lo.q * Z.lo.q) := by
   have h1 := fz.lo; have h2 := fz.hi
   have k1 := Rat.mul_nonneg (show 0 ≤ rho.q / PIc.lo.q - A.lo.q by grind) (show 0 ≤ Z.lo.q by grind)
   have k2 := Rat.mul_nonneg (show 0 ≤ A.hi.q - rho.q / PIc.lo.q by grind) (show 0 ≤ Z.lo.q by grind)
   have m1 := ml.1; have m2 := mh.2.2.1
   exact ⟨by grind,by grind⟩
  have k := am _ _ Mm pz
  have w0:0 < Z.lo.q / PIc.lo.q := by
   have:1 / 512 ≤ Z.lo.q / PIc.lo.q := quo_ge (by grind) (by grind)
   grind
  have ew:Z.lo.q / PIc.lo.q * PIc.lo.q = Z.lo.q := Rat.div_mul_cancel (by grind)
  have et:rho.q / PIc.lo.q * Z.lo.q / (Z.lo.q / PIc.lo.q) * (Z.lo.q / PIc.lo.q) = rho.q / PIc.lo.q * Z.lo.q := Rat.div_mul_cancel (by grind)
  have e:rho.q / PIc.lo.q * Z.lo.q / (Z.lo.q / PIc.lo.q) = rho.q := by
   generalize rho.q / PIc.lo.q * Z.lo.q / (Z.lo.q / PIc.lo.q) = s at *
   generalize Z.lo.q / PIc.lo.q = w at *
   generalize rho.q / PIc.lo.q = f at *
   have:(s - rho.q) * w = 0 := by rw [← ew] at et; grind
   rcases Rat.mul_eq_zero.1 this with h | h <;> grind
  rw [e] at k
  exact k
 ·have tv := tW_v; have rv := rl_v
  clear hi lo f1 f2 g1 g2 nar Ml Mh
  generalize tW = t at *
  generalize rl = d at *
  grind
end Bu
namespace Bu
open Ieee
theorem div_near {x y:F} (hx:0 < x.k) (hy:0 < y.k) (h:x.z ≤ y.z) {r m n A B more:Nat} (hr:nv r = S) (hT:r < T) (hmm:man x.k.natAbs = m) (hnn:man y.k.natAbs = n) (hpa:pl x.k.natAbs = A) (hpb:pl y.k.natAbs = B) (hmo:52 + 2 + n.log2 - m.log2 = more) :
  ∃ t:F,double.div x.b y.b = some t.b ∧ t.k = ((near ((2 * (m * 2 ^ more / n) + (m * 2 ^ more % n != 0).toNat) * 2 ^ (-1074 + (A:Int) - (-1074 + (B:Int)) - (more:Int) - 1 + 1074).toNat) (2 ^ (-(-1074 + (A:Int) - (-1074 + (B:Int)) - (more:Int) - 1 + 1074)).toNat):Nat):Int) := by
 have m1:man x.k.natAbs ≠ 0 := fun h => by have := man_zero _ h; omega
 have m2:man y.k.natAbs ≠ 0 := fun h => by have := man_zero _ h; omega
 have hz:man x.k.natAbs * 2 ^ pl x.k.natAbs ≤ man y.k.natAbs * 2 ^ pl y.k.natAbs := by
  have a := z_natAbs x
  have b := z_natAbs y
  have s1 := (z_sign x); have s2 := (z_sign y)
  omega
 unfold Format.div
 rw [read_F,read_F]
 simp only [Datum.quotient,if_neg m2,Option.map_some,Format.write]
 rw [decide_eq_false (show ¬ x.k < 0 by omega),decide_eq_false (show ¬ y.k < 0 by omega)]
 rw [hmm] at m1 hz ⊢
 rw [hnn] at m2 hz ⊢
 rw [hpa] at hz ⊢
 rw [hpb] at hz ⊢
 have hfb:double.fractionBits = 52 := rfl
 rw [hfb,hmo,Nat.shiftLeft_eq]
 have l1 := Nat.log2_self_le m1
 have l2:n < 2 ^ (n.log2 + 1) := Nat.lt_log2_self
 have hAB:A + m.log2 < n.log2 + 1 + B := by
  have h1:2 ^ (A + m.log2) ≤ m * 2 ^ A := by rw [Nat.pow_add,Nat.mul_comm]; exact Nat.mul_le_mul_right _ l1
  have h2:n * 2 ^ B < 2 ^ (n.log2 + 1 + B) := by rw [Nat.pow_add]; exact Nat.mul_lt_mul_of_pos_right l2 (Nat.two_pow_pos B)
  exact (Nat.pow_lt_pow_iff_right (by omega)).1 (Nat.lt_of_le_of_lt h1 (Nat.lt_of_le_of_lt hz h2))
 have hA:A ≤ B + more := by omega
 have hq := quot_le m2 hz hA
 have hne:2 * (m * 2 ^ more / n) + (m * 2 ^ more % n != 0).toNat ≠ 0 := by
  intro h0
  have hd := Nat.div_add_mod (m * 2 ^ more) n
  have h1:m * 2 ^ more / n = 0 := by omega
  have h2:(m * 2 ^ more % n != 0).toNat = 0 := by omega
  have h3:m * 2 ^ more % n = 0 := by
   by_cases c:m * 2 ^ more % n = 0
   ·exact c
   ·simp [c] at h2
  rw [h1,h3] at hd
  have := Nat.mul_pos (Nat.pos_of_ne_zero m1) (Nat.two_pow_pos more)
  omega
 rw [nearest_eq _ _ _ hne]
 generalize 2 * (m * 2 ^ more / n) + (m * 2 ^ more % n != 0).toNat = mag at *
 have hn:near (mag * 2 ^ (-1074 + (A:Int) - (-1074 + (B:Int)) - (more:Int) - 1 + 1074).toNat) (2 ^ (-(-1074 + (A:Int) - (-1074 + (B:Int)) - (more:Int) - 1 + 1074)).toNat) ≤ r := by
  refine near_le (Nat.two_pow_pos _) ?_
  obtain ⟨sx,hs1,hs2⟩ := S_pow
  rw [hr,hs2,← Nat.pow_add]
  refine Nat.le_trans (Nat.mul_le_mul_right _ hq) ?_
  rw [← Nat.pow_add]
  exact Nat.pow_le_pow_right (by omega) (by omega)
 rw [Nat.min_eq_left (by omega),word_F _ _ (by omega) (by simp)]
 refine ⟨_,rfl,?_⟩
 rw [if_neg (by decide),F.of_k (by omega)]
theorem mag_le {M n R:Nat} (hn:n ≠ 0) (h:M ≤ R * n):2 * (M / n) + (M % n != 0).toNat ≤ 2 * R := by
 have hd := Nat.div_add_mod M n
 have hr := Nat.mod_lt M (Nat.pos_of_ne_zero hn)
 have hQ:M / n ≤ R := by
  have := Nat.div_le_div_right (c := n) h
  rwa [Nat.mul_div_cancel _ (Nat.pos_of_ne_zero hn)] at this
 by_cases hR:M % n = 0
 ·rw [hR]; simp; omega
 ·have hs:(M % n != 0).toNat = 1 := by simp [hR]
  rw [hs]
  have:M / n ≠ R := by
   intro e
   rw [e,Nat.mul_comm] at hd
   omega
  omega
theorem mag_ge {M n R:Nat} (hn:n ≠ 0) (h:R * n ≤ M):2 * R ≤ 2 * (M / n) + (M % n != 0).toNat := by
 have:R ≤ M / n := (Nat.le_div_iff_mul_le (Nat.pos_of_ne_zero hn)).2 h
 omega
end Bu
namespace Bu
open Rx Go Ieee
def kL:F := toF 4602678819171598336
def kH:F := toF 4602678819173171200
def kO:F := toF 4607182418800541696
def kD:F := toF 13677432068324196352
def kE:F := toF 4454060031469420544
theorem kc:decide (nv kL.k.natAbs * 17179869184 = 8589934591 * S) = true ∧ decide (nv kH.k.natAbs * 17179869184 = 8589934593 * S) = true ∧ 0 < kL.k ∧ 0 < kH.k ∧ decide (man cN32.k.natAbs = 4294967295 * 2097152) = true ∧ decide (pl cN32.k.natAbs = 1053) = true ∧ decide (Nat.log2 (4294967295 * 2097152) = 52) = true := by decide +kernel
theorem ac_4 (m0 U V:Nat):m0 * (U * V * 2) * 18014398509481984 = m0 * 36028797018963968 * U * V := by
 have e:36028797018963968 = 2 * 18014398509481984 := rfl
 rw [e]
 generalize 18014398509481984 = c
 simp only [Nat.mul_assoc,Nat.mul_comm,Nat.mul_left_comm]
theorem fin_l {a:Nat} {k:Int} (h:0 < k) (h2:a ≤ k.natAbs):(a:Int) ≤ k := by omega
theorem fin_h {a:Nat} {k:Int} (h:0 < k) (h2:k.natAbs ≤ a):k ≤ (a:Int) := by omega
theorem frT_half {n:Int} (h:wN32 n = true):(frT n).k ≤ kL.k ∨ kH.k ≤ (frT n).k := by
 have hn := of_decide_eq_true h
 obtain ⟨m0,rfl⟩ := Int.eq_ofNat_of_zero_le hn.1
 by_cases hm:m0 = 0
 ·subst hm; left; exact (by decide +kernel:(frT 0).k ≤ kL.k)
 ·have hP:P = 4503599627370496 := rfl
  have hz := nat_z (m := m0) (by omega)
  have hS := S_pos
  have hk:0 < (F.dy m0 0).k := by
   have h2:0 < (F.dy m0 0).z := by rw [hz]; exact Int.mul_pos (by omega) (by omega)
   have a := z_sign (F.dy m0 0)
   have b := z_zero (F.dy m0 0)
   omega
  have hle:(F.dy m0 0).z ≤ cN32.z := by rw [hz,cN32_z.1]; exact Int.mul_le_mul_of_nonneg_right (by omega) (by omega)
  have hzm := z_natAbs (F.dy m0 0)
  have hza:(F.dy m0 0).z.natAbs = m0 * S := by rw [hz,Int.natAbs_mul]; rfl
  rw [hza] at hzm
  obtain ⟨q1,q2⟩ := man_pl (F.dy m0 0).k.natAbs
  obtain ⟨s,hs,eS⟩ := S_pow
  generalize hmm:man (F.dy m0 0).k.natAbs = m at hzm q1 q2
  generalize hpa:pl (F.dy m0 0).k.natAbs = A at hzm q1
  rw [eS] at hzm
  have hPp:4503599627370496 = 2 ^ 52 := rfl
  have mP:P ≤ m := by
   rcases q1 with q | q
   ·rw [q,Nat.pow_zero,Nat.mul_one] at hzm
    have h1:2 ^ 54 ≤ 2 ^ s := Nat.pow_le_pow_right (by omega) (by omega)
    have h2:2 ^ s ≤ m0 * 2 ^ s := Nat.le_mul_of_pos_left _ (by omega)
    omega
   ·exact q
  have hlog:m.log2 = 52 := (Nat.log2_eq_iff (by omega)).2 ⟨by omega,by omega⟩
  have hA1:1022 ≤ A := by
   have h1:2 ^ s ≤ m * 2 ^ A := by rw [← hzm]; exact Nat.le_mul_of_pos_left _ (by omega)
   have h2:m * 2 ^ A < 2 ^ (53 + A) := by rw [Nat.pow_add]; exact Nat.mul_lt_mul_of_pos_right (by omega) (Nat.two_pow_pos A)
   have := (Nat.pow_lt_pow_iff_right (a := 2) (by omega)).1 (Nat.lt_of_le_of_lt h1 h2)
   omega
  have hA2:A ≤ 1053 := by
   have h1:2 ^ (52 + A) ≤ m * 2 ^ A := by rw [Nat.pow_add]; exact Nat.mul_le_mul_right _ (by omega)
   have h2:m0 * 2 ^ s < 2 ^ (32 + s) := by rw [Nat.pow_add]; exact Nat.mul_lt_mul_of_pos_right (by omega) (Nat.two_pow_pos s)
   have := (Nat.pow_lt_pow_iff_right (a := 2) (by omega)).1 (Nat.lt_of_le_of_lt h1 (hzm ▸ h2))
   omega
  obtain ⟨t,e,ht⟩ := div_near hk cN32_z.2 hle one64_nv (by rw [T_num]; omega) hmm (of_decide_eq_true kc.2.2.2.2.1) hpa (of_decide_eq_true kc.2.2.2.2.2.1) (more := 54) (by rw [of_decide_eq_true kc.2.2.2.2.2.2,hlog])
  have eT:frT (m0:Nat) = t := by
   unfold frT fdv
   rw [near_int (by omega),toF_F,e]
   exact (so_ok (s := some t.b) rfl).2
  rw [eT,ht]
  have e1:(-1074 + (A:Int) - (-1074 + ((1053:Nat):Int)) - ((54:Nat):Int) - 1 + 1074).toNat = A - 34 := by omega
  have e2:(-(-1074 + (A:Int) - (-1074 + ((1053:Nat):Int)) - ((54:Nat):Int) - 1 + 1074)).toNat = 0 := by omega
  rw [e1,e2,Nat.pow_zero]
  -- the numbers by the half
  have hv:∀ {c:F} {a:Nat},nv c.k.natAbs * 17179869184 = a * S → nv c.k.natAbs = 2 * (a * 2 ^ (1073 - A)) * 2 ^ (A - 34) := fun {c a} hc => by
   rw [eS] at hc
   have h1:(2:Nat) ^ s = 2 ^ (1 + (1073 - A) + (A - 34)) * 2 ^ 34 := by rw [← Nat.pow_add]; congr 1; omega
   rw [h1,Nat.pow_add,Nat.pow_add] at hc
   have h34:(2:Nat) ^ 34 = 17179869184 := rfl
   rw [h34,← Nat.mul_assoc] at hc
   have := Nat.eq_of_mul_eq_mul_right (by omega) hc
   rw [this]
   generalize 2 ^ (1073 - A) = U
   generalize 2 ^ (A - 34) = V
   rw [Nat.pow_one]
   simp only [Nat.mul_assoc,Nat.mul_left_comm]
  have hn0:4294967295 * 2097152 ≠ 0 := by omega
  have hsp:(2:Nat) ^ s = 2 ^ (1073 - A) * 2 ^ A * 2 := by rw [← Nat.pow_add,← Nat.pow_succ]; congr 1; omega
  have h54:(2:Nat) ^ 54 = 18014398509481984 := rfl
  -- m * 2^54 against R * n,times 2^A
  have hM:m * 2 ^ 54 * 2 ^ A = m0 * 36028797018963968 * 2 ^ (1073 - A) * 2 ^ A := by
   have:m * 2 ^ 54 * 2 ^ A = m * 2 ^ A * 2 ^ 54 := Nat.mul_right_comm _ _ _
   rw [this,← hzm,hsp,h54]
   exact ac_4 m0 _ _
  have hM':m * 2 ^ 54 = m0 * 36028797018963968 * 2 ^ (1073 - A) := Nat.eq_of_mul_eq_mul_right (Nat.two_pow_pos A) hM
  rw [hM']
  have hU := Nat.two_pow_pos (1073 - A)
  rcases Nat.lt_or_ge m0 2147483648 with g | g
  ·left
   have h1:m0 * 36028797018963968 * 2 ^ (1073 - A) ≤ 8589934591 * 2 ^ (1073 - A) * (4294967295 * 2097152) := by
    rw [Nat.mul_right_comm 8589934591]
    exact Nat.mul_le_mul_right _ (by omega)
   have h2 := Nat.mul_le_mul_right (2 ^ (A - 34)) (mag_le hn0 h1)
   have h3 := near_le (r := kL.k.natAbs) (d := 1) (by decide) (n := _) (by rw [Nat.mul_one,hv (of_decide_eq_true kc.1)]; exact h2)
   exact fin_l kc.2.2.1 h3
  ·right
   have h1:8589934593 * 2 ^ (1073 - A) * (4294967295 * 2097152) ≤ m0 * 36028797018963968 * 2 ^ (1073 - A) := by
    rw [Nat.mul_right_comm 8589934593]
    exact Nat.mul_le_mul_right _ (by omega)
   have h2 := Nat.mul_le_mul_right (2 ^ (A - 34)) (mag_ge hn0 h1)
   have h3 := le_near (r := kH.k.natAbs) (d := 1) (by decide) (n := _) (by rw [Nat.mul_one,hv (of_decide_eq_true kc.2.1)]; exact h2)
   exact fin_h kc.2.2.2.1 h3
theorem mul_ge1 {x y c:F} (hx:0 < x.k) (hy:0 < y.k) (h:y.k ≤ one64.k) (hc:0 ≤ c.k) (hv:c.z * (S:Int) ≤ x.z * y.z):∃ t:F,fmu x y = some t.b ∧ c.k ≤ t.k ∧ t.k ≤ x.k := by
 have hz:y.z ≤ (S:Int) := by
  have h1 := q_le.2 h
  rw [one_q] at h1
  have h2 := F.q_mul y
  have h3:(y.z:Rat) ≤ ((S:Int):Rat) := by
   rw [← h2]
   have := Rat.mul_nonneg (show 0 ≤ 1 - y.q by grind) (Rat.le_of_lt S_gt)
   rw [Rat.intCast_natCast]
   generalize (S:Rat) = s at *
   grind
  exact Rat.intCast_le_intCast.1 h3
 have e := mul_F x y (by omega) (by omega)
 rw [decide_eq_false (show ¬ x.k < 0 by omega),decide_eq_false (show ¬ y.k < 0 by omega)] at e
 have hT := x.hk
 have b := z_sign x; have c' := z_sign y
 have hn:near (x.z.natAbs * y.z.natAbs) S ≤ x.k.natAbs := by
  refine near_le S_pos ?_
  have a := nvk (c := x) (by omega)
  have:x.z.natAbs = nv x.k.natAbs := by omega
  rw [this]
  exact Nat.mul_le_mul_left _ (by omega)
 have hm:c.k.natAbs ≤ near (x.z.natAbs * y.z.natAbs) S := by
  refine le_near S_pos ?_
  have a := nvk (c := c) hc
  have h1:((nv c.k.natAbs * S:Nat):Int) ≤ ((x.z.natAbs * y.z.natAbs:Nat):Int) := by
   rw [Int.natCast_mul,Int.natCast_mul,a]
   have e1:(x.z.natAbs:Int) = x.z := by omega
   have e2:(y.z.natAbs:Int) = y.z := by omega
   rw [e1,e2]; exact hv
  exact Int.ofNat_le.1 h1
 rw [Nat.min_eq_left (by omega),show (false ^^ false) = false from rfl,word_F _ _ (by omega) (by simp),if_neg (by decide)] at e
 exact ⟨_,e,by rw [F.of_k (by omega)]; omega,by rw [F.of_k (by omega)]; omega⟩
theorem kc2:decide (kO.z = 2 * kH.z) = true ∧ decide (sf (fsu one64 mone64) = two64) = true ∧ 0 ≤ kO.k ∧ 0 < two64.k ∧ mone64.k ≠ 0 ∧ one64.k ≠ 0 ∧ kD.k < 0 ∧ 0 < kE.k := by decide +kernel
theorem kq:kL.q * 17179869184 = 8589934591 ∧ kO.q * 8589934592 = 8589934593 ∧ kD.q * 17179869184 = -1 ∧ kE.q * 17179869184 = 1 :=
 ⟨q_of' (n := 8589934591) (s := 34) (by decide +kernel) rfl,q_of' (n := 8589934593) (s := 33) (by decide +kernel) rfl,q_of' (n := -1) (s := 34) (by decide +kernel) rfl,q_of' (n := 1) (s := 34) (by decide +kernel) rfl⟩
theorem bwX_far {n:Int} (h:wN32 n = true):(bwX mone64 one64 n).k ≤ kD.k ∨ kE.k ≤ (bwX mone64 one64 n).k := by
 obtain ⟨t,e1,t0,t1,hr⟩ := frT_ok h
 have eT:frT n = t := (so_ok e1).2
 have hh := frT_half h
 rw [eT] at hh
 obtain ⟨_,c2,c3,c4,_,_,c7,c8⟩ := kc2
 have c2 := of_decide_eq_true c2
 obtain ⟨q1,q2,q3,q4⟩ := kq
 obtain ⟨g,hg⟩ := big_ex
 have eX:∀ {p:F},fmu two64 t = some p.b → bwX mone64 one64 n = sf (fad mone64 p) := fun {p} hp => by
  unfold bwX bwP
  rw [eT,c2,(so_ok hp).2]
 have t0q:0 ≤ t.q := by rw [← q_zero]; exact q_le.2 t0
 have t1q := q_le.2 t1
 rw [one_q] at t1q
 have m1:mone64.q = -1 := mone_q
 rcases hh with g1 | g1
 ·have hq := q_le.2 g1
  obtain ⟨p,hp,hpq⟩ := twice_ok (x := t) t0 (by grind)
  obtain ⟨D,e3,hD⟩ := add_nr (x := mone64) (y := p) (g := g) (by grind) (by grind)
  rw [eX hp,(so_ok (show fad mone64 p = some D.b from e3)).2]
  exact .inl (q_le.1 (hD.up kD (by grind)))
 ·have hk:0 < kH.k := kc.2.2.2.1
  have hz:kO.z * (S:Int) ≤ two64.z * t.z := by
   have h1:kH.z ≤ t.z := nvZ_le_iff.2 g1
   have h2 := of_decide_eq_true kc2.1
   have h3 := of_decide_eq_true two_z
   rw [h2,h3]
   have hS:(0:Int) ≤ (S:Int) := Int.natCast_nonneg S
   have h4 := Int.mul_le_mul_of_nonneg_left h1 (Int.mul_nonneg (show (0:Int) ≤ 2 by decide) hS)
   have e1:2 * kH.z * (S:Int) = 2 * (S:Int) * kH.z := by rw [Int.mul_assoc,Int.mul_assoc,Int.mul_comm kH.z]
   rw [e1]; exact h4
  obtain ⟨p,hp,p1,p2⟩ := mul_ge1 c4 (Int.lt_of_lt_of_le hk g1) t1 c3 hz
  have pq := q_le.2 p1
  have pq2 := q_le.2 p2
  have tq:two64.q = 2 := q_int (x := two64) (n := 2) (by decide +kernel)
  rw [tq] at pq2
  obtain ⟨D,e3,hD⟩ := add_nr (x := mone64) (y := p) (g := g) (by grind) (by grind)
  rw [eX hp,(so_ok (show fad mone64 p = some D.b from e3)).2]
  exact .inr (q_le.1 (hD.dn kE (by grind)))
theorem bw_far {n:Int} (h:wN32 n = true):(bwF mone64 one64 n).k ≤ kD.k ∨ kE.k ≤ (bwF mone64 one64 n).k := by
 have hx := bwX_far h
 have e1:mone64.k ≤ kD.k := by decide +kernel
 have e2:kE.k ≤ one64.k := by decide +kernel
 unfold bwF
 cases decide ((bwX mone64 one64 n).k < mone64.k)
 ·cases decide (one64.k < (bwX mone64 one64 n).k)
  ·exact hx
  ·exact .inr e2
 ·exact .inl e1
end Bu
namespace Rx
open Go Go.RowKit
theorem runOps_then {P:Program} {E:ExtF} {call:CallF} (hP:Good P E) (hcall:CallOk P call) {ops:Array Oper} {Q:Exit → Act → World → Prop} {r:List Oper}:∀ {l:List Oper} {s s':St},runOps P E call ops l s = some s' → ObsOk s'.ob →
  ∀ {m:Nms} {a:Act} {w:World},StAt m s a w → (∀ m' a' w',StAt m' s' a' w' → Goes m s.M w m' s'.M w' → wpList P ops Q r a' w') → wpList P ops Q (l ++ r) a w
 | [], s, s', h, ho, m, a, w, hs, hq => by
   simp only [runOps,Option.some.injEq] at h; subst h
   exact hq m a w hs (Goes.refl m s.M w)
 | o :: l, s, s', h, ho, m, a, w, hs, hq => by
   unfold runOps at h
   split at h
   ·rename_i s1 e hst
    have ho1 := (runOps_suf h).ok ho
    have hput:∀ (x:Value),(a.put o.dst x).defers = [] := fun x => by cases o.dst <;> exact hs.df
    show wpList P ops Q (o :: (l ++ r)) a w
    unfold wpList
    unfold stepOp at hst
    split at hst
    ·rename_i hw
     rw [if_pos (by rw [wantedS_ok hs.tm]; exact hw)]
     split at hst
     ·rename_i e0 he
      split at hst
      ·rename_i M' hM
       simp only [Option.some.injEq,Prod.mk.injEq] at hst
       obtain ⟨rfl,_⟩ := hst
       left
       have hgo := evOp_ok hP hcall he (ObsOk.left (b := s.ob) ho1) (m := m) (w := w) (L := liveM s.M) (ρv := a.eval) hs.mem.ok
        (fun p hp hle => by
         cases hmp:m p.1 with
         | none => rfl
         | some r0 => have := hs.mem.dom _ _ hmp; omega)
        (fun n hn b hb => hs.mem.blk n b hb) (fun n hn b hb hl => ⟨b,hb,hl⟩) hs.mem.inj (fun y _ => oper_ok hs.tm y)
       refine hgo a _ Q rfl fun v w' hpost => ?_
       obtain ⟨m',hp⟩ := hpost
       obtain ⟨hmem,hgoes⟩ := mem_after hs.mem hp hM
       refine runOps_then hP hcall h ho (m := m') ⟨putT_ok (dens_ext hp.ext hs.tm) hp.val o.dst,hput v,hmem⟩ fun m'' a'' w'' hst' hg' => hq m'' a'' w'' hst' (hgoes.trans hg')
      ·cases hst
     ·cases hst
    ·rename_i hw
     simp only [Option.some.injEq,Prod.mk.injEq] at hst
     obtain ⟨rfl,_⟩ := hst
     rw [if_neg (by rw [wantedS_ok hs.tm]; exact hw)]
     exact runOps_then hP hcall h ho (m := m) ⟨putT_ok hs.tm (undef_den m) o.dst,hput undef,hs.mem⟩ hq
   ·cases h
theorem MemAt.later {m:Nms} {w w':World} {M:List Blk} (hM:MemAt m w M) (hb:Below w.heap.size w w'):MemAt m w' M ∧ Goes m M w m M w' :=
 ⟨hM.below hb,Ext.refl m,⟨hb.os,hb.tape,hb.output,hb.size,fun r hr _ => hb.block r hr⟩,fun n r h => .inl h,fun _ _ _ h => h⟩
def fnR (v:Value):Option (DataW Unit × List MemPlace) := match v with
 | .func (.func g) a b => if a.size = 0 ∧ b.size = 0 then some (.lit (.int .i64 (g:Int)),[]) else none
 | .nilFunc => some (.lit (.bool false),[])
 | _ => none
theorem fnR_inv {v:Value} {g:Nat} {ps:List MemPlace} (h:fnR v = some (.lit (.int .i64 (g:Int)),ps)):v = .func (.func g) #[] #[] := by
 unfold fnR at h
 split at h
 ·rename_i f a b
  split at h
  ·rename_i hs
   simp only [Option.some.injEq,Prod.mk.injEq,DataW.lit.injEq,Lit.int.injEq,Int.natCast_inj] at h
   obtain ⟨⟨_,rfl⟩,_⟩ := h
   rw [Array.eq_empty_of_size_eq_zero hs.1,Array.eq_empty_of_size_eq_zero hs.2]
  ·cases h
 ·simp at h
 ·cases h
theorem wpList_insert_own {P:Program} (w:World) {ops:Array Oper} {rest:List Oper} {o:Oper} {a:Act} {Q:Exit → Act → World → Prop}
  (hg:o.guard = none) (hd:o.dst = none) (mm x v:Operand) (t:TypeId) (hop:o.op = Op.insert t mm x v)
  (k e:TypeId) (K:Go.Maps.Keyed P k) (ht:P.underlying t = some (.map k e)) (b n:Nat) (D:DataW Unit)
  (hm:a.eval mm = .map (some b)) (hown:w.ownsMap P k fnR b n D) (hn:n < maxLen) (key val:Value) (kl:Lit) (hx:a.eval x = key) (hv:a.eval v = val) (hkey:keyOf P k key = some kl)
  (d:DataW Unit) (ps:List MemPlace) (hval:fnR val = some (d,ps))
  (hK:∀ w',w'.ownsMap P k fnR b (n + 1) (D.put kl d) → w.grownBy w' (some b) → wpList P ops Q rest a w') :
  wpList P ops Q (o :: rest) a w := by
 refine wpList_plain hg fun K' hK' => ?_
 obtain ⟨w',hrun,r1,r2⟩ := hown.update K ht hn hkey hval
 unfold Oper.wp
 simp [execOp,hop,hm,hx,hv,hrun,Result.andThen]
 have h := hK' (a.put o.dst undef) w'
 have e:a.put o.dst undef = a := by rw [hd]; rfl
 rw [e] at h
 show K' (a.put o.dst undef) w'
 rw [e]
 exact h (hK w' r1 r2)
theorem wpList_makeMap {P:Program} (w:World) {ops:Array Oper} {rest:List Oper} {o:Oper} {a:Act} {Q:Exit → Act → World → Prop} (hg:o.guard = none) (t:TypeId) (hop:o.op = Op.makeMap t none)
  (hK:wpList P ops Q rest (a.put o.dst (.map (some w.heap.size))) (w.alloc (.map #[] 0))):wpList P ops Q (o :: rest) a w := by
 refine wpList_plain hg fun K' hK' => ?_
 unfold Oper.wp
 simp [execOp,hop,run_makeMap,Result.andThen]
 exact hK' _ _ hK
theorem wpList_lookup_fn {P:Program} (w:World) {ops:Array Oper} {rest:List Oper} {o:Oper} {a:Act} {Q:Exit → Act → World → Prop}
  (hg:o.guard = none) (mm x:Operand) (t:TypeId) (hop:o.op = Op.lookup t mm x false)
  (k e:TypeId) (K:Go.Maps.Keyed P k) (ht:P.underlying t = some (.map k e)) (hz:(zeroValue e).run P w = .ok .nilFunc w) (b n:Nat) (D:DataW Unit)
  (hm:a.eval mm = .map (some b)) (hown:w.ownsMap P k fnR b n D) (key:Value) (kl:Lit) (hx:a.eval x = key) (hkey:keyOf P k key = some kl) (g:Nat) (hat:D.atKey kl (.lit (.bool false)) = .lit (.int .i64 (g:Int)))
  (hK:wpList P ops Q rest (a.put o.dst (.func (.func g) #[] #[])) w) :
  wpList P ops Q (o :: rest) a w := by
 refine wpList_plain hg fun K' hK' => ?_
 obtain ⟨v,ps,hrun,hv⟩ := hown.lookup K ht hz (zd := .lit (.bool false)) (zp := []) rfl hkey
 rw [hat] at hv
 have e := fnR_inv hv
 subst e
 unfold Oper.wp
 simp [execOp,hop,hm,hx,hrun,Result.andThen]
 exact hK' _ _ hK
def tabD (f1 f2 f3 f4:Nat):DataW Unit := ((((DataW.map []).put (.int .u8 1) (.lit (.int .i64 (f1:Int)))).put (.int .u8 2) (.lit (.int .i64 (f2:Int)))).put (.int .u8 3) (.lit (.int .i64 (f3:Int)))).put (.int .u8 4) (.lit (.int .i64 (f4:Int)))
theorem tab_at (f1 f2 f3 f4:Nat):(tabD f1 f2 f3 f4).atKey (.int .u8 1) (.lit (.bool false)) = .lit (.int .i64 (f1:Int)) ∧ (tabD f1 f2 f3 f4).atKey (.int .u8 2) (.lit (.bool false)) = .lit (.int .i64 (f2:Int)) ∧ (tabD f1 f2 f3 f4).atKey (.int .u8 3) (.lit (.bool false)) = .lit (.int .i64 (f3:Int)) ∧ (tabD f1 f2 f3 f4).atKey (.int .u8 4) (.lit (.bool false)) = .lit (.int .i64 (f4:Int)) := ⟨rfl,rfl,rfl,rfl⟩
theorem tab_made {P:Program} {ops:Array Oper} {rest:List Oper} {o o1 o2 o3 o4:Oper} {Q:Exit → Act → World → Prop} {t k e:TypeId} {d:Tmp} {f1 f2 f3 f4:Nat} (hk:P.underlying k = some (.int .u8)) (ht:P.underlying t = some (.map k e))
  (g0:o.guard = none) (g1:o1.guard = none) (g2:o2.guard = none) (g3:o3.guard = none) (g4:o4.guard = none) (h0:o.op = Op.makeMap t none) (hd:o.dst = some d)
  (d1:o1.dst = none) (d2:o2.dst = none) (d3:o3.dst = none) (d4:o4.dst = none)
  (h1:o1.op = Op.insert t (.tmp d) (.const (.int .u8 1)) (.func f1)) (h2:o2.op = Op.insert t (.tmp d) (.const (.int .u8 2)) (.func f2)) (h3:o3.op = Op.insert t (.tmp d) (.const (.int .u8 3)) (.func f3)) (h4:o4.op = Op.insert t (.tmp d) (.const (.int .u8 4)) (.func f4))
  {m:Nms} {s:St} {a:Act} {w:World} (hlt:d < a.tmps.size) (hs:StAt m s a w)
  (hK:∀ r a' w',w'.ownsMap P k fnR r 4 (tabD f1 f2 f3 f4) → Below w.heap.size w w' → w.heap.size ≤ r → StAt m ⟨putT (some d) (.o (.map (some r))) s.T,s.M,s.ds,s.ob⟩ a' w' → Goes m s.M w m s.M w' → wpList P ops Q rest a' w') :
  wpList P ops Q (o :: o1 :: o2 :: o3 :: o4 :: rest) a w := by
 have K := Go.Maps.int_keyed hk
 refine wpList_makeMap w g0 t h0 ?_
 have hev:(a.put o.dst (.map (some w.heap.size))).eval (.tmp d) = .map (some w.heap.size) := by
  rw [hd]; simp [Act.put,Act.eval,hlt]
 have kk:∀ {n:Int},(Lit.int .u8 n).wf = true → keyOf P k (.int .u8 n) = some (.int .u8 n) := fun hw => Go.Maps.keyOf_int_mk hk hw
 have big:4 < maxLen := by decide
 refine wpList_insert_own _ g1 d1 _ _ _ t h1 k e K ht _ _ _ hev (World.ownsMap_made w P k fnR) (by omega) _ _ _ rfl rfl (kk (by decide)) _ _ rfl fun w1 own1 gr1 => ?_
 refine wpList_insert_own _ g2 d2 _ _ _ t h2 k e K ht _ _ _ hev own1 (by omega) _ _ _ rfl rfl (kk (by decide)) _ _ rfl fun w2 own2 gr2 => ?_
 refine wpList_insert_own _ g3 d3 _ _ _ t h3 k e K ht _ _ _ hev own2 (by omega) _ _ _ rfl rfl (kk (by decide)) _ _ rfl fun w3 own3 gr3 => ?_
 refine wpList_insert_own _ g4 d4 _ _ _ t h4 k e K ht _ _ _ hev own3 (by omega) _ _ _ rfl rfl (kk (by decide)) _ _ rfl fun w4 own4 gr4 => ?_
 have b0:Below w.heap.size w (w.alloc (.map #[] 0)) := (Below.refl _ w).alloc (Nat.le_refl _) _
 have st:∀ {A B:World},Below w.heap.size w A → A.grownBy B (some w.heap.size) → Below w.heap.size w B := fun h g => h.grown g h.size (fun k e => by cases e; exact Nat.le_refl _)
 have b4 := st (st (st (st b0 gr1) gr2) gr3) gr4
 obtain ⟨mm,go⟩ := hs.mem.later b4
 refine hK w.heap.size _ w4 own4 b4 (Nat.le_refl _) ⟨?_,?_,mm⟩ go
 ·rw [hd]; exact putT_ok hs.tm (x := .o (.map (some w.heap.size))) (by simp [den]) (some d)
 ·rw [hd]; exact hs.df
end Rx
namespace Go.Proofs.YtejcekikbnlllaaGreat
open Go Go.RowKit Go.Shelf
attribute [local go_sem] Oper.semAt_some
@[local go_sem] theorem run_store_float_m {P:Program} {w:World} {a:Addr} {m:Mode} (k:FloatKind) (b:Nat):(store a (.float k b) m).run P w = stored P w a (.float k b) m := run_store P w a _ m rfl
abbrev Pt3 := Nat × Nat × Nat
abbrev ptE {p:Pt3 → Prop} (x:{q:Pt3 // p q}):Array Value := #[.agg #[.float .f64 x.1.1,.float .f64 x.1.2.1],.float .f64 x.1.2.2]
structure KpL (b1 b2:Nat) (A B:World):Prop where
 size:A.heap.size ≤ B.heap.size
 keep:∀ r o,r ≠ b1 → r ≠ b2 → A.heap[r]? = some o → o.isCells = true → B.heap[r]? = some o
theorem KpL.cell {b1 b2:Nat} {A B:World} (h:KpL b1 b2 A B) {r i:Nat} {v:Value} (h1:r ≠ b1) (h2:r ≠ b2) (hc:A.cell? ⟨r,i,none⟩ = some v):B.cell? ⟨r,i,none⟩ = some v := by
 obtain ⟨o,ho,hk⟩ := cells_of_cell hc
 have := h.keep r o h1 h2 ho hk
 exact (World.cell?_of_block (w := A) (w' := B) (a := ⟨r,i,none⟩) (by show B.heap[r]? = A.heap[r]?; rw [this,ho])).trans hc
theorem KpL.trans {b1 b2:Nat} {A B C:World} (h:KpL b1 b2 A B) (k:KpL b1 b2 B C):KpL b1 b2 A C := ⟨Nat.le_trans h.size k.size,fun r o h1 h2 h3 h4 => k.keep r o h1 h2 (h.keep r o h1 h2 h3 h4) h4⟩
theorem KpL.put {b1 b2:Nat} (W:World) (l:Nat) (o o':Obj) (h:W.heap[l]? = some o) (hc:o.isCells = false):KpL b1 b2 W (W.putObj l o') := by
 have g := grownBy_putObj' W l o'
 refine ⟨g.size,fun r q _ _ hr hq => ?_⟩
 have hl:r ≠ l := by rintro rfl; rw [h] at hr; cases hr; rw [hc] at hq; cases hq
 rw [g.block r (Array.getElem?_eq_some_iff.1 hr).1 (by simp [hl])]; exact hr
set_option maxRecDepth 100000 in
set_option maxHeartbeats 2000000 in
theorem parts1_in {p:Pt3 → Prop} (F:Fence) (n:Nat) (hf:F.fn 347) (hro:F.round = none) (hn:1 ≤ n) (l Bs b cap b1 b2:Nat) (e:Nat → {q:Pt3 // p q})
  (g0:(e 0).1.2.2 = 13830554455654793216) (g1:(e 1).1.2.2 = 13830554455654793216) (g2:(e 2).1.2.2 = 0) (g3:(e 3).1.2.2 = 13830554455654793216) (g4:(e 4).1.2.2 = 13830554455654793216) (g5:(e 5).1.2.2 = 0)
  (J Jx:List {q:Pt3 // p q} → World → Prop) (W:World) (hJ:AbidesFrom W.heap.size J)
  (hY:∀ pre x W1,J pre W1 → pre.length < 6 → YieldAt F (n - 1) Tryz.prog l (ptE x) W1 fun e W' =>
   (e = .returned (.bool true) ∧ J (pre ++ [x]) W' ∧ KpL b1 b2 W1 W') ∨ (e = .returned (.bool false) ∧ Jx (pre ++ [x]) W'))
  (hb1:b ≠ b1) (hb2:b ≠ b2) (h1:b1 < W.heap.size) (h2:b2 < W.heap.size)
  (hBs:W.cell? ⟨Bs,0,none⟩ = some (.slice (some ⟨b,0,none⟩) 2 cap))
  (hc:∀ j,j < 6 → W.cell? ⟨b,2 * j,none⟩ = some (.float .f64 (e j).1.1) ∧ W.cell? ⟨b,2 * j + 1,none⟩ = some (.float .f64 (e j).1.2.1)) (h0:J [] W) :
  CallsIn F n Tryz.prog 347 #[.func (.yield l) #[] #[],.pointer (some ⟨Bs,0,none⟩)] W fun r W' => (∃ v,r = .returned v) ∧ ((∃ xs,True ∧ J xs W') ∨ (∃ pre,True ∧ Jx pre W')) := by
 refine callsIn_of_wp Tryz.func347 rfl hf ?_ hro
 simp only [Tryz.ntmps347,List.size_toArray,List.length_cons,List.length_nil,Nat.reduceAdd,Nat.reduceSub,Array.replicate_succ,Array.replicate_zero,List.push_toArray,List.append_toArray,List.nil_append,List.cons_append]
 gi_wp2
 gi_loopw [7] (fun i wr => ∃ k:Nat,k ≤ 2 ∧ i = .int .i64 k ∧ J ((List.range (3 * k)).map e) wr ∧ (∀ j,j < 6 → wr.cell? ⟨b,2 * j,none⟩ = some (.float .f64 (e j).1.1) ∧ wr.cell? ⟨b,2 * j + 1,none⟩ = some (.float .f64 (e j).1.2.1)) ∧ W.heap.size ≤ wr.heap.size)
  (fun i _ => 2 - (intOf i).toNat)
 case atStart => exact ⟨0,by omega,rfl,h0,hc,Nat.le_refl _⟩
 case round =>
  obtain ⟨k,hk,rfl,hJs,hcs,hsz⟩ := hrel
  obtain ⟨c00,c01⟩ := hcs 0 (by omega)
  obtain ⟨c10,c11⟩ := hcs 1 (by omega)
  obtain ⟨c20,c21⟩ := hcs 2 (by omega)
  obtain ⟨c30,c31⟩ := hcs 3 (by omega)
  obtain ⟨c40,c41⟩ := hcs 4 (by omega)
  obtain ⟨c50,c51⟩ := hcs 5 (by omega)
  simp only [Nat.mul_zero,Nat.mul_one,Nat.zero_add,Nat.reduceMul,Nat.reduceAdd] at c00 c01 c10 c11 c20 c21 c30 c31 c40 c41 c50 c51
  have hk':k = 0 ∨ k = 1 ∨ k = 2 := by omega
  rcases hk' with rfl | rfl | rfl
  ·have hV:∃ V,V = wr.alloc (.cells #[.float .f64 (e 0).1.1,.float .f64 (e 0).1.2.1,.float .f64 (e 1).1.1,.float .f64 (e 1).1.2.1,.float .f64 (e 2).1.1,.float .f64 (e 2).1.2.1] 35) := ⟨_,rfl⟩
   obtain ⟨V,hV⟩ := hV
   have hJ0:J [] V := by rw [hV]; exact hJ _ wr _ none hJs (World.grownBy_alloc wr _ none) (fun r e => by cases e)
   have sV:V.heap.size = wr.heap.size + 1 := by rw [hV]; exact World.size_alloc _ _
   have d10:V.cell? ⟨wr.heap.size,2,none⟩ = some (.float .f64 (e 1).1.1) := by rw [hV]; simp
   have d11:V.cell? ⟨wr.heap.size,3,none⟩ = some (.float .f64 (e 1).1.2.1) := by rw [hV]; simp
   have d20:V.cell? ⟨wr.heap.size,4,none⟩ = some (.float .f64 (e 2).1.1) := by rw [hV]; simp
   have d21:V.cell? ⟨wr.heap.size,5,none⟩ = some (.float .f64 (e 2).1.2.1) := by rw [hV]; simp
   have hcV:∀ j,j < 6 → V.cell? ⟨b,2 * j,none⟩ = some (.float .f64 (e j).1.1) ∧ V.cell? ⟨b,2 * j + 1,none⟩ = some (.float .f64 (e j).1.2.1) := by
    intro j hj; rw [hV]; exact ⟨cell_kept (hcs j hj).1 (World.grownBy_alloc wr _ none) (fun r e => by cases e),cell_kept (hcs j hj).2 (World.grownBy_alloc wr _ none) (fun r e => by cases e)⟩
   obtain ⟨f1,t1,a1,y1,hy1,hR1⟩ := hY _ (e 0) V hJ0 (by simp)
   dsimp only [ptE] at hy1
   rw [g0,hV] at hy1
   gi_wp2
   rw [← hV]
   refine hR1.mono ?_
   rintro r W1 (⟨rfl,hJ1,hk1⟩ | ⟨rfl,hx1⟩)
   ·have m10 := hk1.cell (r := wr.heap.size) (by omega) (by omega) d10
    have m11 := hk1.cell (r := wr.heap.size) (by omega) (by omega) d11
    obtain ⟨f2,t2,a2,y2,hy2,hR2⟩ := hY _ (e 1) W1 hJ1 (by simp)
    dsimp only [ptE] at hy2
    rw [g1] at hy2
    gi_wp2
    refine hR2.mono ?_
    rintro r W2 (⟨rfl,hJ2,hk2⟩ | ⟨rfl,hx2⟩)
    ·have hk12 := hk1.trans hk2
     have m20 := hk12.cell (r := wr.heap.size) (by omega) (by omega) d20
     have m21 := hk12.cell (r := wr.heap.size) (by omega) (by omega) d21
     obtain ⟨f3,t3,a3,y3,hy3,hR3⟩ := hY _ (e 2) W2 hJ2 (by simp)
     dsimp only [ptE] at hy3
     rw [g2] at hy3
     gi_wp2
     refine hR3.mono ?_
     rintro r W3 (⟨rfl,hJ3,hk3⟩ | ⟨rfl,hx3⟩)
     ·have hk13 := hk12.trans hk3
      have hs3 := hk13.size
      gi_wp2
      go_roundw
      case rel => exact ⟨1,by omega,by simp,hJ3,fun j hj => ⟨hk13.cell hb1 hb2 (hcV j hj).1,hk13.cell hb1 hb2 (hcV j hj).2⟩,by omega⟩
      case measure => simp [intOf]
     ·gi_wp2
      refine bodyPost_ret (results_none rfl _ _ _) rfl ?_
      exact ⟨⟨_,rfl⟩,.inr ⟨_,trivial,hx3⟩⟩
    ·gi_wp2
     refine ⟨fun _ h => (by cases h),?_⟩
     gi_wp2
     refine bodyPost_ret (results_none rfl _ _ _) rfl ?_
     exact ⟨⟨_,rfl⟩,.inr ⟨_,trivial,hx2⟩⟩
   ·gi_wp2
    refine ⟨fun _ h => (by cases h),?_⟩
    gi_wp2
    refine ⟨fun _ h => (by cases h),?_⟩
    gi_wp2
    refine bodyPost_ret (results_none rfl _ _ _) rfl ?_
    exact ⟨⟨_,rfl⟩,.inr ⟨_,trivial,hx1⟩⟩
  ·have hV:∃ V,V = wr.alloc (.cells #[.float .f64 (e 3).1.1,.float .f64 (e 3).1.2.1,.float .f64 (e 4).1.1,.float .f64 (e 4).1.2.1,.float .f64 (e 5).1.1,.float .f64 (e 5).1.2.1] 35) := ⟨_,rfl⟩
   obtain ⟨V,hV⟩ := hV
   have hJ0:J [e 0,e 1,e 2] V := by rw [hV]; exact hJ _ wr _ none hJs (World.grownBy_alloc wr _ none) (fun r e => by cases e)
   have sV:V.heap.size = wr.heap.size + 1 := by rw [hV]; exact World.size_alloc _ _
   have d10:V.cell? ⟨wr.heap.size,2,none⟩ = some (.float .f64 (e 4).1.1) := by rw [hV]; simp
   have d11:V.cell? ⟨wr.heap.size,3,none⟩ = some (.float .f64 (e 4).1.2.1) := by rw [hV]; simp
   have d20:V.cell? ⟨wr.heap.size,4,none⟩ = some (.float .f64 (e 5).1.1) := by rw [hV]; simp
   have d21:V.cell? ⟨wr.heap.size,5,none⟩ = some (.float .f64 (e 5).1.2.1) := by rw [hV]; simp
   have hcV:∀ j,j < 6 → V.cell? ⟨b,2 * j,none⟩ = some (.float .f64 (e j).1.1) ∧ V.cell? ⟨b,2 * j + 1,none⟩ = some (.float .f64 (e j).1.2.1) := by
    intro j hj; rw [hV]; exact ⟨cell_kept (hcs j hj).1 (World.grownBy_alloc wr _ none) (fun r e => by cases e),cell_kept (hcs j hj).2 (World.grownBy_alloc wr _ none) (fun r e => by cases e)⟩
   obtain ⟨f1,t1,a1,y1,hy1,hR1⟩ := hY _ (e 3) V hJ0 (by simp)
   dsimp only [ptE] at hy1
   rw [g3,hV] at hy1
   gi_wp2
   rw [← hV]
   refine hR1.mono ?_
   rintro r W1 (⟨rfl,hJ1,hk1⟩ | ⟨rfl,hx1⟩)
   ·have m10 := hk1.cell (r := wr.heap.size) (by omega) (by omega) d10
    have m11 := hk1.cell (r := wr.heap.size) (by omega) (by omega) d11
    obtain ⟨f2,t2,a2,y2,hy2,hR2⟩ := hY _ (e 4) W1 hJ1 (by simp)
    dsimp only [ptE] at hy2
    rw [g4] at hy2
    gi_wp2
    refine hR2.mono ?_
    rintro r W2 (⟨rfl,hJ2,hk2⟩ | ⟨rfl,hx2⟩)
    ·have hk12 := hk1.trans hk2
     have m20 := hk12.cell (r := wr.heap.size) (by omega) (by omega) d20
     have m21 := hk12.cell (r := wr.heap.size) (by omega) (by omega) d21
     obtain ⟨f3,t3,a3,y3,hy3,hR3⟩ := hY _ (e 5) W2 hJ2 (by simp)
     dsimp only [ptE] at hy3
     rw [g5] at hy3
     gi_wp2
     refine hR3.mono ?_
     rintro r W3 (⟨rfl,hJ3,hk3⟩ | ⟨rfl,hx3⟩)
     ·have hk13 := hk12.trans hk3
      have hs3 := hk13.size
      gi_wp2
      go_roundw
      case rel => exact ⟨2,by omega,by simp,hJ3,fun j hj => ⟨hk13.cell hb1 hb2 (hcV j hj).1,hk13.cell hb1 hb2 (hcV j hj).2⟩,by omega⟩
      case measure => simp [intOf]
     ·gi_wp2
      refine bodyPost_ret (results_none rfl _ _ _) rfl ?_
      exact ⟨⟨_,rfl⟩,.inr ⟨_,trivial,hx3⟩⟩
    ·gi_wp2
     refine ⟨fun _ h => (by cases h),?_⟩
     gi_wp2
     refine bodyPost_ret (results_none rfl _ _ _) rfl ?_
     exact ⟨⟨_,rfl⟩,.inr ⟨_,trivial,hx2⟩⟩
   ·gi_wp2
    refine ⟨fun _ h => (by cases h),?_⟩
    gi_wp2
    refine ⟨fun _ h => (by cases h),?_⟩
    gi_wp2
    refine bodyPost_ret (results_none rfl _ _ _) rfl ?_
    exact ⟨⟨_,rfl⟩,.inr ⟨_,trivial,hx1⟩⟩
  ·gi_wp2
   go_end0
   exact ⟨⟨_,rfl⟩,.inl ⟨_,trivial,hJs⟩⟩
end Go.Proofs.YtejcekikbnlllaaGreat
namespace Go.Proofs.YtejcekikbnlllaaGreat
open Go.RowKit Bu
theorem ret_bool {a b:Bool} (h:a = b):Ending.returned (.bool a) = .returned (.bool b) := by rw [h]
theorem ret_int {k:IntKind} {a b:Int} (h:a = b):Ending.returned (.int k a) = .returned (.int k b) := by rw [h]
theorem ret_float {a b:Nat} (h:a = b):Ending.returned (.float .f64 a) = .returned (.float .f64 b) := by rw [h]
@[go_sem] theorem ford_lt (x y:F):(FloatKind.f64.format.order x.b y.b == some .lt) = decide (x.k < y.k) := order_lt x y
theorem b_zero:F.zero.b = 0 := by decide
theorem ford0_eq (x:F):(FloatKind.f64.format.order x.b 0 == some .eq) = decide (x.k = 0) := by rw [← b_zero]; exact order_eq x F.zero
theorem run_fbits (x:Nat) (w:World):(callFunc 130 #[.float .f64 x]).run Tryz.prog w = .ok (.value (.int .u64 x)) w := by
 rw [run_callFunc_extern (e := Extern.MathFloatBits.float64bits) Tryz.func130 (by kernel_rfl) (by kernel_rfl) (by kernel_rfl) (by kernel_rfl)]; rfl
theorem run_ffrom (x:Int) (w:World):(callFunc 129 #[.int .u64 x]).run Tryz.prog w = .ok (.value (.float .f64 x.toNat)) w := by
 rw [run_callFunc_extern (e := Extern.MathFloatBits.float64frombits) Tryz.func129 (by kernel_rfl) (by kernel_rfl) (by kernel_rfl) (by kernel_rfl)]; rfl
set_option maxHeartbeats 400000 in
theorem isNaN_w (x:Nat) (w:World) :
  Calls Tryz.prog 131 #[.float .f64 x] w fun e w' => e = .returned (.bool (Ieee.double.order x x != some .eq)) ∧ w = w' := by
 go_enter Tryz.func131,Tryz.ntmps131
 go_wp2
 go_ret
 exact ⟨rfl,rfl⟩
theorem isNaN_F (x:F) (w:World) :
  Calls Tryz.prog 131 #[.float .f64 x.b] w fun e w' => e = .returned (.bool false) ∧ w = w' :=
 (isNaN_w x.b w).mono fun e w' ⟨h1,h2⟩ => ⟨by
  rw [h1]; refine ret_bool ?_
  have := order_eq x x
  simp only [decide_true,beq_iff_eq] at this
  simp [this],h2⟩
set_option maxHeartbeats 400000 in
theorem signbit_w (x:Nat) (w:World) (hx:x < 18446744073709551616) :
  Calls Tryz.prog 133 #[.float .f64 x] w fun e w' => e = .returned (.bool (decide (9223372036854775808 ≤ x))) ∧ w = w' := by
 have hb := run_fbits
 go_enter Tryz.func133,Tryz.ntmps133
 go_wp2
 go_ret
 refine ⟨ret_bool ?_,rfl⟩
 rw [Bool.eq_iff_iff]
 simp only [decide_eq_true_eq]
 unfold wrap64
 omega
set_option maxHeartbeats 400000 in
theorem abs_w (x:Nat) (w:World) (hx:x < 18446744073709551616) :
  Calls Tryz.prog 59 #[.float .f64 x] w fun e w' => e = .returned (.float .f64 (x % 9223372036854775808)) ∧ w = w' := by
 have hb := run_fbits
 have hf := run_ffrom
 go_enter Tryz.func59,Tryz.ntmps59
 go_wp2
 go_ret
 refine ⟨ret_float ?_,rfl⟩
 rw [u64_andNot _ _ (by omega) (by omega) (by omega) (by omega)]
 simp only [Int.toNat_natCast]
 rw [show (18446744073709551615 - (9223372036854775808:Int).toNat) = 2 ^ 63 - 1 from by decide,Nat.and_two_pow_sub_one_eq_mod]
theorem abs_F (x:F) (w:World) :
  Calls Tryz.prog 59 #[.float .f64 x.b] w fun e w' => e = .returned (.float .f64 x.abs.b) ∧ w = w' :=
 (abs_w x.b w (by have := x.b_lt; omega)).mono fun e w' ⟨h1,h2⟩ => ⟨by rw [h1]; exact ret_float (F.abs_b x),h2⟩
set_option maxHeartbeats 400000 in
theorem isInf_w (x:Nat) (w:World) (hx:x < 18446744073709551616) :
  Calls Tryz.prog 132 #[.float .f64 x,.int .i64 0] w fun e w' => e = .returned (.bool (Ieee.double.order (x % 9223372036854775808) 9218868437227405311 == some .gt)) ∧ w = w' := by
 go_enter Tryz.func132,Tryz.ntmps132
 go_wp2_with (go_at_call 59; refine (abs_w _ _ (by omega)).mono ?_; rintro e w' ⟨rfl,rfl⟩)
 go_ret
 exact ⟨ret_bool rfl,rfl⟩
theorem isInf_F (x:F) (w:World) :
  Calls Tryz.prog 132 #[.float .f64 x.b,.int .i64 0] w fun e w' => e = .returned (.bool false) ∧ w = w' :=
 (isInf_w x.b w (by have := x.b_lt; omega)).mono fun e w' ⟨h1,h2⟩ => ⟨by
  rw [h1]; refine ret_bool ?_
  rw [F.abs_b,show (9218868437227405311:Nat) = F.max.b from by decide,order_gt]
  have := x.abs.hk
  have e:F.max.k = (T:Int) - 1 := rfl
  simp; omega,h2⟩
theorem signbit_F (x:F) (w:World) :
  Calls Tryz.prog 133 #[.float .f64 x.b] w fun e w' => e = .returned (.bool (decide (x.k < 0))) ∧ w = w' :=
 (signbit_w x.b w (by have := x.b_lt; omega)).mono fun e w' ⟨h1,h2⟩ => ⟨by
  rw [h1]; refine ret_bool ?_
  rw [Bool.eq_iff_iff]
  have := x.hk
  have e := T_num
  unfold F.b
  simp only [decide_eq_true_eq]
  split <;> omega,h2⟩
set_option maxHeartbeats 400000 in
theorem right_F_w (x:F) (w:World) :
  Calls Tryz.prog 60 #[.float .f64 x.b] w fun e w' => e = .returned (.bool true) ∧ w = w' := by
 have ho := ford0_eq x
 by_cases h:x.k = 0
 ·have h0:(FloatKind.f64.format.order x.b 0 == some .eq) = true := by rw [ho]; simpa using h
  have hs:decide (x.k < 0) = false := by simp; omega
  clear ho h
  go_enter Tryz.func60,Tryz.ntmps60
  go_wp2_with (first | (go_at_call 131; refine (isNaN_F _ _).mono ?_; rintro e w' ⟨rfl,rfl⟩) | (go_at_call 132; refine (isInf_F _ _).mono ?_; rintro e w' ⟨rfl,rfl⟩) | (go_at_call 133; refine (signbit_F _ _).mono ?_; rintro e w' ⟨rfl,rfl⟩))
  go_ret
  exact ⟨ret_bool (by simp [hs]),rfl⟩
 ·have h0:(FloatKind.f64.format.order x.b 0 == some .eq) = false := by rw [ho]; simpa using h
  clear ho h
  go_enter Tryz.func60,Tryz.ntmps60
  go_wp2_with (first | (go_at_call 131; refine (isNaN_F _ _).mono ?_; rintro e w' ⟨rfl,rfl⟩) | (go_at_call 132; refine (isInf_F _ _).mono ?_; rintro e w' ⟨rfl,rfl⟩) | (go_at_call 133; refine (signbit_F _ _).mono ?_; rintro e w' ⟨rfl,rfl⟩))
  go_ret
  exact ⟨ret_bool rfl,rfl⟩
theorem right_no_w (x:Nat) (hx:x < 18446744073709551616) (h:rightB x = false) (w:World) :
  Calls Tryz.prog 60 #[.float .f64 x] w fun e w' => e = .returned (.bool false) ∧ w = w' := by
 obtain ⟨neg,r,hr,hxr,hc⟩ := bad_parts hx h
 have hr1 := read_parts x neg r hr hxr
 have hm:x % 9223372036854775808 = r := by cases neg <;> simp at hxr <;> omega
 rcases hc with ⟨h1,h2⟩ | h1 | h1
 ·-- minus 0
  subst h1 h2
  obtain rfl:x = 9223372036854775808 := by simpa using hxr
  clear h hr hxr hr1 hm hx
  go_enter Tryz.func60,Tryz.ntmps60
  go_wp2_with (first | (go_at_call 131; refine (isNaN_w _ _).mono ?_; rintro e w' ⟨rfl,rfl⟩) | (go_at_call 132; refine (isInf_w _ _ (by omega)).mono ?_; rintro e w' ⟨rfl,rfl⟩) | (go_at_call 133; refine (signbit_w _ _ (by omega)).mono ?_; rintro e w' ⟨rfl,rfl⟩))
  go_ret
  exact ⟨ret_bool rfl,rfl⟩
 ·-- infinite
  have hn:(Ieee.double.order x x != some .eq) = false := by
   unfold Ieee.Format.order
   rw [hr1,if_neg (by omega),if_pos h1]
   simp [Ieee.Datum.order]
  have hi:(Ieee.double.order (x % 9223372036854775808) 9218868437227405311 == some .gt) = true := by
   rw [hm,h1]; decide +kernel
  have hz:(FloatKind.f64.format.order x 0 == some .eq) = false := by
   show (Ieee.double.order x 0 == some .eq) = false
   unfold Ieee.Format.order
   rw [hr1,if_neg (by omega),if_pos h1]
   cases neg <;> decide +kernel
  clear h hr hxr hr1 hm h1
  go_enter Tryz.func60,Tryz.ntmps60
  go_wp2_with (first | (go_at_call 131; refine (isNaN_w _ _).mono ?_; rintro e w' ⟨rfl,rfl⟩) | (go_at_call 132; refine (isInf_w _ _ hx).mono ?_; rintro e w' ⟨rfl,rfl⟩) | (go_at_call 133; refine (signbit_w _ _ hx).mono ?_; rintro e w' ⟨rfl,rfl⟩))
  go_ret
  exact ⟨ret_bool rfl,rfl⟩
 ·-- no number
  have hn:(Ieee.double.order x x != some .eq) = true := by
   unfold Ieee.Format.order
   rw [hr1,if_neg (by omega),if_neg (by omega)]
   simp [Ieee.Datum.order]
  have hz:(FloatKind.f64.format.order x 0 == some .eq) = false := by
   show (Ieee.double.order x 0 == some .eq) = false
   unfold Ieee.Format.order
   rw [hr1,if_neg (by omega),if_neg (by omega)]
   simp [Ieee.Datum.order]
  clear h hr hxr hr1 hm h1
  go_enter Tryz.func60,Tryz.ntmps60
  go_wp2_with (first | (go_at_call 131; refine (isNaN_w _ _).mono ?_; rintro e w' ⟨rfl,rfl⟩) | (go_at_call 132; refine (isInf_w _ _ hx).mono ?_; rintro e w' ⟨rfl,rfl⟩) | (go_at_call 133; refine (signbit_w _ _ hx).mono ?_; rintro e w' ⟨rfl,rfl⟩))
  go_ret
  exact ⟨ret_bool rfl,rfl⟩
def wv (n:Nat):Value := .agg #[.int .u64 ((n / 18446744073709551616:Nat):Int),.int .u64 ((n % 18446744073709551616:Nat):Int)]
theorem lib_len_le (x:Nat) (h:(x:Int) ≤ 18446744073709551615):Lib.bitLen x ≤ 64 := by
 have := Any.bitLen_le64 (x:Int) (by omega) h
 simpa using this
set_option maxHeartbeats 400000 in
theorem size_w (a b:Nat) (w:World) (ha:(a:Int) ≤ 18446744073709551615) (hb:(b:Int) ≤ 18446744073709551615) :
  Calls Tryz.prog 236 #[.agg #[.int .u64 a,.int .u64 b]] w fun e w' => e = .returned (.int .i64 (if a > 0 then 64 + Lib.bitLen a else Lib.bitLen b)) ∧ Below w.heap.size w w' := by
 by_cases h:a = 0
 ·subst h
  go_enter Tryz.func236,Tryz.ntmps236
  go_wp2_with (go_at_call 147; refine (Tryz.bits_Len64 _ _ (by omega) (by omega)).mono ?_; rintro e w' ⟨rfl,rfl⟩)
  go_ret
  exact ⟨ret_int rfl,(Below.refl _ _).alloc (Nat.le_refl _) _⟩
 ·have h':(0:Int) < a := by omega
  have hl:(Lib.bitLen a:Int) ≤ 64 := by have := lib_len_le a ha; omega
  go_enter Tryz.func236,Tryz.ntmps236
  go_wp2_with (go_at_call 147; refine (Tryz.bits_Len64 _ _ (by omega) (by omega)).mono ?_; rintro e w' ⟨rfl,rfl⟩)
  go_ret
  exact ⟨ret_int rfl,(Below.refl _ _).alloc (Nat.le_refl _) _⟩
@[go_sem] theorem eq_wide (a b c d:Int) (w:World):(Op.equalIn 10000 210 (.agg #[.int .u64 a,.int .u64 b]) (.agg #[.int .u64 c,.int .u64 d])).run Tryz.prog w = .ok (a == c && b == d) w := by
 have u3 := Tryz.underlying25
 have a3 := Tryz.isAgg25
 have z3 := Tryz.sizeOf25
 rw [show (10000:Nat) = 9999 + 1 from rfl,Op.equalIn]
 simp only [Sem.run_bind,run_underlying Tryz.underlying210,Result.andThen_ok]
 simp only [Std.Legacy.Range.forIn_eq_forIn_range',Std.Legacy.Range.size,Nat.sub_zero,Nat.add_sub_cancel,Nat.div_one,List.range'_succ,List.range'_zero,List.forIn_cons,List.forIn_nil]
 go_simp
 by_cases h1:a = c <;> by_cases h2:b = d <;> simp [h1,h2]
set_option maxHeartbeats 400000 in
theorem is_w (a b:Int) (w:World) :
  Calls Tryz.prog 239 #[.agg #[.int .u64 a,.int .u64 b]] w fun e w' => e = .returned (.bool (!a == 0 || !b == 0)) ∧ Below w.heap.size w w' := by
 go_enter Tryz.func239,Tryz.ntmps239
 go_wp2
 go_ret
 exact ⟨ret_bool rfl,(Below.refl _ _).alloc (Nat.le_refl _) _⟩
set_option maxHeartbeats 400000 in
theorem up_w (a b:Int) (n:Nat) (w:World) (ha:0 ≤ a) (hb:0 ≤ b) (hb2:b ≤ 18446744073709551615) (hn2:(n:Int) ≤ 128) :
  Calls Tryz.prog 240 #[.agg #[.int .u64 a,.int .u64 b],.int .i64 n] w fun e w' => e = .returned (.agg #[.int .u64 (hi (wn a b * 2 ^ n % W128)),.int .u64 (lo (wn a b * 2 ^ n % W128))]) ∧ Below w.heap.size w w' := by
 by_cases hn:64 ≤ (n:Int)
 ·have H := up_arith_hi a b n ha hb (by omega)
  generalize wn a b * 2 ^ n % W128 = r at *
  obtain ⟨H1,H2⟩ := H
  have K1 := Lib.hid H1
  have K2 := Lib.hid H2
  clear H1 H2
  go_enter Tryz.func240,Tryz.ntmps240
  go_wp2
  refine bodyPost_ret (v := .agg #[.int .u64 (IntKind.u64.wrap (b * 2 ^ (n - 64))),.int .u64 0]) (by simp [results,Tryz.results240,go_sem]) rfl ⟨?_,?_⟩
  ·rw [K1.out,← K2.out]
  ·exact ((Below.refl _ _).alloc (Nat.le_refl _) _).alloc (by simp) _
 ·have H := up_arith_lo a b n ha hb hb2 (by omega)
  generalize wn a b * 2 ^ n % W128 = r at *
  obtain ⟨H1,H2⟩ := H
  have K1 := Lib.hid H1
  have K2 := Lib.hid H2
  clear H1 H2
  go_enter Tryz.func240,Tryz.ntmps240
  go_wp2
  go_region
  go_wp2
  refine bodyPost_ret (v := .agg #[.int .u64 (bits BinOp.or IntKind.u64 (IntKind.u64.wrap (a * 2 ^ n)) (b / 2 ^ (64 - n))),.int .u64 (IntKind.u64.wrap (b * 2 ^ n))]) (by simp [results,Tryz.results240,go_sem]) rfl ⟨?_,?_⟩
  ·rw [K1.out,← K2.out]
  ·exact (((Below.refl _ _).alloc (Nat.le_refl _) _).alloc (by simp) _).drew
theorem bcell {W w1:World} (hb:Below W.heap.size W w1):(∀ b o,b < W.heap.size → w1.cell? ⟨b,o,none⟩ = W.cell? ⟨b,o,none⟩) ∧ (∀ b o,b < W.heap.size → w1.frozen? ⟨b,o,none⟩ = W.frozen? ⟨b,o,none⟩) :=
 ⟨fun b o h => hb.cell (p := ⟨b,o,none⟩) h,fun b o h => hb.frozen (p := ⟨b,o,none⟩) h⟩
set_option maxRecDepth 100000 in
set_option maxHeartbeats 400000 in
theorem down_lo (a b:Int) (n:Nat) (w:World) (ha:0 ≤ a) (ha2:a ≤ 18446744073709551615) (hb:0 ≤ b) (hb2:b ≤ 18446744073709551615) (hn:(n:Int) < 64) :
  Calls Tryz.prog 164 #[.agg #[.int .u64 a,.int .u64 b],.int .i64 n] w fun e w' => e = .returned (.tuple #[.agg #[.int .u64 (hi (wn a b / 2 ^ n)),.int .u64 (lo (wn a b / 2 ^ n))],.bool (decide (wn a b % 2 ^ n ≠ 0))]) ∧ Below w.heap.size w w' := by
 go_enter Tryz.func164,Tryz.ntmps164
 go_wp2
 go_region
 go_wp2
 have ka:0 ≤ a / 2 ^ n := Int.ediv_nonneg ha (Int.le_of_lt (Int.pow_pos (by omega)))
 obtain ⟨k1,k2⟩ := dn_arith_lo a b n ha ha2 hb hb2 (by omega)
 have kb:0 ≤ bits BinOp.or IntKind.u64 (b / 2 ^ n) (IntKind.u64.wrap (a * 2 ^ (64 - n))) := by rw [k2]; exact lo_nonneg _
 have kb2:bits BinOp.or IntKind.u64 (b / 2 ^ n) (IntKind.u64.wrap (a * 2 ^ (64 - n))) ≤ 18446744073709551615 := by rw [k2]; exact lo_le _
 have K1 := Lib.hid k1
 have K2 := Lib.hid k2
 clear k1 k2
 generalize a / 2 ^ n = x at *
 generalize bits BinOp.or IntKind.u64 (b / 2 ^ n) (IntKind.u64.wrap (a * 2 ^ (64 - n))) = y at *
 generalize hW:World.drew _ = W2
 have c1:W2.cell? ⟨w.heap.size,0,none⟩ = some (.int .u64 a) := by subst hW; simp (disch := (simp; try omega)) only [World.cell?_drew,World.cell?_alloc_at,World.cell?_alloc_past]; rfl
 have c2:W2.cell? ⟨w.heap.size,1,none⟩ = some (.int .u64 b) := by subst hW; simp (disch := (simp; try omega)) only [World.cell?_drew,World.cell?_alloc_at,World.cell?_alloc_past]; rfl
 have c3:W2.cell? ⟨w.heap.size + 1 + 1,0,none⟩ = some (.int .u64 x) := by subst hW; simp (disch := (simp; try omega)) only [World.cell?_drew,World.cell?_alloc_at,World.cell?_alloc_past]; rfl
 have c4:W2.cell? ⟨w.heap.size + 1 + 1,1,none⟩ = some (.int .u64 y) := by subst hW; simp (disch := (simp; try omega)) only [World.cell?_drew,World.cell?_alloc_at,World.cell?_alloc_past]; rfl
 have c5:W2.cell? ⟨w.heap.size + 1,0,none⟩ = some (.int .u64 0) := by subst hW; simp (disch := (simp; try omega)) only [World.cell?_drew,World.cell?_alloc_at,World.cell?_alloc_past]; rfl
 have c6:W2.cell? ⟨w.heap.size + 1,1,none⟩ = some (.int .u64 0) := by subst hW; simp (disch := (simp; try omega)) only [World.cell?_drew,World.cell?_alloc_at,World.cell?_alloc_past]; rfl
 have z5:W2.frozen? ⟨w.heap.size + 1,0,none⟩ = false := by subst hW; simp (disch := (simp; try omega)) only [World.frozen?_drew,World.frozen?_alloc_at,World.frozen?_alloc_past]
 have z6:W2.frozen? ⟨w.heap.size + 1,1,none⟩ = false := by subst hW; simp (disch := (simp; try omega)) only [World.frozen?_drew,World.frozen?_alloc_at,World.frozen?_alloc_past]
 have hs:W2.heap.size = w.heap.size + 3 := by rw [← hW]; simp
 have hB:Below w.heap.size w W2 := by rw [← hW]; exact ((((Below.refl _ _).alloc (Nat.le_refl _) _).alloc (by simp) _).alloc (by simp; omega) _).drew
 clear hW
 have HS := Lib.hid hs
 clear hs
 go_region_held3 (fun w' => w'.cell? ⟨w.heap.size,0,none⟩ = some (.int .u64 a) ∧ w'.cell? ⟨w.heap.size,1,none⟩ = some (.int .u64 b) ∧ w'.cell? ⟨w.heap.size + 1 + 1,0,none⟩ = some (.int .u64 x) ∧ w'.cell? ⟨w.heap.size + 1 + 1,1,none⟩ = some (.int .u64 y))
  (first | go_keep | (refine ⟨?_,?_,?_,?_⟩ <;> (rw [hcc _ _ (by have := HS.out; simp; omega)]; simpa using by assumption)))
  (first | (go_at_call 240; refine (up_w _ _ _ _ ka kb kb2 (by omega)).mono ?_; rintro e w1 ⟨rfl,hbb⟩; obtain ⟨hcc,hff⟩ := bcell hbb; have s5:w1.cell? ⟨w.heap.size + 1,0,none⟩ = some (.int .u64 0) := by (rw [hcc _ _ (by have := HS.out; simp; omega)]; simpa using c5)
            have s6:w1.cell? ⟨w.heap.size + 1,1,none⟩ = some (.int .u64 0) := by (rw [hcc _ _ (by have := HS.out; simp; omega)]; simpa using c6)
            have t5:w1.frozen? ⟨w.heap.size + 1,0,none⟩ = false := by (rw [hff _ _ (by have := HS.out; simp; omega)]; simpa using z5)
            have t6:w1.frozen? ⟨w.heap.size + 1,1,none⟩ = false := by (rw [hff _ _ (by have := HS.out; simp; omega)]; simpa using z6)))
 go_wp2
 refine bodyPost_ret (v := .tuple #[.agg #[.int .u64 x,.int .u64 y],.bool (!(hi (wn x y * 2 ^ n % W128) == a) || !(lo (wn x y * 2 ^ n % W128) == b))]) (by simp [results,Tryz.results164,go_sem,s5,s6]) rfl ⟨?_,?_⟩
 ·rw [K1.out,K2.out,wn_hi_lo,lost_iff a b n ha ha2 hb hb2]
 ·exact (((hB.drew.trans (hbb.mono (by have := HS.out; simp; omega))).setCell (by simp) _).setCell (by simp) _)
set_option maxRecDepth 100000 in
set_option maxHeartbeats 400000 in
theorem down_hi (a b:Int) (n:Nat) (w:World) (ha:0 ≤ a) (ha2:a ≤ 18446744073709551615) (hb:0 ≤ b) (hb2:b ≤ 18446744073709551615) (hn:64 ≤ (n:Int)) (hn2:(n:Int) < 128) :
  Calls Tryz.prog 164 #[.agg #[.int .u64 a,.int .u64 b],.int .i64 n] w fun e w' => e = .returned (.tuple #[.agg #[.int .u64 (hi (wn a b / 2 ^ n)),.int .u64 (lo (wn a b / 2 ^ n))],.bool (decide (wn a b % 2 ^ n ≠ 0))]) ∧ Below w.heap.size w w' := by
 obtain ⟨k1,k2⟩ := dn_arith_hi a b n ha ha2 hb hb2 (by omega)
 have kb:0 ≤ a / 2 ^ (n - 64) := by rw [k2]; exact lo_nonneg _
 have kb2:a / 2 ^ (n - 64) ≤ 18446744073709551615 := by rw [k2]; exact lo_le _
 have K1 := Lib.hid k1
 have K2 := Lib.hid k2
 clear k1 k2
 go_enter Tryz.func164,Tryz.ntmps164
 go_wp2
 generalize a / 2 ^ (n - 64) = y at *
 have ka:(0:Int) ≤ 0 := by omega
 generalize hW:World.alloc _ _ = W2
 have c1:W2.cell? ⟨w.heap.size,0,none⟩ = some (.int .u64 a) := by subst hW; simp (disch := (simp; try omega)) only [World.cell?_drew,World.cell?_alloc_at,World.cell?_alloc_past]; rfl
 have c2:W2.cell? ⟨w.heap.size,1,none⟩ = some (.int .u64 b) := by subst hW; simp (disch := (simp; try omega)) only [World.cell?_drew,World.cell?_alloc_at,World.cell?_alloc_past]; rfl
 have c3:W2.cell? ⟨w.heap.size + 1 + 1,0,none⟩ = some (.int .u64 0) := by subst hW; simp (disch := (simp; try omega)) only [World.cell?_drew,World.cell?_alloc_at,World.cell?_alloc_past]; rfl
 have c4:W2.cell? ⟨w.heap.size + 1 + 1,1,none⟩ = some (.int .u64 y) := by subst hW; simp (disch := (simp; try omega)) only [World.cell?_drew,World.cell?_alloc_at,World.cell?_alloc_past]; rfl
 have c5:W2.cell? ⟨w.heap.size + 1,0,none⟩ = some (.int .u64 0) := by subst hW; simp (disch := (simp; try omega)) only [World.cell?_drew,World.cell?_alloc_at,World.cell?_alloc_past]; rfl
 have c6:W2.cell? ⟨w.heap.size + 1,1,none⟩ = some (.int .u64 0) := by subst hW; simp (disch := (simp; try omega)) only [World.cell?_drew,World.cell?_alloc_at,World.cell?_alloc_past]; rfl
 have z5:W2.frozen? ⟨w.heap.size + 1,0,none⟩ = false := by subst hW; simp (disch := (simp; try omega)) only [World.frozen?_drew,World.frozen?_alloc_at,World.frozen?_alloc_past]
 have z6:W2.frozen? ⟨w.heap.size + 1,1,none⟩ = false := by subst hW; simp (disch := (simp; try omega)) only [World.frozen?_drew,World.frozen?_alloc_at,World.frozen?_alloc_past]
 have hs:W2.heap.size = w.heap.size + 3 := by rw [← hW]; simp
 have hB:Below w.heap.size w W2 := by rw [← hW]; exact (((Below.refl _ _).alloc (Nat.le_refl _) _).alloc (by simp) _).alloc (by simp; omega) _
 clear hW
 have HS := Lib.hid hs
 clear hs
 go_region_held3 (fun w' => w'.cell? ⟨w.heap.size,0,none⟩ = some (.int .u64 a) ∧ w'.cell? ⟨w.heap.size,1,none⟩ = some (.int .u64 b) ∧ w'.cell? ⟨w.heap.size + 1 + 1,0,none⟩ = some (.int .u64 0) ∧ w'.cell? ⟨w.heap.size + 1 + 1,1,none⟩ = some (.int .u64 y))
  (first | go_keep | (refine ⟨?_,?_,?_,?_⟩ <;> (rw [hcc _ _ (by have := HS.out; simp; omega)]; simpa using by assumption)))
  (first | (go_at_call 240; refine (up_w _ _ _ _ ka kb kb2 (by omega)).mono ?_; rintro e w1 ⟨rfl,hbb⟩; obtain ⟨hcc,hff⟩ := bcell hbb; have s5:w1.cell? ⟨w.heap.size + 1,0,none⟩ = some (.int .u64 0) := by (rw [hcc _ _ (by have := HS.out; simp; omega)]; simpa using c5)
            have s6:w1.cell? ⟨w.heap.size + 1,1,none⟩ = some (.int .u64 0) := by (rw [hcc _ _ (by have := HS.out; simp; omega)]; simpa using c6)
            have t5:w1.frozen? ⟨w.heap.size + 1,0,none⟩ = false := by (rw [hff _ _ (by have := HS.out; simp; omega)]; simpa using z5)
            have t6:w1.frozen? ⟨w.heap.size + 1,1,none⟩ = false := by (rw [hff _ _ (by have := HS.out; simp; omega)]; simpa using z6)))
 go_wp2
 refine bodyPost_ret (v := .tuple #[.agg #[.int .u64 0,.int .u64 y],.bool (!(hi (wn 0 y * 2 ^ n % W128) == a) || !(lo (wn 0 y * 2 ^ n % W128) == b))]) (by simp [results,Tryz.results164,go_sem,s5,s6]) rfl ⟨?_,?_⟩
 ·rw [K1.out,K2.out,wn_hi_lo,lost_iff a b n ha ha2 hb hb2]
 ·exact (((hB.drew.trans (hbb.mono (by have := HS.out; simp; omega))).setCell (by simp) _).setCell (by simp) _)
set_option maxRecDepth 100000 in
set_option maxHeartbeats 400000 in
theorem down_all (a b:Int) (n:Nat) (w:World) (ha:0 ≤ a) (ha2:a ≤ 18446744073709551615) (hb:0 ≤ b) (hb2:b ≤ 18446744073709551615) (hn2:128 ≤ (n:Int)) :
  Calls Tryz.prog 164 #[.agg #[.int .u64 a,.int .u64 b],.int .i64 n] w fun e w' => e = .returned (.tuple #[.agg #[.int .u64 (hi (wn a b / 2 ^ n)),.int .u64 (lo (wn a b / 2 ^ n))],.bool (decide (wn a b % 2 ^ n ≠ 0))]) ∧ Below w.heap.size w w' := by
 go_enter Tryz.func164,Tryz.ntmps164
 go_wp2_with (go_at_call 239; refine (is_w _ _ _).mono ?_; rintro e w1 ⟨rfl,hbb⟩; obtain ⟨hcc,hff⟩ := bcell hbb)
 have s5:w1.cell? ⟨w.heap.size + 1,0,none⟩ = some (.int .u64 0) := by (rw [hcc _ _ (by simp)]; simp)
 have s6:w1.cell? ⟨w.heap.size + 1,1,none⟩ = some (.int .u64 0) := by (rw [hcc _ _ (by simp)]; simp)
 refine bodyPost_ret (v := .tuple #[.agg #[.int .u64 0,.int .u64 0],.bool (!a == 0 || !b == 0)]) (by simp [results,Tryz.results164,go_sem,s5,s6]) rfl ⟨?_,?_⟩
 ·obtain ⟨h1,h2,h3⟩ := dn_arith_all a b n ha ha2 hb hb2 (by omega)
  rw [← h1,← h2,h3]
 ·exact (((((Below.refl _ _).alloc (Nat.le_refl _) _).alloc (by simp) _).trans (hbb.mono (by simp; omega))).setCell (by simp) _).setCell (by simp) _
theorem down_w (a b:Int) (n:Nat) (w:World) (ha:0 ≤ a) (ha2:a ≤ 18446744073709551615) (hb:0 ≤ b) (hb2:b ≤ 18446744073709551615) :
  Calls Tryz.prog 164 #[.agg #[.int .u64 a,.int .u64 b],.int .i64 n] w fun e w' => e = .returned (.tuple #[.agg #[.int .u64 (hi (wn a b / 2 ^ n)),.int .u64 (lo (wn a b / 2 ^ n))],.bool (decide (wn a b % 2 ^ n ≠ 0))]) ∧ Below w.heap.size w w' := by
 by_cases h1:(n:Int) < 64
 ·exact down_lo a b n w ha ha2 hb hb2 h1
 ·by_cases h2:(n:Int) < 128
  ·exact down_hi a b n w ha ha2 hb hb2 (by omega) h2
  ·exact down_all a b n w ha ha2 hb hb2 (by omega)
theorem ret_tup {a b:Array Value} (h:a = b):Ending.returned (.tuple a) = .returned (.tuple b) := by rw [h]
set_option maxRecDepth 100000 in
set_option maxHeartbeats 400000 in
theorem parts_F (x:F) (w:World) :
  Calls Tryz.prog 154 #[.float .f64 x.b] w fun e w' => e = .returned (.tuple #[.bool (decide (x.k < 0)),.int .u64 (man x.k.natAbs),.int .i64 (pl x.k.natAbs - 1074)]) ∧ w = w' := by
 have hb := run_fbits
 have h1 := b_frac x
 have h2 := b_exp x
 have h3 := or_hid x.k.natAbs
 have h4 := (b_parts x).2.2
 have hP:P = 4503599627370496 := rfl
 have hp := Nat.div_add_mod x.k.natAbs P
 by_cases hE:x.k.natAbs / P = 0
 ·have hm:man x.k.natAbs = x.k.natAbs % P := by
   have hlt := Nat.mod_lt x.k.natAbs P_pos
   rw [hE,Nat.mul_zero] at hp; unfold man; rw [if_pos (by omega)]; omega
  have hl:pl x.k.natAbs = 0 := by unfold pl; omega
  rw [hm,hl]
  rw [hE] at h2
  clear h3 h4 hP hp hE hm hl
  generalize x.k.natAbs % P = m at *
  go_enter Tryz.func154,Tryz.ntmps154
  go_wp2_with (first | (go_at_call 133; refine (signbit_F _ _).mono ?_; rintro e w' ⟨rfl,rfl⟩))
  go_ret3
  exact ⟨ret_tup rfl,rfl⟩
 ·have hm:man x.k.natAbs = P + x.k.natAbs % P := by
   unfold man; rw [if_neg]
   intro h; exact hE (Nat.div_eq_of_lt h)
  have hl:(pl x.k.natAbs:Int) - 1074 = ((x.k.natAbs / P:Nat):Int) + -1074 - 1 := by
   unfold pl; clear h1 h2 h3 hm; generalize x.k.natAbs / P = q at *; omega
  rw [hm,hl]
  have h5:(1:Int) ≤ ((x.k.natAbs / P:Nat):Int) := by omega
  have h6:((x.k.natAbs / P:Nat):Int) < 2047 := by omega
  clear h4 hP hp hE hm hl
  generalize x.k.natAbs % P = m at *
  generalize x.k.natAbs / P = q at *
  generalize P + m = M at *
  go_enter Tryz.func154,Tryz.ntmps154
  go_wp2_with (first | (go_at_call 133; refine (signbit_F _ _).mono ?_; rintro e w' ⟨rfl,rfl⟩))
  go_ret3
  exact ⟨ret_tup rfl,rfl⟩
theorem fmul_exact {x y p:F} (hp:p.k ≠ 0) (h:p.z * S = x.z * y.z) (t:TypeId) (w:World):(binOp .mul t (.float .f64 x.b) (.float .f64 y.b)).run Tryz.prog w = .ok (.float .f64 p.b) w :=
 run_float_arith w .mul t .f64 x.b y.b p.b (mul_exact hp h)
theorem lit52:(4841369599423283200:Nat) = (F.of 4841369599423283200).b := by decide +kernel
theorem litmin:(4503599627370496:Nat) = (F.of 4503599627370496).b := by decide +kernel
theorem lit52z:(F.of 4841369599423283200).z = 4503599627370496 * S := by decide +kernel
set_option maxHeartbeats 400000 in
theorem normalize_norm (x:F) (w:World) (h:P ≤ x.k.natAbs) :
  Calls Tryz.prog 289 #[.float .f64 x.b] w fun e w' => e = .returned (.tuple #[.float .f64 x.b,.int .i64 0]) ∧ w = w' := by
 have ho:(FloatKind.f64.format.order x.abs.b 4503599627370496 == some .lt) = false := by
  rw [litmin,ford_lt]
  have e:P = 4503599627370496 := rfl
  have e2:x.abs.k = (x.k.natAbs:Int) := rfl
  rw [F.of_k (by decide),e2]; simp; omega
 go_enter Tryz.func289,Tryz.ntmps289
 go_wp2_with (first | (go_at_call 59; refine (abs_F _ _).mono ?_; rintro e w' ⟨rfl,rfl⟩))
 go_ret2
 exact ⟨ret_tup rfl,rfl⟩
set_option maxHeartbeats 400000 in
theorem normalize_sub (x y:F) (w:World) (h:x.k.natAbs < P) (h0:x.k ≠ 0) (hy:y.z = x.z * 4503599627370496) :
  Calls Tryz.prog 289 #[.float .f64 x.b] w fun e w' => e = .returned (.tuple #[.float .f64 y.b,.int .i64 (-52)]) ∧ w = w' := by
 have ho:(FloatKind.f64.format.order x.abs.b 4503599627370496 == some .lt) = true := by
  rw [litmin,ford_lt]
  have e:P = 4503599627370496 := rfl
  have e2:x.abs.k = (x.k.natAbs:Int) := rfl
  rw [F.of_k (by decide),e2]; simp; omega
 have hy0:y.k ≠ 0 := fun e => h0 ((z_zero x).1 (by have := (z_zero y).2 e; omega))
 have hm := fmul_exact (x := x) (y := F.of 4841369599423283200) (p := y) hy0 (by rw [hy,lit52z,Int.mul_assoc]) 28
 rw [← lit52] at hm
 clear h h0 hy hy0
 go_enter Tryz.func289,Tryz.ntmps289
 go_wp2_with (first | (go_at_call 59; refine (abs_F _ _).mono ?_; rintro e w' ⟨rfl,rfl⟩))
 go_ret2
 exact ⟨ret_tup rfl,rfl⟩
theorem litone:(4607182418800017408:Nat) = (F.of 4607182418800017408).b := by decide +kernel
theorem litone_z:(F.of 4607182418800017408).z = S := by decide +kernel
theorem lit53:(4368491638549381120:Nat) = (F.of 4368491638549381120).b := by decide +kernel
theorem lit53_z:(F.of 4368491638549381120).z * 9007199254740992 = S := by decide +kernel
set_option maxRecDepth 100000 in
set_option maxHeartbeats 400000 in
theorem ldexp_C (x x' y:F) (n c:Int) (f:Nat) (w:World) (hx:x.k ≠ 0) (hN:∀ w,Calls Tryz.prog 289 #[.float .f64 x.b] w fun e w' => e = .returned (.tuple #[.float .f64 x'.b,.int .i64 c]) ∧ w = w')
  (hc1:-52 ≤ c) (hc2:c ≤ 0) (hf1:1 ≤ (f:Int)) (hf2:(f:Int) ≤ 2046) (hfn:n + c + ((x'.k.natAbs / P:Nat):Int) = f) (hy:y = x'.like (f * P + x'.k.natAbs % P)) :
  Calls Tryz.prog 223 #[.float .f64 x.b,.int .i64 n] w fun e w' => e = .returned (.float .f64 y.b) ∧ w = w' := by
 have hb := run_fbits
 have hf := run_ffrom
 have ho:(FloatKind.f64.format.order x.b 0 == some .eq) = false := by rw [ford0_eq]; simpa using hx
 have he := b_exp_i x'
 have heq:((x'.k.natAbs / P:Nat):Int) < 2047 := by have := b_parts x'; omega
 have hB := ldexp_bits x' f (by omega) (by omega)
 rw [← hy] at hB
 have hy0:y.k ≠ 0 := by
  intro e
  have h1 := F.like_b x' (f * P + x'.k.natAbs % P) (by have := P_pos; have:1 * P ≤ f * P := Nat.mul_le_mul_right _ (by omega); omega) (by
   have := Nat.mod_lt x'.k.natAbs P_pos
   have:f * P ≤ 2046 * P := Nat.mul_le_mul_right _ (by omega)
   rw [T_eq]; omega)
  rw [← hy] at h1
  have h2:y.b = 0 := by unfold F.b; rw [e]; rfl
  have := P_pos
  have:1 * P ≤ f * P := Nat.mul_le_mul_right _ (by omega)
  split at h1 <;> omega
 have hm := fmul_exact (x := F.of 4607182418800017408) (y := y) (p := y) hy0 (by rw [litone_z,Int.mul_comm]) 28
 rw [← litone] at hm
 generalize x'.k.natAbs / P = q at *
 have g1:1 ≤ n + c + q := by omega
 have g2:n + c + q ≤ 2046 := by omega
 have eB:IntKind.u64.wrap ((f:Int) * 4503599627370496) = (n + c + (q - 1023) + 1023) * 4503599627370496 := by
  rw [IntKind.wrap_u64]; omega
 rw [eB] at hB
 have HN := Lib.hid hN
 clear hfn hy eB hN hx hy0 hf1 hf2
 go_enter Tryz.func223,Tryz.ntmps223
 go_wp2_with (first | (go_at_call 289; refine (HN.out _).mono ?_; rintro e w' ⟨rfl,rfl⟩) | (go_at_call 131; refine (isNaN_F _ _).mono ?_; rintro e w' ⟨rfl,rfl⟩) | (go_at_call 132; refine (isInf_F _ _).mono ?_; rintro e w' ⟨rfl,rfl⟩) )
 go_ret
 exact ⟨ret_float rfl,rfl⟩
set_option maxRecDepth 100000 in
set_option maxHeartbeats 400000 in
theorem ldexp_D (x x' y y':F) (n c:Int) (f:Nat) (w:World) (hx:x.k ≠ 0) (hN:∀ w,Calls Tryz.prog 289 #[.float .f64 x.b] w fun e w' => e = .returned (.tuple #[.float .f64 x'.b,.int .i64 c]) ∧ w = w')
  (hc1:-52 ≤ c) (hc2:c ≤ 0) (hf1:1 ≤ (f:Int)) (hf2:(f:Int) ≤ 53) (hfn:n + c + ((x'.k.natAbs / P:Nat):Int) + 53 = f) (hy:y = x'.like (f * P + x'.k.natAbs % P))
  (hy0:y'.k ≠ 0) (hy':y.z = y'.z * 9007199254740992) :
  Calls Tryz.prog 223 #[.float .f64 x.b,.int .i64 n] w fun e w' => e = .returned (.float .f64 y'.b) ∧ w = w' := by
 have hb := run_fbits
 have hf := run_ffrom
 have ho:(FloatKind.f64.format.order x.b 0 == some .eq) = false := by rw [ford0_eq]; simpa using hx
 have he := b_exp_i x'
 have heq:((x'.k.natAbs / P:Nat):Int) < 2047 := by have := b_parts x'; omega
 have hB := ldexp_bits x' f (by omega) (by omega)
 rw [← hy] at hB
 have hm := fmul_exact (x := F.of 4368491638549381120) (y := y) (p := y') hy0 (by rw [hy',← lit53_z,← Int.mul_assoc,Int.mul_comm y'.z]; grind) 28
 rw [← lit53] at hm
 generalize x'.k.natAbs / P = q at *
 have g1:1 ≤ n + c + q + 53 := by omega
 have g2:n + c + q ≤ 0 := by omega
 have eB:IntKind.u64.wrap ((f:Int) * 4503599627370496) = (n + c + (q - 1023) + 53 + 1023) * 4503599627370496 := by
  rw [IntKind.wrap_u64]; omega
 rw [eB] at hB
 have HN := Lib.hid hN
 clear hfn hy eB hN hx hy0 hy' hf1 hf2
 go_enter Tryz.func223,Tryz.ntmps223
 go_wp2_with (first | (go_at_call 289; refine (HN.out _).mono ?_; rintro e w' ⟨rfl,rfl⟩) | (go_at_call 131; refine (isNaN_F _ _).mono ?_; rintro e w' ⟨rfl,rfl⟩) | (go_at_call 132; refine (isInf_F _ _).mono ?_; rintro e w' ⟨rfl,rfl⟩) )
 go_ret
 exact ⟨ret_float rfl,rfl⟩
theorem ldexp_norm (x x' y:F) (n c:Int) (w:World) (hx:x.k ≠ 0) (hN:∀ w,Calls Tryz.prog 289 #[.float .f64 x.b] w fun e w' => e = .returned (.tuple #[.float .f64 x'.b,.int .i64 c]) ∧ w = w')
  (hc1:-52 ≤ c) (hc:c ≤ 0) (h:Sc x y n) (hP:P ≤ x'.k.natAbs) (hxx:nv x'.k.natAbs = nv x.k.natAbs * 2 ^ (-c).toNat) (hs:x'.k < 0 ↔ x.k < 0) :
  Calls Tryz.prog 223 #[.float .f64 x.b,.int .i64 n] w fun e w' => e = .returned (.float .f64 y.b) ∧ w = w' := by
 have hy0:y.k ≠ 0 := by
  intro e
  have hab := h.abs
  rw [e,Int.natAbs_zero,nv_zero,Nat.zero_mul] at hab
  have:nv x.k.natAbs = 0 := by
   rcases Nat.mul_eq_zero.1 hab.symm with e | e
   ·exact e
   ·have := Nat.two_pow_pos n.toNat; omega
  have := nv_inj (this.trans nv_zero.symm)
  omega
 rcases ldexp_parts h hx hc hP hxx hs with ⟨h1,h2,h3⟩ | ⟨h1,h2,h3⟩
 ·obtain ⟨f,hf⟩ := Int.eq_ofNat_of_zero_le (show 0 ≤ n + c + ((x'.k.natAbs / P:Nat):Int) by omega)
  rw [hf] at h1 h2 h3
  exact ldexp_C x x' y n c f w hx hN hc1 hc h1 h2 hf (by rw [h3,Int.toNat_natCast])
 ·obtain ⟨f,hf⟩ := Int.eq_ofNat_of_zero_le (show 0 ≤ n + c + ((x'.k.natAbs / P:Nat):Int) + 53 by omega)
  rw [hf] at h1 h2 h3
  exact ldexp_D x x' _ y n c f w hx hN hc1 hc h1 h2 hf rfl hy0 (by rw [← h3,Int.toNat_natCast])
set_option maxHeartbeats 400000 in
theorem ldexp_zero (n:Int) (w:World) :
  Calls Tryz.prog 223 #[.float .f64 0,.int .i64 n] w fun e w' => e = .returned (.float .f64 0) ∧ w = w' := by
 have ho:(FloatKind.f64.format.order 0 0 == some .eq) = true := by decide
 go_enter Tryz.func223,Tryz.ntmps223
 go_wp2
 go_ret
 exact ⟨ret_float rfl,rfl⟩
theorem ldexp_exact (x y:F) (n:Int) (w:World) (h:Sc x y n) :
  Calls Tryz.prog 223 #[.float .f64 x.b,.int .i64 n] w fun e w' => e = .returned (.float .f64 y.b) ∧ w = w' := by
 by_cases hx:x.k = 0
 ·have e1:x = F.zero := F.ext' hx
  have e2:y = F.zero := by
   apply F.ext'
   apply (z_zero y).1
   unfold Sc at h
   rw [(z_zero x).2 hx,Int.zero_mul] at h
   rcases Int.mul_eq_zero.1 h with e | e
   ·exact e
   ·have := Nat.two_pow_pos (-n).toNat; omega
  subst e1 e2
  rw [b_zero]
  exact ldexp_zero n w
 by_cases hP:P ≤ x.k.natAbs
 ·exact ldexp_norm x x y n 0 w hx (fun w => normalize_norm x w hP) (by omega) (by omega) h hP (by simp) (Iff.rfl)
 ·obtain ⟨x',h1,h2,h3,h4⟩ := lift_sub x (by omega) hx
  exact ldexp_norm x x' y n (-52) w hx (fun w => normalize_sub x x' w (by omega) hx h1) (by omega) (by omega) h h2 h3 h4
set_option maxHeartbeats 400000 in
theorem Ldexp_exact (x y:F) (n:Int) (w:World) (h:Sc x y n) :
  Calls Tryz.prog 148 #[.float .f64 x.b,.int .i64 n] w fun e w' => e = .returned (.float .f64 y.b) ∧ w = w' := by
 have H := Lib.hid h
 clear h
 go_enter Tryz.func148,Tryz.ntmps148
 go_wp2_with (go_at_call 223; refine (ldexp_exact x y n _ H.out).mono ?_; rintro e w' ⟨rfl,rfl⟩)
 go_ret
 exact ⟨ret_float rfl,rfl⟩
theorem run_unary_neg_F (x:F) (h:x.k ≠ 0) (w:World):(Op.unary .neg (.float .f64 x.b)).run Tryz.prog w = .ok (.float .f64 x.neg.b) w := by
 rw [← negFloat_F x h]; rfl
theorem len64_w (n:Nat) (w:World) (h:(n:Int) ≤ 18446744073709551615) :
  Calls Tryz.prog 147 #[.int .u64 n] w fun e w' => e = .returned (.int .i64 (blen n)) ∧ w = w' :=
 (Tryz.bits_Len64 n w (by omega) h).mono fun e w' ⟨h1,h2⟩ => ⟨by rw [h1,Int.toNat_natCast,lib_blen n (by omega)],h2.symm⟩
theorem floatOfInt_dy (m:Nat) (h:(m:Int) ≤ 9007199254740992):floatOfInt .f64 (m:Int) = (F.dy m 0).b := by
 unfold floatOfInt FloatKind.nearest FloatKind.encode
 exact nat_conv (by rw [show 2 * P = 9007199254740992 from rfl]; omega)
theorem neg_dy (m:Nat) (e:Int) (h:(m:Int) ≤ 9007199254740992) (h0:m ≠ 0) (he:-1074 ≤ e) (h1:(blen m:Int) + e ≤ 1024) (w:World) :
  (Op.unary .neg (.float .f64 (F.dy m e).b)).run Tryz.prog w = .ok (.float .f64 (F.dy m e).neg.b) w :=
 run_unary_neg_F _ (dy_pos (by rw [show 2 * P = 9007199254740992 from rfl]; omega) h0 he h1) w
theorem Sc_dy (m:Nat) (e:Int) (h:(m:Int) ≤ 9007199254740992) (he:-1074 ≤ e) (h1:(blen m:Int) + e ≤ 1024):Sc (F.dy m 0) (F.dy m e) e :=
 nat_Sc (by rw [show 2 * P = 9007199254740992 from rfl]; omega) he h1
theorem blen_54 (m:Nat) (h:(m:Int) ≤ 9007199254740992):(blen m:Int) ≤ 54 := by
 have := blen_2P (m := m) (by rw [show 2 * P = 9007199254740992 from rfl]; omega)
 omega
theorem max_conv:floatOfInt .f64 9007199254740991 = (F.dy 9007199254740991 0).b := by decide +kernel
theorem max_Sc:Sc (F.dy 9007199254740991 0) F.max 971 := by
 have h := nat_Sc (m := 9007199254740991) (e := 971) (by decide) (by decide) (by decide)
 rw [dy_max] at h
 exact h
def TwoIs (r:F × Int) (x:Nat) (n:Int):Prop := r.1.b = x ∧ r.2 = n
theorem ret_two {r:F × Int} {x:Nat} {n:Int} (h:TwoIs r x n):Ending.returned (.tuple #[.float .f64 x,.int .i64 n]) = .returned (.tuple #[.float .f64 r.1.b,.int .i64 r.2]) := by rw [h.1,h.2]
section
variable {minus more up lost away:Bool} {e:Int} {n X m0 m:Nat}
theorem rndG_eq (hX:cutN n e = X) (h0:n / 2 ^ X = m0) (hl:decide (n % 2 ^ X ≠ 0) = lost) (hm:mUp minus more up lost m0 = m):rndG minus n more e up = rndOut minus (up != minus) m (e + X) := by
 subst hX h0 hl hm; rfl
theorem rnd_zero (hX:cutN n e = X) (h0:n / 2 ^ X = m0) (hl:decide (n % 2 ^ X ≠ 0) = lost) (hm:mUp minus more up lost m0 = 0):TwoIs (rndG minus n more e up) 0 0 := by
 rw [rndG_eq hX h0 hl hm]; unfold rndOut; rw [if_pos rfl]; exact ⟨b_zero,rfl⟩
theorem rnd_overT (hX:cutN n e = X) (h0:n / 2 ^ X = m0) (hl:decide (n % 2 ^ X ≠ 0) = lost) (hm:mUp minus more up lost m0 = m) (hz:m ≠ 0) (g:1024 < (blen m:Int) + (e + X)) (ha:(up != minus) = true) :
  TwoIs (rndG minus n more e up) 0 10 := by
 rw [rndG_eq hX h0 hl hm]; unfold rndOut; rw [if_neg hz,if_pos g,if_pos ha]; exact ⟨b_zero,rfl⟩
theorem rnd_overF (hX:cutN n e = X) (h0:n / 2 ^ X = m0) (hl:decide (n % 2 ^ X ≠ 0) = lost) (hm:mUp minus more up lost m0 = m) (hz:m ≠ 0) (g:1024 < (blen m:Int) + (e + X)) (ha:(up != minus) = false) :
  TwoIs (rndG minus n more e up) (F.turn minus F.max).b 0 := by
 rw [rndG_eq hX h0 hl hm]; unfold rndOut; rw [if_neg hz,if_pos g,if_neg (by simp [ha])]; exact ⟨rfl,rfl⟩
theorem rnd_mid (hX:cutN n e = X) (h0:n / 2 ^ X = m0) (hl:decide (n % 2 ^ X ≠ 0) = lost) (hm:mUp minus more up lost m0 = m) (hz:m ≠ 0) (g:¬ 1024 < (blen m:Int) + (e + X)) :
  TwoIs (rndG minus n more e up) (F.turn minus (F.dy m (e + X))).b 0 := by
 rw [rndG_eq hX h0 hl hm]; unfold rndOut; rw [if_neg hz,if_neg g]; exact ⟨rfl,rfl⟩
end
theorem rnd_overfalsefalse {more lost:Bool} {e:Int} {n X m0 m:Nat} (hX:cutN n e = X) (h0:n / 2 ^ X = m0) (hl:decide (n % 2 ^ X ≠ 0) = lost) (hm:mUp false more false lost m0 = m) (hz:m ≠ 0) (g:1024 < (blen m:Int) + (e + X)) :
  TwoIs (rndG false n more e false) F.max.b 0 := by have h := rnd_overF hX h0 hl hm hz g rfl; rw [turn_false] at h; exact h
theorem rnd_overfalsetrue {more lost:Bool} {e:Int} {n X m0 m:Nat} (hX:cutN n e = X) (h0:n / 2 ^ X = m0) (hl:decide (n % 2 ^ X ≠ 0) = lost) (hm:mUp true more true lost m0 = m) (hz:m ≠ 0) (g:1024 < (blen m:Int) + (e + X)) :
  TwoIs (rndG true n more e true) F.max.neg.b 0 := by have h := rnd_overF hX h0 hl hm hz g rfl; rw [turn_true] at h; exact h
theorem rnd_overtruefalse {more lost:Bool} {e:Int} {n X m0 m:Nat} (hX:cutN n e = X) (h0:n / 2 ^ X = m0) (hl:decide (n % 2 ^ X ≠ 0) = lost) (hm:mUp false more true lost m0 = m) (hz:m ≠ 0) (g:1024 < (blen m:Int) + (e + X)) :
  TwoIs (rndG false n more e true) 0 10 := rnd_overT hX h0 hl hm hz g rfl
theorem rnd_overtruetrue {more lost:Bool} {e:Int} {n X m0 m:Nat} (hX:cutN n e = X) (h0:n / 2 ^ X = m0) (hl:decide (n % 2 ^ X ≠ 0) = lost) (hm:mUp true more false lost m0 = m) (hz:m ≠ 0) (g:1024 < (blen m:Int) + (e + X)) :
  TwoIs (rndG true n more e false) 0 10 := rnd_overT hX h0 hl hm hz g rfl
theorem rnd_midfalse {more lost up:Bool} {e:Int} {n X m0 m:Nat} (hX:cutN n e = X) (h0:n / 2 ^ X = m0) (hl:decide (n % 2 ^ X ≠ 0) = lost) (hm:mUp false more up lost m0 = m) (hz:m ≠ 0) (g:¬ 1024 < (blen m:Int) + (e + X)) :
  TwoIs (rndG false n more e up) (F.dy m (e + X)).b 0 := by have h := rnd_mid hX h0 hl hm hz g; rw [turn_false] at h; exact h
theorem rnd_midtrue {more lost up:Bool} {e:Int} {n X m0 m:Nat} (hX:cutN n e = X) (h0:n / 2 ^ X = m0) (hl:decide (n % 2 ^ X ≠ 0) = lost) (hm:mUp true more up lost m0 = m) (hz:m ≠ 0) (g:¬ 1024 < (blen m:Int) + (e + X)) :
  TwoIs (rndG true n more e up) (F.dy m (e + X)).neg.b 0 := by have h := rnd_mid hX h0 hl hm hz g; rw [turn_true] at h; exact h
theorem size_i (a b:Int) (w:World) (ha:0 ≤ a) (ha2:a ≤ 18446744073709551615) (hb:0 ≤ b) (hb2:b ≤ 18446744073709551615) :
  Calls Tryz.prog 236 #[.agg #[.int .u64 a,.int .u64 b]] w fun e w' => e = .returned (.int .i64 (blen (wn a b))) ∧ Below w.heap.size w w' := by
 obtain ⟨x,rfl⟩ := Int.eq_ofNat_of_zero_le ha
 obtain ⟨y,rfl⟩ := Int.eq_ofNat_of_zero_le hb
 refine (size_w x y w ha2 hb2).mono ?_
 rintro e w' ⟨rfl,h⟩
 refine ⟨ret_int ?_,h⟩
 rw [lib_blen x (by omega),lib_blen y (by omega),blen_wn x y (by omega)]
 split <;> simp
set_option maxRecDepth 100000 in
set_option maxHeartbeats 2000000 in
theorem rounded_w (minus more up:Bool) (a b e:Int) (w:World) (ha:0 ≤ a) (ha2:a ≤ 18446744073709551615) (hb:0 ≤ b) (hb2:b ≤ 18446744073709551615) (he1:-5000 ≤ e) (he2:e ≤ 5000) :
  Calls Tryz.prog 156 #[.agg #[.bool minus,.int .u64 a,.int .u64 b,.bool more,.int .i64 e],.bool up] w fun q w' => q = .returned (.tuple #[.float .f64 (rndG minus (wn a b) more e up).1.b,.int .i64 (rndG minus (wn a b) more e up).2]) ∧ Below w.heap.size w w' := by
 go_enter Tryz.func156,Tryz.ntmps156
 go_wp2_with fail
 generalize hW:World.alloc _ _ = W
 have c0:W.cell? ⟨w.heap.size,0,none⟩ = some (.bool minus) := by subst hW; simp (disch := (simp; try omega)) only [World.cell?_drew,World.cell?_alloc_at,World.cell?_alloc_past]; rfl
 have c1:W.cell? ⟨w.heap.size,1,none⟩ = some (.int .u64 a) := by subst hW; simp (disch := (simp; try omega)) only [World.cell?_drew,World.cell?_alloc_at,World.cell?_alloc_past]; rfl
 have c2:W.cell? ⟨w.heap.size,2,none⟩ = some (.int .u64 b) := by subst hW; simp (disch := (simp; try omega)) only [World.cell?_drew,World.cell?_alloc_at,World.cell?_alloc_past]; rfl
 have c3:W.cell? ⟨w.heap.size,3,none⟩ = some (.bool more) := by subst hW; simp (disch := (simp; try omega)) only [World.cell?_drew,World.cell?_alloc_at,World.cell?_alloc_past]; rfl
 have c4:W.cell? ⟨w.heap.size,4,none⟩ = some (.int .i64 e) := by subst hW; simp (disch := (simp; try omega)) only [World.cell?_drew,World.cell?_alloc_at,World.cell?_alloc_past]; rfl
 have hs:W.heap.size = w.heap.size + 1 := by rw [← hW]; simp
 have hB:Below w.heap.size w W := by rw [← hW]; exact (Below.refl _ _).alloc (Nat.le_refl _) _
 clear hW
 have HS := Lib.hid hs
 clear hs
 go_region_held3 (fun w' => w'.cell? ⟨w.heap.size,0,none⟩ = some (.bool minus) ∧ w'.cell? ⟨w.heap.size,1,none⟩ = some (.int .u64 a) ∧ w'.cell? ⟨w.heap.size,2,none⟩ = some (.int .u64 b) ∧ w'.cell? ⟨w.heap.size,3,none⟩ = some (.bool more) ∧ w'.cell? ⟨w.heap.size,4,none⟩ = some (.int .i64 e))
  (first | go_keep | (refine ⟨?_,?_,?_,?_,?_⟩ <;> (rw [hcc _ _ (by have := HS.out; simp; omega)]; simpa using by assumption)))
  (first | (go_at_call 236; refine (size_i _ _ _ ha ha2 hb hb2).mono ?_; rintro e w1 ⟨rfl,hbb⟩; obtain ⟨hcc,hff⟩ := bcell hbb))
 have d0:w1.cell? ⟨w.heap.size,0,none⟩ = some (.bool minus) := by rw [hcc _ _ (by have := HS.out; simp; omega)]; exact c0
 have d1:w1.cell? ⟨w.heap.size,1,none⟩ = some (.int .u64 a) := by rw [hcc _ _ (by have := HS.out; simp; omega)]; exact c1
 have d2:w1.cell? ⟨w.heap.size,2,none⟩ = some (.int .u64 b) := by rw [hcc _ _ (by have := HS.out; simp; omega)]; exact c2
 have d3:w1.cell? ⟨w.heap.size,3,none⟩ = some (.bool more) := by rw [hcc _ _ (by have := HS.out; simp; omega)]; exact c3
 have d4:w1.cell? ⟨w.heap.size,4,none⟩ = some (.int .i64 e) := by rw [hcc _ _ (by have := HS.out; simp; omega)]; exact c4
 have hz1:w.heap.size < w1.heap.size := by have := HS.out; have := hbb.size; simp at this; omega
 have hB1:Below w.heap.size w w1 := hB.drew.trans (hbb.mono (by have := HS.out; simp; omega))
 generalize hC:(if _ < (0:Int) then (0:Int) else _) = C
 have hC2:C = (cutN (wn a b) e:Int) := by
  have hl := blen_wn_le a b ha2 hb2
  rw [← hC,IntWalk.i64_in _ (by omega),IntWalk.i64_in _ (by omega)]
  unfold cutN
  split <;> split <;> omega
 have hC3:cutN (wn a b) e ≤ 5000 := by
  have hl := blen_wn_le a b ha2 hb2
  unfold cutN; omega
 clear hC
 subst hC2
 clear c0 c1 c2 c3 c4 hB HS hbb hcc hff
 have L0 := cut_lt (wn a b) e
 have L1:lo (wn a b / 2 ^ cutN (wn a b) e) = ((wn a b / 2 ^ cutN (wn a b) e:Nat):Int) := by unfold lo; generalize wn a b / 2 ^ cutN (wn a b) e = u at *; omega
 have L2:((wn a b / 2 ^ cutN (wn a b) e:Nat):Int) ≤ 9007199254740991 := by omega
 clear L0
 have J1 := Lib.hid L1
 clear L1
 go_wp2_with (first | (go_at_call 164; refine (down_w _ _ _ _ ha ha2 hb hb2).mono ?_; rintro e w2 ⟨rfl,hbb⟩; obtain ⟨hcc,hff⟩ := bcell hbb))
 have HL := Lib.hid (show decide (wn a b % 2 ^ cutN (wn a b) e ≠ 0) = (!decide (wn a b % 2 ^ cutN (wn a b) e = 0)) by simp)
 generalize hX:cutN (wn a b) e = X at *
 generalize (!decide (wn a b % 2 ^ X = 0)) = lost at *
 generalize hm0:wn a b / 2 ^ X = m0 at *
 have K0 := Lib.hid hm0
 have KX := Lib.hid hX
 clear hm0 hX
 simp only [J1.out]
 generalize hW:World.alloc _ _ = W2
 have e0:W2.cell? ⟨w.heap.size,0,none⟩ = some (.bool minus) := by subst hW; rw [World.cell?_alloc_past _ _ _ (by have := hbb.size; omega),hcc _ _ hz1]; exact d0
 have e3:W2.cell? ⟨w.heap.size,3,none⟩ = some (.bool more) := by subst hW; rw [World.cell?_alloc_past _ _ _ (by have := hbb.size; omega),hcc _ _ hz1]; exact d3
 have e4:W2.cell? ⟨w.heap.size,4,none⟩ = some (.int .i64 e) := by subst hW; rw [World.cell?_alloc_past _ _ _ (by have := hbb.size; omega),hcc _ _ hz1]; exact d4
 have e5:W2.cell? ⟨w2.heap.size,1,none⟩ = some (.int .u64 m0) := by subst hW; rw [World.cell?_alloc_at _ _ _ _ rfl]; rfl
 have hB2:Below w.heap.size w W2 := by rw [← hW]; exact (hB1.trans (hbb.mono (by omega))).alloc (by have := hbb.size; omega) _
 clear hW d0 d1 d2 d3 d4 hcc hff hbb hz1 hB1 ha ha2 hb hb2
 go_region
 by_cases hA:up = minus
 ·subst hA
  have HM := Lib.hid (show mUp up more up lost m0 = m0 by unfold mUp; simp)
  cases up
  ·as_aux_lemma =>
   by_cases z:m0 = 0
   ·subst z
    have HR := Lib.hid (show TwoIs (rndG false (wn a b) more e false) 0 0 from rnd_zero KX.out K0.out HL.out HM.out)
    go_wp2_with (first | (go_at_call 147; refine (len64_w _ _ (by omega)).mono ?_; rintro e w' ⟨rfl,rfl⟩) | (go_at_call 148; refine (Ldexp_exact _ _ _ _ HSc.out).mono ?_; rintro e w' ⟨rfl,rfl⟩))
    go_ret2
    exact ⟨ret_two HR.out,hB2.drew⟩
   ·have z':(((m0:Nat):Int) == 0) = false := by rw [beq_eq_false_iff_ne]; omega
    have hbl := blen_54 m0 (by omega)
    have Z := Lib.hid z
    clear z
    by_cases g:1024 < (blen m0:Int) + (e + X)
    ·have HR := Lib.hid (show TwoIs (rndG false (wn a b) more e false) F.max.b 0 from rnd_overfalsefalse KX.out K0.out HL.out HM.out Z.out g)
     have HSc := Lib.hid max_Sc
     have HC := max_conv
     have hne := run_unary_neg_F F.max (by rw [F.max_k]; omega)
     generalize F.max = y0 at *
     generalize F.dy 9007199254740991 0 = x0 at *
     go_wp2_with (first | (go_at_call 147; refine (len64_w _ _ (by omega)).mono ?_; rintro e w' ⟨rfl,rfl⟩) | (go_at_call 148; refine (Ldexp_exact _ _ _ _ HSc.out).mono ?_; rintro e w' ⟨rfl,rfl⟩))
     go_ret2
     exact ⟨ret_two HR.out,hB2.drew⟩
    ·have hge:-1074 ≤ e + X := by have h1 := KX.out; unfold cutN at h1; omega
     have HR := Lib.hid (show TwoIs (rndG false (wn a b) more e false) (F.dy m0 (e + X)).b 0 from rnd_midfalse KX.out K0.out HL.out HM.out Z.out g)
     have HSc := Lib.hid (Sc_dy m0 (e + X) (by omega) hge (by omega))
     have HC := floatOfInt_dy m0 (by omega)
     have hne := neg_dy m0 (e + X) (by omega) Z.out hge (by omega)
     have g':(blen m0:Int) + (e + X) ≤ 1024 := by omega
     clear g
     generalize F.dy m0 0 = x0 at *
     generalize F.dy m0 (e + X) = y0 at *
     go_wp2_with (first | (go_at_call 147; refine (len64_w _ _ (by omega)).mono ?_; rintro e w' ⟨rfl,rfl⟩) | (go_at_call 148; refine (Ldexp_exact _ _ _ _ HSc.out).mono ?_; rintro e w' ⟨rfl,rfl⟩))
     go_ret2
     exact ⟨ret_two HR.out,hB2.drew⟩
  ·as_aux_lemma =>
   by_cases z:m0 = 0
   ·subst z
    have HR := Lib.hid (show TwoIs (rndG true (wn a b) more e true) 0 0 from rnd_zero KX.out K0.out HL.out HM.out)
    go_wp2_with (first | (go_at_call 147; refine (len64_w _ _ (by omega)).mono ?_; rintro e w' ⟨rfl,rfl⟩) | (go_at_call 148; refine (Ldexp_exact _ _ _ _ HSc.out).mono ?_; rintro e w' ⟨rfl,rfl⟩))
    go_ret2
    exact ⟨ret_two HR.out,hB2.drew⟩
   ·have z':(((m0:Nat):Int) == 0) = false := by rw [beq_eq_false_iff_ne]; omega
    have hbl := blen_54 m0 (by omega)
    have Z := Lib.hid z
    clear z
    by_cases g:1024 < (blen m0:Int) + (e + X)
    ·have HR := Lib.hid (show TwoIs (rndG true (wn a b) more e true) F.max.neg.b 0 from rnd_overfalsetrue KX.out K0.out HL.out HM.out Z.out g)
     have HSc := Lib.hid max_Sc
     have HC := max_conv
     have hne := run_unary_neg_F F.max (by rw [F.max_k]; omega)
     generalize F.max = y0 at *
     generalize F.dy 9007199254740991 0 = x0 at *
     go_wp2_with (first | (go_at_call 147; refine (len64_w _ _ (by omega)).mono ?_; rintro e w' ⟨rfl,rfl⟩) | (go_at_call 148; refine (Ldexp_exact _ _ _ _ HSc.out).mono ?_; rintro e w' ⟨rfl,rfl⟩))
     go_ret2
     exact ⟨ret_two HR.out,hB2.drew⟩
    ·have hge:-1074 ≤ e + X := by have h1 := KX.out; unfold cutN at h1; omega
     have HR := Lib.hid (show TwoIs (rndG true (wn a b) more e true) (F.dy m0 (e + X)).neg.b 0 from rnd_midtrue KX.out K0.out HL.out HM.out Z.out g)
     have HSc := Lib.hid (Sc_dy m0 (e + X) (by omega) hge (by omega))
     have HC := floatOfInt_dy m0 (by omega)
     have hne := neg_dy m0 (e + X) (by omega) Z.out hge (by omega)
     have g':(blen m0:Int) + (e + X) ≤ 1024 := by omega
     clear g
     generalize F.dy m0 0 = x0 at *
     generalize F.dy m0 (e + X) = y0 at *
     go_wp2_with (first | (go_at_call 147; refine (len64_w _ _ (by omega)).mono ?_; rintro e w' ⟨rfl,rfl⟩) | (go_at_call 148; refine (Ldexp_exact _ _ _ _ HSc.out).mono ?_; rintro e w' ⟨rfl,rfl⟩))
     go_ret2
     exact ⟨ret_two HR.out,hB2.drew⟩
 ·cases up <;> cases minus
  ·exact absurd rfl hA
  ·clear hA
   cases lost
   ·cases more
    ·as_aux_lemma =>
     have HM := Lib.hid (show mUp true false false false m0 = m0 from rfl)
     by_cases z:m0 = 0
     ·subst z
      have HR := Lib.hid (show TwoIs (rndG true (wn a b) false e false) 0 0 from rnd_zero KX.out K0.out HL.out HM.out)
      go_wp2_with (first | (go_at_call 147; refine (len64_w _ _ (by omega)).mono ?_; rintro e w' ⟨rfl,rfl⟩) | (go_at_call 148; refine (Ldexp_exact _ _ _ _ HSc.out).mono ?_; rintro e w' ⟨rfl,rfl⟩))
      go_ret2
      exact ⟨ret_two HR.out,hB2.drew⟩
     ·have z':(((m0:Nat):Int) == 0) = false := by rw [beq_eq_false_iff_ne]; omega
      have hbl := blen_54 m0 (by omega)
      have Z := Lib.hid z
      clear z
      by_cases g:1024 < (blen m0:Int) + (e + X)
      ·have HR := Lib.hid (show TwoIs (rndG true (wn a b) false e false) 0 10 from rnd_overtruetrue KX.out K0.out HL.out HM.out Z.out g)
       have HSc := Lib.hid max_Sc
       have HC := max_conv
       have hne := run_unary_neg_F F.max (by rw [F.max_k]; omega)
       generalize F.max = y0 at *
       generalize F.dy 9007199254740991 0 = x0 at *
       go_wp2_with (first | (go_at_call 147; refine (len64_w _ _ (by omega)).mono ?_; rintro e w' ⟨rfl,rfl⟩) | (go_at_call 148; refine (Ldexp_exact _ _ _ _ HSc.out).mono ?_; rintro e w' ⟨rfl,rfl⟩))
       go_ret2
       exact ⟨ret_two HR.out,hB2.drew⟩
      ·have hge:-1074 ≤ e + X := by have h1 := KX.out; unfold cutN at h1; omega
       have HR := Lib.hid (show TwoIs (rndG true (wn a b) false e false) (F.dy m0 (e + X)).neg.b 0 from rnd_midtrue KX.out K0.out HL.out HM.out Z.out g)
       have HSc := Lib.hid (Sc_dy m0 (e + X) (by omega) hge (by omega))
       have HC := floatOfInt_dy m0 (by omega)
       have hne := neg_dy m0 (e + X) (by omega) Z.out hge (by omega)
       have g':(blen m0:Int) + (e + X) ≤ 1024 := by omega
       clear g
       generalize F.dy m0 0 = x0 at *
       generalize F.dy m0 (e + X) = y0 at *
       go_wp2_with (first | (go_at_call 147; refine (len64_w _ _ (by omega)).mono ?_; rintro e w' ⟨rfl,rfl⟩) | (go_at_call 148; refine (Ldexp_exact _ _ _ _ HSc.out).mono ?_; rintro e w' ⟨rfl,rfl⟩))
       go_ret2
       exact ⟨ret_two HR.out,hB2.drew⟩
    ·as_aux_lemma =>
     have HM := Lib.hid (show mUp true true false false m0 = m0 + 1 by rfl)
     have z':(((m0:Nat):Int) + 1 == 0) = false := by rw [beq_eq_false_iff_ne]; omega
     go_wp2_with fail
     have Z := Lib.hid (show m0 + 1 ≠ 0 by omega)
     have hbl := blen_54 (m0 + 1) (by omega)
     have hm2:((m0 + 1:Nat):Int) ≤ 9007199254740992 := by omega
     simp only [show ((m0:Nat):Int) + 1 = ((m0 + 1:Nat):Int) from by omega] at z' ⊢
     generalize m0 + 1 = m at *
     by_cases g:1024 < (blen m:Int) + (e + X)
     ·have HR := Lib.hid (show TwoIs (rndG true (wn a b) true e false) 0 10 from rnd_overtruetrue KX.out K0.out HL.out HM.out Z.out g)
      have HSc := Lib.hid max_Sc
      have HC := max_conv
      have hne := run_unary_neg_F F.max (by rw [F.max_k]; omega)
      generalize F.max = y0 at *
      generalize F.dy 9007199254740991 0 = x0 at *
      go_wp2_with (first | (go_at_call 147; refine (len64_w _ _ (by omega)).mono ?_; rintro e w' ⟨rfl,rfl⟩) | (go_at_call 148; refine (Ldexp_exact _ _ _ _ HSc.out).mono ?_; rintro e w' ⟨rfl,rfl⟩))
      go_ret2
      exact ⟨ret_two HR.out,hB2.drew⟩
     ·have hge:-1074 ≤ e + X := by have h1 := KX.out; unfold cutN at h1; omega
      have HR := Lib.hid (show TwoIs (rndG true (wn a b) true e false) (F.dy m (e + X)).neg.b 0 from rnd_midtrue KX.out K0.out HL.out HM.out Z.out g)
      have HSc := Lib.hid (Sc_dy m (e + X) (by omega) hge (by omega))
      have HC := floatOfInt_dy m (by omega)
      have hne := neg_dy m (e + X) (by omega) Z.out hge (by omega)
      have g':(blen m:Int) + (e + X) ≤ 1024 := by omega
      clear g
      generalize F.dy m 0 = x0 at *
      generalize F.dy m (e + X) = y0 at *
      go_wp2_with (first | (go_at_call 147; refine (len64_w _ _ (by omega)).mono ?_; rintro e w' ⟨rfl,rfl⟩) | (go_at_call 148; refine (Ldexp_exact _ _ _ _ HSc.out).mono ?_; rintro e w' ⟨rfl,rfl⟩))
      go_ret2
      exact ⟨ret_two HR.out,hB2.drew⟩
   ·as_aux_lemma =>
    have HM := Lib.hid (show mUp true more false true m0 = m0 + 1 by rfl)
    have z':(((m0:Nat):Int) + 1 == 0) = false := by rw [beq_eq_false_iff_ne]; omega
    go_wp2_with fail
    have Z := Lib.hid (show m0 + 1 ≠ 0 by omega)
    have hbl := blen_54 (m0 + 1) (by omega)
    have hm2:((m0 + 1:Nat):Int) ≤ 9007199254740992 := by omega
    simp only [show ((m0:Nat):Int) + 1 = ((m0 + 1:Nat):Int) from by omega] at z' ⊢
    generalize m0 + 1 = m at *
    by_cases g:1024 < (blen m:Int) + (e + X)
    ·have HR := Lib.hid (show TwoIs (rndG true (wn a b) more e false) 0 10 from rnd_overtruetrue KX.out K0.out HL.out HM.out Z.out g)
     have HSc := Lib.hid max_Sc
     have HC := max_conv
     have hne := run_unary_neg_F F.max (by rw [F.max_k]; omega)
     generalize F.max = y0 at *
     generalize F.dy 9007199254740991 0 = x0 at *
     go_wp2_with (first | (go_at_call 147; refine (len64_w _ _ (by omega)).mono ?_; rintro e w' ⟨rfl,rfl⟩) | (go_at_call 148; refine (Ldexp_exact _ _ _ _ HSc.out).mono ?_; rintro e w' ⟨rfl,rfl⟩))
     go_ret2
     exact ⟨ret_two HR.out,hB2.drew⟩
    ·have hge:-1074 ≤ e + X := by have h1 := KX.out; unfold cutN at h1; omega
     have HR := Lib.hid (show TwoIs (rndG true (wn a b) more e false) (F.dy m (e + X)).neg.b 0 from rnd_midtrue KX.out K0.out HL.out HM.out Z.out g)
     have HSc := Lib.hid (Sc_dy m (e + X) (by omega) hge (by omega))
     have HC := floatOfInt_dy m (by omega)
     have hne := neg_dy m (e + X) (by omega) Z.out hge (by omega)
     have g':(blen m:Int) + (e + X) ≤ 1024 := by omega
     clear g
     generalize F.dy m 0 = x0 at *
     generalize F.dy m (e + X) = y0 at *
     go_wp2_with (first | (go_at_call 147; refine (len64_w _ _ (by omega)).mono ?_; rintro e w' ⟨rfl,rfl⟩) | (go_at_call 148; refine (Ldexp_exact _ _ _ _ HSc.out).mono ?_; rintro e w' ⟨rfl,rfl⟩))
     go_ret2
     exact ⟨ret_two HR.out,hB2.drew⟩
  ·clear hA
   cases lost
   ·cases more
    ·as_aux_lemma =>
     have HM := Lib.hid (show mUp false false true false m0 = m0 from rfl)
     by_cases z:m0 = 0
     ·subst z
      have HR := Lib.hid (show TwoIs (rndG false (wn a b) false e true) 0 0 from rnd_zero KX.out K0.out HL.out HM.out)
      go_wp2_with (first | (go_at_call 147; refine (len64_w _ _ (by omega)).mono ?_; rintro e w' ⟨rfl,rfl⟩) | (go_at_call 148; refine (Ldexp_exact _ _ _ _ HSc.out).mono ?_; rintro e w' ⟨rfl,rfl⟩))
      go_ret2
      exact ⟨ret_two HR.out,hB2.drew⟩
     ·have z':(((m0:Nat):Int) == 0) = false := by rw [beq_eq_false_iff_ne]; omega
      have hbl := blen_54 m0 (by omega)
      have Z := Lib.hid z
      clear z
      by_cases g:1024 < (blen m0:Int) + (e + X)
      ·have HR := Lib.hid (show TwoIs (rndG false (wn a b) false e true) 0 10 from rnd_overtruefalse KX.out K0.out HL.out HM.out Z.out g)
       have HSc := Lib.hid max_Sc
       have HC := max_conv
       have hne := run_unary_neg_F F.max (by rw [F.max_k]; omega)
       generalize F.max = y0 at *
       generalize F.dy 9007199254740991 0 = x0 at *
       go_wp2_with (first | (go_at_call 147; refine (len64_w _ _ (by omega)).mono ?_; rintro e w' ⟨rfl,rfl⟩) | (go_at_call 148; refine (Ldexp_exact _ _ _ _ HSc.out).mono ?_; rintro e w' ⟨rfl,rfl⟩))
       go_ret2
       exact ⟨ret_two HR.out,hB2.drew⟩
      ·have hge:-1074 ≤ e + X := by have h1 := KX.out; unfold cutN at h1; omega
       have HR := Lib.hid (show TwoIs (rndG false (wn a b) false e true) (F.dy m0 (e + X)).b 0 from rnd_midfalse KX.out K0.out HL.out HM.out Z.out g)
       have HSc := Lib.hid (Sc_dy m0 (e + X) (by omega) hge (by omega))
       have HC := floatOfInt_dy m0 (by omega)
       have hne := neg_dy m0 (e + X) (by omega) Z.out hge (by omega)
       have g':(blen m0:Int) + (e + X) ≤ 1024 := by omega
       clear g
       generalize F.dy m0 0 = x0 at *
       generalize F.dy m0 (e + X) = y0 at *
       go_wp2_with (first | (go_at_call 147; refine (len64_w _ _ (by omega)).mono ?_; rintro e w' ⟨rfl,rfl⟩) | (go_at_call 148; refine (Ldexp_exact _ _ _ _ HSc.out).mono ?_; rintro e w' ⟨rfl,rfl⟩))
       go_ret2
       exact ⟨ret_two HR.out,hB2.drew⟩
    ·as_aux_lemma =>
     have HM := Lib.hid (show mUp false true true false m0 = m0 + 1 by rfl)
     have z':(((m0:Nat):Int) + 1 == 0) = false := by rw [beq_eq_false_iff_ne]; omega
     go_wp2_with fail
     have Z := Lib.hid (show m0 + 1 ≠ 0 by omega)
     have hbl := blen_54 (m0 + 1) (by omega)
     have hm2:((m0 + 1:Nat):Int) ≤ 9007199254740992 := by omega
     simp only [show ((m0:Nat):Int) + 1 = ((m0 + 1:Nat):Int) from by omega] at z' ⊢
     generalize m0 + 1 = m at *
     by_cases g:1024 < (blen m:Int) + (e + X)
     ·have HR := Lib.hid (show TwoIs (rndG false (wn a b) true e true) 0 10 from rnd_overtruefalse KX.out K0.out HL.out HM.out Z.out g)
      have HSc := Lib.hid max_Sc
      have HC := max_conv
      have hne := run_unary_neg_F F.max (by rw [F.max_k]; omega)
      generalize F.max = y0 at *
      generalize F.dy 9007199254740991 0 = x0 at *
      go_wp2_with (first | (go_at_call 147; refine (len64_w _ _ (by omega)).mono ?_; rintro e w' ⟨rfl,rfl⟩) | (go_at_call 148; refine (Ldexp_exact _ _ _ _ HSc.out).mono ?_; rintro e w' ⟨rfl,rfl⟩))
      go_ret2
      exact ⟨ret_two HR.out,hB2.drew⟩
     ·have hge:-1074 ≤ e + X := by have h1 := KX.out; unfold cutN at h1; omega
      have HR := Lib.hid (show TwoIs (rndG false (wn a b) true e true) (F.dy m (e + X)).b 0 from rnd_midfalse KX.out K0.out HL.out HM.out Z.out g)
      have HSc := Lib.hid (Sc_dy m (e + X) (by omega) hge (by omega))
      have HC := floatOfInt_dy m (by omega)
      have hne := neg_dy m (e + X) (by omega) Z.out hge (by omega)
      have g':(blen m:Int) + (e + X) ≤ 1024 := by omega
      clear g
      generalize F.dy m 0 = x0 at *
      generalize F.dy m (e + X) = y0 at *
      go_wp2_with (first | (go_at_call 147; refine (len64_w _ _ (by omega)).mono ?_; rintro e w' ⟨rfl,rfl⟩) | (go_at_call 148; refine (Ldexp_exact _ _ _ _ HSc.out).mono ?_; rintro e w' ⟨rfl,rfl⟩))
      go_ret2
      exact ⟨ret_two HR.out,hB2.drew⟩
   ·as_aux_lemma =>
    have HM := Lib.hid (show mUp false more true true m0 = m0 + 1 by rfl)
    have z':(((m0:Nat):Int) + 1 == 0) = false := by rw [beq_eq_false_iff_ne]; omega
    go_wp2_with fail
    have Z := Lib.hid (show m0 + 1 ≠ 0 by omega)
    have hbl := blen_54 (m0 + 1) (by omega)
    have hm2:((m0 + 1:Nat):Int) ≤ 9007199254740992 := by omega
    simp only [show ((m0:Nat):Int) + 1 = ((m0 + 1:Nat):Int) from by omega] at z' ⊢
    generalize m0 + 1 = m at *
    by_cases g:1024 < (blen m:Int) + (e + X)
    ·have HR := Lib.hid (show TwoIs (rndG false (wn a b) more e true) 0 10 from rnd_overtruefalse KX.out K0.out HL.out HM.out Z.out g)
     have HSc := Lib.hid max_Sc
     have HC := max_conv
     have hne := run_unary_neg_F F.max (by rw [F.max_k]; omega)
     generalize F.max = y0 at *
     generalize F.dy 9007199254740991 0 = x0 at *
     go_wp2_with (first | (go_at_call 147; refine (len64_w _ _ (by omega)).mono ?_; rintro e w' ⟨rfl,rfl⟩) | (go_at_call 148; refine (Ldexp_exact _ _ _ _ HSc.out).mono ?_; rintro e w' ⟨rfl,rfl⟩))
     go_ret2
     exact ⟨ret_two HR.out,hB2.drew⟩
    ·have hge:-1074 ≤ e + X := by have h1 := KX.out; unfold cutN at h1; omega
     have HR := Lib.hid (show TwoIs (rndG false (wn a b) more e true) (F.dy m (e + X)).b 0 from rnd_midfalse KX.out K0.out HL.out HM.out Z.out g)
     have HSc := Lib.hid (Sc_dy m (e + X) (by omega) hge (by omega))
     have HC := floatOfInt_dy m (by omega)
     have hne := neg_dy m (e + X) (by omega) Z.out hge (by omega)
     have g':(blen m:Int) + (e + X) ≤ 1024 := by omega
     clear g
     generalize F.dy m 0 = x0 at *
     generalize F.dy m (e + X) = y0 at *
     go_wp2_with (first | (go_at_call 147; refine (len64_w _ _ (by omega)).mono ?_; rintro e w' ⟨rfl,rfl⟩) | (go_at_call 148; refine (Ldexp_exact _ _ _ _ HSc.out).mono ?_; rintro e w' ⟨rfl,rfl⟩))
     go_ret2
     exact ⟨ret_two HR.out,hB2.drew⟩
  ·exact absurd rfl hA
theorem rounded_n (minus more up:Bool) (n:Nat) (e:Int) (w:World) (hb2:(n:Int) ≤ 18446744073709551615) (he1:-5000 ≤ e) (he2:e ≤ 5000) :
  Calls Tryz.prog 156 #[.agg #[.bool minus,.int .u64 0,.int .u64 n,.bool more,.int .i64 e],.bool up] w fun q w' => q = .returned (.tuple #[.float .f64 (rndG minus n more e up).1.b,.int .i64 (rndG minus n more e up).2]) ∧ Below w.heap.size w w' := by
 have h := rounded_w minus more up 0 n e w (by omega) (by omega) (by omega) hb2 he1 he2
 have e1:wn 0 (n:Int) = n := by unfold wn; simp
 rw [e1] at h
 exact h
theorem nextF_pos {x:F} {minus:Bool} {n r:Nat} {e:Int} {up:Bool} (he:-1074 ≤ e) (h:n * 2 ^ (e + 1074).toNat = nv r) (hk:(if minus then -(r:Int) else r) = if up then x.k + 1 else x.k - 1) :
  rndG minus n false e up = nextF x up := by
 rw [rndG_nv he h,hk]
 unfold nextF
 cases up <;> rfl
set_option maxRecDepth 100000 in
set_option maxHeartbeats 1000000 in
theorem next_F (x:F) (up:Bool) (w:World) :
  Calls Tryz.prog 83 #[.float .f64 x.b,.bool up] w fun q w' => q = .returned (.tuple #[.float .f64 (nextF x up).1.b,.int .i64 (nextF x up).2]) ∧ Below w.heap.size w w' := by
 have hpp := fun w => parts_F x w
 have HP := Lib.hid hpp
 have hb := man_pl x.k.natAbs
 have hbp := (b_parts x).2.2
 have hP:P = 4503599627370496 := rfl
 have b1:((man x.k.natAbs:Nat):Int) ≤ 9007199254740991 := by omega
 have b2:((pl x.k.natAbs:Nat):Int) ≤ 2046 := by unfold pl; omega
 clear hpp hb hbp hP
 by_cases h0:x.k = 0
 ·have HN := Lib.hid (show rndG (!up) 1 false (-1074) up = nextF x up from nextF_pos (r := 1) (by omega) (by decide) (by rw [h0]; cases up <;> rfl))
  have hm:man x.k.natAbs = 0 := by rw [h0]; rfl
  have hl:pl x.k.natAbs = 0 := by rw [h0]; rfl
  have hsg:decide (x.k < 0) = false := by simp; omega
  rw [hm,hl,hsg] at HP
  clear h0 hm hl hsg b1 b2
  have HRR := Lib.hid (fun w => rounded_n (!up) false up 1 (-1074) w (by omega) (by omega) (by omega))
  go_enter Tryz.func83,Tryz.ntmps83
  go_wp2_with (first | (go_at_call 60; refine (right_F_w _ _).mono ?_; rintro e w' ⟨rfl,rfl⟩) | (go_at_call 154; refine (HP.out _).mono ?_; rintro e w' ⟨rfl,rfl⟩) | (go_at_call 156; refine (HRR.out _).mono ?_; rintro e w' ⟨rfl,hbb⟩))
  go_ret2
  refine ⟨?_,hbb⟩
  rw [← HN.out]
  exact ret_tup rfl
 ·have hz:man x.k.natAbs ≠ 0 := fun c => h0 (by have := man_zero _ c; omega)
  by_cases hs:x.k < 0
  ·have hsg:decide (x.k < 0) = true := by simpa using hs
   rw [hsg] at HP
   cases up
   ·have HN := Lib.hid (show rndG true (man x.k.natAbs + 1) false (pl x.k.natAbs - 1074) false = nextF x false from nextF_pos (r := x.k.natAbs + 1) (by omega) (by rw [show ((pl x.k.natAbs:Int) - 1074 + 1074).toNat = pl x.k.natAbs from by omega]; exact nv_up _) (by simp; omega))
    have hrr := fun w => rounded_n true false false (man x.k.natAbs + 1) (pl x.k.natAbs - 1074) w (by omega) (by omega) (by omega)
    simp only [Int.natCast_add,Int.cast_ofNat_Int] at hrr
    have HRR := Lib.hid hrr
    have z:(((man x.k.natAbs:Nat):Int) == 0) = false := by rw [beq_eq_false_iff_ne]; omega
    clear hrr hz h0 hsg
    generalize man x.k.natAbs = m at *
    generalize pl x.k.natAbs = p at *
    go_enter Tryz.func83,Tryz.ntmps83
    go_wp2_with (first | (go_at_call 60; refine (right_F_w _ _).mono ?_; rintro e w' ⟨rfl,rfl⟩) | (go_at_call 154; refine (HP.out _).mono ?_; rintro e w' ⟨rfl,rfl⟩) | (go_at_call 156; refine (HRR.out _).mono ?_; rintro e w' ⟨rfl,hbb⟩))
    go_ret2
    refine ⟨?_,hbb⟩
    rw [← HN.out]
    exact ret_tup rfl
   ·have z:(((man x.k.natAbs:Nat):Int) == 0) = false := by rw [beq_eq_false_iff_ne]; omega
    by_cases hc:man x.k.natAbs = P ∧ 1 ≤ pl x.k.natAbs
    ·have HN := Lib.hid (show rndG true 9007199254740991 false (pl x.k.natAbs - 1074 - 1) true = nextF x true from nextF_pos (r := x.k.natAbs - 1) (by omega) (by rw [show ((pl x.k.natAbs:Int) - 1074 - 1 + 1074).toNat = pl x.k.natAbs - 1 from by omega]; exact nv_dn2 _ hc.1 hc.2) (by simp; omega))
     have HRR := Lib.hid (fun w => rounded_n true false true 9007199254740991 (pl x.k.natAbs - 1074 - 1) w (by omega) (by omega) (by omega))
     have hm:man x.k.natAbs = 4503599627370496 := hc.1
     have hp1:(-1074:Int) < (pl x.k.natAbs:Int) - 1074 := by omega
     rw [hm] at HP
     clear hz h0 hsg z hc hm b1
     generalize pl x.k.natAbs = p at *
     go_enter Tryz.func83,Tryz.ntmps83
     go_wp2_with (first | (go_at_call 60; refine (right_F_w _ _).mono ?_; rintro e w' ⟨rfl,rfl⟩) | (go_at_call 154; refine (HP.out _).mono ?_; rintro e w' ⟨rfl,rfl⟩) | (go_at_call 156; refine (HRR.out _).mono ?_; rintro e w' ⟨rfl,hbb⟩))
     go_ret2
     refine ⟨?_,hbb⟩
     rw [← HN.out]
     exact ret_tup rfl
    ·have HN := Lib.hid (show rndG true (man x.k.natAbs - 1) false (pl x.k.natAbs - 1074) true = nextF x true from nextF_pos (r := x.k.natAbs - 1) (by omega) (by rw [show ((pl x.k.natAbs:Int) - 1074 + 1074).toNat = pl x.k.natAbs from by omega]; exact nv_dn _ (by omega) hc) (by simp; omega))
     have hrr := fun w => rounded_n true false true (man x.k.natAbs - 1) (pl x.k.natAbs - 1074) w (by omega) (by omega) (by omega)
     rw [show ((man x.k.natAbs - 1:Nat):Int) = (man x.k.natAbs:Int) - 1 from by omega] at hrr
     have HRR := Lib.hid hrr
     have hm1:(1:Int) ≤ (man x.k.natAbs:Int) := by omega
     clear hrr
     by_cases hq:man x.k.natAbs = P
     ·have q1:(((man x.k.natAbs:Nat):Int) == 4503599627370496) = true := by rw [beq_iff_eq,hq]; rfl
      have q2:¬ ((-1074:Int) < (pl x.k.natAbs:Int) - 1074) := by omega
      clear hz h0 hsg hc hq
      generalize man x.k.natAbs = m at *
      generalize pl x.k.natAbs = p at *
      go_enter Tryz.func83,Tryz.ntmps83
      go_wp2_with (first | (go_at_call 60; refine (right_F_w _ _).mono ?_; rintro e w' ⟨rfl,rfl⟩) | (go_at_call 154; refine (HP.out _).mono ?_; rintro e w' ⟨rfl,rfl⟩) | (go_at_call 156; refine (HRR.out _).mono ?_; rintro e w' ⟨rfl,hbb⟩))
      go_ret2
      refine ⟨?_,hbb⟩
      rw [← HN.out]
      exact ret_tup rfl
     ·have q1:(((man x.k.natAbs:Nat):Int) == 4503599627370496) = false := by rw [beq_eq_false_iff_ne]; intro c; exact hq (by have:P = 4503599627370496 := rfl; omega)
      clear hz h0 hsg hc hq
      generalize man x.k.natAbs = m at *
      generalize pl x.k.natAbs = p at *
      go_enter Tryz.func83,Tryz.ntmps83
      go_wp2_with (first | (go_at_call 60; refine (right_F_w _ _).mono ?_; rintro e w' ⟨rfl,rfl⟩) | (go_at_call 154; refine (HP.out _).mono ?_; rintro e w' ⟨rfl,rfl⟩) | (go_at_call 156; refine (HRR.out _).mono ?_; rintro e w' ⟨rfl,hbb⟩))
      go_ret2
      refine ⟨?_,hbb⟩
      rw [← HN.out]
      exact ret_tup rfl
  ·have hsg:decide (x.k < 0) = false := by simpa using hs
   rw [hsg] at HP
   cases up
   ·have z:(((man x.k.natAbs:Nat):Int) == 0) = false := by rw [beq_eq_false_iff_ne]; omega
    by_cases hc:man x.k.natAbs = P ∧ 1 ≤ pl x.k.natAbs
    ·have HN := Lib.hid (show rndG false 9007199254740991 false (pl x.k.natAbs - 1074 - 1) false = nextF x false from nextF_pos (r := x.k.natAbs - 1) (by omega) (by rw [show ((pl x.k.natAbs:Int) - 1074 - 1 + 1074).toNat = pl x.k.natAbs - 1 from by omega]; exact nv_dn2 _ hc.1 hc.2) (by simp; omega))
     have HRR := Lib.hid (fun w => rounded_n false false false 9007199254740991 (pl x.k.natAbs - 1074 - 1) w (by omega) (by omega) (by omega))
     have hm:man x.k.natAbs = 4503599627370496 := hc.1
     have hp1:(-1074:Int) < (pl x.k.natAbs:Int) - 1074 := by omega
     rw [hm] at HP
     clear hz h0 hsg z hc hm b1
     generalize pl x.k.natAbs = p at *
     go_enter Tryz.func83,Tryz.ntmps83
     go_wp2_with (first | (go_at_call 60; refine (right_F_w _ _).mono ?_; rintro e w' ⟨rfl,rfl⟩) | (go_at_call 154; refine (HP.out _).mono ?_; rintro e w' ⟨rfl,rfl⟩) | (go_at_call 156; refine (HRR.out _).mono ?_; rintro e w' ⟨rfl,hbb⟩))
     go_ret2
     refine ⟨?_,hbb⟩
     rw [← HN.out]
     exact ret_tup rfl
    ·have HN := Lib.hid (show rndG false (man x.k.natAbs - 1) false (pl x.k.natAbs - 1074) false = nextF x false from nextF_pos (r := x.k.natAbs - 1) (by omega) (by rw [show ((pl x.k.natAbs:Int) - 1074 + 1074).toNat = pl x.k.natAbs from by omega]; exact nv_dn _ (by omega) hc) (by simp; omega))
     have hrr := fun w => rounded_n false false false (man x.k.natAbs - 1) (pl x.k.natAbs - 1074) w (by omega) (by omega) (by omega)
     rw [show ((man x.k.natAbs - 1:Nat):Int) = (man x.k.natAbs:Int) - 1 from by omega] at hrr
     have HRR := Lib.hid hrr
     have hm1:(1:Int) ≤ (man x.k.natAbs:Int) := by omega
     clear hrr
     by_cases hq:man x.k.natAbs = P
     ·have q1:(((man x.k.natAbs:Nat):Int) == 4503599627370496) = true := by rw [beq_iff_eq,hq]; rfl
      have q2:¬ ((-1074:Int) < (pl x.k.natAbs:Int) - 1074) := by omega
      clear hz h0 hsg hc hq
      generalize man x.k.natAbs = m at *
      generalize pl x.k.natAbs = p at *
      go_enter Tryz.func83,Tryz.ntmps83
      go_wp2_with (first | (go_at_call 60; refine (right_F_w _ _).mono ?_; rintro e w' ⟨rfl,rfl⟩) | (go_at_call 154; refine (HP.out _).mono ?_; rintro e w' ⟨rfl,rfl⟩) | (go_at_call 156; refine (HRR.out _).mono ?_; rintro e w' ⟨rfl,hbb⟩))
      go_ret2
      refine ⟨?_,hbb⟩
      rw [← HN.out]
      exact ret_tup rfl
     ·have q1:(((man x.k.natAbs:Nat):Int) == 4503599627370496) = false := by rw [beq_eq_false_iff_ne]; intro c; exact hq (by have:P = 4503599627370496 := rfl; omega)
      clear hz h0 hsg hc hq
      generalize man x.k.natAbs = m at *
      generalize pl x.k.natAbs = p at *
      go_enter Tryz.func83,Tryz.ntmps83
      go_wp2_with (first | (go_at_call 60; refine (right_F_w _ _).mono ?_; rintro e w' ⟨rfl,rfl⟩) | (go_at_call 154; refine (HP.out _).mono ?_; rintro e w' ⟨rfl,rfl⟩) | (go_at_call 156; refine (HRR.out _).mono ?_; rintro e w' ⟨rfl,hbb⟩))
      go_ret2
      refine ⟨?_,hbb⟩
      rw [← HN.out]
      exact ret_tup rfl
   ·have HN := Lib.hid (show rndG false (man x.k.natAbs + 1) false (pl x.k.natAbs - 1074) true = nextF x true from nextF_pos (r := x.k.natAbs + 1) (by omega) (by rw [show ((pl x.k.natAbs:Int) - 1074 + 1074).toNat = pl x.k.natAbs from by omega]; exact nv_up _) (by simp; omega))
    have hrr := fun w => rounded_n false false true (man x.k.natAbs + 1) (pl x.k.natAbs - 1074) w (by omega) (by omega) (by omega)
    simp only [Int.natCast_add,Int.cast_ofNat_Int] at hrr
    have HRR := Lib.hid hrr
    have z:(((man x.k.natAbs:Nat):Int) == 0) = false := by rw [beq_eq_false_iff_ne]; omega
    clear hrr hz h0 hsg
    generalize man x.k.natAbs = m at *
    generalize pl x.k.natAbs = p at *
    go_enter Tryz.func83,Tryz.ntmps83
    go_wp2_with (first | (go_at_call 60; refine (right_F_w _ _).mono ?_; rintro e w' ⟨rfl,rfl⟩) | (go_at_call 154; refine (HP.out _).mono ?_; rintro e w' ⟨rfl,rfl⟩) | (go_at_call 156; refine (HRR.out _).mono ?_; rintro e w' ⟨rfl,hbb⟩))
    go_ret2
    refine ⟨?_,hbb⟩
    rw [← HN.out]
    exact ret_tup rfl
end Go.Proofs.YtejcekikbnlllaaGreat
