/- EvalBack by the reckoner: pieces. DrawWrong by the reckoner (printed by genba.py). DrawWrong by the reckoner: the runs (printed by genbb.py). The unit vector of any triple above the horizon is a direction. The draws, plain: ends, errors, boxes. The draws, plain: boxes. The draws, plain: what is drawn of a right program. DensMirror by the reckoner: pieces. DensMirror by the reckoner: the loop, the end. burnishlaw22.DensMirror: what the run asks for is so. DrawWrong, proved. -/
import Derived.Test.YthclipfgcgoofaaGreatQ15
import Derived.Test.YthclipfgcgoofaaGreatQ13
import Derived.Test.YthclipfgcgoofaaGreatQ11
namespace Go.Proofs.YthclipfgcgoofaaGreat
set_option linter.all false
open Go.RowKit Bu Rx
def prgB_O (g : List SV → Nat → List SV) (b : List SV → Nat → Bool) : OF := eiO (kPr g b) (kPz g)
structure Ndv where
  g : List SV → Nat → List SV
  b : List SV → Nat → Bool
  v : Nat → Nat → Nat → V3
  e : Nat → Nat → Nat → Int
  D : Nwd
  P : Nwp
def ODv (W : Ndv) : OracleF := lookO [(15, prgB_O W.g W.b), (16, plainO (kUnT W.v W.e)), (17, dwT_O W.D), (18, ptT_O W.P), (19, plainO (oConst (.b true)))]
noncomputable def dvC : Code := bodyOf Tryz.prog 3
theorem dvBody : Tryz.f3.body = some dvC := by kernel_rfl
structure D8 where
  x : Nat
  y : Nat
  z : Nat
  l : Nat
  h : Nat
  a : Int
  b : Int
  c : Int
def D8.args (q : D8) : List SV := [.agg [.f q.x, .f q.y, .f q.z], .agg [.f q.l, .f q.h], .agg [.si .u64 q.a, .si .u64 q.b, .si .u64 q.c]]
noncomputable def dvA (el : TypeId) (z : Nat × Nat) (cells : List SV) (off len cap : Nat) (q : D8) : St := ⟨(.ssl 0 off len cap :: q.args) ++ List.replicate (Tryz.f3.ntmps - 4) (.tup []), [⟨el, cells, .ro z⟩], none, []⟩
noncomputable def dvZ (q : D8) : St := ⟨(.o (.slice none 0 0) :: q.args) ++ List.replicate (Tryz.f3.ntmps - 4) (.tup []), [], none, []⟩
def dvT (n : Nat) (x : Nat → SV) : List SV :=
  [x 0, x 1, x 2, x 3, x 4, .p 0 0, .p 1 0, .p 2 0, .b false, .osl true 3 n, x 10, x 11, x 12, x 13, x 14, x 15, x 16, x 17, x 18, x 19, x 20, x 21, x 22, x 23, x 24, x 25, x 26, x 27, x 28, x 29, x 30, x 31, x 32, x 33, x 34, x 35, x 36, x 37, x 38, x 39, x 40, x 41, x 42, x 43, x 44, x 45, x 46, x 47, x 48, x 49, x 50, x 51, x 52, x 53, x 54, x 55, x 56, x 57, x 58, x 59, x 60, x 61, x 62, x 63, x 64, x 65, x 66, x 67, x 68, x 69, x 70, x 71, x 72, x 73, x 74, x 75, x 76, x 77, x 78, x 79, x 80, x 81, x 82, x 83, x 84, x 85, x 86, x 87, x 88, x 89, x 90, x 91, x 92, x 93, x 94, x 95, x 96, x 97, x 98, x 99, x 100, x 101, x 102, x 103, x 104, x 105, x 106, x 107, x 108, x 109, x 110, x 111, x 112, x 113, x 114, x 115, x 116, x 117, x 118, x 119, x 120, x 121, x 122, x 123, x 124, x 125, x 126, x 127, x 128, x 129]
def dvM (pc : List SV) (q : D8) : List Blk := [⟨25, [.f q.x, .f q.y, .f q.z], .ex⟩, ⟨27, [.f q.l, .f q.h], .ex⟩, ⟨29, [.si .u64 q.a, .si .u64 q.b, .si .u64 q.c], .ex⟩, ⟨69, pc, .rown 19⟩]
def dvS (pc : List SV) (n : Nat) (q : D8) (x : Nat → SV) (d : Dec) : St := ⟨dvT n x, dvM pc q, d, []⟩
noncomputable abbrev dvA2 (W : Ndv) (el : TypeId) (z : Nat × Nat) (cells : List SV) (off len cap : Nat) (q : D8) : St := aftN Tryz.prog EG (ODv W) 60 2 dvC (dvA el z cells off len cap q)
noncomputable abbrev dvZ2 (W : Ndv) (q : D8) : St := aftN Tryz.prog EG (ODv W) 60 2 dvC (dvZ q)
theorem dvLa (W : Ndv) (el : TypeId) (z : Nat × Nat) (cells : List SV) (off len cap : Nat) (q : D8) : LandsN Tryz.prog EG (ODv W) 60 2 dvC (dvA el z cells off len cap q) := by unfold LandsN; kernel_rfl
theorem dvLz (W : Ndv) (q : D8) : LandsN Tryz.prog EG (ODv W) 60 2 dvC (dvZ q) := by unfold LandsN; kernel_rfl
section
variable (W : Ndv) (el : TypeId) (z : Nat × Nat) (cells : List SV) (off len cap : Nat) (q : D8)
theorem dvOa : (dvA2 W el z cells off len cap q).ob = [(decide (len ≤ cap), true), (W.b ((cells.drop off).take (len * 8)) len, true)] := by kernel_rfl
theorem dvOz : (dvZ2 W q).ob = [] := by kernel_rfl
theorem dvRa : ∃ rest, (dvA2 W el z cells off len cap q).M = [⟨el, cells, .ro z⟩] ++ rest := ⟨dvM (W.g ((cells.drop off).take (len * 8)) len) q, by kernel_rfl⟩
theorem dvMa : selM (dvA2 W el z cells off len cap q).M [1, 2, 3, 4] = some (dvM (W.g ((cells.drop off).take (len * 8)) len) q) := by kernel_rfl
theorem dvMz : selM (dvZ2 W q).M [0, 1, 2, 3] = some (dvM (W.g [] 0) q) := by kernel_rfl
noncomputable def dvXa (v : Nat → Value) : Nat → SV := fun j => ((dvA2 W el z cells off len cap q).sel [1, 2, 3, 4] [] v).T.getD j .np
noncomputable def dvXz (v : Nat → Value) : Nat → SV := fun j => ((dvZ2 W q).sel [0, 1, 2, 3] [] v).T.getD j .np
theorem dvTa (v : Nat → Value) (M' : List Blk) : ((dvA2 W el z cells off len cap q).sel [1, 2, 3, 4] M' v).T = dvT (prK len + 1) (dvXa W el z cells off len cap q v) := by kernel_rfl
theorem dvTz (v : Nat → Value) (M' : List Blk) : ((dvZ2 W q).sel [0, 1, 2, 3] M' v).T = dvT 1 (dvXz W q v) := by kernel_rfl
end
inductive M4 where
  | t
  | a
  | b
  | c
inductive O4 where
  | u
  | z
  | d
  | f
def M4.ds : M4 → List Bool
  | .t => [true, true, true]
  | .a => [false]
  | .b => [true, false]
  | .c => [true, true, false]
def O4.ds : O4 → List Bool
  | .u => [true, true, true, false]
  | .z => [false, false, false]
  | .d => [false, false, false]
  | .f => [false, false, true, false]
def O4.es : O4 → List Bool
  | .u => [false]
  | .z => [true, true, false, false]
  | .d => [true, false]
  | .f => [true, false]
def i2D (v : Bool) : List Bool := bif v then [true, false] else [false]
def lleW (a b : Nat) : Bool := Ieee.double.order a b == some .lt || Ieee.double.order a b == some .eq
def mayO (q : D8) : M4 → Obs
  | .t => [(lleW q.l q.h, true), (leW q.h (toF 4607182418800017408), true), (geW q.l (toF 0), true)]
  | .a => [(geW q.l (toF 0), false)]
  | .b => [(leW q.h (toF 4607182418800017408), false), (geW q.l (toF 0), true)]
  | .c => [(lleW q.l q.h, false), (leW q.h (toF 4607182418800017408), true), (geW q.l (toF 0), true)]
def eqF_ (p q : F × F × F) : Bool := decide (p.1.k = q.1.k) && (decide (p.2.1.k = q.2.1.k) && (decide (p.2.2.k = q.2.2.k) && true))
def eqV_ (p q : V3) : Bool := eqIv p.x q.x && (eqIv p.y q.y && (eqIv p.z q.z && true))
def neDr (A : DwR) : Bool := !((A.k == 0) && (eqF_ A.p z3 && (eqV_ A.b zV && ((A.a == 0) && ((A.s == false) && true)))))
def o4O (e : Int) (A : DwR) : O4 → Obs
  | .u => [(neDr A, false), (A.e != 0, true), (e != 0, true), (A.e == 50, true)]
  | .z => [(A.e != 0, false), (e != 0, false), (A.e == 50, false)]
  | .d => [(A.e != 0, false), (e != 0, false), (A.e == 50, false)]
  | .f => [(neDr A, false), (A.e != 0, true), (e != 0, false), (A.e == 50, false)]
def o4E (e : Int) (A : DwR) (z : Nat) : O4 → Obs
  | .u => [(e == 0, false)]
  | .z => [(neDr A, false), (A.e != 0, false), (leW z (toF 0), true), (e == 0, true)]
  | .d => [(leW z (toF 0), false), (e == 0, true)]
  | .f => [(leW z (toF 0), false), (e == 0, true)]
def i2O (i : Int) (v : Bool) : Obs := bif v then [(i != 20, false), (i != 2, true)] else [(i != 2, false)]
section
variable (W : Ndv) (pc : List SV) (n : Nat) (q : D8) (x : Nat → SV)
def dvP (pc : List SV) (n : Nat) : List SV := (pc.drop 0).take (n * 19)
def dvD (W : Ndv) (pc : List SV) (n : Nat) (q : D8) : DwR := W.D.g (dvP pc n) n q.x q.y q.z q.a q.b q.c
def dvI (W : Ndv) (pc : List SV) (n : Nat) (q : D8) : Int := (W.P.g (dvP pc n) n q.l q.h q.a).e
def dvE (W : Ndv) (q : D8) : Int := W.e q.x q.y q.z
def dvB (W : Ndv) (pc : List SV) (n : Nat) (q : D8) : Obs := W.P.o (dvP pc n) n q.l q.h q.a ++ (W.D.o (dvP pc n) n q.x q.y q.z q.a q.b q.c ++ ([blw q.x, blw q.y, blw q.z] ++ []))
noncomputable abbrev dvR (d : List Bool) : St := aft Tryz.prog EG (ODv W) 60 (post 2 dvC) (dvS pc n q x (some d))
def dvDs (m : M4) (o : O4) (i : List Bool) : List Bool := m.ds ++ (o.ds ++ (i ++ o.es))
def dvOb (W : Ndv) (pc : List SV) (n : Nat) (q : D8) (m : M4) (o : O4) (i : Obs) : Obs := o4E (dvE W q) (dvD W pc n q) q.z o ++ (i ++ (o4O (dvE W q) (dvD W pc n q) o ++ (mayO q m ++ dvB W pc n q)))
theorem dvL_tu : Lands Tryz.prog EG (ODv W) 60 (post 2 dvC) (dvS pc n q x (some (dvDs .t .u []))) .ret := by unfold Lands; kernel_rfl
theorem dvO_tu : (dvR W pc n q x (dvDs .t .u [])).ob = dvOb W pc n q .t .u [] := by kernel_rfl
theorem dvV_tu : resultS Tryz.prog Tryz.f3 (dvR W pc n q x (dvDs .t .u [])) = some (.b true) := by kernel_rfl
theorem dvL_au_t : Lands Tryz.prog EG (ODv W) 60 (post 2 dvC) (dvS pc n q x (some (dvDs .a .u (i2D true)))) .ret := by unfold Lands; kernel_rfl
theorem dvO_au_t : (dvR W pc n q x (dvDs .a .u (i2D true))).ob = dvOb W pc n q .a .u (i2O (dvI W pc n q) true) := by kernel_rfl
theorem dvV_au_t : resultS Tryz.prog Tryz.f3 (dvR W pc n q x (dvDs .a .u (i2D true))) = some (.b true) := by kernel_rfl
theorem dvL_au_f : Lands Tryz.prog EG (ODv W) 60 (post 2 dvC) (dvS pc n q x (some (dvDs .a .u (i2D false)))) .ret := by unfold Lands; kernel_rfl
theorem dvO_au_f : (dvR W pc n q x (dvDs .a .u (i2D false))).ob = dvOb W pc n q .a .u (i2O (dvI W pc n q) false) := by kernel_rfl
theorem dvV_au_f : resultS Tryz.prog Tryz.f3 (dvR W pc n q x (dvDs .a .u (i2D false))) = some (.b true) := by kernel_rfl
theorem dvL_bu_t : Lands Tryz.prog EG (ODv W) 60 (post 2 dvC) (dvS pc n q x (some (dvDs .b .u (i2D true)))) .ret := by unfold Lands; kernel_rfl
theorem dvO_bu_t : (dvR W pc n q x (dvDs .b .u (i2D true))).ob = dvOb W pc n q .b .u (i2O (dvI W pc n q) true) := by kernel_rfl
theorem dvV_bu_t : resultS Tryz.prog Tryz.f3 (dvR W pc n q x (dvDs .b .u (i2D true))) = some (.b true) := by kernel_rfl
theorem dvL_bu_f : Lands Tryz.prog EG (ODv W) 60 (post 2 dvC) (dvS pc n q x (some (dvDs .b .u (i2D false)))) .ret := by unfold Lands; kernel_rfl
theorem dvO_bu_f : (dvR W pc n q x (dvDs .b .u (i2D false))).ob = dvOb W pc n q .b .u (i2O (dvI W pc n q) false) := by kernel_rfl
theorem dvV_bu_f : resultS Tryz.prog Tryz.f3 (dvR W pc n q x (dvDs .b .u (i2D false))) = some (.b true) := by kernel_rfl
theorem dvL_cu_t : Lands Tryz.prog EG (ODv W) 60 (post 2 dvC) (dvS pc n q x (some (dvDs .c .u (i2D true)))) .ret := by unfold Lands; kernel_rfl
theorem dvO_cu_t : (dvR W pc n q x (dvDs .c .u (i2D true))).ob = dvOb W pc n q .c .u (i2O (dvI W pc n q) true) := by kernel_rfl
theorem dvV_cu_t : resultS Tryz.prog Tryz.f3 (dvR W pc n q x (dvDs .c .u (i2D true))) = some (.b true) := by kernel_rfl
theorem dvL_cu_f : Lands Tryz.prog EG (ODv W) 60 (post 2 dvC) (dvS pc n q x (some (dvDs .c .u (i2D false)))) .ret := by unfold Lands; kernel_rfl
theorem dvO_cu_f : (dvR W pc n q x (dvDs .c .u (i2D false))).ob = dvOb W pc n q .c .u (i2O (dvI W pc n q) false) := by kernel_rfl
theorem dvV_cu_f : resultS Tryz.prog Tryz.f3 (dvR W pc n q x (dvDs .c .u (i2D false))) = some (.b true) := by kernel_rfl
theorem dvL_tz : Lands Tryz.prog EG (ODv W) 60 (post 2 dvC) (dvS pc n q x (some (dvDs .t .z []))) .ret := by unfold Lands; kernel_rfl
theorem dvO_tz : (dvR W pc n q x (dvDs .t .z [])).ob = dvOb W pc n q .t .z [] := by kernel_rfl
theorem dvV_tz : resultS Tryz.prog Tryz.f3 (dvR W pc n q x (dvDs .t .z [])) = some (.b true) := by kernel_rfl
theorem dvL_az_t : Lands Tryz.prog EG (ODv W) 60 (post 2 dvC) (dvS pc n q x (some (dvDs .a .z (i2D true)))) .ret := by unfold Lands; kernel_rfl
theorem dvO_az_t : (dvR W pc n q x (dvDs .a .z (i2D true))).ob = dvOb W pc n q .a .z (i2O (dvI W pc n q) true) := by kernel_rfl
theorem dvV_az_t : resultS Tryz.prog Tryz.f3 (dvR W pc n q x (dvDs .a .z (i2D true))) = some (.b true) := by kernel_rfl
theorem dvL_az_f : Lands Tryz.prog EG (ODv W) 60 (post 2 dvC) (dvS pc n q x (some (dvDs .a .z (i2D false)))) .ret := by unfold Lands; kernel_rfl
theorem dvO_az_f : (dvR W pc n q x (dvDs .a .z (i2D false))).ob = dvOb W pc n q .a .z (i2O (dvI W pc n q) false) := by kernel_rfl
theorem dvV_az_f : resultS Tryz.prog Tryz.f3 (dvR W pc n q x (dvDs .a .z (i2D false))) = some (.b true) := by kernel_rfl
theorem dvL_bz_t : Lands Tryz.prog EG (ODv W) 60 (post 2 dvC) (dvS pc n q x (some (dvDs .b .z (i2D true)))) .ret := by unfold Lands; kernel_rfl
theorem dvO_bz_t : (dvR W pc n q x (dvDs .b .z (i2D true))).ob = dvOb W pc n q .b .z (i2O (dvI W pc n q) true) := by kernel_rfl
theorem dvV_bz_t : resultS Tryz.prog Tryz.f3 (dvR W pc n q x (dvDs .b .z (i2D true))) = some (.b true) := by kernel_rfl
theorem dvL_bz_f : Lands Tryz.prog EG (ODv W) 60 (post 2 dvC) (dvS pc n q x (some (dvDs .b .z (i2D false)))) .ret := by unfold Lands; kernel_rfl
theorem dvO_bz_f : (dvR W pc n q x (dvDs .b .z (i2D false))).ob = dvOb W pc n q .b .z (i2O (dvI W pc n q) false) := by kernel_rfl
theorem dvV_bz_f : resultS Tryz.prog Tryz.f3 (dvR W pc n q x (dvDs .b .z (i2D false))) = some (.b true) := by kernel_rfl
theorem dvL_cz_t : Lands Tryz.prog EG (ODv W) 60 (post 2 dvC) (dvS pc n q x (some (dvDs .c .z (i2D true)))) .ret := by unfold Lands; kernel_rfl
theorem dvO_cz_t : (dvR W pc n q x (dvDs .c .z (i2D true))).ob = dvOb W pc n q .c .z (i2O (dvI W pc n q) true) := by kernel_rfl
theorem dvV_cz_t : resultS Tryz.prog Tryz.f3 (dvR W pc n q x (dvDs .c .z (i2D true))) = some (.b true) := by kernel_rfl
theorem dvL_cz_f : Lands Tryz.prog EG (ODv W) 60 (post 2 dvC) (dvS pc n q x (some (dvDs .c .z (i2D false)))) .ret := by unfold Lands; kernel_rfl
theorem dvO_cz_f : (dvR W pc n q x (dvDs .c .z (i2D false))).ob = dvOb W pc n q .c .z (i2O (dvI W pc n q) false) := by kernel_rfl
theorem dvV_cz_f : resultS Tryz.prog Tryz.f3 (dvR W pc n q x (dvDs .c .z (i2D false))) = some (.b true) := by kernel_rfl
theorem dvL_td : Lands Tryz.prog EG (ODv W) 60 (post 2 dvC) (dvS pc n q x (some (dvDs .t .d []))) .ret := by unfold Lands; kernel_rfl
theorem dvO_td : (dvR W pc n q x (dvDs .t .d [])).ob = dvOb W pc n q .t .d [] := by kernel_rfl
theorem dvV_td : resultS Tryz.prog Tryz.f3 (dvR W pc n q x (dvDs .t .d [])) = some (.b true) := by kernel_rfl
theorem dvL_ad_t : Lands Tryz.prog EG (ODv W) 60 (post 2 dvC) (dvS pc n q x (some (dvDs .a .d (i2D true)))) .ret := by unfold Lands; kernel_rfl
theorem dvO_ad_t : (dvR W pc n q x (dvDs .a .d (i2D true))).ob = dvOb W pc n q .a .d (i2O (dvI W pc n q) true) := by kernel_rfl
theorem dvV_ad_t : resultS Tryz.prog Tryz.f3 (dvR W pc n q x (dvDs .a .d (i2D true))) = some (.b true) := by kernel_rfl
theorem dvL_ad_f : Lands Tryz.prog EG (ODv W) 60 (post 2 dvC) (dvS pc n q x (some (dvDs .a .d (i2D false)))) .ret := by unfold Lands; kernel_rfl
theorem dvO_ad_f : (dvR W pc n q x (dvDs .a .d (i2D false))).ob = dvOb W pc n q .a .d (i2O (dvI W pc n q) false) := by kernel_rfl
theorem dvV_ad_f : resultS Tryz.prog Tryz.f3 (dvR W pc n q x (dvDs .a .d (i2D false))) = some (.b true) := by kernel_rfl
theorem dvL_bd_t : Lands Tryz.prog EG (ODv W) 60 (post 2 dvC) (dvS pc n q x (some (dvDs .b .d (i2D true)))) .ret := by unfold Lands; kernel_rfl
theorem dvO_bd_t : (dvR W pc n q x (dvDs .b .d (i2D true))).ob = dvOb W pc n q .b .d (i2O (dvI W pc n q) true) := by kernel_rfl
theorem dvV_bd_t : resultS Tryz.prog Tryz.f3 (dvR W pc n q x (dvDs .b .d (i2D true))) = some (.b true) := by kernel_rfl
theorem dvL_bd_f : Lands Tryz.prog EG (ODv W) 60 (post 2 dvC) (dvS pc n q x (some (dvDs .b .d (i2D false)))) .ret := by unfold Lands; kernel_rfl
theorem dvO_bd_f : (dvR W pc n q x (dvDs .b .d (i2D false))).ob = dvOb W pc n q .b .d (i2O (dvI W pc n q) false) := by kernel_rfl
theorem dvV_bd_f : resultS Tryz.prog Tryz.f3 (dvR W pc n q x (dvDs .b .d (i2D false))) = some (.b true) := by kernel_rfl
theorem dvL_cd_t : Lands Tryz.prog EG (ODv W) 60 (post 2 dvC) (dvS pc n q x (some (dvDs .c .d (i2D true)))) .ret := by unfold Lands; kernel_rfl
theorem dvO_cd_t : (dvR W pc n q x (dvDs .c .d (i2D true))).ob = dvOb W pc n q .c .d (i2O (dvI W pc n q) true) := by kernel_rfl
theorem dvV_cd_t : resultS Tryz.prog Tryz.f3 (dvR W pc n q x (dvDs .c .d (i2D true))) = some (.b true) := by kernel_rfl
theorem dvL_cd_f : Lands Tryz.prog EG (ODv W) 60 (post 2 dvC) (dvS pc n q x (some (dvDs .c .d (i2D false)))) .ret := by unfold Lands; kernel_rfl
theorem dvO_cd_f : (dvR W pc n q x (dvDs .c .d (i2D false))).ob = dvOb W pc n q .c .d (i2O (dvI W pc n q) false) := by kernel_rfl
theorem dvV_cd_f : resultS Tryz.prog Tryz.f3 (dvR W pc n q x (dvDs .c .d (i2D false))) = some (.b true) := by kernel_rfl
theorem dvL_tf : Lands Tryz.prog EG (ODv W) 60 (post 2 dvC) (dvS pc n q x (some (dvDs .t .f []))) .ret := by unfold Lands; kernel_rfl
theorem dvO_tf : (dvR W pc n q x (dvDs .t .f [])).ob = dvOb W pc n q .t .f [] := by kernel_rfl
theorem dvV_tf : resultS Tryz.prog Tryz.f3 (dvR W pc n q x (dvDs .t .f [])) = some (.b true) := by kernel_rfl
theorem dvL_af_t : Lands Tryz.prog EG (ODv W) 60 (post 2 dvC) (dvS pc n q x (some (dvDs .a .f (i2D true)))) .ret := by unfold Lands; kernel_rfl
theorem dvO_af_t : (dvR W pc n q x (dvDs .a .f (i2D true))).ob = dvOb W pc n q .a .f (i2O (dvI W pc n q) true) := by kernel_rfl
theorem dvV_af_t : resultS Tryz.prog Tryz.f3 (dvR W pc n q x (dvDs .a .f (i2D true))) = some (.b true) := by kernel_rfl
theorem dvL_af_f : Lands Tryz.prog EG (ODv W) 60 (post 2 dvC) (dvS pc n q x (some (dvDs .a .f (i2D false)))) .ret := by unfold Lands; kernel_rfl
theorem dvO_af_f : (dvR W pc n q x (dvDs .a .f (i2D false))).ob = dvOb W pc n q .a .f (i2O (dvI W pc n q) false) := by kernel_rfl
theorem dvV_af_f : resultS Tryz.prog Tryz.f3 (dvR W pc n q x (dvDs .a .f (i2D false))) = some (.b true) := by kernel_rfl
theorem dvL_bf_t : Lands Tryz.prog EG (ODv W) 60 (post 2 dvC) (dvS pc n q x (some (dvDs .b .f (i2D true)))) .ret := by unfold Lands; kernel_rfl
theorem dvO_bf_t : (dvR W pc n q x (dvDs .b .f (i2D true))).ob = dvOb W pc n q .b .f (i2O (dvI W pc n q) true) := by kernel_rfl
theorem dvV_bf_t : resultS Tryz.prog Tryz.f3 (dvR W pc n q x (dvDs .b .f (i2D true))) = some (.b true) := by kernel_rfl
theorem dvL_bf_f : Lands Tryz.prog EG (ODv W) 60 (post 2 dvC) (dvS pc n q x (some (dvDs .b .f (i2D false)))) .ret := by unfold Lands; kernel_rfl
theorem dvO_bf_f : (dvR W pc n q x (dvDs .b .f (i2D false))).ob = dvOb W pc n q .b .f (i2O (dvI W pc n q) false) := by kernel_rfl
theorem dvV_bf_f : resultS Tryz.prog Tryz.f3 (dvR W pc n q x (dvDs .b .f (i2D false))) = some (.b true) := by kernel_rfl
theorem dvL_cf_t : Lands Tryz.prog EG (ODv W) 60 (post 2 dvC) (dvS pc n q x (some (dvDs .c .f (i2D true)))) .ret := by unfold Lands; kernel_rfl
theorem dvO_cf_t : (dvR W pc n q x (dvDs .c .f (i2D true))).ob = dvOb W pc n q .c .f (i2O (dvI W pc n q) true) := by kernel_rfl
theorem dvV_cf_t : resultS Tryz.prog Tryz.f3 (dvR W pc n q x (dvDs .c .f (i2D true))) = some (.b true) := by kernel_rfl
theorem dvL_cf_f : Lands Tryz.prog EG (ODv W) 60 (post 2 dvC) (dvS pc n q x (some (dvDs .c .f (i2D false)))) .ret := by unfold Lands; kernel_rfl
theorem dvO_cf_f : (dvR W pc n q x (dvDs .c .f (i2D false))).ob = dvOb W pc n q .c .f (i2O (dvI W pc n q) false) := by kernel_rfl
theorem dvV_cf_f : resultS Tryz.prog Tryz.f3 (dvR W pc n q x (dvDs .c .f (i2D false))) = some (.b true) := by kernel_rfl
end
end Go.Proofs.YthclipfgcgoofaaGreat
namespace Bu
set_option linter.all false
open Rx Go
theorem ask_zz {e : Int} {g : Bool} {r : I × Int} (h : (askI e g r).2 ≠ 0) : (askI e g r).1 = I.zero := by
  unfold askI at h ⊢
  cases h1 : !(e == 0)
  · rw [h1, cond_false] at h
    have he : e = 0 := by simpa using h1
    cases g
    · rfl
    · rw [cond_true] at h
      cases h2 : !(r.2 == 0)
      · rw [h2, cond_false] at h
        exact absurd he h
      · rfl
  · rfl
def uQ1 (x : F) : I × Int := cSqr dMul 0 (pt x)
def uQ2 (x y : F) : I × Int := cSqr dMul (uQ1 x).2 (pt y)
def uS1 (x y : F) : I × Int := cAdd dAdd (uQ2 x y).2 (uQ1 x).1 (uQ2 x y).1
def uQ3 (x y z : F) : I × Int := cSqr dMul (uS1 x y).2 (pt z)
def uS2 (x y z : F) : I × Int := cAdd dAdd (uQ3 x y z).2 (uS1 x y).1 (uQ3 x y z).1
def uN (x y z : F) : I × Int := cSqrt qSqrt (uS2 x y z).2 (uS2 x y z).1
def uD1 (x y z : F) : I × Int := cDiv pDiv (uN x y z).2 (pt x) (uN x y z).1
def uD2 (x y z : F) : I × Int := cDiv pDiv (uD1 x y z).2 (pt y) (uN x y z).1
def uD3 (x y z : F) : I × Int := cDiv pDiv (uD2 x y z).2 (pt z) (uN x y z).1
theorem un_raw (x y z : F) : unV KkR x y z = ⟨withI (uD1 x y z).1, withI (uD2 x y z).1, withI (uD3 x y z).1⟩ := by
  have hE : unE KkR x y z = ([withI (uD3 x y z).1, (uD3 x y z).1, withI (uD2 x y z).1, (uD2 x y z).1, withI (uD1 x y z).1, (uD1 x y z).1, (uN x y z).1, (uS2 x y z).1, (uQ3 x y z).1, (uS1 x y).1, (uQ2 x y).1, (uQ1 x).1, pt z, pt y, pt x], (uD3 x y z).2) := by
    unfold unE unP
    refine (eval_cons (r := pt x) (e' := 0) ?_).trans ?_
    · exact rfl
    refine (eval_cons (r := pt y) (e' := 0) ?_).trans ?_
    · exact rfl
    refine (eval_cons (r := pt z) (e' := 0) ?_).trans ?_
    · exact rfl
    refine (eval_cons (r := (uQ1 x).1) (e' := (uQ1 x).2) ?_).trans ?_
    · exact rfl
    refine (eval_cons (r := (uQ2 x y).1) (e' := (uQ2 x y).2) ?_).trans ?_
    · exact rfl
    refine (eval_cons (r := (uS1 x y).1) (e' := (uS1 x y).2) ?_).trans ?_
    · exact rfl
    refine (eval_cons (r := (uQ3 x y z).1) (e' := (uQ3 x y z).2) ?_).trans ?_
    · exact rfl
    refine (eval_cons (r := (uS2 x y z).1) (e' := (uS2 x y z).2) ?_).trans ?_
    · exact rfl
    refine (eval_cons (r := (uN x y z).1) (e' := (uN x y z).2) ?_).trans ?_
    · exact rfl
    refine (eval_cons (r := (uD1 x y z).1) (e' := (uD1 x y z).2) ?_).trans ?_
    · exact rfl
    refine (eval_cons (r := withI (uD1 x y z).1) (e' := (uD1 x y z).2) ?_).trans ?_
    · exact rfl
    refine (eval_cons (r := (uD2 x y z).1) (e' := (uD2 x y z).2) ?_).trans ?_
    · exact rfl
    refine (eval_cons (r := withI (uD2 x y z).1) (e' := (uD2 x y z).2) ?_).trans ?_
    · exact rfl
    refine (eval_cons (r := (uD3 x y z).1) (e' := (uD3 x y z).2) ?_).trans ?_
    · exact rfl
    refine (eval_cons (r := withI (uD3 x y z).1) (e' := (uD3 x y z).2) ?_).trans ?_
    · exact rfl
    rfl
  unfold unV; rw [hE]; rfl
theorem with_lo {a : I} (h : z64.k ≤ a.lo.k) : z64.k ≤ (withI a).lo.k := by
  unfold withI
  cases decide ((mnF a.hi one64).k < (mxF a.lo mone64).k)
  · have := mxF_k a.lo mone64
    show z64.k ≤ (mxF a.lo mone64).k
    omega
  · exact (by decide +kernel : z64.k ≤ I.zero.lo.k)
theorem z64_q : z64.q = 0 := by rw [show z64 = F.zero from F.ext' (by decide +kernel)]; exact q_zero
theorem un_in {x y z : F} (hz : z64.k < z.k) : In1 (unV KkR x y z).x ∧ In1 (unV KkR x y z).y ∧ InB (unV KkR x y z).z bz1 := by
  rw [un_raw]
  have h : z64.k ≤ (uD3 x y z).1.lo.k := by
    by_cases h : (uD3 x y z).2 = 0
    · obtain ⟨h1, _, hr, hn, _, hA⟩ := div_0 (h : (cDiv pDiv (uD2 x y z).2 (pt z) (uN x y z).1).2 = 0)
      obtain ⟨h2, _⟩ := div_0 (h1 : (cDiv pDiv (uD1 x y z).2 (pt y) (uN x y z).1).2 = 0)
      obtain ⟨h3, _⟩ := div_0 (h2 : (cDiv pDiv (uN x y z).2 (pt x) (uN x y z).1).2 = 0)
      obtain ⟨_, _, _, _, d, u⟩ := sqrt_0 (h3 : (cSqrt qSqrt (uS2 x y z).2 (uS2 x y z).1).2 = 0)
      have d0 : 0 ≤ (uN x y z).1.lo.q := d.nn
      have np : 0 < (uN x y z).1.lo.q := by
        rcases no_zero hr hn with g | g
        · exact g
        · have := rt_le hr; grind
      have nh := rt_le hr
      have zq : 0 < z.q := by rw [← z64_q]; exact q_lt.2 hz
      have pos : ∀ {n : Rat}, 0 < n → 0 ≤ z.q / n := by
        intro n hn
        have e : z.q / n * n = z.q := Rat.div_mul_cancel (by grind)
        generalize z.q / n = m at *
        apply Rat.not_lt.1
        intro g
        have := Rat.mul_pos (show 0 < -m by grind) hn
        grind
      have a := pos np
      have b := pos (show 0 < (uN x y z).1.hi.q by grind)
      have a' : z64.q ≤ z.q / (uN x y z).1.lo.q := by rw [z64_q]; exact a
      have b' : z64.q ≤ z.q / (uN x y z).1.hi.q := by rw [z64_q]; exact b
      exact q_le.1 (hA.top (c := z64) a' b' a' b')
    · have e : (uD3 x y z).1 = I.zero := by
        have h' : (cDiv pDiv (uD2 x y z).2 (pt z) (uN x y z).1).2 ≠ 0 := h
        show (cDiv pDiv (uD2 x y z).2 (pt z) (uN x y z).1).1 = I.zero
        unfold cDiv at h' ⊢
        exact ask_zz h'
      rw [e]; exact (by decide +kernel : z64.k ≤ I.zero.lo.k)
  have w := withI_in (uD3 x y z).1
  exact ⟨withI_in _, withI_in _, with_lo h, w.hi, w.rt⟩
structure DirP (v : V3) : Prop where
  x : In1 v.x
  y : In1 v.y
  z : InB v.z bz1
theorem irt {a : I} (h : In1 a) : rt a = true := decide_eq_true h.rt
theorem DirP.zi {v : V3} (h : DirP v) : In1 v.z := ⟨Int.le_trans (by decide +kernel : mone64.k ≤ z64.k) h.z.1, h.z.2.1, h.z.2.2⟩
theorem kept_in1 {a : I} (h : rt a = true) : InB (keptF a) bz1 := by
  obtain ⟨e1, e2⟩ := keptI_k a z64 one64
  have h1 := of_decide_eq_true h
  have zo : z64.k ≤ one64.k := by decide +kernel
  unfold keptF
  refine ⟨?_, ?_, ?_⟩
  · rw [e1]; show z64.k ≤ _; omega
  · rw [e2]; show _ ≤ one64.k; omega
  · rw [e1, e2]; omega
theorem onB_er {s t : I} (hs : rt s = true) (ht : rt t = true) : Er (onB KkR 0 s t).2 := by
  have h := eval_er' (l := [.div 1 0]) (s := [false, false]) (v := [t, s]) rfl (fun i hi => by
    match i, hi with
    | 0, h => exact absurd h (by decide)
    | 1, h => exact absurd h (by decide)
    | i + 2, h => exact absurd h (by simp)) (fun a ha => by
    simp only [List.mem_cons, List.not_mem_nil, or_false] at ha
    rcases ha with rfl | rfl <;> assumption)
  exact h
theorem onN_er {s t : I} (hs : rt s = true) (ht : rt t = true) : Er (onN KkR 0 s t).2 := by
  have h := eval_er' (l := [.sub 1 0, .sub 3 1, .div 1 0]) (s := [false, false, false]) (v := [t, s, pt one64]) rfl (fun i hi => by
    match i, hi with
    | 0, h => exact absurd h (by decide)
    | 1, h => exact absurd h (by decide)
    | 2, h => exact absurd h (by decide)
    | i + 3, h => exact absurd h (by simp)) (fun a ha => by
    simp only [List.mem_cons, List.not_mem_nil, or_false] at ha
    rcases ha with rfl | rfl | rfl
    · assumption
    · assumption
    · exact decide_eq_true (Int.le_refl _))
  exact h
theorem ask_z {e : Int} {g : Bool} {r : I × Int} (h : (askI e g r).2 ≠ 0) : (askI e g r).1 = I.zero := by
  unfold askI at h ⊢
  cases h1 : !(e == 0)
  · rw [h1, cond_false] at h
    have he : e = 0 := by simpa using h1
    cases g
    · rfl
    · rw [cond_true] at h
      cases h2 : !(r.2 == 0)
      · rw [h2, cond_false] at h
        exact absurd he h
      · rfl
  · rfl
theorem div_rt {e : Int} {a b : I} : rt (KkR.div e a b).1 = true := by
  by_cases h : (KkR.div e a b).2 = 0
  · exact (div_0 h).2.2.2.2.2.rt
  · have h' : (cDiv pDiv e a b).2 ≠ 0 := h
    show rt (cDiv pDiv e a b).1 = true
    unfold cDiv at h' ⊢
    rw [ask_z h']; decide
theorem onB_in {e : Int} {s t : I} : InB (onB KkR e s t).1 bz1 := kept_in1 div_rt
theorem onN_in {e : Int} {s t : I} : InB (onN KkR e s t).1 bz1 := kept_in1 div_rt
theorem inb_rt {a b : I} (h : InB a b) : rt a = true := decide_eq_true h.2.2
end Bu
namespace Go.Proofs.YthclipfgcgoofaaGreat
set_option linter.all false
open Go.RowKit Bu Rx
structure EndP (cs : List SV) (len : Nat) (r : Pst × Bool) : Prop where
  er : Er r.1.er
  a : r.1.a < len
  g : r.2 = true → r.1.er = 0 ∧ (ndR cs (r.1.a * 19)).k = 6
  l : r.2 = false → r.1.er = 0 → (ndR cs (r.1.a * 19)).k ≠ 5 ∧ (ndR cs (r.1.a * 19)).k ≠ 6
theorem path_end {D : I → I → I × Int} {c : I} {cs : List SV} {len : Nat} (K : OkPg cs len) (hD : ∀ i, i < len → (ndR cs (i * 19)).k = 6 → rt (D c (pt ((ndR cs (i * 19)).f 14))).1 = true) :
    ∀ (n : Nat) (p : Pst), p.a < n → p.a < len → Er p.er → rt p.s = true → EndP cs len (pathF KkR D c cs n p)
  | 0, p, h, _, _, _ => absurd h (by omega)
  | n + 1, p, hn, hl, he, hs => by
    have hnd := K.nd p.a hl
    have hd := hD p.a hl
    unfold pathF
    by_cases h0 : p.er = 0
    · rw [decide_eq_true h0, cond_true]
      by_cases h5 : (ndR cs (p.a * 19)).k = 5
      · obtain ⟨⟨a0, a1⟩, b0, b1⟩ := okNd_mix hnd h5
        rw [decide_eq_true h5, cond_true, h0]
        cases decide (p.s.hi.k < ((ndR cs (p.a * 19)).f 15).k)
        · rw [cond_false]
          cases decide (p.s.lo.k < ((ndR cs (p.a * 19)).f 15).k)
          · exact path_end K hD n _ (by show (ndR cs (p.a * 19)).a.toNat < n; omega) (by show (ndR cs (p.a * 19)).a.toNat < len; omega) (onN_er hs (decide_eq_true (Int.le_refl _))) (inb_rt onN_in)
          · exact path_end K hD n _ (by show (ndR cs (p.a * 19)).b.toNat < n; omega) (by show (ndR cs (p.a * 19)).b.toNat < len; omega) (onB_er hs (decide_eq_true (Int.le_refl _))) (inb_rt onB_in)
        · exact path_end K hD n _ (by show (ndR cs (p.a * 19)).b.toNat < n; omega) (by show (ndR cs (p.a * 19)).b.toNat < len; omega) (onB_er hs (decide_eq_true (Int.le_refl _))) (inb_rt onB_in)
      · rw [decide_eq_false h5, cond_false]
        by_cases h6 : (ndR cs (p.a * 19)).k = 6
        · obtain ⟨a0, a1⟩ := okNd_coat hnd h6
          rw [decide_eq_true h6, cond_true]
          cases decide (p.s.hi.k < (D c (pt ((ndR cs (p.a * 19)).f 14))).1.lo.k)
          · rw [cond_false]
            cases decide (p.s.lo.k < (D c (pt ((ndR cs (p.a * 19)).f 14))).1.hi.k)
            · rw [cond_false, h0]
              exact path_end K hD n _ (by show (ndR cs (p.a * 19)).a.toNat < n; omega) (by show (ndR cs (p.a * 19)).a.toNat < len; omega) (onN_er hs (hd h6)) (inb_rt onN_in)
            · exact ⟨he, hl, fun _ => ⟨h0, h6⟩, (fun h => by cases h)⟩
          · exact ⟨he, hl, fun _ => ⟨h0, h6⟩, (fun h => by cases h)⟩
        · rw [decide_eq_false h6, cond_false]
          exact ⟨he, hl, (fun h => by cases h), fun _ _ => ⟨h5, h6⟩⟩
    · rw [decide_eq_false h0, cond_false]
      exact ⟨he, hl, (fun h => by cases h), fun _ h => absurd h h0⟩
theorem fdD_ok {c : I} (hc : InB c bz1) {cs : List SV} {len : Nat} (K : OkPg cs len) : paB PaN.D PaN.dO c cs len = true ∧ ∀ i, i < len → (ndR cs (i * 19)).k = 6 → rt (PaN.D c (pt ((ndR cs (i * 19)).f 14))).1 = true := by
  constructor
  · refine List.all_eq_true.2 fun i hi => ?_
    have hi' := List.mem_range.1 hi
    by_cases h6 : (ndR cs (i * 19)).k = 6
    · obtain ⟨c1, _⟩ := okNd_coatf (K.nd i hi') h6
      obtain ⟨o, o1, o2⟩ := fd_all hc (bn_of c1)
      have e1 : PaN.D c (pt ((ndR cs (i * 19)).f 14)) = (o, 0) := o1
      have e2 : Bu.obsB (PaN.dO c (pt ((ndR cs (i * 19)).f 14))) = true := obsB_of (fd_o hc c1)
      rw [decide_eq_true h6, cond_true, e1, e2]; rfl
    · rw [decide_eq_false h6]; rfl
  · intro i hi h6
    obtain ⟨c1, _⟩ := okNd_coatf (K.nd i hi) h6
    obtain ⟨o, o1, o2⟩ := fd_all hc (bn_of c1)
    have e1 : PaN.D c (pt ((ndR cs (i * 19)).f 14)) = (o, 0) := o1
    rw [e1]; exact o2.rt
def u64P (n : Int) : Prop := 0 ≤ n ∧ n ≤ 18446744073709551615
theorem cosO_ok {c : I} (h : InB c bz1) : ObsOk (cosO c) := by
  have a := h.2.1
  have b := h.1
  have e1 : one64.k = bz1.hi.k := rfl
  have e2 : z64.k = bz1.lo.k := rfl
  exact ob_c (decide_eq_false (by omega)) (ob_c (decide_eq_false (by omega)) (ob_c (inb_rt h) ob_n))
theorem pt_end {c : I} (hc : InB c bz1) {cs : List SV} {len : Nat} (K : OkPg cs len) {u : Int} (hu : u64P u) : EndP cs len (paW PaN c u cs len) := by
  have h1 := K.lo
  exact path_end K (fdD_ok hc K).2 len _ (by show len - 1 < len; omega) (by show len - 1 < len; omega) (.inl rfl) (rt_q (unI_U u hu.1 hu.2).rt)
end Go.Proofs.YthclipfgcgoofaaGreat
namespace Bu
set_option linter.all false
open Rx Go
theorem cond_rt : ∀ {l : List Bu.Op} {v u : List I}, (∀ a ∈ v, rt a = true) → CondE l v → Chain l v u → ∀ a ∈ u, rt a = true
  | [], v, u, hv, _, hc => by
    have e : u = v := hc
    subst e; exact hv
  | o :: l, v, u, hv, hc, hh => by
    obtain ⟨r, hr, hu⟩ := hh
    have h1 := fact_rt hv hc.1 hr
    exact cond_rt (fun a ha => by
      rcases List.mem_cons.1 ha with rfl | ha
      · exact h1
      · exact hv a ha) (hc.2 r hr h1) hu
theorem keptIn_ {a : I} {l h : F} (hr : rt a = true) (hl : mone64.k ≤ l.k) (hh : h.k ≤ one64.k) (lh : l.k ≤ h.k) : In1 (keptI a l h) := by
  obtain ⟨e1, e2⟩ := keptI_k a l h
  have h1 := of_decide_eq_true hr
  refine ⟨?_, ?_, ?_⟩
  · rw [e1]; omega
  · rw [e2]; omega
  · rw [e1, e2]; omega
theorem oz_k : mone64.k ≤ z64.k ∧ z64.k ≤ one64.k ∧ mone64.k ≤ one64.k := by decide +kernel
theorem line_kept {l : List Bu.Op} {s : List Bool} {v : List I} (hc : chk l s = true) (hf : Flags s v) (hv : ∀ a ∈ v, rt a = true) (h : (evalK KkR l v 0).2 = 0) {p j : Nat} {lo hi : F} (hp : l.reverse[p]? = some (.kept lo hi j)) (hl : mone64.k ≤ lo.k) (hh : hi.k ≤ one64.k) (lh : lo.k ≤ hi.k) :
    In1 (gt (evalK KkR l v 0).1 p) ∧ lo.k ≤ (gt (evalK KkR l v 0).1 p).lo.k := by
  have hr := cond_rt hv (chk_cond hc hf hv) (eval_chain h).2
  have hR := eval_chainR h
  generalize (evalK KkR l v 0).1 = u at hr hR ⊢
  obtain ⟨f, _⟩ := chain_at hR hp
  have e : gt u p = keptI (gt (u.drop (p + 1)) j) lo hi := f
  rw [e]
  have r := gt_rt (fun a ha => hr a (List.mem_of_mem_drop ha)) (v := u.drop (p + 1)) j
  refine ⟨keptIn_ r hl hh lh, ?_⟩
  obtain ⟨e1, _⟩ := keptI_k (gt (u.drop (p + 1)) j) lo hi
  rw [e1]; omega
def drFl_ : List Bool := [true, false, false, true, true, false, false]
theorem dr_chk_ : chk drP1 drFl_ = true ∧ chk drTa drFl_ = true ∧ chk drTb drFl_ = true ∧ chk drA drFl_ = true ∧ chk drB drFl_ = true := by decide +kernel
theorem re_chk : chk reP [false, false, false, false, false, false] = true := by decide +kernel
structure AlQ (al : I) : Prop where
  lo : minA.k ≤ al.lo.k
  rt : rt al = true
  hi : al.hi.k ≤ one64.k
theorem no_flags {v : List I} : Flags [false, false, false, false, false, false] v := fun i hi => by
  match i, hi with
  | 0, h => exact absurd h (by decide)
  | 1, h => exact absurd h (by decide)
  | 2, h => exact absurd h (by decide)
  | 3, h => exact absurd h (by decide)
  | 4, h => exact absurd h (by decide)
  | 5, h => exact absurd h (by decide)
  | i + 6, h => exact absurd h (by simp)
def V3rt (v : V3) : Prop := rt v.x = true ∧ rt v.y = true ∧ rt v.z = true
structure V3in (v : V3) : Prop where
  x : In1 v.x
  y : In1 v.y
  z : In1 v.z
theorem V3in.rt {v : V3} (h : V3in v) : V3rt v := ⟨irt h.x, irt h.y, irt h.z⟩
theorem DirP.i {v : V3} (h : DirP v) : V3in v := ⟨h.x, h.y, h.zi⟩
theorem re_cases (K : Kk) (v w : V3) {P : V3 → Prop} (hE : Er (reE K v w).2) (hP : (reE K v w).2 = 0 → P ⟨gt (reE K v w).1 2, gt (reE K v w).1 1, gt (reE K v w).1 0⟩) : Er (reR K v w).2 ∧ ((reR K v w).2 = 0 → P (reR K v w).1) := by
  unfold reR
  cases h : neB (reE K v w).2
  · rw [cond_false]
    exact ⟨.inl rfl, fun _ => hP (by unfold neB at h; simpa using h)⟩
  · rw [cond_true]
    refine ⟨hE, fun h0 => ?_⟩
    simp only at h0
    rw [h0] at h; cases h
theorem re_ok {v w : V3} (hv : V3in v) (hw : V3in w) : Er (reR KkR v w).2 ∧ ((reR KkR v w).2 = 0 → V3in (reR KkR v w).1) := by
  have r : ∀ a ∈ [w.z, w.y, w.x, v.z, v.y, v.x], rt a = true := fun a ha => by
    simp only [List.mem_cons, List.not_mem_nil, or_false] at ha
    rcases ha with rfl | rfl | rfl | rfl | rfl | rfl
    · exact irt hw.z
    · exact irt hw.y
    · exact irt hw.x
    · exact irt hv.z
    · exact irt hv.y
    · exact irt hv.x
  obtain ⟨a, b, c⟩ := oz_k
  refine re_cases KkR v w (P := V3in) (eval_er' re_chk no_flags r) fun h0 => ?_
  refine ⟨?_, ?_, ?_⟩
  · show In1 (gt (evalK KkR reP [w.z, w.y, w.x, v.z, v.y, v.x] 0).1 2)
    exact (line_kept re_chk no_flags r h0 (p := 2) (j := 2) rfl (Int.le_refl _) (Int.le_refl _) c).1
  · show In1 (gt (evalK KkR reP [w.z, w.y, w.x, v.z, v.y, v.x] 0).1 1)
    exact (line_kept re_chk no_flags r h0 (p := 1) (j := 2) rfl (Int.le_refl _) (Int.le_refl _) c).1
  · show In1 (gt (evalK KkR reP [w.z, w.y, w.x, v.z, v.y, v.x] 0).1 0)
    exact (line_kept re_chk no_flags r h0 (p := 0) (j := 2) rfl (Int.le_refl _) (Int.le_refl _) c).1
theorem dr_env {v : V3} {al : I} {d e : Int} (hv : DirP v) (ha : AlQ al) (hd : 0 ≤ d ∧ d ≤ 18446744073709551615) : (∀ a ∈ drEnv (KqR atR) v al d e, rt a = true) ∧ Flags drFl_ (drEnv (KqR atR) v al d e) := by
  have hu := unI_U d hd.1 hd.2
  have c := cosM_in (unI e).lo (unI e).hi
  have s := sinM_in (unI e).lo (unI e).hi
  constructor
  · intro a h
    simp only [drEnv, List.mem_cons, List.not_mem_nil, or_false] at h
    rcases h with rfl | rfl | rfl | rfl | rfl | rfl | rfl
    · exact rt_q hu.rt
    · exact irt c
    · exact irt s
    · exact ha.rt
    · exact irt hv.zi
    · exact irt hv.y
    · exact irt hv.x
  · intro i hi
    match i, hi with
    | 0, _ => exact hu.lo
    | 1, h => exact absurd h (by decide)
    | 2, h => exact absurd h (by decide)
    | 3, _ =>
      have h1 := q_le.2 ha.lo
      have h2 : 0 ≤ minA.q := by have : minA.q * 32 = 1 := q_of' (n := 1) (s := 5) (by decide +kernel) rfl; grind
      exact Rat.le_trans h2 h1
    | 4, _ =>
      have h1 := q_le.2 hv.z.1
      have h2 : z64.q = 0 := zero0_q
      show 0 ≤ v.z.lo.q
      have h3 : z64.q ≤ v.z.lo.q := h1
      rw [h2] at h3; exact h3
    | 5, h => exact absurd h (by decide)
    | 6, h => exact absurd h (by decide)
    | i + 7, h => exact absurd h (by simp [drFl_])
theorem drX_c {K : Kk} {p1 p2 : List Bu.Op} {v : List I} {P : V3 → Prop} (h1 : Er (evalK K p1 v 0).2) (h2 : Er (evalK K p2 v 0).2) (hP : (evalK K p2 v 0).2 = 0 → P (drV K p2 v)) : Er (drX K p1 p2 v).2 ∧ ((drX K p1 p2 v).2 = 0 → P (drX K p1 p2 v).1) := by
  unfold drX
  cases e1 : neB (evalK K p1 v 0).2
  · rw [cond_false]
    cases e2 : neB (evalK K p2 v 0).2
    · rw [cond_false]
      exact ⟨.inl rfl, fun _ => hP (by unfold neB at e2; simpa using e2)⟩
    · rw [cond_true]
      refine ⟨h2, fun h0 => ?_⟩
      simp only at h0
      rw [h0] at e2; cases e2
  · rw [cond_true]
    refine ⟨h1, fun h0 => ?_⟩
    simp only at h0
    rw [h0] at e1; cases e1
theorem drR_c {K : Kk} {v : List I} {P : V3 → Prop} (h1 : Er (evalK K drP1 v 0).2) (h2 : Er (evalK K drTa v 0).2) (h3 : Er (evalK K drTb v 0).2) (h4 : Er (evalK K drA v 0).2) (h5 : Er (evalK K drB v 0).2)
    (hA : (evalK K drA v 0).2 = 0 → P (drV K drA v)) (hB : (evalK K drB v 0).2 = 0 → P (drV K drB v)) : Er (drR K v).2 ∧ ((drR K v).2 = 0 → P (drR K v).1) := by
  unfold drR
  cases decide ((drQ K v).hi.k = z64.k)
  · cases decide (z64.k < (drQ K v).lo.k)
    · rw [cond_false, cond_false]
      unfold drN
      cases e1 : neB (evalK K drP1 v 0).2
      · rw [cond_false]
        exact ⟨.inr (.inr rfl), fun h0 => by simp only at h0; exact absurd h0 (by decide)⟩
      · rw [cond_true]
        refine ⟨h1, fun h0 => ?_⟩
        simp only at h0
        rw [h0] at e1; cases e1
    · rw [cond_false, cond_true]
      exact drX_c h3 h5 hB
  · rw [cond_true]
    exact drX_c h2 h4 hA
theorem vd_ok {v : V3} {al : I} {d e : Int} (hv : DirP v) (ha : AlQ al) (hd : 0 ≤ d ∧ d ≤ 18446744073709551615) : Er (drR KkR (drEnv (KqR atR) v al d e)).2 ∧ ((drR KkR (drEnv (KqR atR) v al d e)).2 = 0 → DirP (drR KkR (drEnv (KqR atR) v al d e)).1) := by
  obtain ⟨r, f⟩ := dr_env (e := e) hv ha hd
  obtain ⟨c1, c2, c3, c4, c5⟩ := dr_chk_
  obtain ⟨a, b, c⟩ := oz_k
  generalize drEnv (KqR atR) v al d e = w at r f ⊢
  refine drR_c (P := DirP) (eval_er' c1 f r) (eval_er' c2 f r) (eval_er' c3 f r) (eval_er' c4 f r) (eval_er' c5 f r) (fun h0 => ?_) (fun h0 => ?_)
  · obtain ⟨z1, z2⟩ := line_kept c4 f r h0 (p := 0) (j := 2) rfl a (Int.le_refl _) b
    refine ⟨?_, ?_, ⟨z2, z1.hi, z1.rt⟩⟩
    · show In1 (gt (evalK KkR drA w 0).1 2)
      exact (line_kept c4 f r h0 (p := 2) (j := 2) rfl (Int.le_refl _) (Int.le_refl _) c).1
    · show In1 (gt (evalK KkR drA w 0).1 1)
      exact (line_kept c4 f r h0 (p := 1) (j := 2) rfl (Int.le_refl _) (Int.le_refl _) c).1
  · obtain ⟨z1, z2⟩ := line_kept c5 f r h0 (p := 0) (j := 2) rfl a (Int.le_refl _) b
    refine ⟨?_, ?_, ⟨z2, z1.hi, z1.rt⟩⟩
    · show In1 (gt (evalK KkR drB w 0).1 2)
      exact (line_kept c5 f r h0 (p := 2) (j := 2) rfl (Int.le_refl _) (Int.le_refl _) c).1
    · show In1 (gt (evalK KkR drB w 0).1 1)
      exact (line_kept c5 f r h0 (p := 1) (j := 2) rfl (Int.le_refl _) (Int.le_refl _) c).1
end Bu
namespace Go.Proofs.YthclipfgcgoofaaGreat
set_option linter.all false
open Go.RowKit Bu Rx
theorem cos_rt {u1 u2 : Int} (h : u64P u1) : V3rt (dwCos DwN u1 u2) := by
  obtain ⟨D, hD⟩ := draw_ok (b := u2) h.1 h.2
  refine ⟨?_, ?_, ?_⟩
  · show rt (keptI (dX (KqR atR) u1 u2).1 mone64 one64) = true
    rw [hD.ex]; exact keptI_rt hD.mx.rt
  · show rt (keptI (dY (KqR atR) u1 u2).1 mone64 one64) = true
    rw [hD.ey]; exact keptI_rt hD.my.rt
  · show rt (keptI (dZ (KqR atR) u1 u2).1 (toF 0) one64) = true
    rw [hD.ez]; exact keptI_rt (rt_q hD.zu.rt)
theorem leaf_al {nd : Nd} {p : Int} (h : okNd nd p = true) (h5 : nd.k ≠ 5) (h6 : nd.k ≠ 6) (h1 : nd.k ≠ 1) (h2 : nd.k ≠ 2) : AlQ (pt (nd.f 13)) := by
  have o := nd_leaf h h5 h6
  have r : Rn minA one64 (nd.f 13) := by
    rcases rt_kind o with e | e | e | e
    · exact absurd e h1
    · exact absurd e h2
    · rw [e] at o; exact (rt3_in o).1
    · rw [e] at o; exact (rt4_in o (c := 0) (by decide)).1
  exact ⟨r.1, decide_eq_true (Int.le_refl _), r.2⟩
theorem in1O_ok {a : I} (h : In1 a) : ObsOk (in1O a) := ob_c (decide_eq_true h.hi) (ob_c (decide_eq_true h.lo) (ob_c (irt h) ob_n))
theorem reO_ok {v w : V3} (hv : V3in v) (hw : V3in w) : ObsOk (reO v w) := ob_a (in1O_ok hw.z) (ob_a (in1O_ok hw.y) (ob_a (in1O_ok hw.x) (ob_a (in1O_ok hv.z) (ob_a (in1O_ok hv.y) (in1O_ok hv.x)))))
theorem dirQ {v : V3} (h : DirP v) : ObsOk (dirO v) := by
  have z1 : z64.k ≤ v.z.lo.k := h.z.1
  have z2 : v.z.hi.k ≤ one64.k := h.z.2.1
  exact ob_c (decide_eq_true z2) (ob_c (decide_eq_true z1) (ob_c (decide_eq_true h.y.hi) (ob_c (decide_eq_true h.y.lo) (ob_c (decide_eq_true h.x.hi) (ob_c (decide_eq_true h.x.lo) (ob_c (inb_rt h.z) (ob_c (irt h.y) (ob_c (irt h.x) ob_n))))))))
theorem uP {u : Int} (h : u64P u) : decide (0 ≤ u ∧ u ≤ 18446744073709551615) = true := decide_eq_true h
theorem bx_ok {nd : Nd} {p : Int} (hnd : okNd nd p = true) (h5 : nd.k ≠ 5) (h6 : nd.k ≠ 6) {v : V3} (hv : DirP v) {u1 u2 : Int} (k1 : u64P u1) (k2 : u64P u2) :
    ObsOk (bxO DwN nd v u1 u2) ∧ Er (bxF DwN nd v u1 u2).2 ∧ ((bxF DwN nd v u1 u2).2 = 0 → V3rt (bxF DwN nd v u1 u2).1) := by
  unfold bxO bxF
  by_cases e : nd.k = 1 ∨ nd.k = 2
  · have ee : (decide (nd.k = 1) || decide (nd.k = 2)) = true := by rcases e with e | e <;> rw [decide_eq_true e] <;> simp
    rw [ee, cond_true, cond_true]
    exact ⟨ob_c (uP k1) (ob_c (uP k2) ob_n), .inl rfl, fun _ => cos_rt k1⟩
  · have ee : (decide (nd.k = 1) || decide (nd.k = 2)) = false := by rw [decide_eq_false (fun h => e (.inl h)), decide_eq_false (fun h => e (.inr h))]; rfl
    rw [ee, cond_false, cond_false]
    have al := leaf_al hnd h5 h6 (fun h => e (.inl h)) (fun h => e (.inr h))
    have hO : ObsOk (DwN.vo v (pt (nd.f 13)) u1 u2 ++ [(decide ((nd.f 13).k ≤ one64.k), true)]) := by
      have a1 : (nd.f 13).k ≤ one64.k := al.hi
      have a2 : minA.k ≤ (nd.f 13).k := al.lo
      refine ob_a ?_ (ob_c (decide_eq_true a1) ob_n)
      exact ob_a (ob_a (ob_c (uP k1) (ob_c (unI_in u2 k2.1 k2.2) (ob_c (uP k2) ob_n))) (dirQ hv)) (ob_c (decide_eq_true a1) (ob_c (decide_eq_true a2) (ob_c al.rt ob_n)))
    have hd := vd_ok (e := u2) hv al k1
    have hd' : Er (dwN DwN v (nd.f 13) u1 u2).2 ∧ ((dwN DwN v (nd.f 13) u1 u2).2 = 0 → DirP (dwN DwN v (nd.f 13) u1 u2).1) := hd
    clear hd
    generalize dwN DwN v (nd.f 13) u1 u2 = n at hd' ⊢
    obtain ⟨d1, d2⟩ := hd'
    by_cases g : n.2 = 0
    · rw [decide_eq_true g, cond_true, cond_true]
      have r := re_ok hv.i (d2 g).i
      have r' : Er (DwN.re v n.1).2 ∧ ((DwN.re v n.1).2 = 0 → V3in (DwN.re v n.1).1) := r
      exact ⟨ob_a hO (reO_ok hv.i (d2 g).i), r'.1, fun h => (r'.2 h).rt⟩
    · rw [decide_eq_false g, cond_false, cond_false]
      exact ⟨ob_a hO ob_n, d1, fun h => absurd h g⟩
theorem rt3_ok {b : V3} (h : V3rt b) : dwMp DwN b = true := by
  show rt3 b.x.lo b.x.hi b.y.lo b.y.hi b.z.lo b.z.hi = true
  have h1 : rt ⟨b.x.lo, b.x.hi⟩ = true := h.1
  have h2 : rt ⟨b.y.lo, b.y.hi⟩ = true := h.2.1
  have h3 : rt ⟨b.z.lo, b.z.hi⟩ = true := h.2.2
  unfold rt3; rw [h1, h2, h3]; rfl
def InK (a : I) (y : F) : Prop := a.lo.k ≤ y.k ∧ y.k ≤ a.hi.k
theorem mid_in_ {a : I} (h : rt a = true) : InK a (midI a.lo a.hi) := by
  obtain ⟨_, _, _, h1, h2⟩ := mid_no (a := a.lo) (b := a.hi) h
  exact ⟨q_le.1 h1, q_le.1 h2⟩
theorem mid3 {b : V3} (h : V3rt b) : InK b.x (dwMid DwN b).1 ∧ InK b.y (dwMid DwN b).2.1 ∧ InK b.z (dwMid DwN b).2.2 := ⟨mid_in_ h.1, mid_in_ h.2.1, mid_in_ h.2.2⟩
structure DwP_ (cs : List SV) (len : Nat) (x y z : F) (u0 : Int) (r : DwR) : Prop where
  er : Er r.e
  no : r.e ≠ 0 → r = dwZ r.e
  a : r.e = 0 → 0 ≤ r.a ∧ r.a < len ∧ r.a = (dwP DwN cs len x y z u0).a ∧ r.s = (dwP DwN cs len x y z u0).s
  m : r.e = 0 → (dwP DwN cs len x y z u0).g = true → r = ⟨1, (x.neg, y.neg, z), dwMir DwN x y z, (dwP DwN cs len x y z u0).a, (dwP DwN cs len x y z u0).s, 0⟩ ∧ (ndR cs (r.a.toNat * 19)).k = 6
  l : r.e = 0 → (dwP DwN cs len x y z u0).g = false → (ndR cs (r.a.toNat * 19)).k ≠ 5 ∧ (ndR cs (r.a.toNat * 19)).k ≠ 6 ∧ ((r.k = 0 ∧ r.p = z3 ∧ r.b = zV) ∨ (r.k = 2 ∧ unB r.p.1 r.p.2.1 r.p.2.2 = true ∧ z64.k < r.p.2.2.k ∧ InK r.b.x r.p.1 ∧ InK r.b.y r.p.2.1 ∧ InK r.b.z r.p.2.2))
theorem pa_res {cs : List SV} {len : Nat} {r : Pst × Bool} (h : EndP cs len r) : Er (paRes r).e ∧ ((paRes r).e ≠ 0 → (paRes r).g = false) ∧ ((paRes r).e = 0 → 0 ≤ (paRes r).a ∧ (paRes r).a < len ∧ ((paRes r).g = true → (ndR cs ((paRes r).a.toNat * 19)).k = 6) ∧ ((paRes r).g = false → (ndR cs ((paRes r).a.toNat * 19)).k ≠ 5 ∧ (ndR cs ((paRes r).a.toNat * 19)).k ≠ 6)) := by
  unfold paRes
  by_cases he : r.1.er = 0
  · rw [decide_eq_true he, cond_true]
    have ha := h.a
    exact ⟨.inl rfl, fun h => absurd rfl h, fun _ => ⟨by show (0 : Int) ≤ (r.1.a : Int); omega, by show (r.1.a : Int) < len; omega, fun g => (h.g g).2, fun g => h.l g he⟩⟩
  · rw [decide_eq_false he, cond_false]
    exact ⟨h.er, fun _ => rfl, fun h => absurd h he⟩
theorem dw_ok {cs : List SV} {len : Nat} (hl : cs.length = len * 19) (hok : okPg cs len = true) {x y z : F} (hB : unB x y z = true) (hz : z64.k < z.k) (hv : DirP (unV KkR x y z)) {u0 u1 u2 : Int} (k0 : u64P u0) (k1 : u64P u1) (k2 : u64P u2) :
    ObsOk (dwOb DwN cs len x y z u0 u1 u2) ∧ DwP_ cs len x y z u0 (dwF DwN cs len x y z u0 u1 u2) := by
  have K := okPg_ok hok
  have hb : DwN.ub x y z = true := hB
  have gz : ¬ z.k ≤ z64.k := by omega
  have E := pa_res (pt_end hv.z K k0)
  have EP : dwP DwN cs len x y z u0 = paRes (paW PaN (unV KkR x y z).z u0 cs len) := rfl
  rw [← EP] at E
  clear EP
  have hbx : ∀ {nd : Nd} {p : Int}, okNd nd p = true → nd.k ≠ 5 → nd.k ≠ 6 → ObsOk (bxO DwN nd (DwN.un x y z) u1 u2) ∧ Er (bxF DwN nd (DwN.un x y z) u1 u2).2 ∧ ((bxF DwN nd (DwN.un x y z) u1 u2).2 = 0 → V3rt (bxF DwN nd (DwN.un x y z) u1 u2).1) := fun a b c => bx_ok a b c hv k1 k2
  unfold dwOb dwF
  rw [hb, cond_true, cond_true, decide_eq_false gz, cond_false, cond_false]
  obtain ⟨e1, e2, e3⟩ := E
  have hpre : ∀ {o : Obs}, ObsOk o → ObsOk ((decide (cs.length = len * 19), true) :: (DwN.T.o cs len, true) :: (DwN.T.b (DwN.un x y z).z cs len, true) :: (DwN.T.u u0, true) :: (cosO (DwN.un x y z).z ++ o)) := fun ho => ob_c (decide_eq_true hl) (ob_c hok (ob_c (fdD_ok hv.z K).1 (ob_c (uP k0) (ob_a (cosO_ok hv.z) ho))))
  generalize hP : dwP DwN cs len x y z u0 = P at e1 e2 e3 ⊢
  by_cases ge : P.e = 0
  · obtain ⟨a0, a1, ag, al⟩ := e3 ge
    rw [decide_eq_true ge, cond_true, cond_true]
    cases gg : P.g
    · rw [cond_false, cond_false]
      obtain ⟨l5, l6⟩ := al gg
      have hnd := K.nd P.a.toNat (by omega)
      obtain ⟨o1, o2, o3⟩ := hbx hnd l5 l6
      generalize bxF DwN (ndR cs (P.a.toNat * 19)) (DwN.un x y z) u1 u2 = b at o2 o3 ⊢
      by_cases gb : b.2 = 0
      · rw [decide_eq_true gb, cond_true, cond_true]
        refine ⟨hpre (ob_c (decide_eq_true ⟨a0, a1⟩) (ob_a o1 (ob_c (rt3_ok (o3 gb)) ob_n))), ?_⟩
        obtain ⟨m1, m2, m3⟩ := mid3 (o3 gb)
        unfold dwLf
        cases gw : DwN.ub (dwMid DwN b.1).1 (dwMid DwN b.1).2.1 (dwMid DwN b.1).2.2 && !decide ((dwMid DwN b.1).2.2.k ≤ z64.k)
        · rw [cond_false]
          exact ⟨.inl rfl, fun h => absurd rfl h, fun _ => ⟨a0, a1, by rw [hP], by rw [hP]⟩, (fun _ h => by rw [hP, gg] at h; cases h), fun _ _ => ⟨l5, l6, .inl ⟨rfl, rfl, rfl⟩⟩⟩
        · rw [cond_true]
          rw [Bool.and_eq_true] at gw
          obtain ⟨w1, w2⟩ := gw
          have w3 : ¬ (dwMid DwN b.1).2.2.k ≤ z64.k := by simpa using w2
          exact ⟨.inl rfl, fun h => absurd rfl h, fun _ => ⟨a0, a1, by rw [hP], by rw [hP]⟩, (fun _ h => by rw [hP, gg] at h; cases h), fun _ _ => ⟨l5, l6, .inr ⟨rfl, w1, by show z64.k < (dwMid DwN b.1).2.2.k; omega, m1, m2, m3⟩⟩⟩
      · rw [decide_eq_false gb, cond_false, cond_false]
        exact ⟨hpre (ob_c (decide_eq_true ⟨a0, a1⟩) (ob_a o1 ob_n)), ⟨o2, fun _ => rfl, fun h => absurd h gb, fun h => absurd h gb, fun h => absurd h gb⟩⟩
    · rw [cond_true, cond_true]
      exact ⟨hpre ob_n, ⟨.inl rfl, fun h => absurd rfl h, fun _ => ⟨a0, a1, by rw [hP], by rw [hP]⟩, fun _ _ => ⟨by rw [hP], ag gg⟩, (fun _ h => by rw [hP, gg] at h; cases h)⟩⟩
  · rw [decide_eq_false ge, cond_false, cond_false]
    exact ⟨hpre (ob_c (e2 ge) ob_n), ⟨e1, fun _ => rfl, fun h => absurd h ge, fun h => absurd h ge, fun h => absurd h ge⟩⟩
end Go.Proofs.YthclipfgcgoofaaGreat
namespace Bu
set_option linter.all false
open Rx Go
end Bu
namespace Go.Proofs.YthclipfgcgoofaaGreat
set_option linter.all false
open Go.RowKit Bu Rx
def DvOk (W : Ndv) (pc : List SV) (n : Nat) (q : D8) : Prop := ∃ o : O4, ObsOk (dvOb W pc n q .t o []) ∨ ∃ (m : M4) (v : Bool), m ≠ .t ∧ ObsOk (dvOb W pc n q m o (i2O (dvI W pc n q) v))
theorem dv_run {W : Ndv} (hO : OracleOk Tryz.prog (ODv W)) {pc : List SV} {n : Nat} {q : D8} {x : Nat → SV} {B : Bs} (K : DvOk W pc n q) :
    RunsB Tryz.prog B (post 2 dvC) (dvS pc n q x none) .ret (fun t => resultS Tryz.prog Tryz.f3 t = some (.b true)) := by
  have fin : ∀ {d : List Bool} {ob : Obs}, Lands Tryz.prog EG (ODv W) 60 (post 2 dvC) (dvS pc n q x (some d)) .ret → (dvR W pc n q x d).ob = ob → resultS Tryz.prog Tryz.f3 (dvR W pc n q x d) = some (.b true) → ObsOk ob → RunsB Tryz.prog B (post 2 dvC) (dvS pc n q x none) .ret (fun t => resultS Tryz.prog Tryz.f3 t = some (.b true)) := fun {d ob} hL hb hv ho =>
    RunsB.re (d := some d) (o := []) (RunsP.bs (Lands.all goodG hO hL (hb ▸ ho) hv))
  obtain ⟨o, ho | ⟨m, v, hm, ho⟩⟩ := K
  · cases o
    · exact fin (dvL_tu W pc n q x) (dvO_tu W pc n q x) (dvV_tu W pc n q x) ho
    · exact fin (dvL_tz W pc n q x) (dvO_tz W pc n q x) (dvV_tz W pc n q x) ho
    · exact fin (dvL_td W pc n q x) (dvO_td W pc n q x) (dvV_td W pc n q x) ho
    · exact fin (dvL_tf W pc n q x) (dvO_tf W pc n q x) (dvV_tf W pc n q x) ho
  · cases m
    · exact absurd rfl hm
    · cases v
      · cases o
        · exact fin (dvL_au_f W pc n q x) (dvO_au_f W pc n q x) (dvV_au_f W pc n q x) ho
        · exact fin (dvL_az_f W pc n q x) (dvO_az_f W pc n q x) (dvV_az_f W pc n q x) ho
        · exact fin (dvL_ad_f W pc n q x) (dvO_ad_f W pc n q x) (dvV_ad_f W pc n q x) ho
        · exact fin (dvL_af_f W pc n q x) (dvO_af_f W pc n q x) (dvV_af_f W pc n q x) ho
      · cases o
        · exact fin (dvL_au_t W pc n q x) (dvO_au_t W pc n q x) (dvV_au_t W pc n q x) ho
        · exact fin (dvL_az_t W pc n q x) (dvO_az_t W pc n q x) (dvV_az_t W pc n q x) ho
        · exact fin (dvL_ad_t W pc n q x) (dvO_ad_t W pc n q x) (dvV_ad_t W pc n q x) ho
        · exact fin (dvL_af_t W pc n q x) (dvO_af_t W pc n q x) (dvV_af_t W pc n q x) ho
    · cases v
      · cases o
        · exact fin (dvL_bu_f W pc n q x) (dvO_bu_f W pc n q x) (dvV_bu_f W pc n q x) ho
        · exact fin (dvL_bz_f W pc n q x) (dvO_bz_f W pc n q x) (dvV_bz_f W pc n q x) ho
        · exact fin (dvL_bd_f W pc n q x) (dvO_bd_f W pc n q x) (dvV_bd_f W pc n q x) ho
        · exact fin (dvL_bf_f W pc n q x) (dvO_bf_f W pc n q x) (dvV_bf_f W pc n q x) ho
      · cases o
        · exact fin (dvL_bu_t W pc n q x) (dvO_bu_t W pc n q x) (dvV_bu_t W pc n q x) ho
        · exact fin (dvL_bz_t W pc n q x) (dvO_bz_t W pc n q x) (dvV_bz_t W pc n q x) ho
        · exact fin (dvL_bd_t W pc n q x) (dvO_bd_t W pc n q x) (dvV_bd_t W pc n q x) ho
        · exact fin (dvL_bf_t W pc n q x) (dvO_bf_t W pc n q x) (dvV_bf_t W pc n q x) ho
    · cases v
      · cases o
        · exact fin (dvL_cu_f W pc n q x) (dvO_cu_f W pc n q x) (dvV_cu_f W pc n q x) ho
        · exact fin (dvL_cz_f W pc n q x) (dvO_cz_f W pc n q x) (dvV_cz_f W pc n q x) ho
        · exact fin (dvL_cd_f W pc n q x) (dvO_cd_f W pc n q x) (dvV_cd_f W pc n q x) ho
        · exact fin (dvL_cf_f W pc n q x) (dvO_cf_f W pc n q x) (dvV_cf_f W pc n q x) ho
      · cases o
        · exact fin (dvL_cu_t W pc n q x) (dvO_cu_t W pc n q x) (dvV_cu_t W pc n q x) ho
        · exact fin (dvL_cz_t W pc n q x) (dvO_cz_t W pc n q x) (dvV_cz_t W pc n q x) ho
        · exact fin (dvL_cd_t W pc n q x) (dvO_cd_t W pc n q x) (dvV_cd_t W pc n q x) ho
        · exact fin (dvL_cf_t W pc n q x) (dvO_cf_t W pc n q x) (dvV_cf_t W pc n q x) ho
set_option maxRecDepth 20000 in
theorem dv_calls {W : Ndv} (hO : OracleOk Tryz.prog (ODv W)) {el : TypeId} {z : Nat × Nat} {cells : List SV} {off len cap : Nat} {q : D8} {m : Nms} {w : World} {vs : List Value} (hM : MemAt m w [⟨el, cells, .ro z⟩]) (hvs : dens m (.ssl 0 off len cap :: q.args) = some vs)
    (hc : len ≤ cap) (hb : W.b ((cells.drop off).take (len * 8)) len = true) (K : DvOk W (W.g ((cells.drop off).take (len * 8)) len) (prK len + 1) q) :
    Calls Tryz.prog 3 vs.toArray w fun e w' => e = .returned (.bool true) ∧ Below w.heap.size w w' := by
  refine RunsW.call (d := none) Tryz.func3 dvBody (x := .b true) rfl hvs hM ?_
  show RunsW Tryz.prog ⟨m, [⟨el, cells, .ro z⟩], w, hM⟩ dvC (dvA el z cells off len cap q) .ret _
  refine runW_ok goodG hO (dvLa W el z cells off len cap q) (by rw [dvOa]; exact ob_c (decide_eq_true hc) (ob_c hb ob_n)) ?_
  obtain ⟨rest, hr⟩ := dvRa W el z cells off len cap q
  refine RunsW.fresh (ids := [1, 2, 3, 4]) (fun b hb => by rw [List.mem_singleton] at hb; subst hb; rfl) hr rfl (dvMa W el z cells off len cap q) (fun j n hj => by
    have hl : j < 4 := (List.getElem?_eq_some_iff.1 hj).1
    rcases (by omega : j = 0 ∨ j = 1 ∨ j = 2 ∨ j = 3) with rfl | rfl | rfl | rfl <;> simp at hj <;> subst hj <;> simp) (fun b hb => by
      simp only [dvM, List.mem_cons, List.not_mem_nil, or_false] at hb
      rcases hb with rfl | rfl | rfl | rfl <;> rfl) fun B' v hB' => ?_
  have hs : SameSt (dvS (W.g ((cells.drop off).take (len * 8)) len) (prK len + 1) q (dvXa W el z cells off len cap q v) none) ((dvA2 W el z cells off len cap q).sel [1, 2, 3, 4] (dvM (W.g ((cells.drop off).take (len * 8)) len) q) v) := same_eq (dvTa W el z cells off len cap q v _).symm rfl
  exact RunsB.retell hs (dv_run hO (x := dvXa W el z cells off len cap q v) K)
set_option maxRecDepth 20000 in
theorem dv_nil {W : Ndv} (hO : OracleOk Tryz.prog (ODv W)) {q : D8} {w : World} {vs : List Value} (hvs : dens Nms.no (.o (.slice none 0 0) :: q.args) = some vs) (K : DvOk W (W.g [] 0) 1 q) :
    Calls Tryz.prog 3 vs.toArray w fun e w' => e = .returned (.bool true) ∧ Below w.heap.size w w' := by
  refine RunsW.call (d := none) Tryz.func3 dvBody (x := .b true) rfl hvs (MemAt.no w) ?_
  show RunsW Tryz.prog ⟨Nms.no, [], w, MemAt.no w⟩ dvC (dvZ q) .ret _
  refine runW_ok goodG hO (dvLz W q) (by rw [dvOz]; exact ob_n) ?_
  refine RunsW.fresh (rest := (dvZ2 W q).M) (ids := [0, 1, 2, 3]) (fun b hb => by cases hb) (List.nil_append _).symm rfl (dvMz W q) (fun j n hj => Nat.zero_le _) (fun b hb => by
      simp only [dvM, List.mem_cons, List.not_mem_nil, or_false] at hb
      rcases hb with rfl | rfl | rfl | rfl <;> rfl) fun B' v hB' => ?_
  have hs : SameSt (dvS (W.g [] 0) 1 q (dvXz W q v) none) ((dvZ2 W q).sel [0, 1, 2, 3] (dvM (W.g [] 0) q) v) := same_eq (dvTz W q v _).symm rfl
  exact RunsB.retell hs (dv_run hO (x := dvXz W q v) K)
noncomputable def DvN : Ndv := ⟨fun cs len => prgC NprR (prU cs len) (prK len), prInB NprR, uwV, uwE, WdR, WpR⟩
theorem oracleDv : OracleOk Tryz.prog (ODv DvN) := .cons (eiO_ok (prG oraclePr rk_p.2.2.1 rfl) (pzG oraclePr rfl)) (.cons unTG.of (.cons dwTOG (.cons ptTOG (.cons awake23G.of (.nil _)))))
structure D8.Ok (q : D8) : Prop where
  x : q.x < 18446744073709551616
  y : q.y < 18446744073709551616
  z : q.z < 18446744073709551616
  l : q.l < 18446744073709551616
  h : q.h < 18446744073709551616
  a : u64P q.a
  b : u64P q.b
  c : u64P q.c
theorem eqF__r (p : F × F × F) : eqF_ p p = true := by unfold eqF_; rw [decide_eq_true rfl, decide_eq_true rfl, decide_eq_true rfl]; rfl
theorem eqIv__r (a : I) : eqIv a a = true := by unfold eqIv; rw [decide_eq_true rfl, decide_eq_true rfl]; rfl
theorem eqV__r (v : V3) : eqV_ v v = true := by unfold eqV_; rw [eqIv__r, eqIv__r, eqIv__r]; rfl
theorem neDr_z (e : Int) : neDr (dwZ e) = false := by
  unfold neDr dwZ
  simp only [eqF__r, eqV__r]
  rfl
set_option maxRecDepth 20000 in
theorem dv_o {pc : List SV} {n : Nat} {q : D8} (hl : pc.length = n * 19) (hok : okPg pc n = true) (hq : q.Ok) :
    ObsOk (WdR.o pc n q.x q.y q.z q.a q.b q.c) ∧ ∃ o : O4, ObsOk (o4O (uwE q.x q.y q.z) (WdR.g pc n q.x q.y q.z q.a q.b q.c) o) ∧ ObsOk (o4E (uwE q.x q.y q.z) (WdR.g pc n q.x q.y q.z q.a q.b q.c) q.z o) := by
  have hg : WdR.g pc n q.x q.y q.z q.a q.b q.c = bif rt3W q.x q.y q.z then dwF DwN pc n (toF q.x) (toF q.y) (toF q.z) q.a q.b q.c else dwZ 50 := rfl
  have ho : WdR.o pc n q.x q.y q.z q.a q.b q.c = (decide (pc.length = n * 19), true) :: (okPg pc n, true) :: blw q.x :: blw q.y :: blw q.z :: (bif rt3W q.x q.y q.z then dwOb DwN pc n (toF q.x) (toF q.y) (toF q.z) q.a q.b q.c else []) := rfl
  have pre : ∀ {o : Obs}, ObsOk o → ObsOk ((decide (pc.length = n * 19), true) :: (okPg pc n, true) :: blw q.x :: blw q.y :: blw q.z :: o) := fun h => ob_c (decide_eq_true hl) (ob_c hok (ob_c (blw_ok hq.x) (ob_c (blw_ok hq.y) (ob_c (blw_ok hq.z) h))))
  have un : WdR.g pc n q.x q.y q.z q.a q.b q.c = dwZ 50 → uwE q.x q.y q.z = 50 → ∃ o : O4, ObsOk (o4O (uwE q.x q.y q.z) (WdR.g pc n q.x q.y q.z q.a q.b q.c) o) ∧ ObsOk (o4E (uwE q.x q.y q.z) (WdR.g pc n q.x q.y q.z q.a q.b q.c) q.z o) := fun h1 h2 => by
    rw [h1, h2]
    exact ⟨.u, ob_c (neDr_z _) (ob_c rfl (ob_c rfl (ob_c rfl ob_n))), ob_c rfl ob_n⟩
  cases g : rt3W q.x q.y q.z
  · rw [g, cond_false] at hg ho
    rw [ho]
    exact ⟨pre ob_n, un hg (by unfold uwE un3W; rw [g]; rfl)⟩
  · rw [g, cond_true] at hg ho
    obtain ⟨a, b, c, ea, eb, ec⟩ := rt3_of g
    rw [ea, eb, ec, toF_F, toF_F, toF_F] at hg ho
    have hE : uwE q.x q.y q.z = bif unB a b c then 0 else 50 := by unfold uwE un3W; rw [g, Bool.true_and, ea, eb, ec, toF_F, toF_F, toF_F]
    cases hB : unB a b c
    · have hb : DwN.ub a b c = false := hB
      have hA : dwF DwN pc n a b c q.a q.b q.c = dwZ 50 := by unfold dwF; rw [hb, cond_false]
      have hO : dwOb DwN pc n a b c q.a q.b q.c = [(decide (pc.length = n * 19), true), (DwN.T.o pc n, true)] := by unfold dwOb; rw [hb, cond_false]
      rw [← ea, ← eb, ← ec] at hg ho
      rw [ho, hO]
      exact ⟨pre (ob_c (decide_eq_true hl) (ob_c hok ob_n)), un (hg.trans hA) (by rw [hE, hB]; rfl)⟩
    · have hb : DwN.ub a b c = true := hB
      have e0 : uwE q.x q.y q.z = 0 := by rw [hE, hB]; rfl
      have lz : leW q.z (toF 0) = decide (c.k ≤ z64.k) := by rw [ec]; exact leW_F c (toF 0)
      rw [← ea, ← eb, ← ec] at hg ho
      rw [e0, ho, hg]
      by_cases gz : c.k ≤ z64.k
      · have hA : dwF DwN pc n a b c q.a q.b q.c = dwZ 0 := by unfold dwF; rw [hb, cond_true, decide_eq_true gz, cond_true]
        have hO : dwOb DwN pc n a b c q.a q.b q.c = [(decide (pc.length = n * 19), true), (DwN.T.o pc n, true)] := by unfold dwOb; rw [hb, cond_true, decide_eq_true gz, cond_true]
        rw [hA, hO]
        exact ⟨pre (ob_c (decide_eq_true hl) (ob_c hok ob_n)), .z, ob_c rfl (ob_c rfl (ob_c rfl ob_n)), ob_c (neDr_z _) (ob_c rfl (ob_c (lz.trans (decide_eq_true gz)) (ob_c rfl ob_n)))⟩
      · have hz : z64.k < c.k := by omega
        obtain ⟨o1, p1⟩ := dw_ok hl hok hB hz ⟨(un_in hz).1, (un_in hz).2.1, (un_in hz).2.2⟩ hq.a hq.b hq.c
        refine ⟨pre o1, ?_⟩
        have lz' : leW q.z (toF 0) = false := lz.trans (decide_eq_false gz)
        generalize dwF DwN pc n a b c q.a q.b q.c = A at p1
        have f50 : (A.e == 50) = false := by rcases p1.er with h | h | h <;> rw [h] <;> rfl
        by_cases h0 : A.e = 0
        · exact ⟨.d, ob_c (by rw [h0]; rfl) (ob_c rfl (ob_c f50 ob_n)), ob_c lz' (ob_c rfl ob_n)⟩
        · refine ⟨.f, ob_c (by rw [p1.no h0]; exact neDr_z _) (ob_c (by simpa using h0) (ob_c rfl (ob_c f50 ob_n))), ob_c lz' (ob_c rfl ob_n)⟩
theorem dv_i {pc : List SV} {n : Nat} {q : D8} (hl : pc.length = n * 19) (hok : okPg pc n = true) (hq : q.Ok) :
    ObsOk (WpR.o pc n q.l q.h q.a) ∧ (ObsOk (mayO q .t) ∨ ∃ (m : M4) (v : Bool), m ≠ .t ∧ ObsOk (mayO q m) ∧ ObsOk (i2O (WpR.g pc n q.l q.h q.a).e v)) := by
  have K := okPg_ok hok
  have hg : WpR.g pc n q.l q.h q.a = bif rtW q.l q.h then bif inC q.l q.h then TpR.g ⟨toF q.l, toF q.h⟩ q.a pc n else ⟨0, false, false, 2⟩ else ⟨0, false, false, 20⟩ := rfl
  have ho : WpR.o pc n q.l q.h q.a = (decide (pc.length = n * 19), true) :: (okPg pc n, true) :: blw q.l :: blw q.h :: (bif rtW q.l q.h && inC q.l q.h then [(TpR.b ⟨toF q.l, toF q.h⟩ pc n, true), (TpR.u q.a, true)] else []) := rfl
  have pre : ∀ {o : Obs}, ObsOk o → ObsOk ((decide (pc.length = n * 19), true) :: (okPg pc n, true) :: blw q.l :: blw q.h :: o) := fun h => ob_c (decide_eq_true hl) (ob_c hok (ob_c (blw_ok hq.l) (ob_c (blw_ok hq.h) h)))
  have all : ∀ {e : Int} {v : Bool}, ObsOk (i2O e v) → ObsOk (mayO q .t) ∨ ∃ (m : M4) (v : Bool), m ≠ .t ∧ ObsOk (mayO q m) ∧ ObsOk (i2O e v) := fun {e v} hi => by
    cases g1 : geW q.l (toF 0)
    · exact .inr ⟨.a, v, (fun h => by cases h), ob_c g1 ob_n, hi⟩
    · cases g2 : leW q.h (toF 4607182418800017408)
      · exact .inr ⟨.b, v, (fun h => by cases h), ob_c g2 (ob_c g1 ob_n), hi⟩
      · cases g3 : lleW q.l q.h
        · exact .inr ⟨.c, v, (fun h => by cases h), ob_c g3 (ob_c g2 (ob_c g1 ob_n)), hi⟩
        · exact .inl (ob_c g3 (ob_c g2 (ob_c g1 ob_n)))
  rw [hg, ho]
  cases gr : rtW q.l q.h
  · rw [cond_false, Bool.false_and, cond_false]
    exact ⟨pre ob_n, all (v := true) (ob_c rfl (ob_c rfl ob_n))⟩
  · rw [cond_true, Bool.true_and]
    have gr' := gr
    unfold rtW at gr'
    rw [Bool.and_eq_true, Bool.and_eq_true] at gr'
    obtain ⟨ga, gb, gc⟩ := gr'
    obtain ⟨p, hp⟩ := F_of_right ga
    obtain ⟨s, hs⟩ := F_of_right gb
    have tp : toF q.l = p := by rw [← hp, toF_F]
    have ts : toF q.h = s := by rw [← hs, toF_F]
    rw [tp, ts] at gc ⊢
    have gck := of_decide_eq_true gc
    have iC : inC q.l q.h = (!decide (p.k < z64.k) && !decide (one64.k < s.k)) := by unfold inC; rw [tp, ts]
    rw [iC]
    cases k1 : decide (p.k < z64.k)
    · cases k2 : decide (one64.k < s.k)
      · have h1 := of_decide_eq_false k1
        have h2 := of_decide_eq_false k2
        have hI : InB (⟨p, s⟩ : I) bz1 := ⟨Int.not_lt.1 h1, Int.not_lt.1 h2, gck⟩
        refine ⟨pre (ob_c (fdD_ok hI K).1 (ob_c (uP hq.a) ob_n)), .inl ?_⟩
        have a1 : lleW q.l q.h = true := by rw [← hp, ← hs]; exact (leW_F p s).trans (decide_eq_true gck)
        have a2 : leW q.h (toF 4607182418800017408) = true := by rw [← hs]; exact (leW_F s _).trans (decide_eq_true (Int.not_lt.1 h2))
        have a3 : geW q.l (toF 0) = true := by rw [← hp]; exact (geW_F p _).trans (decide_eq_true (Int.not_lt.1 h1))
        exact ob_c a1 (ob_c a2 (ob_c a3 ob_n))
      · exact ⟨pre ob_n, all (v := false) (ob_c rfl ob_n)⟩
    · exact ⟨pre ob_n, all (v := false) (ob_c rfl ob_n)⟩
theorem dv_ok {pc : List SV} {n : Nat} {q : D8} (hl : pc.length = n * 19) (hok : okPg pc n = true) (hq : q.Ok) : DvOk DvN pc n q := by
  have hP : dvP pc n = pc := by unfold dvP; rw [List.drop_zero, ← hl, List.take_length]
  obtain ⟨o1, o, o2, o3⟩ := dv_o hl hok hq
  obtain ⟨i1, i2⟩ := dv_i hl hok hq
  have hB : ObsOk (dvB DvN pc n q) := by
    unfold dvB
    rw [hP]
    exact ob_a i1 (ob_a o1 (ob_a (ob_c (blw_ok hq.x) (ob_c (blw_ok hq.y) (ob_c (blw_ok hq.z) ob_n))) ob_n))
  refine ⟨o, ?_⟩
  unfold dvOb dvD dvI dvE
  rw [hP]
  rcases i2 with h | ⟨m, v, hm, h1, h2⟩
  · exact .inl (ob_a o3 (ob_a ob_n (ob_a o2 (ob_a h hB))))
  · exact .inr ⟨m, v, hm, ob_a o3 (ob_a h2 (ob_a o2 (ob_a h1 hB)))⟩
theorem u64_w {n : Int} (h : (Lit.int .u64 n).wf = true) : u64P n := by
  have : 0 ≤ n ∧ n ≤ 18446744073709551615 := by simpa [Lit.wf, IntKind.min, IntKind.max, IntKind.signed, IntKind.bits] using h
  exact this
theorem drawWrong_someq {el : TypeId} {z : Nat × Nat} {cells : List SV} {off len cap : Nat} {q : D8} {m : Nms} {w : World} {vs : List Value} (hM : MemAt m w [⟨el, cells, .ro z⟩]) (hvs : dens m (.ssl 0 off len cap :: q.args) = some vs)
    (hc : len ≤ cap) (hb : prInB NprR ((cells.drop off).take (len * 8)) len = true) (hq : q.Ok) :
    Calls Tryz.prog 3 vs.toArray w fun e w' => e = .returned (.bool true) ∧ Below w.heap.size w w' := by
  obtain ⟨a, b⟩ := prog_ok hb
  exact dv_calls oracleDv hM hvs hc hb (dv_ok (prgC_len _ _ _) a hq)
theorem drawWrong_noneq {q : D8} {w : World} {vs : List Value} (hvs : dens Nms.no (.o (.slice none 0 0) :: q.args) = some vs) (hq : q.Ok) :
    Calls Tryz.prog 3 vs.toArray w fun e w' => e = .returned (.bool true) ∧ Below w.heap.size w w' := by
  obtain ⟨a, b⟩ := prog_ok (cs := []) (len := 0) rfl
  exact dv_nil oracleDv hvs (dv_ok (prgC_len _ _ _) a hq)
theorem drawWrong_some {el : TypeId} {z0 : Nat × Nat} {cells : List SV} {off len cap : Nat} {x y z l h : Nat} {a b c : Int} {m : Nms} {w : World} {vs : List Value} (hM : MemAt m w [⟨el, cells, .ro z0⟩]) (hvs : dens m [.ssl 0 off len cap, .agg [.f x, .f y, .f z], .agg [.f l, .f h], .agg [.si .u64 a, .si .u64 b, .si .u64 c]] = some vs)
    (hc : len ≤ cap) (hb : prInB NprR ((cells.drop off).take (len * 8)) len = true) (hx : x < 18446744073709551616) (hy : y < 18446744073709551616) (hz : z < 18446744073709551616) (hl : l < 18446744073709551616) (hh : h < 18446744073709551616) (ha : u64P a) (hb_ : u64P b) (hc_ : u64P c) :
    Calls Tryz.prog 3 vs.toArray w fun e w' => e = .returned (.bool true) ∧ Below w.heap.size w w' := drawWrong_someq (q := ⟨x, y, z, l, h, a, b, c⟩) hM hvs hc hb ⟨hx, hy, hz, hl, hh, ha, hb_, hc_⟩
theorem drawWrong_none {x y z l h : Nat} {a b c : Int} {w : World} {vs : List Value} (hvs : dens Nms.no [.o (.slice none 0 0), .agg [.f x, .f y, .f z], .agg [.f l, .f h], .agg [.si .u64 a, .si .u64 b, .si .u64 c]] = some vs) (hx : x < 18446744073709551616) (hy : y < 18446744073709551616) (hz : z < 18446744073709551616) (hl : l < 18446744073709551616) (hh : h < 18446744073709551616) (ha : u64P a) (hb_ : u64P b) (hc_ : u64P c) :
    Calls Tryz.prog 3 vs.toArray w fun e w' => e = .returned (.bool true) ∧ Below w.heap.size w w' := drawWrong_noneq (q := ⟨x, y, z, l, h, a, b, c⟩) hvs ⟨hx, hy, hz, hl, hh, ha, hb_, hc_⟩
end Go.Proofs.YthclipfgcgoofaaGreat
