/- EvalMix by the reckoner: pieces. EvalMix by the reckoner: the run. burnishlaw21.EvalMix, proved. burnishlaw21.EvalMix: what the run asks for is so. -/
import Derived.Test.YtgjohjgmlleebaaGreatY14
import Derived.Test.YtgjohjgmlleebaaGreatY15
namespace Go.Proofs.YtgjohjgmlleebaaGreat
set_option linter.all false
open Go.RowKit Bu Rx
def OLx (W : Nlb) : OracleF := lookO [(15, prgB_O W.g W.b), (22, plainO (kLe8 W.N.k W.N.f W.N.o)), (25, plainO (kFq W.N.q W.N.w)), (19, plainO (kBw W.N.b W.N.p W.N.w)), (34, kRd 19 (kEt W.E W.un W.ub)), (35, plainO (kBII W.me)), (36, plainO (oConst (.b true)))]
noncomputable def emC : Code := bodyOf Tryz.prog 10
theorem emBody : Tryz.f10.body = some emC := by kernel_rfl
noncomputable def emA (el : TypeId) (z : Nat × Nat) (cells : List SV) (off len cap : Nat) (a : U8) (i : Int) (u : U6) : St := ⟨([.ssl 0 off len cap, a.sv, .si .u32 i, u.sv] : List SV) ++ List.replicate (Tryz.f10.ntmps - 4) (.tup []), [⟨el, cells, .ro z⟩], none, []⟩
noncomputable def emZ (a : U8) (i : Int) (u : U6) : St := ⟨([.o (.slice none 0 0), a.sv, .si .u32 i, u.sv] : List SV) ++ List.replicate (Tryz.f10.ntmps - 4) (.tup []), [], none, []⟩
noncomputable abbrev emA2 (W : Nlb) (el : TypeId) (z : Nat × Nat) (cells : List SV) (off len cap : Nat) (a : U8) (i : Int) (u : U6) : St := aftN Tryz.prog EG (OLx W) 60 2 emC (emA el z cells off len cap a i u)
noncomputable abbrev emZ2 (W : Nlb) (a : U8) (i : Int) (u : U6) : St := aftN Tryz.prog EG (OLx W) 60 2 emC (emZ a i u)
theorem emLa (W : Nlb) (el : TypeId) (z : Nat × Nat) (cells : List SV) (off len cap : Nat) (a : U8) (i : Int) (u : U6) : LandsN Tryz.prog EG (OLx W) 60 2 emC (emA el z cells off len cap a i u) := by unfold LandsN; kernel_rfl
theorem emLz (W : Nlb) (a : U8) (i : Int) (u : U6) : LandsN Tryz.prog EG (OLx W) 60 2 emC (emZ a i u) := by unfold LandsN; kernel_rfl
def emT (n : Nat) (a : U8) (i : Int) (u : U6) (x : Nat → SV) : List SV :=
  [x 0, a.sv, .si .u32 i, u.sv, x 4, .p 0 0, x 6, .p 1 0, .b false, .osl true 2 n, x 10, x 11, x 12, x 13, x 14, x 15, x 16, x 17, x 18, x 19, x 20, x 21, x 22, x 23, x 24, x 25, x 26, x 27, x 28, x 29, x 30, x 31, x 32, x 33, x 34, x 35, x 36, x 37, x 38, x 39, x 40, x 41, x 42, x 43, x 44, x 45, x 46, x 47, x 48, x 49, x 50, x 51, x 52, x 53, x 54, x 55, x 56, x 57, x 58, x 59, x 60, x 61, x 62, x 63, x 64, x 65, x 66, x 67, x 68, x 69, x 70, x 71, x 72, x 73, x 74, x 75, x 76, x 77, x 78, x 79, x 80, x 81, x 82, x 83, x 84, x 85, x 86, x 87, x 88, x 89, x 90, x 91, x 92, x 93, x 94, x 95, x 96, x 97, x 98, x 99, x 100, x 101, x 102, x 103, x 104, x 105, x 106, x 107, x 108, x 109, x 110, x 111, x 112, x 113, x 114, x 115, x 116, x 117, x 118, x 119, x 120, x 121, x 122, x 123, x 124, x 125, x 126, x 127, x 128, x 129, x 130, x 131, x 132, x 133, x 134, x 135, x 136, x 137, x 138, x 139, x 140, x 141, x 142, x 143, x 144, x 145, x 146, x 147, x 148, x 149, x 150, x 151, x 152, x 153, x 154, x 155, x 156, x 157, x 158, x 159, x 160, x 161, x 162, x 163, x 164, x 165, x 166, x 167, x 168, x 169, x 170, x 171, x 172, x 173, x 174, x 175, x 176, x 177, x 178, x 179, x 180, x 181, x 182, x 183, x 184, x 185, x 186, x 187, x 188, x 189, x 190, x 191, x 192, x 193, x 194, x 195, x 196, x 197, x 198, x 199, x 200, x 201, x 202, x 203, x 204, x 205, x 206, x 207, x 208, x 209, x 210, x 211, x 212, x 213, x 214, x 215, x 216, x 217, x 218, x 219, x 220, x 221, x 222, x 223, x 224, x 225, x 226, x 227, x 228, x 229, x 230, x 231, x 232, x 233]
def u8B (a : U8) : List SV := [.si .u32 a.a0, .si .u32 a.a1, .si .u32 a.a2, .si .u32 a.a3, .si .u32 a.a4, .si .u32 a.a5, .si .u32 a.a6, .si .u32 a.a7]
def emM (pc : List SV) (a : U8) (u : U6) : List Blk := [⟨48, u8B a, .ex⟩, ⟨24, u6B u, .ex⟩, ⟨44, pc, .rown 19⟩]
def emS (pc : List SV) (n : Nat) (a : U8) (i : Int) (u : U6) (x : Nat → SV) (d : Dec) : St := ⟨emT n a i u x, emM pc a u, d, []⟩
section
variable (W : Nlb) (el : TypeId) (z : Nat × Nat) (cells : List SV) (off len cap : Nat) (a : U8) (i : Int) (u : U6)
theorem emOa : (emA2 W el z cells off len cap a i u).ob = [(decide (len ≤ cap), true), (W.b ((cells.drop off).take (len * 8)) len, true)] := by kernel_rfl
theorem emOz : (emZ2 W a i u).ob = [] := by kernel_rfl
theorem emRa : ∃ rest, (emA2 W el z cells off len cap a i u).M = [⟨el, cells, .ro z⟩] ++ rest := ⟨[⟨48, u8B a, .ex⟩, ⟨24, u6B u, .ex⟩, ⟨44, W.g ((cells.drop off).take (len * 8)) len, .rown 19⟩], by kernel_rfl⟩
theorem emMa : selM (emA2 W el z cells off len cap a i u).M [1, 2, 3] = some (emM (W.g ((cells.drop off).take (len * 8)) len) a u) := by kernel_rfl
theorem emMz : selM (emZ2 W a i u).M [0, 1, 2] = some (emM (W.g [] 0) a u) := by kernel_rfl
noncomputable def emXa (v : Nat → Value) : Nat → SV := fun j => ((emA2 W el z cells off len cap a i u).sel [1, 2, 3] [] v).T.getD j .np
noncomputable def emXz (v : Nat → Value) : Nat → SV := fun j => ((emZ2 W a i u).sel [0, 1, 2] [] v).T.getD j .np
theorem emTa (v : Nat → Value) (M' : List Blk) : ((emA2 W el z cells off len cap a i u).sel [1, 2, 3] M' v).T = emT (prK len + 1) a i u (emXa W el z cells off len cap a i u v) := by kernel_rfl
theorem emTz (v : Nat → Value) (M' : List Blk) : ((emZ2 W a i u).sel [0, 1, 2] M' v).T = emT 1 a i u (emXz W a i u v) := by kernel_rfl
end
end Go.Proofs.YtgjohjgmlleebaaGreat
namespace Go.Proofs.YtgjohjgmlleebaaGreat
set_option linter.all false
open Go.RowKit Bu Rx
def emP (pc : List SV) (n : Nat) : List SV := (pc.drop 0).take (n * 19)
def emB (W : Nlb) (pc : List SV) (n : Nat) (a : U8) : List SV := emP pc n ++ leC W.N a
def emB2 (W : Nlb) (pc : List SV) (n : Nat) (a : U8) : List SV := ((emB W pc n a).drop 0).take ((0 + n + 1) * 19)
def emX (W : Nlb) (pc : List SV) (n : Nat) (a : U8) (w : F) (A B : Int) : List SV := ((emB2 W pc n a ++ mxC w A B).drop 0).take ((0 + (0 + n + 1) + 1) * 19)
def emL (W : Nlb) (u : U6) (cs : List SV) (len k : Nat) : Ch := W.E.g (twA W.un W.N.b u) (twB W.un W.N.b u) cs len k
def emE (W : Nlb) (u : U6) (cs : List SV) (len : Nat) : Obs := etO W.E W.un W.ub cs len (W.N.b mone64 one64 u.a0) (W.N.b mone64 one64 u.a1) (W.N.b d64 one64 u.a2) (W.N.b mone64 one64 u.a3) (W.N.b mone64 one64 u.a4) (W.N.b d64 one64 u.a5)
def emO1 (pc : List SV) (n : Nat) : Bool := decide (1 ≤ n) && (decide (0 + n ≤ maxLen) && (decide ((0 + n) * 152 ≤ 140737488355328) && (decide (0 + n * 19 ≤ pc.length) && ((emP pc n).all SV.scalar && decide (([] : List SV).length = 0 * 19)))))
def emO2 (pc : List SV) (n : Nat) : Bool := decide (1 ≤ 1) && (decide (0 + n + 1 ≤ maxLen) && (decide ((0 + n + 1) * 152 ≤ 140737488355328) && (decide (0 + 1 * 19 ≤ 19) && (true && decide ((emP pc n).length = (0 + n) * 19)))))
def emO3 (W : Nlb) (pc : List SV) (n : Nat) (a : U8) : Bool := decide (1 ≤ 0 + n + 1) && (decide (0 + (0 + n + 1) ≤ maxLen) && (decide ((0 + (0 + n + 1)) * 152 ≤ 140737488355328) && (decide (0 + (0 + n + 1) * 19 ≤ (emB W pc n a).length) && ((emB2 W pc n a).all SV.scalar && decide (([] : List SV).length = 0 * 19)))))
def emO4 (W : Nlb) (pc : List SV) (n : Nat) (a : U8) : Bool := decide (1 ≤ 1) && (decide (0 + (0 + n + 1) + 1 ≤ maxLen) && (decide ((0 + (0 + n + 1) + 1) * 152 ≤ 140737488355328) && (decide (0 + 1 * 19 ≤ 19) && (true && decide ((emB2 W pc n a).length = (0 + (0 + n + 1)) * 19)))))
/-- a call of mix -/
def emM_ (W : Nlb) (pc : List SV) (n : Nat) (a : U8) (u : U6) (w : F) (A B : Int) : Obs := emE W u (emX W pc n a w A B) (0 + (0 + n + 1) + 1) ++ [(emO4 W pc n a, true), (emO3 W pc n a, true)]
def emI (n : Nat) : Int := IntKind.i64.wrap ((n : Int) - 1)
def emR (W : Nlb) (pc : List SV) (n : Nat) (a : U8) (u : U6) (w : F) (A B : Int) (k : Nat) : Ch := emL W u (emX W pc n a w A B) (0 + (0 + n + 1) + 1) k
def emK (W : Nlb) (pc : List SV) (n : Nat) (a : U8) (i : Int) (u : U6) (k : Nat) : Obs :=
  [(decide ((emR W pc n a u (W.N.q i) (emI n) n k).p.hi.k < (mnF (emL W u (emP pc n) n k).p.lo (emL W u (leC W.N a) 1 k).p.lo).k), false),
   (decide ((mxF (emL W u (emP pc n) n k).p.hi (emL W u (leC W.N a) 1 k).p.hi).k < (emR W pc n a u (W.N.q i) (emI n) n k).p.lo.k), false),
   (W.me (emR W pc n a u z64 (emI n) n k).m (emL W u (emP pc n) n k).m, true), (W.me (emR W pc n a u (W.N.q i) (emI n) (emI n) k).m (emL W u (emP pc n) n k).m, true), (W.me (emR W pc n a u (W.N.q i) (emI n) (emI n) k).p (emL W u (emP pc n) n k).p, true),
   (W.me (emR W pc n a u one64 (emI n) n k).p (emL W u (leC W.N a) 1 k).p, true), (W.me (emR W pc n a u z64 (emI n) n k).p (emL W u (emP pc n) n k).p, true)]
def emO (W : Nlb) (pc : List SV) (n : Nat) (a : U8) (i : Int) (u : U6) : Obs :=
  emK W pc n a i u 2 ++ (emK W pc n a i u 1 ++ (emK W pc n a i u 0 ++ (emM_ W pc n a u (W.N.q i) (emI n) (emI n) ++ ((W.N.w i, true) :: (emM_ W pc n a u (W.N.q i) (emI n) n ++ ((W.N.w i, true) :: (emM_ W pc n a u one64 (emI n) n ++ (emM_ W pc n a u z64 (emI n) n ++
  (emE W u (leC W.N a) 1 ++ ((W.N.o a, true) :: (emE W u (emP pc n) n ++ ((emO2 pc n, true) :: (W.N.o a, true) :: (emO1 pc n, true) :: (dirU W.N u.a3 u.a4 u.a5 ++ dirU W.N u.a0 u.a1 u.a2)))))))))))))
def emD : List Bool := [true, true, true, true, true, false, false, true, true, true, true, true, false, false, true, true, true, true, true, false, false]
section
variable (W : Nlb) (pc : List SV) (n : Nat) (a : U8) (i : Int) (u : U6) (x : Nat → SV)
theorem emL_ : Lands Tryz.prog EG (OLx W) 60 (post 2 emC) (emS pc n a i u x (some emD)) .ret := by unfold Lands; kernel_rfl
theorem emO_eq : (aft Tryz.prog EG (OLx W) 60 (post 2 emC) (emS pc n a i u x (some emD))).ob = emO W pc n a i u := by kernel_rfl
theorem emRs : resultS Tryz.prog Tryz.f10 (aft Tryz.prog EG (OLx W) 60 (post 2 emC) (emS pc n a i u x (some emD))) = some (.b true) := by kernel_rfl
end
end Go.Proofs.YtgjohjgmlleebaaGreat
namespace Bu
set_option linter.all false
open Rx Go
theorem nd_atB {cells cs : List SV} {off o : Nat} (h : CellsAt cells off cs) (hk : ckAll cs o ndCK = true) : ckAll cells (off + o) ndCK = true ∧ ndR cells (off + o) = ndR cs o := by
  obtain ⟨a, b⟩ := at_row h hk
  refine ⟨b, ?_⟩
  have e := nd_row cells (off + o)
  rw [a, nd_row cs o] at e
  exact (Option.some.inj e).symm
theorem cells_leftB (a b : List SV) : CellsAt (a ++ b) 0 a := fun j x hx => by
  rw [Nat.zero_add, List.getElem?_append_left (List.getElem?_eq_some_iff.1 hx).1]; exact hx
theorem take_itB {pc : List SV} {k : Nat} (h : pc.length = k) : (pc.drop 0).take k = pc := by rw [List.drop_zero, ← h, List.take_length]
end Bu
namespace Go.Proofs.YtgjohjgmlleebaaGreat
set_option linter.all false
open Go.RowKit Bu Rx
theorem rowP_scB (N : Npr) (U : Nat → U8) : ∀ j, (rowP N U j).all SV.scalar = true
  | 0 => rfl
  | j + 1 => by
    show (rowN N (U (j + 1)) (j + 1)).all SV.scalar = true
    unfold rowN
    cases decide (prT (U (j + 1)) = 0)
    · cases decide (prT (U (j + 1)) = 1) || decide (prT (U (j + 1)) = 2) <;> rfl
    · rfl
theorem prgC_scB (N : Npr) (U : Nat → U8) : ∀ k, (prgC N U k).all SV.scalar = true
  | 0 => rowP_scB N U 0
  | k + 1 => by
    unfold prgC
    rw [List.all_append, prgC_scB N U k]
    exact rowP_scB N U (k + 1)
/-- lights hang on the nodes ahead alone -/
theorem ltF_ext {v u : V3} {cs cs' : List SV} {k : Nat} : ∀ i, (∀ j, j ≤ i → okNd (ndR cs (j * 19)) j = true) → (∀ j, j ≤ i → ndR cs' (j * 19) = ndR cs (j * 19)) → ltF NeR v u cs' k i = ltF NeR v u cs k i := by
  intro i
  induction i using Nat.strongRecOn with
  | _ i ih =>
    intro ho he
    have hnd := ho i (Nat.le_refl _)
    show (evN NeR v u k (fun j => (chL (allE NeR v u cs' k) i).getD j Ch.zero) (ndR cs' (i * 19))).1 = (evN NeR v u k (fun j => (chL (allE NeR v u cs k) i).getD j Ch.zero) (ndR cs (i * 19))).1
    rw [he i (Nat.le_refl _)]
    generalize ndR cs (i * 19) = n at hnd
    have g : ∀ {a : Int}, 0 ≤ a → a < i → (chL (allE NeR v u cs' k) i).getD a.toNat Ch.zero = (chL (allE NeR v u cs k) i).getD a.toNat Ch.zero := fun {a} h0 h1 => by
      rw [chL_get _ (show a.toNat < i by omega), chL_get _ (show a.toNat < i by omega)]
      exact ih a.toNat (by omega) (fun j hj => ho j (by omega)) (fun j hj => he j (by omega))
    rw [evN_ext (r := fun j => (chL (allE NeR v u cs k) i).getD j Ch.zero) (fun h => ?_) (fun h => ?_)]
    · rcases h with h | h
      · obtain ⟨⟨a0, a1⟩, _⟩ := okNd_mix hnd h
        exact g a0 a1
      · obtain ⟨a0, a1⟩ := okNd_coat hnd h
        exact g a0 a1
    · obtain ⟨_, b0, b1⟩ := okNd_mix hnd h
      exact g b0 b1
structure PgE (pc : List SV) (n : Nat) : Prop where
  len : pc.length = n * 19
  sc : pc.all SV.scalar = true
  ok : okPg pc n = true
  n8 : n ≤ 8
/-- a program, a leaf, a mix -/
noncomputable def mxP (pc : List SV) (a : U8) (w : F) (A B : Int) : List SV := (pc ++ leC NprR a) ++ mxC w A B
theorem mxP_len {pc : List SV} {n : Nat} (h : pc.length = n * 19) (a : U8) (w : F) (A B : Int) : (mxP pc a w A B).length = (n + 2) * 19 := by
  unfold mxP
  rw [List.length_append, List.length_append, h, show (leC NprR a).length = 19 from rfl, show (mxC w A B).length = 19 from rfl]; omega
theorem le_nd (a : U8) : ndR (leC NprR a) 0 = leNd a := by kernel_rfl
theorem mxP_nd {pc : List SV} {n : Nat} (h : pc.length = n * 19) (K : OkPg pc n) (a : U8) (w : F) (A B : Int) :
    (∀ j, j < n → ckAll (mxP pc a w A B) (j * 19) ndCK = true ∧ ndR (mxP pc a w A B) (j * 19) = ndR pc (j * 19)) ∧ (ckAll (mxP pc a w A B) (n * 19) ndCK = true ∧ ndR (mxP pc a w A B) (n * 19) = leNd a) ∧
    (ckAll (mxP pc a w A B) ((n + 1) * 19) ndCK = true ∧ ndR (mxP pc a w A B) ((n + 1) * 19) = ⟨5, ndM z64 z64 z64 z64 z64 z64 z64 z64 z64 z64 z64 z64 z64 z64 z64 w, A, B⟩) := by
  refine ⟨fun j hj => ?_, ?_, ?_⟩
  · have c1 := nd_atB (cells_leftB pc (leC NprR a)) (K.row j hj)
    rw [Nat.zero_add] at c1
    have c2 := nd_atB (cells_leftB (pc ++ leC NprR a) (mxC w A B)) c1.1
    rw [Nat.zero_add] at c2
    exact ⟨c2.1, c2.2.trans c1.2⟩
  · have c := CellsAt.right pc (leC NprR a)
    rw [h] at c
    obtain ⟨c1, c2⟩ := nd_of c rfl
    have c3 := nd_atB (cells_leftB (pc ++ leC NprR a) (mxC w A B)) c1
    rw [Nat.zero_add] at c3
    exact ⟨c3.1, (c3.2.trans c2).trans (le_nd a)⟩
  · have c := CellsAt.right (pc ++ leC NprR a) (mxC w A B)
    rw [List.length_append, h, show (leC NprR a).length = 19 from rfl, show n * 19 + 19 = (n + 1) * 19 by omega] at c
    obtain ⟨c1, c2⟩ := nd_of c rfl
    exact ⟨c1, c2.trans (nd_mx w A B)⟩
theorem mxP_ok {pc : List SV} {n : Nat} (P : PgE pc n) (a : U8) {w : F} {A B : Int} (hw : rnB z64 one64 w = true) (a0 : 0 ≤ A) (a1 : A < (n + 1 : Nat)) (b0 : 0 ≤ B) (b1 : B < (n + 1 : Nat)) : okPg (mxP pc a w A B) (n + 2) = true := by
  have K := okPg_ok P.ok
  have h8 := P.n8
  obtain ⟨vc, hv⟩ := K.pl
  have hp : (plains (mxP pc a w A B)).isSome = true := by
    unfold mxP
    rw [plains_app (plains_app hv (us := _) rfl) (us := _) rfl]; rfl
  obtain ⟨d1, d2, d3⟩ := mxP_nd P.len K a w A B
  refine okPg_mk hp (by omega) (by omega) fun j hj => ?_
  rcases Nat.lt_or_ge j n with h | h
  · exact okAt_n (d1 j h).1 (d1 j h).2 (K.nd j h)
  · rcases Nat.lt_or_ge j (n + 1) with h2 | h2
    · obtain rfl : j = n := by omega
      exact okAt_n d2.1 d2.2 (okNd_le a _)
    · obtain rfl : j = n + 1 := by omega
      exact okAt_n d3.1 d3.2 (okNd_5 hw a0 a1 b0 b1)
/-- the light of a mix with a leaf, of a mix with itself -/
theorem mx_ch {pc : List SV} {n : Nat} (P : PgE pc n) (a : U8) {v u : V3} (hv : OneP v) (hu : OneP u) {w : F} (hw : rnB z64 one64 w = true) {k : Nat} (hk : k < 3) :
    ∃ x m d, ltF NeR v u pc k (n - 1) = ⟨x, m⟩ ∧ ltF NeR v u (leC NprR a) k 0 = ⟨d, I.zero⟩ ∧ x.lo.k ≤ x.hi.k ∧ m.lo.k ≤ m.hi.k ∧ d.lo.k ≤ d.hi.k ∧
      (∃ p q, ltF NeR v u (mxP pc a w ((n - 1 : Nat) : Int) (n : Int)) k (n + 1) = ⟨p, q⟩ ∧ (∀ y z, Mem x y → Mem d z → Mem p ((1 - w.q) * y + w.q * z)) ∧ (∀ y, Mem m y → Mem q ((1 - w.q) * y))) ∧
      (∃ p q, ltF NeR v u (mxP pc a w ((n - 1 : Nat) : Int) ((n - 1 : Nat) : Int)) k (n + 1) = ⟨p, q⟩ ∧ (∀ y, Mem x y → Mem p y) ∧ (∀ y, Mem m y → Mem q y)) := by
  have K := okPg_ok P.ok
  have h1 := K.lo
  have h8 := P.n8
  obtain ⟨na5, na6⟩ := le_no a
  obtain ⟨_, bx, bm⟩ := evs_ok hv hu K (by omega) hk (n - 1) (by omega)
  obtain ⟨d, d1, d2, _⟩ := leaf_val (okNd_le a 0) na5 na6 hv hu hk
  generalize hX : ltF NeR v u pc k (n - 1) = X at bx bm
  obtain ⟨x, m⟩ := X
  have L := lv_ok (i := n - 1) (by omega)
  have w01 := rn_one hw
  have dP := Pb_le (i := 0) (j := n - 1) (by omega) (by omega) d2
  have zM := zero_Mb (i := n - 1) (by omega)
  refine ⟨x, m, d, rfl, ltF_leaf (nd_1a a) na5 na6 d1, bx.2.2, bm.2.2, d2.2.2, ?_, ?_⟩
  · obtain ⟨g1, g2, g3⟩ := mxP_nd P.len K a w ((n - 1 : Nat) : Int) (n : Int)
    have eX : ltF NeR v u (mxP pc a w ((n - 1 : Nat) : Int) (n : Int)) k (n - 1) = ⟨x, m⟩ := (ltF_ext (n - 1) (fun j hj => K.nd j (by omega)) (fun j hj => (g1 j (by omega)).2)).trans hX
    have eL : ltF NeR v u (mxP pc a w ((n - 1 : Nat) : Int) (n : Int)) k n = ⟨d, I.zero⟩ := ltF_leaf g2.2 na5 na6 d1
    obtain ⟨p, p1, _, p2⟩ := mixK_pt w01 bx dP L.p L.pp
    obtain ⟨q, q1, _, q2⟩ := mixK_pt w01 bm zM L.m L.mm
    refine ⟨p, q, ltF_mix g3.2 rfl ⟨by show (0 : Int) ≤ ((n - 1 : Nat) : Int); omega, by show ((n - 1 : Nat) : Int) < ((n + 1 : Nat) : Int); omega⟩ ⟨by show (0 : Int) ≤ (n : Int); omega, by show (n : Int) < ((n + 1 : Nat) : Int); omega⟩ ?_ ?_, fun y z hy hz => p2 y z hy hz, fun y hy => ?_⟩
    · show mixK KkR 0 w (ltF NeR v u _ k ((n - 1 : Nat) : Int).toNat).p (ltF NeR v u _ k ((n : Nat) : Int).toNat).p = (p, 0)
      rw [Int.toNat_natCast, Int.toNat_natCast, eX, eL]; exact p1
    · show mixK KkR 0 w (ltF NeR v u _ k ((n - 1 : Nat) : Int).toNat).m (ltF NeR v u _ k ((n : Nat) : Int).toNat).m = (q, 0)
      rw [Int.toNat_natCast, Int.toNat_natCast, eX, eL]; exact q1
    · have h := q2 y 0 hy (bZ_mem bZ_0)
      rwa [Rat.mul_zero, Rat.add_zero] at h
  · obtain ⟨g1, g2, g3⟩ := mxP_nd P.len K a w ((n - 1 : Nat) : Int) ((n - 1 : Nat) : Int)
    have eX : ltF NeR v u (mxP pc a w ((n - 1 : Nat) : Int) ((n - 1 : Nat) : Int)) k (n - 1) = ⟨x, m⟩ := (ltF_ext (n - 1) (fun j hj => K.nd j (by omega)) (fun j hj => (g1 j (by omega)).2)).trans hX
    obtain ⟨p, p1, _, p2⟩ := mixK_pt w01 bx bx L.p L.pp
    obtain ⟨q, q1, _, q2⟩ := mixK_pt w01 bm bm L.m L.mm
    have cv : ∀ y : Rat, (1 - w.q) * y + w.q * y = y := fun y => by grind
    refine ⟨p, q, ltF_mix g3.2 rfl ⟨by show (0 : Int) ≤ ((n - 1 : Nat) : Int); omega, by show ((n - 1 : Nat) : Int) < ((n + 1 : Nat) : Int); omega⟩ ⟨by show (0 : Int) ≤ ((n - 1 : Nat) : Int); omega, by show ((n - 1 : Nat) : Int) < ((n + 1 : Nat) : Int); omega⟩ ?_ ?_, fun y hy => by have h := p2 y y hy hy; rwa [cv] at h, fun y hy => by have h := q2 y y hy hy; rwa [cv] at h⟩
    · show mixK KkR 0 w (ltF NeR v u _ k ((n - 1 : Nat) : Int).toNat).p (ltF NeR v u _ k ((n - 1 : Nat) : Int).toNat).p = (p, 0)
      rw [Int.toNat_natCast, eX]; exact p1
    · show mixK KkR 0 w (ltF NeR v u _ k ((n - 1 : Nat) : Int).toNat).m (ltF NeR v u _ k ((n - 1 : Nat) : Int).toNat).m = (q, 0)
      rw [Int.toNat_natCast, eX]; exact q1
end Go.Proofs.YtgjohjgmlleebaaGreat
namespace Go.Proofs.YtgjohjgmlleebaaGreat
set_option linter.all false
open Go.RowKit Bu Rx
theorem emK_mk {W : Nlb} {pc : List SV} {n : Nat} {a : U8} {i : Int} {u : U6} {k : Nat} {x m d z p1 q1 p2 q2 p3 q3 p4 q4 : I} (hA : emL W u (emP pc n) n k = ⟨x, m⟩) (hL : emL W u (leC W.N a) 1 k = ⟨d, z⟩)
    (hF : emR W pc n a u z64 (emI n) n k = ⟨p1, q1⟩) (hS : emR W pc n a u one64 (emI n) n k = ⟨p2, q2⟩) (hM : emR W pc n a u (W.N.q i) (emI n) n k = ⟨p3, q3⟩) (hT : emR W pc n a u (W.N.q i) (emI n) (emI n) k = ⟨p4, q4⟩)
    (c1 : decide (p3.hi.k < (mnF x.lo d.lo).k) = false) (c2 : decide ((mxF x.hi d.hi).k < p3.lo.k) = false) (c3 : W.me q1 m = true) (c4 : W.me q4 m = true) (c5 : W.me p4 x = true) (c6 : W.me p2 d = true) (c7 : W.me p1 x = true) : ObsOk (emK W pc n a i u k) := by
  unfold emK
  rw [hA, hL, hF, hS, hM, hT]
  exact ob_c c1 (ob_c c2 (ob_c c3 (ob_c c4 (ob_c c5 (ob_c c6 (ob_c c7 ob_n))))))
theorem emX_R {pc : List SV} {n : Nat} (h : pc.length = n * 19) (a : U8) (w : F) (A B : Int) : emB2 WbR pc n a = pc ++ leC NprR a ∧ emX WbR pc n a w A B = mxP pc a w A B := by
  have e1 : emB WbR pc n a = pc ++ leC NprR a := by
    have : emB WbR pc n a = emP pc n ++ leC NprR a := rfl
    rw [this]; unfold emP; rw [take_itB h]
  have hl : (pc ++ leC NprR a).length = (0 + n + 1) * 19 := by rw [List.length_append, h, show (leC NprR a).length = 19 from rfl]; omega
  have e2 : emB2 WbR pc n a = pc ++ leC NprR a := by unfold emB2; rw [e1]; exact take_itB hl
  refine ⟨e2, ?_⟩
  unfold emX
  rw [e2]
  exact take_itB (by have := mxP_len h a w A B; unfold mxP at this; rw [this]; omega)
theorem emR_R {pc : List SV} {n : Nat} (h : pc.length = n * 19) (a : U8) (u : U6) (w : F) (A B : Int) (k : Nat) : emR WbR pc n a u w A B k = ltF NeR (twA (unV KkR) bwF u) (twB (unV KkR) bwF u) (mxP pc a w A B) k (n + 1) := by
  have e : emR WbR pc n a u w A B k = ltF NeR (twA (unV KkR) bwF u) (twB (unV KkR) bwF u) (emX WbR pc n a w A B) k (0 + (0 + n + 1) + 1 - 1) := rfl
  rw [e, (emX_R h a w A B).2, show 0 + (0 + n + 1) + 1 - 1 = n + 1 by omega]
theorem emL_R (u : U6) (cs : List SV) (len k : Nat) : emL WbR u cs len k = ltF NeR (twA (unV KkR) bwF u) (twB (unV KkR) bwF u) cs k (len - 1) := rfl
theorem emI_R {n : Nat} (h1 : 1 ≤ n) (h8 : n ≤ 8) : emI n = ((n - 1 : Nat) : Int) := by unfold emI; rw [IntKind.wrap_i64]; omega
set_option maxRecDepth 100000 in
theorem rn_01 : rnB z64 one64 z64 = true ∧ rnB z64 one64 one64 = true := by decide +kernel
theorem em_kk {pc : List SV} {n : Nat} (P : PgE pc n) {a : U8} {i : Int} {u : U6} (hi : wN32 i = true) {k : Nat} (hk : k < 3) : ObsOk (emK WbR pc n a i u k) := by
  have hv : OneP (twA (unV KkR) bwF u) := twP _ _ _
  have ho : OneP (twB (unV KkR) bwF u) := twP _ _ _
  have h1 := (okPg_ok P.ok).lo
  have h8 := P.n8
  have eP : emP pc n = pc := take_itB P.len
  have eI := emI_R h1 h8
  obtain ⟨x, m, d, e1, e2, rx, rm, rd, ⟨p1, q1, f1, f2, f3⟩, _⟩ := mx_ch P a hv ho rn_01.1 hk
  obtain ⟨x', m', d', e1', e2', _, _, _, ⟨p2, q2, g1, g2, _⟩, _⟩ := mx_ch P a hv ho rn_01.2 hk
  obtain ⟨x'', m'', d'', e1'', e2'', _, _, _, ⟨p3, q3, s1, s2, _⟩, p4, q4, t1, t2, t3⟩ := mx_ch P a hv ho (fr_rn hi) hk
  have ex' : (⟨x', m'⟩ : Ch) = ⟨x, m⟩ := e1'.symm.trans e1
  have ex'' : (⟨x'', m''⟩ : Ch) = ⟨x, m⟩ := e1''.symm.trans e1
  have ed' : (⟨d', I.zero⟩ : Ch) = ⟨d, I.zero⟩ := e2'.symm.trans e2
  have ed'' : (⟨d'', I.zero⟩ : Ch) = ⟨d, I.zero⟩ := e2''.symm.trans e2
  obtain ⟨rfl, rfl⟩ := Ch.mk.inj ex'
  obtain ⟨rfl, rfl⟩ := Ch.mk.inj ex''
  obtain ⟨rfl, _⟩ := Ch.mk.inj ed'
  obtain ⟨rfl, _⟩ := Ch.mk.inj ed''
  have zq : z64.q = 0 := zero0_q
  have xl : Mem x'' x''.lo.q := ⟨Rat.le_refl, q_le.2 rx⟩
  have ml : Mem m'' m''.lo.q := ⟨Rat.le_refl, q_le.2 rm⟩
  have dl : Mem d'' d''.lo.q := ⟨Rat.le_refl, q_le.2 rd⟩
  have v1 := f2 _ _ xl dl
  have v2 := f3 _ ml
  have v3 := g2 _ _ xl dl
  have v4 := s2 _ _ xl dl
  rw [zq, show (1 - (0 : Rat)) * x''.lo.q + 0 * d''.lo.q = x''.lo.q by grind] at v1
  rw [zq, show (1 - (0 : Rat)) * m''.lo.q = m''.lo.q by grind] at v2
  rw [one_q, show (1 - (1 : Rat)) * x''.lo.q + 1 * d''.lo.q = d''.lo.q by grind] at v3
  have w01 := rn_one (fr_rn hi)
  have wq0 := q_le.2 w01.1
  have wq1 := q_le.2 w01.2
  rw [zq] at wq0; rw [one_q] at wq1
  have xr := q_le.2 rx
  have dr := q_le.2 rd
  refine emK_mk (x := x'') (m := m'') (d := d'') (z := I.zero) (p1 := p1) (q1 := q1) (p2 := p2) (q2 := q2) (p3 := p3) (q3 := q3) (p4 := p4) (q4 := q4) ?_ ?_ ?_ ?_ ?_ ?_ ?_ ?_ ?_ ?_ ?_ ?_ ?_
  · rw [emL_R, eP]; exact e1
  · rw [emL_R]; exact e2
  · rw [emR_R P.len, eI]; exact f1
  · rw [emR_R P.len, eI]; exact g1
  · rw [emR_R P.len, eI]; exact s1
  · rw [emR_R P.len, eI]; exact t1
  · refine decide_eq_false fun h => Rat.not_lt.2 ?_ (q_lt.2 h)
    have h1 := v4.hi
    have h2 := (mnF_q x''.lo d''.lo).1
    have h3 := (mnF_q x''.lo d''.lo).2
    have h4 := Rat.mul_nonneg (show 0 ≤ 1 - (frT i).q by grind) (show 0 ≤ x''.lo.q - (mnF x''.lo d''.lo).q by grind)
    have h5 := Rat.mul_nonneg wq0 (show 0 ≤ d''.lo.q - (mnF x''.lo d''.lo).q by grind)
    grind
  · refine decide_eq_false fun h => Rat.not_lt.2 ?_ (q_lt.2 h)
    have h1 := v4.lo
    have h2 := (mxF_q x''.hi d''.hi).1
    have h3 := (mxF_q x''.hi d''.hi).2
    have h4 := Rat.mul_nonneg (show 0 ≤ 1 - (frT i).q by grind) (show 0 ≤ (mxF x''.hi d''.hi).q - x''.lo.q by grind)
    have h5 := Rat.mul_nonneg wq0 (show 0 ≤ (mxF x''.hi d''.hi).q - d''.lo.q by grind)
    grind
  · exact mem_meets v2 ml
  · exact mem_meets (t3 _ ml) ml
  · exact mem_meets (t2 _ xl) xl
  · exact mem_meets v3 dl
  · exact mem_meets v1 xl
theorem em_et {u : U6} {cs : List SV} {len : Nat} (h : okPg cs len = true) (hl : cs.length = len * 19) (hlen : len ≤ 20) : ObsOk (emE WbR u cs len) := eto_ok h hl hlen bwN1 bwN1 bwN2 bwN1 bwN1 bwN2
theorem em_ok {pc : List SV} {n : Nat} (P : PgE pc n) {a : U8} {i : Int} {u : U6} (ha : a.ok = true) (hi : wN32 i = true) (hu : u.ok = true) : ObsOk (emO WbR pc n a i u) := by
  obtain ⟨k0, k1, k2, k3, k4, k5⟩ := u6_in hu
  have h1 := (okPg_ok P.ok).lo
  have h8 := P.n8
  have eP : emP pc n = pc := take_itB P.len
  have eI := emI_R h1 h8
  have hm : 4096 ≤ maxLen := by decide
  have hbl : (pc ++ leC NprR a).length = (n + 1) * 19 := by rw [List.length_append, P.len, show (leC NprR a).length = 19 from rfl]; omega
  have eB : emB WbR pc n a = pc ++ leC NprR a := by
    have : emB WbR pc n a = emP pc n ++ leC NprR a := rfl
    rw [this, eP]
  have eB2 := (emX_R P.len a z64 0 0).1
  have sB : (pc ++ leC NprR a).all SV.scalar = true := by rw [List.all_append, P.sc]; rfl
  have o1 : emO1 pc n = true := by
    unfold emO1
    rw [eP, P.sc, decide_eq_true h1, decide_eq_true (show 0 + n ≤ maxLen by omega), decide_eq_true (show (0 + n) * 152 ≤ 140737488355328 by omega), decide_eq_true (show 0 + n * 19 ≤ pc.length by rw [P.len]; omega)]; rfl
  have o2 : emO2 pc n = true := by
    unfold emO2
    rw [eP, decide_eq_true (show (1 : Nat) ≤ 1 by omega), decide_eq_true (show 0 + n + 1 ≤ maxLen by omega), decide_eq_true (show (0 + n + 1) * 152 ≤ 140737488355328 by omega), decide_eq_true (show 0 + 1 * 19 ≤ 19 by omega), decide_eq_true (show pc.length = (0 + n) * 19 by rw [P.len, Nat.zero_add])]; rfl
  have o3 : emO3 WbR pc n a = true := by
    unfold emO3
    rw [eB2, eB, sB, decide_eq_true (show 1 ≤ 0 + n + 1 by omega), decide_eq_true (show 0 + (0 + n + 1) ≤ maxLen by omega), decide_eq_true (show (0 + (0 + n + 1)) * 152 ≤ 140737488355328 by omega), decide_eq_true (show 0 + (0 + n + 1) * 19 ≤ (pc ++ leC NprR a).length by rw [hbl]; omega)]; rfl
  have o4 : emO4 WbR pc n a = true := by
    unfold emO4
    rw [eB2, decide_eq_true (show (1 : Nat) ≤ 1 by omega), decide_eq_true (show 0 + (0 + n + 1) + 1 ≤ maxLen by omega), decide_eq_true (show (0 + (0 + n + 1) + 1) * 152 ≤ 140737488355328 by omega), decide_eq_true (show 0 + 1 * 19 ≤ 19 by omega), decide_eq_true (show (pc ++ leC NprR a).length = (0 + (0 + n + 1)) * 19 by rw [hbl]; omega)]; rfl
  have mm : ∀ {w : F} {A B : Int}, rnB z64 one64 w = true → 0 ≤ A → A < (n + 1 : Nat) → 0 ≤ B → B < (n + 1 : Nat) → ObsOk (emM_ WbR pc n a u w A B) := fun {w A B} hw a0 a1 b0 b1 => by
    have hk := mxP_ok P a hw a0 a1 b0 b1
    have hl := mxP_len P.len a w A B
    unfold emM_
    rw [(emX_R P.len a w A B).2, show 0 + (0 + n + 1) + 1 = n + 2 by omega]
    exact ob_a (em_et hk hl (by omega)) (ob_c o4 (ob_c o3 ob_n))
  have ep : ObsOk (emE WbR u (emP pc n) n) := by rw [eP]; exact em_et P.ok P.len (by omega)
  have el : ObsOk (emE WbR u (leC WbR.N a) 1) := em_et (okPg_1 a) rfl (by decide)
  refine ob_a (em_kk P hi (by omega)) (ob_a (em_kk P hi (by omega)) (ob_a (em_kk P hi (by omega)) (ob_a (mm (fr_rn hi) ?_ ?_ ?_ ?_) (ob_c hi (ob_a (mm (fr_rn hi) ?_ ?_ ?_ ?_) (ob_c hi (ob_a (mm rn_01.2 ?_ ?_ ?_ ?_) (ob_a (mm rn_01.1 ?_ ?_ ?_ ?_) (ob_a el (ob_c ha (ob_a ep (ob_c o2 (ob_c ha (ob_c o1 (ob_a (dirU_ok k3 k4 k5) (dirU_ok k0 k1 k2)))))))))))))))) <;> (try rw [eI]) <;> omega
set_option maxRecDepth 20000 in
theorem em_run {W : Nlb} (hO : OracleOk Tryz.prog (OLx W)) {pc : List SV} {n : Nat} {a : U8} {i : Int} {u : U6} {x : Nat → SV} {B : Bs} (K : ObsOk (emO W pc n a i u)) :
    RunsB Tryz.prog B (post 2 emC) (emS pc n a i u x none) .ret (fun t => resultS Tryz.prog Tryz.f10 t = some (.b true)) := by
  have h0 := emO_eq W pc n a i u x
  exact RunsB.re (d := some emD) (o := []) (RunsP.bs (Lands.all goodG hO (emL_ W pc n a i u x) (h0 ▸ K) (emRs W pc n a i u x)))
set_option maxRecDepth 20000 in
theorem em_calls {W : Nlb} (hO : OracleOk Tryz.prog (OLx W)) {el : TypeId} {z : Nat × Nat} {cells : List SV} {off len cap : Nat} {a : U8} {i : Int} {u : U6} {m : Nms} {w : World} {vs : List Value} (hM : MemAt m w [⟨el, cells, .ro z⟩]) (hvs : dens m [.ssl 0 off len cap, a.sv, .si .u32 i, u.sv] = some vs)
    (hc : len ≤ cap) (hb : W.b ((cells.drop off).take (len * 8)) len = true) (K : ObsOk (emO W (W.g ((cells.drop off).take (len * 8)) len) (prK len + 1) a i u)) :
    Calls Tryz.prog 10 vs.toArray w fun e w' => e = .returned (.bool true) ∧ Below w.heap.size w w' := by
  refine RunsW.call (d := none) Tryz.func10 emBody (x := .b true) rfl hvs hM ?_
  show RunsW Tryz.prog ⟨m, [⟨el, cells, .ro z⟩], w, hM⟩ emC (emA el z cells off len cap a i u) .ret _
  refine runW_ok goodG hO (emLa W el z cells off len cap a i u) (by rw [emOa]; exact ob_c (decide_eq_true hc) (ob_c hb ob_n)) ?_
  obtain ⟨rest, hr⟩ := emRa W el z cells off len cap a i u
  refine RunsW.fresh (ids := [1, 2, 3]) (fun b hb => by rw [List.mem_singleton] at hb; subst hb; rfl) hr rfl (emMa W el z cells off len cap a i u) (fun j n hj => by
    have hl : j < 3 := (List.getElem?_eq_some_iff.1 hj).1
    rcases (by omega : j = 0 ∨ j = 1 ∨ j = 2) with rfl | rfl | rfl <;> simp at hj <;> subst hj <;> simp) (fun b hb => by
      simp only [emM, List.mem_cons, List.not_mem_nil, or_false] at hb
      rcases hb with rfl | rfl | rfl <;> rfl) fun B' v hB' => ?_
  have hs : SameSt (emS (W.g ((cells.drop off).take (len * 8)) len) (prK len + 1) a i u (emXa W el z cells off len cap a i u v) none) ((emA2 W el z cells off len cap a i u).sel [1, 2, 3] (emM (W.g ((cells.drop off).take (len * 8)) len) a u) v) := same_eq (emTa W el z cells off len cap a i u v _).symm rfl
  exact RunsB.retell hs (em_run hO (x := emXa W el z cells off len cap a i u v) K)
set_option maxRecDepth 20000 in
theorem em_nil {W : Nlb} (hO : OracleOk Tryz.prog (OLx W)) {a : U8} {i : Int} {u : U6} {w : World} {vs : List Value} (hvs : dens Nms.no [.o (.slice none 0 0), a.sv, .si .u32 i, u.sv] = some vs) (K : ObsOk (emO W (W.g [] 0) 1 a i u)) :
    Calls Tryz.prog 10 vs.toArray w fun e w' => e = .returned (.bool true) ∧ Below w.heap.size w w' := by
  refine RunsW.call (d := none) Tryz.func10 emBody (x := .b true) rfl hvs (MemAt.no w) ?_
  show RunsW Tryz.prog ⟨Nms.no, [], w, MemAt.no w⟩ emC (emZ a i u) .ret _
  refine runW_ok goodG hO (emLz W a i u) (by rw [emOz]; exact ob_n) ?_
  refine RunsW.fresh (rest := (emZ2 W a i u).M) (ids := [0, 1, 2]) (fun b hb => by cases hb) (List.nil_append _).symm rfl (emMz W a i u) (fun j n hj => Nat.zero_le _) (fun b hb => by
      simp only [emM, List.mem_cons, List.not_mem_nil, or_false] at hb
      rcases hb with rfl | rfl | rfl <;> rfl) fun B' v hB' => ?_
  have hs : SameSt (emS (W.g [] 0) 1 a i u (emXz W a i u v) none) ((emZ2 W a i u).sel [0, 1, 2] (emM (W.g [] 0) a u) v) := same_eq (emTz W a i u v _).symm rfl
  exact RunsB.retell hs (em_run hO (x := emXz W a i u v) K)
theorem oracleLx : OracleOk Tryz.prog (OLx WbR) := .cons (eiO_ok (prG oraclePr ior_b rfl) (pzG oraclePr rfl)) (.cons le8G.of (.cons frqG.of (.cons bwG.of (.cons etK.of (.cons meetsG.of (.cons awake21G.of (.nil _)))))))
theorem pgE_of {cs : List SV} {len : Nat} (h : prInB NprR cs len = true) : PgE (prgC NprR (prU cs len) (prK len)) (prK len + 1) := by
  obtain ⟨a, b⟩ := prog_ok h
  exact ⟨prgC_len _ _ _, prgC_scB _ _ _, a, by omega⟩
theorem evalMix_some {el : TypeId} {z : Nat × Nat} {cells : List SV} {off len cap : Nat} {a : U8} {i : Int} {u : U6} {m : Nms} {w : World} {vs : List Value} (hM : MemAt m w [⟨el, cells, .ro z⟩]) (hvs : dens m [.ssl 0 off len cap, a.sv, .si .u32 i, u.sv] = some vs)
    (hc : len ≤ cap) (hb : prInB NprR ((cells.drop off).take (len * 8)) len = true) (ha : a.ok = true) (hi : wN32 i = true) (hu : u.ok = true) :
    Calls Tryz.prog 10 vs.toArray w fun e w' => e = .returned (.bool true) ∧ Below w.heap.size w w' := em_calls oracleLx hM hvs hc hb (em_ok (pgE_of hb) ha hi hu)
theorem evalMix_none {a : U8} {i : Int} {u : U6} {w : World} {vs : List Value} (hvs : dens Nms.no [.o (.slice none 0 0), a.sv, .si .u32 i, u.sv] = some vs) (ha : a.ok = true) (hi : wN32 i = true) (hu : u.ok = true) :
    Calls Tryz.prog 10 vs.toArray w fun e w' => e = .returned (.bool true) ∧ Below w.heap.size w w' := em_nil oracleLx hvs (em_ok (pgE_of (cs := []) (len := 0) rfl) ha hi hu)
end Go.Proofs.YtgjohjgmlleebaaGreat
