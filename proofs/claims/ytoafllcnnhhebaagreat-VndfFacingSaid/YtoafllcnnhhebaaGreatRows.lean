/-
  No cell of these rows narrows 'for every input' (looked for: loops, veiled, ifaces, maps, wideKeys, modest, calm, conditions, laid).
  DERIVED. THE GIVEN ROWS OF THIS SEAT. 12 by the template 'for every input the law returns true; each argument reads behind the call as it read before'; 0 by the template 'total and deterministic' (their statements: YtoafllcnnhhebaaGreatTotals.lean).
  GIVEN WITH THE SEED: the statements are not yours to turn. If you find one false, say at which input.
  Laid BY PROGRAM, IN A SANDBOX (cutbox-rows.mjs): the forced cells as the released guide's own fill.sh prints them over the translation 98f7ac6ecefff0ef… (all of the seat's roots in one cut). By AI agents, Wed Nov 11 2026. No macro, syntax, notation, axiom, sorry.
-/
import Derived.Test.YtoafllcnnhhebaaGreatChecked
import GoSem.Claim
import GoSem.ClaimJoined
import GoSem.ClaimMapViews
import Derived.JoinedTies
import Derived.KernelRfl
namespace Go.Proofs.YtoafllcnnhhebaaGreat
/- THE CELL 'sum', in the pinned program and in every row, IS THE sha256 OF THE DUMP (.gsa) THAT YtoafllcnnhhebaaGreatProg.lean LOADS. Nothing in Lean hashes anything: it is a label: what it is worth is what the hold of that sum in a sandbox is worth. -/
noncomputable def Tryz.pinned : Pinned := { name := "ytoafllcnnhhebaagreat", sum := "98f7ac6ecefff0efffb5e9f5af44c25e0ac9e00cae1d36331e2821489fb300e1", checked := Tryz.checked }
namespace Rows
def none {H : Type} : Left H := { results := [], args := [] }

/-- 'burnishlaw13.VndfFacing': WHATEVER THE INPUT: true; the input reads as it did. -/
def vndfFacingSpec : ChangeSpec := { name := "vndfFacing", fn := fun _ => fun
  | [d1, d2, d3] => { results := [.lit (.bool true)], args := [d1, d2, d3] }
  | _ => none }
def vndfFacingRow : OpenClaim := { program := "ytoafllcnnhhebaagreat", sum := "98f7ac6ecefff0efffb5e9f5af44c25e0ac9e00cae1d36331e2821489fb300e1", func := "burnish/burnishlaw13.VndfFacing", spec := "vndfFacing", inPlace := ["math.Float64bits", "math.Float64frombits", "math/bits.Add64", "math/bits.Sub64"], unfollowed := true, recurses := true, named := ["math/bits.divideError", "math/bits.overflowError"], apart := false }
def VndfFacingSaid : Prop := vndfFacingRow.holds Tryz.pinned (OpenSpec.ofChange vndfFacingSpec)

/-- ITS FALSE NEIGHBOUR: 'it returns false'. Refute it at one input. -/
def vndfFacingWrong : ChangeSpec := { name := "vndfFacing", fn := fun _ => fun
  | [d1, d2, d3] => { results := [.lit (.bool false)], args := [d1, d2, d3] }
  | _ => none }
def VndfFacingWrongFalsely : Prop := vndfFacingRow.holds Tryz.pinned (OpenSpec.ofChange vndfFacingWrong)

/-- 'burnishlaw13.VndfSeen': WHATEVER THE INPUT: true; the input reads as it did. -/
def vndfSeenSpec : ChangeSpec := { name := "vndfSeen", fn := fun _ => fun
  | [d1, d2, d3, d4] => { results := [.lit (.bool true)], args := [d1, d2, d3, d4] }
  | _ => none }
def vndfSeenRow : OpenClaim := { program := "ytoafllcnnhhebaagreat", sum := "98f7ac6ecefff0efffb5e9f5af44c25e0ac9e00cae1d36331e2821489fb300e1", func := "burnish/burnishlaw13.VndfSeen", spec := "vndfSeen", inPlace := ["math.Float64bits", "math.Float64frombits", "math/bits.Add64", "math/bits.Sub64"], unfollowed := true, recurses := true, named := ["math/bits.divideError", "math/bits.overflowError"], apart := false }
def VndfSeenSaid : Prop := vndfSeenRow.holds Tryz.pinned (OpenSpec.ofChange vndfSeenSpec)

/-- ITS FALSE NEIGHBOUR: 'it returns false'. Refute it at one input. -/
def vndfSeenWrong : ChangeSpec := { name := "vndfSeen", fn := fun _ => fun
  | [d1, d2, d3, d4] => { results := [.lit (.bool false)], args := [d1, d2, d3, d4] }
  | _ => none }
def VndfSeenWrongFalsely : Prop := vndfSeenRow.holds Tryz.pinned (OpenSpec.ofChange vndfSeenWrong)

/-- 'burnishlaw13.VndfAlong': WHATEVER THE INPUT: true; the input reads as it did. -/
def vndfAlongSpec : ChangeSpec := { name := "vndfAlong", fn := fun _ => fun
  | [d1, d2, d3] => { results := [.lit (.bool true)], args := [d1, d2, d3] }
  | _ => none }
def vndfAlongRow : OpenClaim := { program := "ytoafllcnnhhebaagreat", sum := "98f7ac6ecefff0efffb5e9f5af44c25e0ac9e00cae1d36331e2821489fb300e1", func := "burnish/burnishlaw13.VndfAlong", spec := "vndfAlong", inPlace := ["math.Float64bits", "math.Float64frombits", "math/bits.Add64", "math/bits.Sub64"], unfollowed := true, recurses := true, named := ["math/bits.divideError", "math/bits.overflowError"], apart := false }
def VndfAlongSaid : Prop := vndfAlongRow.holds Tryz.pinned (OpenSpec.ofChange vndfAlongSpec)

/-- ITS FALSE NEIGHBOUR: 'it returns false'. Refute it at one input. -/
def vndfAlongWrong : ChangeSpec := { name := "vndfAlong", fn := fun _ => fun
  | [d1, d2, d3] => { results := [.lit (.bool false)], args := [d1, d2, d3] }
  | _ => none }
def VndfAlongWrongFalsely : Prop := vndfAlongRow.holds Tryz.pinned (OpenSpec.ofChange vndfAlongWrong)

/-- 'burnishlaw13.VndfTurned': WHATEVER THE INPUT: true; the input reads as it did. -/
def vndfTurnedSpec : ChangeSpec := { name := "vndfTurned", fn := fun _ => fun
  | [d1, d2, d3, d4] => { results := [.lit (.bool true)], args := [d1, d2, d3, d4] }
  | _ => none }
def vndfTurnedRow : OpenClaim := { program := "ytoafllcnnhhebaagreat", sum := "98f7ac6ecefff0efffb5e9f5af44c25e0ac9e00cae1d36331e2821489fb300e1", func := "burnish/burnishlaw13.VndfTurned", spec := "vndfTurned", inPlace := ["math.Float64bits", "math.Float64frombits", "math/bits.Add64", "math/bits.Sub64"], unfollowed := true, recurses := true, named := ["math/bits.divideError", "math/bits.overflowError"], apart := false }
def VndfTurnedSaid : Prop := vndfTurnedRow.holds Tryz.pinned (OpenSpec.ofChange vndfTurnedSpec)

/-- ITS FALSE NEIGHBOUR: 'it returns false'. Refute it at one input. -/
def vndfTurnedWrong : ChangeSpec := { name := "vndfTurned", fn := fun _ => fun
  | [d1, d2, d3, d4] => { results := [.lit (.bool false)], args := [d1, d2, d3, d4] }
  | _ => none }
def VndfTurnedWrongFalsely : Prop := vndfTurnedRow.holds Tryz.pinned (OpenSpec.ofChange vndfTurnedWrong)

/-- 'burnishlaw11.PairsBack': WHATEVER THE INPUT: true; the input reads as it did. -/
def pairsBackSpec : ChangeSpec := { name := "pairsBack", fn := fun _ => fun
  | [d1, d2, d3] => { results := [.lit (.bool true)], args := [d1, d2, d3] }
  | _ => none }
def pairsBackRow : OpenClaim := { program := "ytoafllcnnhhebaagreat", sum := "98f7ac6ecefff0efffb5e9f5af44c25e0ac9e00cae1d36331e2821489fb300e1", func := "burnish/burnishlaw11.PairsBack", spec := "pairsBack", inPlace := ["math.Float64bits", "math.Float64frombits", "math/bits.Add64", "math/bits.Sub64"], unfollowed := true, recurses := true, named := ["math/bits.divideError", "math/bits.overflowError"], apart := false }
def PairsBackSaid : Prop := pairsBackRow.holds Tryz.pinned (OpenSpec.ofChange pairsBackSpec)

/-- ITS FALSE NEIGHBOUR: 'it returns false'. Refute it at one input. -/
def pairsBackWrong : ChangeSpec := { name := "pairsBack", fn := fun _ => fun
  | [d1, d2, d3] => { results := [.lit (.bool false)], args := [d1, d2, d3] }
  | _ => none }
def PairsBackWrongFalsely : Prop := pairsBackRow.holds Tryz.pinned (OpenSpec.ofChange pairsBackWrong)

/-- 'burnishlaw11.PairsWithin': WHATEVER THE INPUT: true; the input reads as it did. -/
def pairsWithinSpec : ChangeSpec := { name := "pairsWithin", fn := fun _ => fun
  | [d1, d2, d3, d4, d5, d6] => { results := [.lit (.bool true)], args := [d1, d2, d3, d4, d5, d6] }
  | _ => none }
def pairsWithinRow : OpenClaim := { program := "ytoafllcnnhhebaagreat", sum := "98f7ac6ecefff0efffb5e9f5af44c25e0ac9e00cae1d36331e2821489fb300e1", func := "burnish/burnishlaw11.PairsWithin", spec := "pairsWithin", inPlace := ["math.Float64bits", "math.Float64frombits", "math/bits.Add64", "math/bits.Sub64"], unfollowed := true, recurses := true, named := ["math/bits.divideError", "math/bits.overflowError"], apart := false }
def PairsWithinSaid : Prop := pairsWithinRow.holds Tryz.pinned (OpenSpec.ofChange pairsWithinSpec)

/-- ITS FALSE NEIGHBOUR: 'it returns false'. Refute it at one input. -/
def pairsWithinWrong : ChangeSpec := { name := "pairsWithin", fn := fun _ => fun
  | [d1, d2, d3, d4, d5, d6] => { results := [.lit (.bool false)], args := [d1, d2, d3, d4, d5, d6] }
  | _ => none }
def PairsWithinWrongFalsely : Prop := pairsWithinRow.holds Tryz.pinned (OpenSpec.ofChange pairsWithinWrong)

/-- 'burnishlaw11.PairsFlat': WHATEVER THE INPUT: true; the input reads as it did. -/
def pairsFlatSpec : ChangeSpec := { name := "pairsFlat", fn := fun _ => fun
  | [d1, d2, d3, d4] => { results := [.lit (.bool true)], args := [d1, d2, d3, d4] }
  | _ => none }
def pairsFlatRow : OpenClaim := { program := "ytoafllcnnhhebaagreat", sum := "98f7ac6ecefff0efffb5e9f5af44c25e0ac9e00cae1d36331e2821489fb300e1", func := "burnish/burnishlaw11.PairsFlat", spec := "pairsFlat", inPlace := ["math.Float64bits", "math.Float64frombits", "math/bits.Add64", "math/bits.Sub64"], unfollowed := true, recurses := true, named := ["math/bits.divideError", "math/bits.overflowError"], apart := false }
def PairsFlatSaid : Prop := pairsFlatRow.holds Tryz.pinned (OpenSpec.ofChange pairsFlatSpec)

/-- ITS FALSE NEIGHBOUR: 'it returns false'. Refute it at one input. -/
def pairsFlatWrong : ChangeSpec := { name := "pairsFlat", fn := fun _ => fun
  | [d1, d2, d3, d4] => { results := [.lit (.bool false)], args := [d1, d2, d3, d4] }
  | _ => none }
def PairsFlatWrongFalsely : Prop := pairsFlatRow.holds Tryz.pinned (OpenSpec.ofChange pairsFlatWrong)

/-- 'burnishlaw22.DensMix': WHATEVER THE INPUT: true; the input reads as it did. -/
def densMixSpec : ChangeSpec := { name := "densMix", fn := fun _ => fun
  | [d1, d2, d3, d4, d5] => { results := [.lit (.bool true)], args := [d1, d2, d3, d4, d5] }
  | _ => none }
def densMixRow : OpenClaim := { program := "ytoafllcnnhhebaagreat", sum := "98f7ac6ecefff0efffb5e9f5af44c25e0ac9e00cae1d36331e2821489fb300e1", func := "burnish/burnishlaw22.DensMix", spec := "densMix", inPlace := ["math.Float64bits", "math.Float64frombits", "math/bits.Add64", "math/bits.Sub64"], unfollowed := true, recurses := true, named := ["math/bits.divideError", "math/bits.overflowError"], apart := false }
def DensMixSaid : Prop := densMixRow.holds Tryz.pinned (OpenSpec.ofChange densMixSpec)

/-- ITS FALSE NEIGHBOUR: 'it returns false'. Refute it at one input. -/
def densMixWrong : ChangeSpec := { name := "densMix", fn := fun _ => fun
  | [d1, d2, d3, d4, d5] => { results := [.lit (.bool false)], args := [d1, d2, d3, d4, d5] }
  | _ => none }
def DensMixWrongFalsely : Prop := densMixRow.holds Tryz.pinned (OpenSpec.ofChange densMixWrong)

/-- 'burnishlaw23.DrawOften': WHATEVER THE INPUT: true; the input reads as it did. -/
def drawOftenSpec : ChangeSpec := { name := "drawOften", fn := fun _ => fun
  | [d1, d2, d3, d4, d5, d6] => { results := [.lit (.bool true)], args := [d1, d2, d3, d4, d5, d6] }
  | _ => none }
def drawOftenRow : OpenClaim := { program := "ytoafllcnnhhebaagreat", sum := "98f7ac6ecefff0efffb5e9f5af44c25e0ac9e00cae1d36331e2821489fb300e1", func := "burnish/burnishlaw23.DrawOften", spec := "drawOften", inPlace := ["math.Float64bits", "math.Float64frombits", "math/bits.Add64", "math/bits.Sub64"], unfollowed := true, recurses := true, named := ["math/bits.divideError", "math/bits.overflowError"], apart := false }
def DrawOftenSaid : Prop := drawOftenRow.holds Tryz.pinned (OpenSpec.ofChange drawOftenSpec)

/-- ITS FALSE NEIGHBOUR: 'it returns false'. Refute it at one input. -/
def drawOftenWrong : ChangeSpec := { name := "drawOften", fn := fun _ => fun
  | [d1, d2, d3, d4, d5, d6] => { results := [.lit (.bool false)], args := [d1, d2, d3, d4, d5, d6] }
  | _ => none }
def DrawOftenWrongFalsely : Prop := drawOftenRow.holds Tryz.pinned (OpenSpec.ofChange drawOftenWrong)

/-- 'burnishlaw23.DrawLeaf': WHATEVER THE INPUT: true; the input reads as it did. -/
def drawLeafSpec : ChangeSpec := { name := "drawLeaf", fn := fun _ => fun
  | [d1, d2, d3, d4] => { results := [.lit (.bool true)], args := [d1, d2, d3, d4] }
  | _ => none }
def drawLeafRow : OpenClaim := { program := "ytoafllcnnhhebaagreat", sum := "98f7ac6ecefff0efffb5e9f5af44c25e0ac9e00cae1d36331e2821489fb300e1", func := "burnish/burnishlaw23.DrawLeaf", spec := "drawLeaf", inPlace := ["math.Float64bits", "math.Float64frombits", "math/bits.Add64", "math/bits.Sub64"], unfollowed := true, recurses := true, named := ["math/bits.divideError", "math/bits.overflowError"], apart := false }
def DrawLeafSaid : Prop := drawLeafRow.holds Tryz.pinned (OpenSpec.ofChange drawLeafSpec)

/-- ITS FALSE NEIGHBOUR: 'it returns false'. Refute it at one input. -/
def drawLeafWrong : ChangeSpec := { name := "drawLeaf", fn := fun _ => fun
  | [d1, d2, d3, d4] => { results := [.lit (.bool false)], args := [d1, d2, d3, d4] }
  | _ => none }
def DrawLeafWrongFalsely : Prop := drawLeafRow.holds Tryz.pinned (OpenSpec.ofChange drawLeafWrong)

/-- 'burnishlaw21.EvalCoat': WHATEVER THE INPUT: true; the input reads as it did. -/
def evalCoatSpec : ChangeSpec := { name := "evalCoat", fn := fun _ => fun
  | [d1, d2, d3, d4] => { results := [.lit (.bool true)], args := [d1, d2, d3, d4] }
  | _ => none }
def evalCoatRow : OpenClaim := { program := "ytoafllcnnhhebaagreat", sum := "98f7ac6ecefff0efffb5e9f5af44c25e0ac9e00cae1d36331e2821489fb300e1", func := "burnish/burnishlaw21.EvalCoat", spec := "evalCoat", inPlace := ["math.Float64bits", "math.Float64frombits", "math/bits.Add64", "math/bits.Sub64"], unfollowed := true, recurses := true, named := ["math/bits.divideError", "math/bits.overflowError"], apart := false }
def EvalCoatSaid : Prop := evalCoatRow.holds Tryz.pinned (OpenSpec.ofChange evalCoatSpec)

/-- ITS FALSE NEIGHBOUR: 'it returns false'. Refute it at one input. -/
def evalCoatWrong : ChangeSpec := { name := "evalCoat", fn := fun _ => fun
  | [d1, d2, d3, d4] => { results := [.lit (.bool false)], args := [d1, d2, d3, d4] }
  | _ => none }
def EvalCoatWrongFalsely : Prop := evalCoatRow.holds Tryz.pinned (OpenSpec.ofChange evalCoatWrong)

/-- 'burnishlaw24.WeighAlbedo': WHATEVER THE INPUT: true; the input reads as it did. -/
def weighAlbedoSpec : ChangeSpec := { name := "weighAlbedo", fn := fun _ => fun
  | [d1, d2, d3] => { results := [.lit (.bool true)], args := [d1, d2, d3] }
  | _ => none }
def weighAlbedoRow : OpenClaim := { program := "ytoafllcnnhhebaagreat", sum := "98f7ac6ecefff0efffb5e9f5af44c25e0ac9e00cae1d36331e2821489fb300e1", func := "burnish/burnishlaw24.WeighAlbedo", spec := "weighAlbedo", inPlace := ["math.Float64bits", "math.Float64frombits", "math/bits.Add64", "math/bits.Sub64"], unfollowed := true, recurses := true, named := ["math/bits.divideError", "math/bits.overflowError"], apart := false }
def WeighAlbedoSaid : Prop := weighAlbedoRow.holds Tryz.pinned (OpenSpec.ofChange weighAlbedoSpec)

/-- ITS FALSE NEIGHBOUR: 'it returns false'. Refute it at one input. -/
def weighAlbedoWrong : ChangeSpec := { name := "weighAlbedo", fn := fun _ => fun
  | [d1, d2, d3] => { results := [.lit (.bool false)], args := [d1, d2, d3] }
  | _ => none }
def WeighAlbedoWrongFalsely : Prop := weighAlbedoRow.holds Tryz.pinned (OpenSpec.ofChange weighAlbedoWrong)

/- THE SECOND FORM. 'bulk': how many values and letters a reading holds, each counted each time it is reached (what is shared counts as often as it is met; a slice's spare places count too). A statement '..UptoSaid' is the law's where the arguments, and the package variables that the reading takes, are together of bulk at most 1048576: NARROWER than '..Said'. Prove '..Said' where nothing that the law and all that it calls make is longer than what came in: it says more and counts as full. Else prove '..UptoSaid'. A law counts once. -/
mutual
def uptoBulk {H : Type} : DataW H → Nat
  | .lit (.string bytes) => bytes.length + 1
  | .lit _ => 1
  | .nil => 1
  | .ptr d => uptoBulk d + 1
  | .slice elems spare => uptoBulkAll elems + uptoBulkAll spare + 1
  | .agg parts => uptoBulkAll parts + 1
  | .iface _ d => uptoBulk d + 1
  | .map entries => uptoBulkEntries entries + 1
  | .held _ => 1
def uptoBulkAll {H : Type} : List (DataW H) → Nat
  | [] => 0
  | d :: r => uptoBulk d + uptoBulkAll r
def uptoBulkEntries {H : Type} : List (Lit × DataW H) → Nat
  | [] => 0
  | x :: r => uptoBulkEntry x + uptoBulkEntries r
def uptoBulkEntry {H : Type} : Lit × DataW H → Nat
  | (.string bytes, d) => bytes.length + uptoBulk d + 1
  | (_, d) => uptoBulk d + 1
 end
def uptoSmall : (H : Type) → List (DataW H) → Bool := fun _ ds => decide (uptoBulkAll ds ≤ 1048576)
def OpenSpec.upto (s : _root_.Go.ChangeSpec) : _root_.Go.OpenSpec := { _root_.Go.OpenSpec.ofChange s with cond := some uptoSmall }

/-- 'burnishlaw13.VndfFacing', WHERE WHAT IT READS IS OF BULK AT MOST 1048576: true; the input reads as it did. -/
def vndfFacingUptoRow : OpenClaim := { program := "ytoafllcnnhhebaagreat", sum := "98f7ac6ecefff0efffb5e9f5af44c25e0ac9e00cae1d36331e2821489fb300e1", func := "burnish/burnishlaw13.VndfFacing", spec := "vndfFacing", inPlace := ["math.Float64bits", "math.Float64frombits", "math/bits.Add64", "math/bits.Sub64"], unfollowed := true, recurses := true, named := ["math/bits.divideError", "math/bits.overflowError"], apart := false, narrowed := true }
def VndfFacingUptoSaid : Prop := vndfFacingUptoRow.holds Tryz.pinned (OpenSpec.upto vndfFacingSpec)

/-- 'burnishlaw13.VndfSeen', WHERE WHAT IT READS IS OF BULK AT MOST 1048576: true; the input reads as it did. -/
def vndfSeenUptoRow : OpenClaim := { program := "ytoafllcnnhhebaagreat", sum := "98f7ac6ecefff0efffb5e9f5af44c25e0ac9e00cae1d36331e2821489fb300e1", func := "burnish/burnishlaw13.VndfSeen", spec := "vndfSeen", inPlace := ["math.Float64bits", "math.Float64frombits", "math/bits.Add64", "math/bits.Sub64"], unfollowed := true, recurses := true, named := ["math/bits.divideError", "math/bits.overflowError"], apart := false, narrowed := true }
def VndfSeenUptoSaid : Prop := vndfSeenUptoRow.holds Tryz.pinned (OpenSpec.upto vndfSeenSpec)

/-- 'burnishlaw13.VndfAlong', WHERE WHAT IT READS IS OF BULK AT MOST 1048576: true; the input reads as it did. -/
def vndfAlongUptoRow : OpenClaim := { program := "ytoafllcnnhhebaagreat", sum := "98f7ac6ecefff0efffb5e9f5af44c25e0ac9e00cae1d36331e2821489fb300e1", func := "burnish/burnishlaw13.VndfAlong", spec := "vndfAlong", inPlace := ["math.Float64bits", "math.Float64frombits", "math/bits.Add64", "math/bits.Sub64"], unfollowed := true, recurses := true, named := ["math/bits.divideError", "math/bits.overflowError"], apart := false, narrowed := true }
def VndfAlongUptoSaid : Prop := vndfAlongUptoRow.holds Tryz.pinned (OpenSpec.upto vndfAlongSpec)

/-- 'burnishlaw13.VndfTurned', WHERE WHAT IT READS IS OF BULK AT MOST 1048576: true; the input reads as it did. -/
def vndfTurnedUptoRow : OpenClaim := { program := "ytoafllcnnhhebaagreat", sum := "98f7ac6ecefff0efffb5e9f5af44c25e0ac9e00cae1d36331e2821489fb300e1", func := "burnish/burnishlaw13.VndfTurned", spec := "vndfTurned", inPlace := ["math.Float64bits", "math.Float64frombits", "math/bits.Add64", "math/bits.Sub64"], unfollowed := true, recurses := true, named := ["math/bits.divideError", "math/bits.overflowError"], apart := false, narrowed := true }
def VndfTurnedUptoSaid : Prop := vndfTurnedUptoRow.holds Tryz.pinned (OpenSpec.upto vndfTurnedSpec)

/-- 'burnishlaw11.PairsBack', WHERE WHAT IT READS IS OF BULK AT MOST 1048576: true; the input reads as it did. -/
def pairsBackUptoRow : OpenClaim := { program := "ytoafllcnnhhebaagreat", sum := "98f7ac6ecefff0efffb5e9f5af44c25e0ac9e00cae1d36331e2821489fb300e1", func := "burnish/burnishlaw11.PairsBack", spec := "pairsBack", inPlace := ["math.Float64bits", "math.Float64frombits", "math/bits.Add64", "math/bits.Sub64"], unfollowed := true, recurses := true, named := ["math/bits.divideError", "math/bits.overflowError"], apart := false, narrowed := true }
def PairsBackUptoSaid : Prop := pairsBackUptoRow.holds Tryz.pinned (OpenSpec.upto pairsBackSpec)

/-- 'burnishlaw11.PairsWithin', WHERE WHAT IT READS IS OF BULK AT MOST 1048576: true; the input reads as it did. -/
def pairsWithinUptoRow : OpenClaim := { program := "ytoafllcnnhhebaagreat", sum := "98f7ac6ecefff0efffb5e9f5af44c25e0ac9e00cae1d36331e2821489fb300e1", func := "burnish/burnishlaw11.PairsWithin", spec := "pairsWithin", inPlace := ["math.Float64bits", "math.Float64frombits", "math/bits.Add64", "math/bits.Sub64"], unfollowed := true, recurses := true, named := ["math/bits.divideError", "math/bits.overflowError"], apart := false, narrowed := true }
def PairsWithinUptoSaid : Prop := pairsWithinUptoRow.holds Tryz.pinned (OpenSpec.upto pairsWithinSpec)

/-- 'burnishlaw11.PairsFlat', WHERE WHAT IT READS IS OF BULK AT MOST 1048576: true; the input reads as it did. -/
def pairsFlatUptoRow : OpenClaim := { program := "ytoafllcnnhhebaagreat", sum := "98f7ac6ecefff0efffb5e9f5af44c25e0ac9e00cae1d36331e2821489fb300e1", func := "burnish/burnishlaw11.PairsFlat", spec := "pairsFlat", inPlace := ["math.Float64bits", "math.Float64frombits", "math/bits.Add64", "math/bits.Sub64"], unfollowed := true, recurses := true, named := ["math/bits.divideError", "math/bits.overflowError"], apart := false, narrowed := true }
def PairsFlatUptoSaid : Prop := pairsFlatUptoRow.holds Tryz.pinned (OpenSpec.upto pairsFlatSpec)

/-- 'burnishlaw22.DensMix', WHERE WHAT IT READS IS OF BULK AT MOST 1048576: true; the input reads as it did. -/
def densMixUptoRow : OpenClaim := { program := "ytoafllcnnhhebaagreat", sum := "98f7ac6ecefff0efffb5e9f5af44c25e0ac9e00cae1d36331e2821489fb300e1", func := "burnish/burnishlaw22.DensMix", spec := "densMix", inPlace := ["math.Float64bits", "math.Float64frombits", "math/bits.Add64", "math/bits.Sub64"], unfollowed := true, recurses := true, named := ["math/bits.divideError", "math/bits.overflowError"], apart := false, narrowed := true }
def DensMixUptoSaid : Prop := densMixUptoRow.holds Tryz.pinned (OpenSpec.upto densMixSpec)

/-- 'burnishlaw23.DrawOften', WHERE WHAT IT READS IS OF BULK AT MOST 1048576: true; the input reads as it did. -/
def drawOftenUptoRow : OpenClaim := { program := "ytoafllcnnhhebaagreat", sum := "98f7ac6ecefff0efffb5e9f5af44c25e0ac9e00cae1d36331e2821489fb300e1", func := "burnish/burnishlaw23.DrawOften", spec := "drawOften", inPlace := ["math.Float64bits", "math.Float64frombits", "math/bits.Add64", "math/bits.Sub64"], unfollowed := true, recurses := true, named := ["math/bits.divideError", "math/bits.overflowError"], apart := false, narrowed := true }
def DrawOftenUptoSaid : Prop := drawOftenUptoRow.holds Tryz.pinned (OpenSpec.upto drawOftenSpec)

/-- 'burnishlaw23.DrawLeaf', WHERE WHAT IT READS IS OF BULK AT MOST 1048576: true; the input reads as it did. -/
def drawLeafUptoRow : OpenClaim := { program := "ytoafllcnnhhebaagreat", sum := "98f7ac6ecefff0efffb5e9f5af44c25e0ac9e00cae1d36331e2821489fb300e1", func := "burnish/burnishlaw23.DrawLeaf", spec := "drawLeaf", inPlace := ["math.Float64bits", "math.Float64frombits", "math/bits.Add64", "math/bits.Sub64"], unfollowed := true, recurses := true, named := ["math/bits.divideError", "math/bits.overflowError"], apart := false, narrowed := true }
def DrawLeafUptoSaid : Prop := drawLeafUptoRow.holds Tryz.pinned (OpenSpec.upto drawLeafSpec)

/-- 'burnishlaw21.EvalCoat', WHERE WHAT IT READS IS OF BULK AT MOST 1048576: true; the input reads as it did. -/
def evalCoatUptoRow : OpenClaim := { program := "ytoafllcnnhhebaagreat", sum := "98f7ac6ecefff0efffb5e9f5af44c25e0ac9e00cae1d36331e2821489fb300e1", func := "burnish/burnishlaw21.EvalCoat", spec := "evalCoat", inPlace := ["math.Float64bits", "math.Float64frombits", "math/bits.Add64", "math/bits.Sub64"], unfollowed := true, recurses := true, named := ["math/bits.divideError", "math/bits.overflowError"], apart := false, narrowed := true }
def EvalCoatUptoSaid : Prop := evalCoatUptoRow.holds Tryz.pinned (OpenSpec.upto evalCoatSpec)

/-- 'burnishlaw24.WeighAlbedo', WHERE WHAT IT READS IS OF BULK AT MOST 1048576: true; the input reads as it did. -/
def weighAlbedoUptoRow : OpenClaim := { program := "ytoafllcnnhhebaagreat", sum := "98f7ac6ecefff0efffb5e9f5af44c25e0ac9e00cae1d36331e2821489fb300e1", func := "burnish/burnishlaw24.WeighAlbedo", spec := "weighAlbedo", inPlace := ["math.Float64bits", "math.Float64frombits", "math/bits.Add64", "math/bits.Sub64"], unfollowed := true, recurses := true, named := ["math/bits.divideError", "math/bits.overflowError"], apart := false, narrowed := true }
def WeighAlbedoUptoSaid : Prop := weighAlbedoUptoRow.holds Tryz.pinned (OpenSpec.upto weighAlbedoSpec)

end Rows
end Go.Proofs.YtoafllcnnhhebaaGreat
