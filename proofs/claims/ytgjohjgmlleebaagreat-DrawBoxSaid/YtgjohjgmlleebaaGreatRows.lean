/-
  No cell of these rows narrows 'for every input' (looked for: loops, veiled, ifaces, maps, wideKeys, modest, calm, conditions, laid).
  DERIVED. THE GIVEN ROWS OF THIS SEAT. 12 by the template 'for every input the law returns true; each argument reads behind the call as it read before'; 0 by the template 'total and deterministic' (their statements: YtgjohjgmlleebaaGreatTotals.lean).
  GIVEN WITH THE SEED: the statements are not yours to turn. If you find one false, say at which input.
  Laid BY PROGRAM, IN A SANDBOX (cutbox-rows.mjs): the forced cells as the released guide's own fill.sh prints them over the translation 340003559bd03940… (all of the seat's roots in one cut). By AI agents, Wed Nov 11 2026. No macro, syntax, notation, axiom, sorry.
-/
import Derived.Test.YtgjohjgmlleebaaGreatChecked
import GoSem.Claim
import GoSem.ClaimJoined
import GoSem.ClaimMapViews
import Derived.JoinedTies
import Derived.KernelRfl
namespace Go.Proofs.YtgjohjgmlleebaaGreat
/- THE CELL 'sum', in the pinned program and in every row, IS THE sha256 OF THE DUMP (.gsa) THAT YtgjohjgmlleebaaGreatProg.lean LOADS. Nothing in Lean hashes anything: it is a label: what it is worth is what the hold of that sum in a sandbox is worth. -/
noncomputable def Tryz.pinned : Pinned := { name := "ytgjohjgmlleebaagreat", sum := "340003559bd039404cb556ace642830ffb622118348b28cd9f2272090df158ea", checked := Tryz.checked }
namespace Rows
def none {H : Type} : Left H := { results := [], args := [] }

/-- 'burnishlaw22.DensMirror': WHATEVER THE INPUT: true; the input reads as it did. -/
def densMirrorSpec : ChangeSpec := { name := "densMirror", fn := fun _ => fun
  | [d1, d2, d3] => { results := [.lit (.bool true)], args := [d1, d2, d3] }
  | _ => none }
def densMirrorRow : OpenClaim := { program := "ytgjohjgmlleebaagreat", sum := "340003559bd039404cb556ace642830ffb622118348b28cd9f2272090df158ea", func := "burnish/burnishlaw22.DensMirror", spec := "densMirror", inPlace := ["math.Float64bits", "math.Float64frombits", "math/bits.Add64", "math/bits.Sub64"], unfollowed := true, recurses := true, named := ["math/bits.divideError", "math/bits.overflowError"], apart := false }
def DensMirrorSaid : Prop := densMirrorRow.holds Tryz.pinned (OpenSpec.ofChange densMirrorSpec)

/-- ITS FALSE NEIGHBOUR: 'it returns false'. Refute it at one input. -/
def densMirrorWrong : ChangeSpec := { name := "densMirror", fn := fun _ => fun
  | [d1, d2, d3] => { results := [.lit (.bool false)], args := [d1, d2, d3] }
  | _ => none }
def DensMirrorWrongFalsely : Prop := densMirrorRow.holds Tryz.pinned (OpenSpec.ofChange densMirrorWrong)

/-- 'burnishlaw22.DensMix': WHATEVER THE INPUT: true; the input reads as it did. -/
def densMixSpec : ChangeSpec := { name := "densMix", fn := fun _ => fun
  | [d1, d2, d3, d4, d5] => { results := [.lit (.bool true)], args := [d1, d2, d3, d4, d5] }
  | _ => none }
def densMixRow : OpenClaim := { program := "ytgjohjgmlleebaagreat", sum := "340003559bd039404cb556ace642830ffb622118348b28cd9f2272090df158ea", func := "burnish/burnishlaw22.DensMix", spec := "densMix", inPlace := ["math.Float64bits", "math.Float64frombits", "math/bits.Add64", "math/bits.Sub64"], unfollowed := true, recurses := true, named := ["math/bits.divideError", "math/bits.overflowError"], apart := false }
def DensMixSaid : Prop := densMixRow.holds Tryz.pinned (OpenSpec.ofChange densMixSpec)

/-- ITS FALSE NEIGHBOUR: 'it returns false'. Refute it at one input. -/
def densMixWrong : ChangeSpec := { name := "densMix", fn := fun _ => fun
  | [d1, d2, d3, d4, d5] => { results := [.lit (.bool false)], args := [d1, d2, d3, d4, d5] }
  | _ => none }
def DensMixWrongFalsely : Prop := densMixRow.holds Tryz.pinned (OpenSpec.ofChange densMixWrong)

/-- 'burnishlaw23.DrawOften': WHATEVER THE INPUT: true; the input reads as it did. -/
def drawOftenSpec : ChangeSpec := { name := "drawOften", fn := fun _ => fun
  | [d1, d2, d3, d4, d5, d6] => { results := [.lit (.bool true)], args := [d1, d2, d3, d4, d5, d6] }
  | _ => none }
def drawOftenRow : OpenClaim := { program := "ytgjohjgmlleebaagreat", sum := "340003559bd039404cb556ace642830ffb622118348b28cd9f2272090df158ea", func := "burnish/burnishlaw23.DrawOften", spec := "drawOften", inPlace := ["math.Float64bits", "math.Float64frombits", "math/bits.Add64", "math/bits.Sub64"], unfollowed := true, recurses := true, named := ["math/bits.divideError", "math/bits.overflowError"], apart := false }
def DrawOftenSaid : Prop := drawOftenRow.holds Tryz.pinned (OpenSpec.ofChange drawOftenSpec)

/-- ITS FALSE NEIGHBOUR: 'it returns false'. Refute it at one input. -/
def drawOftenWrong : ChangeSpec := { name := "drawOften", fn := fun _ => fun
  | [d1, d2, d3, d4, d5, d6] => { results := [.lit (.bool false)], args := [d1, d2, d3, d4, d5, d6] }
  | _ => none }
def DrawOftenWrongFalsely : Prop := drawOftenRow.holds Tryz.pinned (OpenSpec.ofChange drawOftenWrong)

/-- 'burnishlaw23.DrawBox': WHATEVER THE INPUT: true; the input reads as it did. -/
def drawBoxSpec : ChangeSpec := { name := "drawBox", fn := fun _ => fun
  | [d1, d2, d3, d4, d5] => { results := [.lit (.bool true)], args := [d1, d2, d3, d4, d5] }
  | _ => none }
def drawBoxRow : OpenClaim := { program := "ytgjohjgmlleebaagreat", sum := "340003559bd039404cb556ace642830ffb622118348b28cd9f2272090df158ea", func := "burnish/burnishlaw23.DrawBox", spec := "drawBox", inPlace := ["math.Float64bits", "math.Float64frombits", "math/bits.Add64", "math/bits.Sub64"], unfollowed := true, recurses := true, named := ["math/bits.divideError", "math/bits.overflowError"], apart := false }
def DrawBoxSaid : Prop := drawBoxRow.holds Tryz.pinned (OpenSpec.ofChange drawBoxSpec)

/-- ITS FALSE NEIGHBOUR: 'it returns false'. Refute it at one input. -/
def drawBoxWrong : ChangeSpec := { name := "drawBox", fn := fun _ => fun
  | [d1, d2, d3, d4, d5] => { results := [.lit (.bool false)], args := [d1, d2, d3, d4, d5] }
  | _ => none }
def DrawBoxWrongFalsely : Prop := drawBoxRow.holds Tryz.pinned (OpenSpec.ofChange drawBoxWrong)

/-- 'burnishlaw23.DrawLeaf': WHATEVER THE INPUT: true; the input reads as it did. -/
def drawLeafSpec : ChangeSpec := { name := "drawLeaf", fn := fun _ => fun
  | [d1, d2, d3, d4] => { results := [.lit (.bool true)], args := [d1, d2, d3, d4] }
  | _ => none }
def drawLeafRow : OpenClaim := { program := "ytgjohjgmlleebaagreat", sum := "340003559bd039404cb556ace642830ffb622118348b28cd9f2272090df158ea", func := "burnish/burnishlaw23.DrawLeaf", spec := "drawLeaf", inPlace := ["math.Float64bits", "math.Float64frombits", "math/bits.Add64", "math/bits.Sub64"], unfollowed := true, recurses := true, named := ["math/bits.divideError", "math/bits.overflowError"], apart := false }
def DrawLeafSaid : Prop := drawLeafRow.holds Tryz.pinned (OpenSpec.ofChange drawLeafSpec)

/-- ITS FALSE NEIGHBOUR: 'it returns false'. Refute it at one input. -/
def drawLeafWrong : ChangeSpec := { name := "drawLeaf", fn := fun _ => fun
  | [d1, d2, d3, d4] => { results := [.lit (.bool false)], args := [d1, d2, d3, d4] }
  | _ => none }
def DrawLeafWrongFalsely : Prop := drawLeafRow.holds Tryz.pinned (OpenSpec.ofChange drawLeafWrong)

/-- 'burnishlaw23.DrawWrong': WHATEVER THE INPUT: true; the input reads as it did. -/
def drawWrongSpec : ChangeSpec := { name := "drawWrong", fn := fun _ => fun
  | [d1, d2, d3, d4] => { results := [.lit (.bool true)], args := [d1, d2, d3, d4] }
  | _ => none }
def drawWrongRow : OpenClaim := { program := "ytgjohjgmlleebaagreat", sum := "340003559bd039404cb556ace642830ffb622118348b28cd9f2272090df158ea", func := "burnish/burnishlaw23.DrawWrong", spec := "drawWrong", inPlace := ["math.Float64bits", "math.Float64frombits", "math/bits.Add64", "math/bits.Sub64"], unfollowed := true, recurses := true, named := ["math/bits.divideError", "math/bits.overflowError"], apart := false }
def DrawWrongSaid : Prop := drawWrongRow.holds Tryz.pinned (OpenSpec.ofChange drawWrongSpec)

/-- ITS FALSE NEIGHBOUR: 'it returns false'. Refute it at one input. -/
def drawWrongWrong : ChangeSpec := { name := "drawWrong", fn := fun _ => fun
  | [d1, d2, d3, d4] => { results := [.lit (.bool false)], args := [d1, d2, d3, d4] }
  | _ => none }
def DrawWrongWrongFalsely : Prop := drawWrongRow.holds Tryz.pinned (OpenSpec.ofChange drawWrongWrong)

/-- 'burnishlaw21.EvalBack': WHATEVER THE INPUT: true; the input reads as it did. -/
def evalBackSpec : ChangeSpec := { name := "evalBack", fn := fun _ => fun
  | [d1, d2, d3] => { results := [.lit (.bool true)], args := [d1, d2, d3] }
  | _ => none }
def evalBackRow : OpenClaim := { program := "ytgjohjgmlleebaagreat", sum := "340003559bd039404cb556ace642830ffb622118348b28cd9f2272090df158ea", func := "burnish/burnishlaw21.EvalBack", spec := "evalBack", inPlace := ["math.Float64bits", "math.Float64frombits", "math/bits.Add64", "math/bits.Sub64"], unfollowed := true, recurses := true, named := ["math/bits.divideError", "math/bits.overflowError"], apart := false }
def EvalBackSaid : Prop := evalBackRow.holds Tryz.pinned (OpenSpec.ofChange evalBackSpec)

/-- ITS FALSE NEIGHBOUR: 'it returns false'. Refute it at one input. -/
def evalBackWrong : ChangeSpec := { name := "evalBack", fn := fun _ => fun
  | [d1, d2, d3] => { results := [.lit (.bool false)], args := [d1, d2, d3] }
  | _ => none }
def EvalBackWrongFalsely : Prop := evalBackRow.holds Tryz.pinned (OpenSpec.ofChange evalBackWrong)

/-- 'burnishlaw21.EvalMix': WHATEVER THE INPUT: true; the input reads as it did. -/
def evalMixSpec : ChangeSpec := { name := "evalMix", fn := fun _ => fun
  | [d1, d2, d3, d4] => { results := [.lit (.bool true)], args := [d1, d2, d3, d4] }
  | _ => none }
def evalMixRow : OpenClaim := { program := "ytgjohjgmlleebaagreat", sum := "340003559bd039404cb556ace642830ffb622118348b28cd9f2272090df158ea", func := "burnish/burnishlaw21.EvalMix", spec := "evalMix", inPlace := ["math.Float64bits", "math.Float64frombits", "math/bits.Add64", "math/bits.Sub64"], unfollowed := true, recurses := true, named := ["math/bits.divideError", "math/bits.overflowError"], apart := false }
def EvalMixSaid : Prop := evalMixRow.holds Tryz.pinned (OpenSpec.ofChange evalMixSpec)

/-- ITS FALSE NEIGHBOUR: 'it returns false'. Refute it at one input. -/
def evalMixWrong : ChangeSpec := { name := "evalMix", fn := fun _ => fun
  | [d1, d2, d3, d4] => { results := [.lit (.bool false)], args := [d1, d2, d3, d4] }
  | _ => none }
def EvalMixWrongFalsely : Prop := evalMixRow.holds Tryz.pinned (OpenSpec.ofChange evalMixWrong)

/-- 'burnishlaw21.EvalCoat': WHATEVER THE INPUT: true; the input reads as it did. -/
def evalCoatSpec : ChangeSpec := { name := "evalCoat", fn := fun _ => fun
  | [d1, d2, d3, d4] => { results := [.lit (.bool true)], args := [d1, d2, d3, d4] }
  | _ => none }
def evalCoatRow : OpenClaim := { program := "ytgjohjgmlleebaagreat", sum := "340003559bd039404cb556ace642830ffb622118348b28cd9f2272090df158ea", func := "burnish/burnishlaw21.EvalCoat", spec := "evalCoat", inPlace := ["math.Float64bits", "math.Float64frombits", "math/bits.Add64", "math/bits.Sub64"], unfollowed := true, recurses := true, named := ["math/bits.divideError", "math/bits.overflowError"], apart := false }
def EvalCoatSaid : Prop := evalCoatRow.holds Tryz.pinned (OpenSpec.ofChange evalCoatSpec)

/-- ITS FALSE NEIGHBOUR: 'it returns false'. Refute it at one input. -/
def evalCoatWrong : ChangeSpec := { name := "evalCoat", fn := fun _ => fun
  | [d1, d2, d3, d4] => { results := [.lit (.bool false)], args := [d1, d2, d3, d4] }
  | _ => none }
def EvalCoatWrongFalsely : Prop := evalCoatRow.holds Tryz.pinned (OpenSpec.ofChange evalCoatWrong)

/-- 'burnishlaw21.EvalDomain': WHATEVER THE INPUT: true; the input reads as it did. -/
def evalDomainSpec : ChangeSpec := { name := "evalDomain", fn := fun _ => fun
  | [d1, d2, d3, d4, d5] => { results := [.lit (.bool true)], args := [d1, d2, d3, d4, d5] }
  | _ => none }
def evalDomainRow : OpenClaim := { program := "ytgjohjgmlleebaagreat", sum := "340003559bd039404cb556ace642830ffb622118348b28cd9f2272090df158ea", func := "burnish/burnishlaw21.EvalDomain", spec := "evalDomain", inPlace := ["math.Float64bits", "math.Float64frombits", "math/bits.Add64", "math/bits.Sub64"], unfollowed := true, recurses := true, named := ["math/bits.divideError", "math/bits.overflowError"], apart := false }
def EvalDomainSaid : Prop := evalDomainRow.holds Tryz.pinned (OpenSpec.ofChange evalDomainSpec)

/-- ITS FALSE NEIGHBOUR: 'it returns false'. Refute it at one input. -/
def evalDomainWrong : ChangeSpec := { name := "evalDomain", fn := fun _ => fun
  | [d1, d2, d3, d4, d5] => { results := [.lit (.bool false)], args := [d1, d2, d3, d4, d5] }
  | _ => none }
def EvalDomainWrongFalsely : Prop := evalDomainRow.holds Tryz.pinned (OpenSpec.ofChange evalDomainWrong)

/-- 'burnishlaw22.DensWithin': WHATEVER THE INPUT: true; the input reads as it did. -/
def densWithinSpec : ChangeSpec := { name := "densWithin", fn := fun _ => fun
  | [d1, d2, d3, d4, d5] => { results := [.lit (.bool true)], args := [d1, d2, d3, d4, d5] }
  | _ => none }
def densWithinRow : OpenClaim := { program := "ytgjohjgmlleebaagreat", sum := "340003559bd039404cb556ace642830ffb622118348b28cd9f2272090df158ea", func := "burnish/burnishlaw22.DensWithin", spec := "densWithin", inPlace := ["math.Float64bits", "math.Float64frombits", "math/bits.Add64", "math/bits.Sub64"], unfollowed := true, recurses := true, named := ["math/bits.divideError", "math/bits.overflowError"], apart := false }
def DensWithinSaid : Prop := densWithinRow.holds Tryz.pinned (OpenSpec.ofChange densWithinSpec)

/-- ITS FALSE NEIGHBOUR: 'it returns false'. Refute it at one input. -/
def densWithinWrong : ChangeSpec := { name := "densWithin", fn := fun _ => fun
  | [d1, d2, d3, d4, d5] => { results := [.lit (.bool false)], args := [d1, d2, d3, d4, d5] }
  | _ => none }
def DensWithinWrongFalsely : Prop := densWithinRow.holds Tryz.pinned (OpenSpec.ofChange densWithinWrong)

/-- 'burnishlaw22.DensDrawn': WHATEVER THE INPUT: true; the input reads as it did. -/
def densDrawnSpec : ChangeSpec := { name := "densDrawn", fn := fun _ => fun
  | [d1, d2] => { results := [.lit (.bool true)], args := [d1, d2] }
  | _ => none }
def densDrawnRow : OpenClaim := { program := "ytgjohjgmlleebaagreat", sum := "340003559bd039404cb556ace642830ffb622118348b28cd9f2272090df158ea", func := "burnish/burnishlaw22.DensDrawn", spec := "densDrawn", inPlace := ["math.Float64bits", "math.Float64frombits", "math/bits.Add64", "math/bits.Sub64"], unfollowed := true, recurses := true, named := ["math/bits.divideError", "math/bits.overflowError"], apart := false }
def DensDrawnSaid : Prop := densDrawnRow.holds Tryz.pinned (OpenSpec.ofChange densDrawnSpec)

/-- ITS FALSE NEIGHBOUR: 'it returns false'. Refute it at one input. -/
def densDrawnWrong : ChangeSpec := { name := "densDrawn", fn := fun _ => fun
  | [d1, d2] => { results := [.lit (.bool false)], args := [d1, d2] }
  | _ => none }
def DensDrawnWrongFalsely : Prop := densDrawnRow.holds Tryz.pinned (OpenSpec.ofChange densDrawnWrong)

/- THE SECOND FORM. 'bulk': how many values and letters a reading holds, each counted each time it is reached (what is shared counts as often as it is met; a slice's spare places count too). A statement '..UptoSaid' is the law's where the arguments, and the package variables that the reading takes, are together of bulk at most 1048576: NARROWER than '..Said'. Prove '..Said' where nothing that the law and all that it calls make is longer than what came in: it says more and counts as full. Else prove '..UptoSaid'. A law counts once. -/
mutual
def uptoBulk {H : Type} : DataW H → Nat
  | .lit (.string bytes) => bytes.length + 1
  | .lit _ => 1
  | .nil => 1
  | .ptr d => uptoBulk d + 1
  | .slice elems spare => uptoBulkAll elems + uptoBulkAll spare + 1
  | .agg parts => uptoBulkAll parts + 1
  | .iface _ d => uptoBulk d + 1
  | .map entries => uptoBulkEntries entries + 1
  | .held _ => 1
def uptoBulkAll {H : Type} : List (DataW H) → Nat
  | [] => 0
  | d :: r => uptoBulk d + uptoBulkAll r
def uptoBulkEntries {H : Type} : List (Lit × DataW H) → Nat
  | [] => 0
  | x :: r => uptoBulkEntry x + uptoBulkEntries r
def uptoBulkEntry {H : Type} : Lit × DataW H → Nat
  | (.string bytes, d) => bytes.length + uptoBulk d + 1
  | (_, d) => uptoBulk d + 1
 end
def uptoSmall : (H : Type) → List (DataW H) → Bool := fun _ ds => decide (uptoBulkAll ds ≤ 1048576)
def OpenSpec.upto (s : _root_.Go.ChangeSpec) : _root_.Go.OpenSpec := { _root_.Go.OpenSpec.ofChange s with cond := some uptoSmall }

/-- 'burnishlaw22.DensMirror', WHERE WHAT IT READS IS OF BULK AT MOST 1048576: true; the input reads as it did. -/
def densMirrorUptoRow : OpenClaim := { program := "ytgjohjgmlleebaagreat", sum := "340003559bd039404cb556ace642830ffb622118348b28cd9f2272090df158ea", func := "burnish/burnishlaw22.DensMirror", spec := "densMirror", inPlace := ["math.Float64bits", "math.Float64frombits", "math/bits.Add64", "math/bits.Sub64"], unfollowed := true, recurses := true, named := ["math/bits.divideError", "math/bits.overflowError"], apart := false, narrowed := true }
def DensMirrorUptoSaid : Prop := densMirrorUptoRow.holds Tryz.pinned (OpenSpec.upto densMirrorSpec)

/-- 'burnishlaw22.DensMix', WHERE WHAT IT READS IS OF BULK AT MOST 1048576: true; the input reads as it did. -/
def densMixUptoRow : OpenClaim := { program := "ytgjohjgmlleebaagreat", sum := "340003559bd039404cb556ace642830ffb622118348b28cd9f2272090df158ea", func := "burnish/burnishlaw22.DensMix", spec := "densMix", inPlace := ["math.Float64bits", "math.Float64frombits", "math/bits.Add64", "math/bits.Sub64"], unfollowed := true, recurses := true, named := ["math/bits.divideError", "math/bits.overflowError"], apart := false, narrowed := true }
def DensMixUptoSaid : Prop := densMixUptoRow.holds Tryz.pinned (OpenSpec.upto densMixSpec)

/-- 'burnishlaw23.DrawOften', WHERE WHAT IT READS IS OF BULK AT MOST 1048576: true; the input reads as it did. -/
def drawOftenUptoRow : OpenClaim := { program := "ytgjohjgmlleebaagreat", sum := "340003559bd039404cb556ace642830ffb622118348b28cd9f2272090df158ea", func := "burnish/burnishlaw23.DrawOften", spec := "drawOften", inPlace := ["math.Float64bits", "math.Float64frombits", "math/bits.Add64", "math/bits.Sub64"], unfollowed := true, recurses := true, named := ["math/bits.divideError", "math/bits.overflowError"], apart := false, narrowed := true }
def DrawOftenUptoSaid : Prop := drawOftenUptoRow.holds Tryz.pinned (OpenSpec.upto drawOftenSpec)

/-- 'burnishlaw23.DrawBox', WHERE WHAT IT READS IS OF BULK AT MOST 1048576: true; the input reads as it did. -/
def drawBoxUptoRow : OpenClaim := { program := "ytgjohjgmlleebaagreat", sum := "340003559bd039404cb556ace642830ffb622118348b28cd9f2272090df158ea", func := "burnish/burnishlaw23.DrawBox", spec := "drawBox", inPlace := ["math.Float64bits", "math.Float64frombits", "math/bits.Add64", "math/bits.Sub64"], unfollowed := true, recurses := true, named := ["math/bits.divideError", "math/bits.overflowError"], apart := false, narrowed := true }
def DrawBoxUptoSaid : Prop := drawBoxUptoRow.holds Tryz.pinned (OpenSpec.upto drawBoxSpec)

/-- 'burnishlaw23.DrawLeaf', WHERE WHAT IT READS IS OF BULK AT MOST 1048576: true; the input reads as it did. -/
def drawLeafUptoRow : OpenClaim := { program := "ytgjohjgmlleebaagreat", sum := "340003559bd039404cb556ace642830ffb622118348b28cd9f2272090df158ea", func := "burnish/burnishlaw23.DrawLeaf", spec := "drawLeaf", inPlace := ["math.Float64bits", "math.Float64frombits", "math/bits.Add64", "math/bits.Sub64"], unfollowed := true, recurses := true, named := ["math/bits.divideError", "math/bits.overflowError"], apart := false, narrowed := true }
def DrawLeafUptoSaid : Prop := drawLeafUptoRow.holds Tryz.pinned (OpenSpec.upto drawLeafSpec)

/-- 'burnishlaw23.DrawWrong', WHERE WHAT IT READS IS OF BULK AT MOST 1048576: true; the input reads as it did. -/
def drawWrongUptoRow : OpenClaim := { program := "ytgjohjgmlleebaagreat", sum := "340003559bd039404cb556ace642830ffb622118348b28cd9f2272090df158ea", func := "burnish/burnishlaw23.DrawWrong", spec := "drawWrong", inPlace := ["math.Float64bits", "math.Float64frombits", "math/bits.Add64", "math/bits.Sub64"], unfollowed := true, recurses := true, named := ["math/bits.divideError", "math/bits.overflowError"], apart := false, narrowed := true }
def DrawWrongUptoSaid : Prop := drawWrongUptoRow.holds Tryz.pinned (OpenSpec.upto drawWrongSpec)

/-- 'burnishlaw21.EvalBack', WHERE WHAT IT READS IS OF BULK AT MOST 1048576: true; the input reads as it did. -/
def evalBackUptoRow : OpenClaim := { program := "ytgjohjgmlleebaagreat", sum := "340003559bd039404cb556ace642830ffb622118348b28cd9f2272090df158ea", func := "burnish/burnishlaw21.EvalBack", spec := "evalBack", inPlace := ["math.Float64bits", "math.Float64frombits", "math/bits.Add64", "math/bits.Sub64"], unfollowed := true, recurses := true, named := ["math/bits.divideError", "math/bits.overflowError"], apart := false, narrowed := true }
def EvalBackUptoSaid : Prop := evalBackUptoRow.holds Tryz.pinned (OpenSpec.upto evalBackSpec)

/-- 'burnishlaw21.EvalMix', WHERE WHAT IT READS IS OF BULK AT MOST 1048576: true; the input reads as it did. -/
def evalMixUptoRow : OpenClaim := { program := "ytgjohjgmlleebaagreat", sum := "340003559bd039404cb556ace642830ffb622118348b28cd9f2272090df158ea", func := "burnish/burnishlaw21.EvalMix", spec := "evalMix", inPlace := ["math.Float64bits", "math.Float64frombits", "math/bits.Add64", "math/bits.Sub64"], unfollowed := true, recurses := true, named := ["math/bits.divideError", "math/bits.overflowError"], apart := false, narrowed := true }
def EvalMixUptoSaid : Prop := evalMixUptoRow.holds Tryz.pinned (OpenSpec.upto evalMixSpec)

/-- 'burnishlaw21.EvalCoat', WHERE WHAT IT READS IS OF BULK AT MOST 1048576: true; the input reads as it did. -/
def evalCoatUptoRow : OpenClaim := { program := "ytgjohjgmlleebaagreat", sum := "340003559bd039404cb556ace642830ffb622118348b28cd9f2272090df158ea", func := "burnish/burnishlaw21.EvalCoat", spec := "evalCoat", inPlace := ["math.Float64bits", "math.Float64frombits", "math/bits.Add64", "math/bits.Sub64"], unfollowed := true, recurses := true, named := ["math/bits.divideError", "math/bits.overflowError"], apart := false, narrowed := true }
def EvalCoatUptoSaid : Prop := evalCoatUptoRow.holds Tryz.pinned (OpenSpec.upto evalCoatSpec)

/-- 'burnishlaw21.EvalDomain', WHERE WHAT IT READS IS OF BULK AT MOST 1048576: true; the input reads as it did. -/
def evalDomainUptoRow : OpenClaim := { program := "ytgjohjgmlleebaagreat", sum := "340003559bd039404cb556ace642830ffb622118348b28cd9f2272090df158ea", func := "burnish/burnishlaw21.EvalDomain", spec := "evalDomain", inPlace := ["math.Float64bits", "math.Float64frombits", "math/bits.Add64", "math/bits.Sub64"], unfollowed := true, recurses := true, named := ["math/bits.divideError", "math/bits.overflowError"], apart := false, narrowed := true }
def EvalDomainUptoSaid : Prop := evalDomainUptoRow.holds Tryz.pinned (OpenSpec.upto evalDomainSpec)

/-- 'burnishlaw22.DensWithin', WHERE WHAT IT READS IS OF BULK AT MOST 1048576: true; the input reads as it did. -/
def densWithinUptoRow : OpenClaim := { program := "ytgjohjgmlleebaagreat", sum := "340003559bd039404cb556ace642830ffb622118348b28cd9f2272090df158ea", func := "burnish/burnishlaw22.DensWithin", spec := "densWithin", inPlace := ["math.Float64bits", "math.Float64frombits", "math/bits.Add64", "math/bits.Sub64"], unfollowed := true, recurses := true, named := ["math/bits.divideError", "math/bits.overflowError"], apart := false, narrowed := true }
def DensWithinUptoSaid : Prop := densWithinUptoRow.holds Tryz.pinned (OpenSpec.upto densWithinSpec)

/-- 'burnishlaw22.DensDrawn', WHERE WHAT IT READS IS OF BULK AT MOST 1048576: true; the input reads as it did. -/
def densDrawnUptoRow : OpenClaim := { program := "ytgjohjgmlleebaagreat", sum := "340003559bd039404cb556ace642830ffb622118348b28cd9f2272090df158ea", func := "burnish/burnishlaw22.DensDrawn", spec := "densDrawn", inPlace := ["math.Float64bits", "math.Float64frombits", "math/bits.Add64", "math/bits.Sub64"], unfollowed := true, recurses := true, named := ["math/bits.divideError", "math/bits.overflowError"], apart := false, narrowed := true }
def DensDrawnUptoSaid : Prop := densDrawnUptoRow.holds Tryz.pinned (OpenSpec.upto densDrawnSpec)

end Rows
end Go.Proofs.YtgjohjgmlleebaaGreat
