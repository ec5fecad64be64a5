/-
  No cell of these rows narrows 'for every input' (looked for: loops, veiled, ifaces, maps, wideKeys, modest, calm, conditions, laid).
  DERIVED. THE GIVEN ROWS OF THIS SEAT. 12 by the template 'for every input the law returns true; each argument reads behind the call as it read before'; 0 by the template 'total and deterministic' (their statements: YthclipfgcgoofaaGreatTotals.lean).
  GIVEN WITH THE SEED: the statements are not yours to turn. If you find one false, say at which input.
  Laid BY PROGRAM, IN A SANDBOX (cutbox-rows.mjs): the forced cells as the released guide's own fill.sh prints them over the translation 323b9bac8b177237… (all of the seat's roots in one cut). By AI agents, Wed Nov 11 2026. No macro, syntax, notation, axiom, sorry.
-/
import Derived.Test.YthclipfgcgoofaaGreatChecked
import GoSem.Claim
import GoSem.ClaimJoined
import GoSem.ClaimMapViews
import Derived.JoinedTies
import Derived.KernelRfl
namespace Go.Proofs.YthclipfgcgoofaaGreat
/- THE CELL 'sum', in the pinned program and in every row, IS THE sha256 OF THE DUMP (.gsa) THAT YthclipfgcgoofaaGreatProg.lean LOADS. Nothing in Lean hashes anything: it is a label: what it is worth is what the hold of that sum in a sandbox is worth. -/
noncomputable def Tryz.pinned : Pinned := { name := "ythclipfgcgoofaagreat", sum := "323b9bac8b1772378b4173e58273a07625ae148faa1567c980c74d6fcc224c92", checked := Tryz.checked }
namespace Rows
def none {H : Type} : Left H := { results := [], args := [] }

/-- 'burnishlaw23.DrawWrong': WHATEVER THE INPUT: true; the input reads as it did. -/
def drawWrongSpec : ChangeSpec := { name := "drawWrong", fn := fun _ => fun
  | [d1, d2, d3, d4] => { results := [.lit (.bool true)], args := [d1, d2, d3, d4] }
  | _ => none }
def drawWrongRow : OpenClaim := { program := "ythclipfgcgoofaagreat", sum := "323b9bac8b1772378b4173e58273a07625ae148faa1567c980c74d6fcc224c92", func := "burnish/burnishlaw23.DrawWrong", spec := "drawWrong", inPlace := ["math.Float64bits", "math.Float64frombits", "math/bits.Add64", "math/bits.Sub64"], unfollowed := true, recurses := true, named := ["math/bits.divideError", "math/bits.overflowError"], apart := false }
def DrawWrongSaid : Prop := drawWrongRow.holds Tryz.pinned (OpenSpec.ofChange drawWrongSpec)

/-- ITS FALSE NEIGHBOUR: 'it returns false'. Refute it at one input. -/
def drawWrongWrong : ChangeSpec := { name := "drawWrong", fn := fun _ => fun
  | [d1, d2, d3, d4] => { results := [.lit (.bool false)], args := [d1, d2, d3, d4] }
  | _ => none }
def DrawWrongWrongFalsely : Prop := drawWrongRow.holds Tryz.pinned (OpenSpec.ofChange drawWrongWrong)

/-- 'burnishlaw21.EvalDomain': WHATEVER THE INPUT: true; the input reads as it did. -/
def evalDomainSpec : ChangeSpec := { name := "evalDomain", fn := fun _ => fun
  | [d1, d2, d3, d4, d5] => { results := [.lit (.bool true)], args := [d1, d2, d3, d4, d5] }
  | _ => none }
def evalDomainRow : OpenClaim := { program := "ythclipfgcgoofaagreat", sum := "323b9bac8b1772378b4173e58273a07625ae148faa1567c980c74d6fcc224c92", func := "burnish/burnishlaw21.EvalDomain", spec := "evalDomain", inPlace := ["math.Float64bits", "math.Float64frombits", "math/bits.Add64", "math/bits.Sub64"], unfollowed := true, recurses := true, named := ["math/bits.divideError", "math/bits.overflowError"], apart := false }
def EvalDomainSaid : Prop := evalDomainRow.holds Tryz.pinned (OpenSpec.ofChange evalDomainSpec)

/-- ITS FALSE NEIGHBOUR: 'it returns false'. Refute it at one input. -/
def evalDomainWrong : ChangeSpec := { name := "evalDomain", fn := fun _ => fun
  | [d1, d2, d3, d4, d5] => { results := [.lit (.bool false)], args := [d1, d2, d3, d4, d5] }
  | _ => none }
def EvalDomainWrongFalsely : Prop := evalDomainRow.holds Tryz.pinned (OpenSpec.ofChange evalDomainWrong)

/-- 'burnishlaw22.DensWithin': WHATEVER THE INPUT: true; the input reads as it did. -/
def densWithinSpec : ChangeSpec := { name := "densWithin", fn := fun _ => fun
  | [d1, d2, d3, d4, d5] => { results := [.lit (.bool true)], args := [d1, d2, d3, d4, d5] }
  | _ => none }
def densWithinRow : OpenClaim := { program := "ythclipfgcgoofaagreat", sum := "323b9bac8b1772378b4173e58273a07625ae148faa1567c980c74d6fcc224c92", func := "burnish/burnishlaw22.DensWithin", spec := "densWithin", inPlace := ["math.Float64bits", "math.Float64frombits", "math/bits.Add64", "math/bits.Sub64"], unfollowed := true, recurses := true, named := ["math/bits.divideError", "math/bits.overflowError"], apart := false }
def DensWithinSaid : Prop := densWithinRow.holds Tryz.pinned (OpenSpec.ofChange densWithinSpec)

/-- ITS FALSE NEIGHBOUR: 'it returns false'. Refute it at one input. -/
def densWithinWrong : ChangeSpec := { name := "densWithin", fn := fun _ => fun
  | [d1, d2, d3, d4, d5] => { results := [.lit (.bool false)], args := [d1, d2, d3, d4, d5] }
  | _ => none }
def DensWithinWrongFalsely : Prop := densWithinRow.holds Tryz.pinned (OpenSpec.ofChange densWithinWrong)

/-- 'burnishlaw24.WeighAlbedo': WHATEVER THE INPUT: true; the input reads as it did. -/
def weighAlbedoSpec : ChangeSpec := { name := "weighAlbedo", fn := fun _ => fun
  | [d1, d2, d3] => { results := [.lit (.bool true)], args := [d1, d2, d3] }
  | _ => none }
def weighAlbedoRow : OpenClaim := { program := "ythclipfgcgoofaagreat", sum := "323b9bac8b1772378b4173e58273a07625ae148faa1567c980c74d6fcc224c92", func := "burnish/burnishlaw24.WeighAlbedo", spec := "weighAlbedo", inPlace := ["math.Float64bits", "math.Float64frombits", "math/bits.Add64", "math/bits.Sub64"], unfollowed := true, recurses := true, named := ["math/bits.divideError", "math/bits.overflowError"], apart := false }
def WeighAlbedoSaid : Prop := weighAlbedoRow.holds Tryz.pinned (OpenSpec.ofChange weighAlbedoSpec)

/-- ITS FALSE NEIGHBOUR: 'it returns false'. Refute it at one input. -/
def weighAlbedoWrong : ChangeSpec := { name := "weighAlbedo", fn := fun _ => fun
  | [d1, d2, d3] => { results := [.lit (.bool false)], args := [d1, d2, d3] }
  | _ => none }
def WeighAlbedoWrongFalsely : Prop := weighAlbedoRow.holds Tryz.pinned (OpenSpec.ofChange weighAlbedoWrong)

/-- 'burnishlaw24.WeighWrong': WHATEVER THE INPUT: true; the input reads as it did. -/
def weighWrongSpec : ChangeSpec := { name := "weighWrong", fn := fun _ => fun
  | [d1, d2, d3] => { results := [.lit (.bool true)], args := [d1, d2, d3] }
  | _ => none }
def weighWrongRow : OpenClaim := { program := "ythclipfgcgoofaagreat", sum := "323b9bac8b1772378b4173e58273a07625ae148faa1567c980c74d6fcc224c92", func := "burnish/burnishlaw24.WeighWrong", spec := "weighWrong", inPlace := ["math.Float64bits", "math.Float64frombits", "math/bits.Add64", "math/bits.Sub64"], unfollowed := true, recurses := true, named := ["math/bits.divideError", "math/bits.overflowError"], apart := false }
def WeighWrongSaid : Prop := weighWrongRow.holds Tryz.pinned (OpenSpec.ofChange weighWrongSpec)

/-- ITS FALSE NEIGHBOUR: 'it returns false'. Refute it at one input. -/
def weighWrongWrong : ChangeSpec := { name := "weighWrong", fn := fun _ => fun
  | [d1, d2, d3] => { results := [.lit (.bool false)], args := [d1, d2, d3] }
  | _ => none }
def WeighWrongWrongFalsely : Prop := weighWrongRow.holds Tryz.pinned (OpenSpec.ofChange weighWrongWrong)

/-- 'burnishlaw24.WeighBelow': WHATEVER THE INPUT: true; the input reads as it did. -/
def weighBelowSpec : ChangeSpec := { name := "weighBelow", fn := fun _ => fun
  | [d1, d2, d3] => { results := [.lit (.bool true)], args := [d1, d2, d3] }
  | _ => none }
def weighBelowRow : OpenClaim := { program := "ythclipfgcgoofaagreat", sum := "323b9bac8b1772378b4173e58273a07625ae148faa1567c980c74d6fcc224c92", func := "burnish/burnishlaw24.WeighBelow", spec := "weighBelow", inPlace := ["math.Float64bits", "math.Float64frombits", "math/bits.Add64", "math/bits.Sub64"], unfollowed := true, recurses := true, named := ["math/bits.divideError", "math/bits.overflowError"], apart := false }
def WeighBelowSaid : Prop := weighBelowRow.holds Tryz.pinned (OpenSpec.ofChange weighBelowSpec)

/-- ITS FALSE NEIGHBOUR: 'it returns false'. Refute it at one input. -/
def weighBelowWrong : ChangeSpec := { name := "weighBelow", fn := fun _ => fun
  | [d1, d2, d3] => { results := [.lit (.bool false)], args := [d1, d2, d3] }
  | _ => none }
def WeighBelowWrongFalsely : Prop := weighBelowRow.holds Tryz.pinned (OpenSpec.ofChange weighBelowWrong)

/-- 'burnishlaw24.WeighSample': WHATEVER THE INPUT: true; the input reads as it did. -/
def weighSampleSpec : ChangeSpec := { name := "weighSample", fn := fun _ => fun
  | [d1, d2, d3] => { results := [.lit (.bool true)], args := [d1, d2, d3] }
  | _ => none }
def weighSampleRow : OpenClaim := { program := "ythclipfgcgoofaagreat", sum := "323b9bac8b1772378b4173e58273a07625ae148faa1567c980c74d6fcc224c92", func := "burnish/burnishlaw24.WeighSample", spec := "weighSample", inPlace := ["math.Float64bits", "math.Float64frombits", "math/bits.Add64", "math/bits.Sub64"], unfollowed := true, recurses := true, named := ["math/bits.divideError", "math/bits.overflowError"], apart := false }
def WeighSampleSaid : Prop := weighSampleRow.holds Tryz.pinned (OpenSpec.ofChange weighSampleSpec)

/-- ITS FALSE NEIGHBOUR: 'it returns false'. Refute it at one input. -/
def weighSampleWrong : ChangeSpec := { name := "weighSample", fn := fun _ => fun
  | [d1, d2, d3] => { results := [.lit (.bool false)], args := [d1, d2, d3] }
  | _ => none }
def WeighSampleWrongFalsely : Prop := weighSampleRow.holds Tryz.pinned (OpenSpec.ofChange weighSampleWrong)

/-- 'burnishlaw27.FurnaceWhite': WHATEVER THE INPUT: true; the input reads as it did. -/
def furnaceWhiteSpec : ChangeSpec := { name := "furnaceWhite", fn := fun _ => fun
  | [d1, d2, d3, d4] => { results := [.lit (.bool true)], args := [d1, d2, d3, d4] }
  | _ => none }
def furnaceWhiteRow : OpenClaim := { program := "ythclipfgcgoofaagreat", sum := "323b9bac8b1772378b4173e58273a07625ae148faa1567c980c74d6fcc224c92", func := "burnish/burnishlaw27.FurnaceWhite", spec := "furnaceWhite", inPlace := ["math.Float64bits", "math.Float64frombits", "math/bits.Sub64", "math/bits.Add64"], unfollowed := true, recurses := true, named := ["math/bits.divideError", "math/bits.overflowError"], apart := false }
def FurnaceWhiteSaid : Prop := furnaceWhiteRow.holds Tryz.pinned (OpenSpec.ofChange furnaceWhiteSpec)

/-- ITS FALSE NEIGHBOUR: 'it returns false'. Refute it at one input. -/
def furnaceWhiteWrong : ChangeSpec := { name := "furnaceWhite", fn := fun _ => fun
  | [d1, d2, d3, d4] => { results := [.lit (.bool false)], args := [d1, d2, d3, d4] }
  | _ => none }
def FurnaceWhiteWrongFalsely : Prop := furnaceWhiteRow.holds Tryz.pinned (OpenSpec.ofChange furnaceWhiteWrong)

/-- 'burnishlaw27.FurnaceGrey': WHATEVER THE INPUT: true; the input reads as it did. -/
def furnaceGreySpec : ChangeSpec := { name := "furnaceGrey", fn := fun _ => fun
  | [d1, d2, d3] => { results := [.lit (.bool true)], args := [d1, d2, d3] }
  | _ => none }
def furnaceGreyRow : OpenClaim := { program := "ythclipfgcgoofaagreat", sum := "323b9bac8b1772378b4173e58273a07625ae148faa1567c980c74d6fcc224c92", func := "burnish/burnishlaw27.FurnaceGrey", spec := "furnaceGrey", inPlace := ["math.Float64bits", "math.Float64frombits", "math/bits.Sub64", "math/bits.Add64"], unfollowed := true, recurses := true, named := ["math/bits.divideError", "math/bits.overflowError"], apart := false }
def FurnaceGreySaid : Prop := furnaceGreyRow.holds Tryz.pinned (OpenSpec.ofChange furnaceGreySpec)

/-- ITS FALSE NEIGHBOUR: 'it returns false'. Refute it at one input. -/
def furnaceGreyWrong : ChangeSpec := { name := "furnaceGrey", fn := fun _ => fun
  | [d1, d2, d3] => { results := [.lit (.bool false)], args := [d1, d2, d3] }
  | _ => none }
def FurnaceGreyWrongFalsely : Prop := furnaceGreyRow.holds Tryz.pinned (OpenSpec.ofChange furnaceGreyWrong)

/-- 'burnishlaw27.FurnaceMean': WHATEVER THE INPUT: true; the input reads as it did. -/
def furnaceMeanSpec : ChangeSpec := { name := "furnaceMean", fn := fun _ => fun
  | [d1, d2, d3] => { results := [.lit (.bool true)], args := [d1, d2, d3] }
  | _ => none }
def furnaceMeanRow : OpenClaim := { program := "ythclipfgcgoofaagreat", sum := "323b9bac8b1772378b4173e58273a07625ae148faa1567c980c74d6fcc224c92", func := "burnish/burnishlaw27.FurnaceMean", spec := "furnaceMean", inPlace := ["math.Float64bits", "math.Float64frombits", "math/bits.Sub64", "math/bits.Add64"], unfollowed := true, recurses := true, named := ["math/bits.divideError", "math/bits.overflowError"], apart := false }
def FurnaceMeanSaid : Prop := furnaceMeanRow.holds Tryz.pinned (OpenSpec.ofChange furnaceMeanSpec)

/-- ITS FALSE NEIGHBOUR: 'it returns false'. Refute it at one input. -/
def furnaceMeanWrong : ChangeSpec := { name := "furnaceMean", fn := fun _ => fun
  | [d1, d2, d3] => { results := [.lit (.bool false)], args := [d1, d2, d3] }
  | _ => none }
def FurnaceMeanWrongFalsely : Prop := furnaceMeanRow.holds Tryz.pinned (OpenSpec.ofChange furnaceMeanWrong)

/-- 'burnishlaw27.FurnaceRound': WHATEVER THE INPUT: true; the input reads as it did. -/
def furnaceRoundSpec : ChangeSpec := { name := "furnaceRound", fn := fun _ => fun
  | [d1, d2, d3] => { results := [.lit (.bool true)], args := [d1, d2, d3] }
  | _ => none }
def furnaceRoundRow : OpenClaim := { program := "ythclipfgcgoofaagreat", sum := "323b9bac8b1772378b4173e58273a07625ae148faa1567c980c74d6fcc224c92", func := "burnish/burnishlaw27.FurnaceRound", spec := "furnaceRound", inPlace := ["math.Float64bits", "math.Float64frombits", "math/bits.Sub64", "math/bits.Add64"], unfollowed := true, recurses := true, named := ["math/bits.divideError", "math/bits.overflowError"], apart := false }
def FurnaceRoundSaid : Prop := furnaceRoundRow.holds Tryz.pinned (OpenSpec.ofChange furnaceRoundSpec)

/-- ITS FALSE NEIGHBOUR: 'it returns false'. Refute it at one input. -/
def furnaceRoundWrong : ChangeSpec := { name := "furnaceRound", fn := fun _ => fun
  | [d1, d2, d3] => { results := [.lit (.bool false)], args := [d1, d2, d3] }
  | _ => none }
def FurnaceRoundWrongFalsely : Prop := furnaceRoundRow.holds Tryz.pinned (OpenSpec.ofChange furnaceRoundWrong)

/-- 'burnishlaw27.FurnaceWrong': WHATEVER THE INPUT: true; the input reads as it did. -/
def furnaceWrongSpec : ChangeSpec := { name := "furnaceWrong", fn := fun _ => fun
  | [d1, d2, d3, d4, d5] => { results := [.lit (.bool true)], args := [d1, d2, d3, d4, d5] }
  | _ => none }
def furnaceWrongRow : OpenClaim := { program := "ythclipfgcgoofaagreat", sum := "323b9bac8b1772378b4173e58273a07625ae148faa1567c980c74d6fcc224c92", func := "burnish/burnishlaw27.FurnaceWrong", spec := "furnaceWrong", inPlace := ["math.Float64bits", "math.Float64frombits", "math/bits.Sub64", "math/bits.Add64"], unfollowed := true, recurses := true, named := ["math/bits.divideError", "math/bits.overflowError"], apart := false }
def FurnaceWrongSaid : Prop := furnaceWrongRow.holds Tryz.pinned (OpenSpec.ofChange furnaceWrongSpec)

/-- ITS FALSE NEIGHBOUR: 'it returns false'. Refute it at one input. -/
def furnaceWrongWrong : ChangeSpec := { name := "furnaceWrong", fn := fun _ => fun
  | [d1, d2, d3, d4, d5] => { results := [.lit (.bool false)], args := [d1, d2, d3, d4, d5] }
  | _ => none }
def FurnaceWrongWrongFalsely : Prop := furnaceWrongRow.holds Tryz.pinned (OpenSpec.ofChange furnaceWrongWrong)

/- THE SECOND FORM. 'bulk': how many values and letters a reading holds, each counted each time it is reached (what is shared counts as often as it is met; a slice's spare places count too). A statement '..UptoSaid' is the law's where the arguments, and the package variables that the reading takes, are together of bulk at most 1048576: NARROWER than '..Said'. Prove '..Said' where nothing that the law and all that it calls make is longer than what came in: it says more and counts as full. Else prove '..UptoSaid'. A law counts once. -/
mutual
def uptoBulk {H : Type} : DataW H → Nat
  | .lit (.string bytes) => bytes.length + 1
  | .lit _ => 1
  | .nil => 1
  | .ptr d => uptoBulk d + 1
  | .slice elems spare => uptoBulkAll elems + uptoBulkAll spare + 1
  | .agg parts => uptoBulkAll parts + 1
  | .iface _ d => uptoBulk d + 1
  | .map entries => uptoBulkEntries entries + 1
  | .held _ => 1
def uptoBulkAll {H : Type} : List (DataW H) → Nat
  | [] => 0
  | d :: r => uptoBulk d + uptoBulkAll r
def uptoBulkEntries {H : Type} : List (Lit × DataW H) → Nat
  | [] => 0
  | x :: r => uptoBulkEntry x + uptoBulkEntries r
def uptoBulkEntry {H : Type} : Lit × DataW H → Nat
  | (.string bytes, d) => bytes.length + uptoBulk d + 1
  | (_, d) => uptoBulk d + 1
 end
def uptoSmall : (H : Type) → List (DataW H) → Bool := fun _ ds => decide (uptoBulkAll ds ≤ 1048576)
def OpenSpec.upto (s : _root_.Go.ChangeSpec) : _root_.Go.OpenSpec := { _root_.Go.OpenSpec.ofChange s with cond := some uptoSmall }

/-- 'burnishlaw23.DrawWrong', WHERE WHAT IT READS IS OF BULK AT MOST 1048576: true; the input reads as it did. -/
def drawWrongUptoRow : OpenClaim := { program := "ythclipfgcgoofaagreat", sum := "323b9bac8b1772378b4173e58273a07625ae148faa1567c980c74d6fcc224c92", func := "burnish/burnishlaw23.DrawWrong", spec := "drawWrong", inPlace := ["math.Float64bits", "math.Float64frombits", "math/bits.Add64", "math/bits.Sub64"], unfollowed := true, recurses := true, named := ["math/bits.divideError", "math/bits.overflowError"], apart := false, narrowed := true }
def DrawWrongUptoSaid : Prop := drawWrongUptoRow.holds Tryz.pinned (OpenSpec.upto drawWrongSpec)

/-- 'burnishlaw21.EvalDomain', WHERE WHAT IT READS IS OF BULK AT MOST 1048576: true; the input reads as it did. -/
def evalDomainUptoRow : OpenClaim := { program := "ythclipfgcgoofaagreat", sum := "323b9bac8b1772378b4173e58273a07625ae148faa1567c980c74d6fcc224c92", func := "burnish/burnishlaw21.EvalDomain", spec := "evalDomain", inPlace := ["math.Float64bits", "math.Float64frombits", "math/bits.Add64", "math/bits.Sub64"], unfollowed := true, recurses := true, named := ["math/bits.divideError", "math/bits.overflowError"], apart := false, narrowed := true }
def EvalDomainUptoSaid : Prop := evalDomainUptoRow.holds Tryz.pinned (OpenSpec.upto evalDomainSpec)

/-- 'burnishlaw22.DensWithin', WHERE WHAT IT READS IS OF BULK AT MOST 1048576: true; the input reads as it did. -/
def densWithinUptoRow : OpenClaim := { program := "ythclipfgcgoofaagreat", sum := "323b9bac8b1772378b4173e58273a07625ae148faa1567c980c74d6fcc224c92", func := "burnish/burnishlaw22.DensWithin", spec := "densWithin", inPlace := ["math.Float64bits", "math.Float64frombits", "math/bits.Add64", "math/bits.Sub64"], unfollowed := true, recurses := true, named := ["math/bits.divideError", "math/bits.overflowError"], apart := false, narrowed := true }
def DensWithinUptoSaid : Prop := densWithinUptoRow.holds Tryz.pinned (OpenSpec.upto densWithinSpec)

/-- 'burnishlaw24.WeighAlbedo', WHERE WHAT IT READS IS OF BULK AT MOST 1048576: true; the input reads as it did. -/
def weighAlbedoUptoRow : OpenClaim := { program := "ythclipfgcgoofaagreat", sum := "323b9bac8b1772378b4173e58273a07625ae148faa1567c980c74d6fcc224c92", func := "burnish/burnishlaw24.WeighAlbedo", spec := "weighAlbedo", inPlace := ["math.Float64bits", "math.Float64frombits", "math/bits.Add64", "math/bits.Sub64"], unfollowed := true, recurses := true, named := ["math/bits.divideError", "math/bits.overflowError"], apart := false, narrowed := true }
def WeighAlbedoUptoSaid : Prop := weighAlbedoUptoRow.holds Tryz.pinned (OpenSpec.upto weighAlbedoSpec)

/-- 'burnishlaw24.WeighWrong', WHERE WHAT IT READS IS OF BULK AT MOST 1048576: true; the input reads as it did. -/
def weighWrongUptoRow : OpenClaim := { program := "ythclipfgcgoofaagreat", sum := "323b9bac8b1772378b4173e58273a07625ae148faa1567c980c74d6fcc224c92", func := "burnish/burnishlaw24.WeighWrong", spec := "weighWrong", inPlace := ["math.Float64bits", "math.Float64frombits", "math/bits.Add64", "math/bits.Sub64"], unfollowed := true, recurses := true, named := ["math/bits.divideError", "math/bits.overflowError"], apart := false, narrowed := true }
def WeighWrongUptoSaid : Prop := weighWrongUptoRow.holds Tryz.pinned (OpenSpec.upto weighWrongSpec)

/-- 'burnishlaw24.WeighBelow', WHERE WHAT IT READS IS OF BULK AT MOST 1048576: true; the input reads as it did. -/
def weighBelowUptoRow : OpenClaim := { program := "ythclipfgcgoofaagreat", sum := "323b9bac8b1772378b4173e58273a07625ae148faa1567c980c74d6fcc224c92", func := "burnish/burnishlaw24.WeighBelow", spec := "weighBelow", inPlace := ["math.Float64bits", "math.Float64frombits", "math/bits.Add64", "math/bits.Sub64"], unfollowed := true, recurses := true, named := ["math/bits.divideError", "math/bits.overflowError"], apart := false, narrowed := true }
def WeighBelowUptoSaid : Prop := weighBelowUptoRow.holds Tryz.pinned (OpenSpec.upto weighBelowSpec)

/-- 'burnishlaw24.WeighSample', WHERE WHAT IT READS IS OF BULK AT MOST 1048576: true; the input reads as it did. -/
def weighSampleUptoRow : OpenClaim := { program := "ythclipfgcgoofaagreat", sum := "323b9bac8b1772378b4173e58273a07625ae148faa1567c980c74d6fcc224c92", func := "burnish/burnishlaw24.WeighSample", spec := "weighSample", inPlace := ["math.Float64bits", "math.Float64frombits", "math/bits.Add64", "math/bits.Sub64"], unfollowed := true, recurses := true, named := ["math/bits.divideError", "math/bits.overflowError"], apart := false, narrowed := true }
def WeighSampleUptoSaid : Prop := weighSampleUptoRow.holds Tryz.pinned (OpenSpec.upto weighSampleSpec)

/-- 'burnishlaw27.FurnaceWhite', WHERE WHAT IT READS IS OF BULK AT MOST 1048576: true; the input reads as it did. -/
def furnaceWhiteUptoRow : OpenClaim := { program := "ythclipfgcgoofaagreat", sum := "323b9bac8b1772378b4173e58273a07625ae148faa1567c980c74d6fcc224c92", func := "burnish/burnishlaw27.FurnaceWhite", spec := "furnaceWhite", inPlace := ["math.Float64bits", "math.Float64frombits", "math/bits.Sub64", "math/bits.Add64"], unfollowed := true, recurses := true, named := ["math/bits.divideError", "math/bits.overflowError"], apart := false, narrowed := true }
def FurnaceWhiteUptoSaid : Prop := furnaceWhiteUptoRow.holds Tryz.pinned (OpenSpec.upto furnaceWhiteSpec)

/-- 'burnishlaw27.FurnaceGrey', WHERE WHAT IT READS IS OF BULK AT MOST 1048576: true; the input reads as it did. -/
def furnaceGreyUptoRow : OpenClaim := { program := "ythclipfgcgoofaagreat", sum := "323b9bac8b1772378b4173e58273a07625ae148faa1567c980c74d6fcc224c92", func := "burnish/burnishlaw27.FurnaceGrey", spec := "furnaceGrey", inPlace := ["math.Float64bits", "math.Float64frombits", "math/bits.Sub64", "math/bits.Add64"], unfollowed := true, recurses := true, named := ["math/bits.divideError", "math/bits.overflowError"], apart := false, narrowed := true }
def FurnaceGreyUptoSaid : Prop := furnaceGreyUptoRow.holds Tryz.pinned (OpenSpec.upto furnaceGreySpec)

/-- 'burnishlaw27.FurnaceMean', WHERE WHAT IT READS IS OF BULK AT MOST 1048576: true; the input reads as it did. -/
def furnaceMeanUptoRow : OpenClaim := { program := "ythclipfgcgoofaagreat", sum := "323b9bac8b1772378b4173e58273a07625ae148faa1567c980c74d6fcc224c92", func := "burnish/burnishlaw27.FurnaceMean", spec := "furnaceMean", inPlace := ["math.Float64bits", "math.Float64frombits", "math/bits.Sub64", "math/bits.Add64"], unfollowed := true, recurses := true, named := ["math/bits.divideError", "math/bits.overflowError"], apart := false, narrowed := true }
def FurnaceMeanUptoSaid : Prop := furnaceMeanUptoRow.holds Tryz.pinned (OpenSpec.upto furnaceMeanSpec)

/-- 'burnishlaw27.FurnaceRound', WHERE WHAT IT READS IS OF BULK AT MOST 1048576: true; the input reads as it did. -/
def furnaceRoundUptoRow : OpenClaim := { program := "ythclipfgcgoofaagreat", sum := "323b9bac8b1772378b4173e58273a07625ae148faa1567c980c74d6fcc224c92", func := "burnish/burnishlaw27.FurnaceRound", spec := "furnaceRound", inPlace := ["math.Float64bits", "math.Float64frombits", "math/bits.Sub64", "math/bits.Add64"], unfollowed := true, recurses := true, named := ["math/bits.divideError", "math/bits.overflowError"], apart := false, narrowed := true }
def FurnaceRoundUptoSaid : Prop := furnaceRoundUptoRow.holds Tryz.pinned (OpenSpec.upto furnaceRoundSpec)

/-- 'burnishlaw27.FurnaceWrong', WHERE WHAT IT READS IS OF BULK AT MOST 1048576: true; the input reads as it did. -/
def furnaceWrongUptoRow : OpenClaim := { program := "ythclipfgcgoofaagreat", sum := "323b9bac8b1772378b4173e58273a07625ae148faa1567c980c74d6fcc224c92", func := "burnish/burnishlaw27.FurnaceWrong", spec := "furnaceWrong", inPlace := ["math.Float64bits", "math.Float64frombits", "math/bits.Sub64", "math/bits.Add64"], unfollowed := true, recurses := true, named := ["math/bits.divideError", "math/bits.overflowError"], apart := false, narrowed := true }
def FurnaceWrongUptoSaid : Prop := furnaceWrongUptoRow.holds Tryz.pinned (OpenSpec.upto furnaceWrongSpec)

end Rows
end Go.Proofs.YthclipfgcgoofaaGreat
