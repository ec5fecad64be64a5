/-
  No cell of these rows narrows 'for every input' (looked for: loops, veiled, ifaces, maps, wideKeys, modest, calm, conditions, laid).
  DERIVED. THE GIVEN ROWS OF THIS SEAT. 12 by the template 'for every input the law returns true; each argument reads behind the call as it read before'; 0 by the template 'total and deterministic' (their statements: YtejcekikbnlllaaGreatTotals.lean).
  GIVEN WITH THE SEED: the statements are not yours to turn. If you find one false, say at which input.
  Laid BY PROGRAM, IN A SANDBOX (cutbox-rows.mjs): the forced cells as the released guide's own fill.sh prints them over the translation d9367e381cccc666… (all of the seat's roots in one cut). By AI agents, Wed Nov 11 2026. No macro, syntax, notation, axiom, sorry.
-/
import Derived.Test.YtejcekikbnlllaaGreatChecked
import GoSem.Claim
import GoSem.ClaimJoined
import GoSem.ClaimMapViews
import Derived.JoinedTies
import Derived.KernelRfl
namespace Go.Proofs.YtejcekikbnlllaaGreat
/- THE CELL 'sum', in the pinned program and in every row, IS THE sha256 OF THE DUMP (.gsa) THAT YtejcekikbnlllaaGreatProg.lean LOADS. Nothing in Lean hashes anything: it is a label: what it is worth is what the hold of that sum in a sandbox is worth. -/
noncomputable def Tryz.pinned : Pinned := { name := "ytejcekikbnlllaagreat", sum := "d9367e381cccc66627fd279bf909afa80ec9c01dacccaa06fc3539862c59c1cd", checked := Tryz.checked }
namespace Rows
def none {H : Type} : Left H := { results := [], args := [] }

/-- 'burnishtop.TopOften': WHATEVER THE INPUT: true; the input reads as it did. -/
def topOftenSpec : ChangeSpec := { name := "topOften", fn := fun _ => fun
  | [d1, d2, d3] => { results := [.lit (.bool true)], args := [d1, d2, d3] }
  | _ => none }
def topOftenRow : OpenClaim := { program := "ytejcekikbnlllaagreat", sum := "d9367e381cccc66627fd279bf909afa80ec9c01dacccaa06fc3539862c59c1cd", func := "burnish/burnishtop.TopOften", spec := "topOften", inPlace := ["math.Float64bits", "math.Float64frombits", "math/bits.Add64", "math/bits.Sub64"], unfollowed := true, recurses := true, named := ["math/bits.divideError", "math/bits.overflowError"], apart := false }
def TopOftenSaid : Prop := topOftenRow.holds Tryz.pinned (OpenSpec.ofChange topOftenSpec)

/-- ITS FALSE NEIGHBOUR: 'it returns false'. Refute it at one input. -/
def topOftenWrong : ChangeSpec := { name := "topOften", fn := fun _ => fun
  | [d1, d2, d3] => { results := [.lit (.bool false)], args := [d1, d2, d3] }
  | _ => none }
def TopOftenWrongFalsely : Prop := topOftenRow.holds Tryz.pinned (OpenSpec.ofChange topOftenWrong)

/-- 'burnishlaw24.WeighAlbedo': WHATEVER THE INPUT: true; the input reads as it did. -/
def weighAlbedoSpec : ChangeSpec := { name := "weighAlbedo", fn := fun _ => fun
  | [d1, d2, d3] => { results := [.lit (.bool true)], args := [d1, d2, d3] }
  | _ => none }
def weighAlbedoRow : OpenClaim := { program := "ytejcekikbnlllaagreat", sum := "d9367e381cccc66627fd279bf909afa80ec9c01dacccaa06fc3539862c59c1cd", func := "burnish/burnishlaw24.WeighAlbedo", spec := "weighAlbedo", inPlace := ["math.Float64bits", "math.Float64frombits", "math/bits.Add64", "math/bits.Sub64"], unfollowed := true, recurses := true, named := ["math/bits.divideError", "math/bits.overflowError"], apart := false }
def WeighAlbedoSaid : Prop := weighAlbedoRow.holds Tryz.pinned (OpenSpec.ofChange weighAlbedoSpec)

/-- ITS FALSE NEIGHBOUR: 'it returns false'. Refute it at one input. -/
def weighAlbedoWrong : ChangeSpec := { name := "weighAlbedo", fn := fun _ => fun
  | [d1, d2, d3] => { results := [.lit (.bool false)], args := [d1, d2, d3] }
  | _ => none }
def WeighAlbedoWrongFalsely : Prop := weighAlbedoRow.holds Tryz.pinned (OpenSpec.ofChange weighAlbedoWrong)

/-- 'burnishlaw29.QuadLambert': WHATEVER THE INPUT: true; the input reads as it did. -/
def quadLambertSpec : ChangeSpec := { name := "quadLambert", fn := fun _ => fun
  | [d1, d2, d3, d4] => { results := [.lit (.bool true)], args := [d1, d2, d3, d4] }
  | _ => none }
def quadLambertRow : OpenClaim := { program := "ytejcekikbnlllaagreat", sum := "d9367e381cccc66627fd279bf909afa80ec9c01dacccaa06fc3539862c59c1cd", func := "burnish/burnishlaw29.QuadLambert", spec := "quadLambert", inPlace := ["math.Float64bits", "math.Float64frombits", "math/bits.Add64", "math/bits.Sub64"], unfollowed := true, recurses := true, named := ["math/bits.divideError", "math/bits.overflowError"], apart := false }
def QuadLambertSaid : Prop := quadLambertRow.holds Tryz.pinned (OpenSpec.ofChange quadLambertSpec)

/-- ITS FALSE NEIGHBOUR: 'it returns false'. Refute it at one input. -/
def quadLambertWrong : ChangeSpec := { name := "quadLambert", fn := fun _ => fun
  | [d1, d2, d3, d4] => { results := [.lit (.bool false)], args := [d1, d2, d3, d4] }
  | _ => none }
def QuadLambertWrongFalsely : Prop := quadLambertRow.holds Tryz.pinned (OpenSpec.ofChange quadLambertWrong)

/-- 'burnishlaw29.QuadCells': WHATEVER THE INPUT: true; the input reads as it did. -/
def quadCellsSpec : ChangeSpec := { name := "quadCells", fn := fun _ => fun
  | [d1, d2, d3, d4, d5] => { results := [.lit (.bool true)], args := [d1, d2, d3, d4, d5] }
  | _ => none }
def quadCellsRow : OpenClaim := { program := "ytejcekikbnlllaagreat", sum := "d9367e381cccc66627fd279bf909afa80ec9c01dacccaa06fc3539862c59c1cd", func := "burnish/burnishlaw29.QuadCells", spec := "quadCells", inPlace := ["math.Float64bits", "math.Float64frombits", "math/bits.Add64", "math/bits.Sub64"], unfollowed := true, recurses := true, named := ["math/bits.divideError", "math/bits.overflowError"], apart := false }
def QuadCellsSaid : Prop := quadCellsRow.holds Tryz.pinned (OpenSpec.ofChange quadCellsSpec)

/-- ITS FALSE NEIGHBOUR: 'it returns false'. Refute it at one input. -/
def quadCellsWrong : ChangeSpec := { name := "quadCells", fn := fun _ => fun
  | [d1, d2, d3, d4, d5] => { results := [.lit (.bool false)], args := [d1, d2, d3, d4, d5] }
  | _ => none }
def QuadCellsWrongFalsely : Prop := quadCellsRow.holds Tryz.pinned (OpenSpec.ofChange quadCellsWrong)

/-- 'burnishlaw23.DrawTells': WHATEVER THE INPUT: true; the input reads as it did. -/
def drawTellsSpec : ChangeSpec := { name := "drawTells", fn := fun _ => fun
  | [d1, d2, d3, d4, d5, d6, d7] => { results := [.lit (.bool true)], args := [d1, d2, d3, d4, d5, d6, d7] }
  | _ => none }
def drawTellsRow : OpenClaim := { program := "ytejcekikbnlllaagreat", sum := "d9367e381cccc66627fd279bf909afa80ec9c01dacccaa06fc3539862c59c1cd", func := "burnish/burnishlaw23.DrawTells", spec := "drawTells", inPlace := ["math.Float64bits", "math.Float64frombits", "math/bits.Add64", "math/bits.Sub64", "math.FMA", "math.sqrt"], unfollowed := true, recurses := true, named := ["math/bits.divideError", "math/bits.overflowError"], apart := false }
def DrawTellsSaid : Prop := drawTellsRow.holds Tryz.pinned (OpenSpec.ofChange drawTellsSpec)

/-- ITS FALSE NEIGHBOUR: 'it returns false'. Refute it at one input. -/
def drawTellsWrong : ChangeSpec := { name := "drawTells", fn := fun _ => fun
  | [d1, d2, d3, d4, d5, d6, d7] => { results := [.lit (.bool false)], args := [d1, d2, d3, d4, d5, d6, d7] }
  | _ => none }
def DrawTellsWrongFalsely : Prop := drawTellsRow.holds Tryz.pinned (OpenSpec.ofChange drawTellsWrong)

/-- 'burnishlaw24.WeighBelow': WHATEVER THE INPUT: true; the input reads as it did. -/
def weighBelowSpec : ChangeSpec := { name := "weighBelow", fn := fun _ => fun
  | [d1, d2, d3] => { results := [.lit (.bool true)], args := [d1, d2, d3] }
  | _ => none }
def weighBelowRow : OpenClaim := { program := "ytejcekikbnlllaagreat", sum := "d9367e381cccc66627fd279bf909afa80ec9c01dacccaa06fc3539862c59c1cd", func := "burnish/burnishlaw24.WeighBelow", spec := "weighBelow", inPlace := ["math.Float64bits", "math.Float64frombits", "math/bits.Add64", "math/bits.Sub64"], unfollowed := true, recurses := true, named := ["math/bits.divideError", "math/bits.overflowError"], apart := false }
def WeighBelowSaid : Prop := weighBelowRow.holds Tryz.pinned (OpenSpec.ofChange weighBelowSpec)

/-- ITS FALSE NEIGHBOUR: 'it returns false'. Refute it at one input. -/
def weighBelowWrong : ChangeSpec := { name := "weighBelow", fn := fun _ => fun
  | [d1, d2, d3] => { results := [.lit (.bool false)], args := [d1, d2, d3] }
  | _ => none }
def WeighBelowWrongFalsely : Prop := weighBelowRow.holds Tryz.pinned (OpenSpec.ofChange weighBelowWrong)

/-- 'burnishlaw24.WeighSample': WHATEVER THE INPUT: true; the input reads as it did. -/
def weighSampleSpec : ChangeSpec := { name := "weighSample", fn := fun _ => fun
  | [d1, d2, d3] => { results := [.lit (.bool true)], args := [d1, d2, d3] }
  | _ => none }
def weighSampleRow : OpenClaim := { program := "ytejcekikbnlllaagreat", sum := "d9367e381cccc66627fd279bf909afa80ec9c01dacccaa06fc3539862c59c1cd", func := "burnish/burnishlaw24.WeighSample", spec := "weighSample", inPlace := ["math.Float64bits", "math.Float64frombits", "math/bits.Add64", "math/bits.Sub64"], unfollowed := true, recurses := true, named := ["math/bits.divideError", "math/bits.overflowError"], apart := false }
def WeighSampleSaid : Prop := weighSampleRow.holds Tryz.pinned (OpenSpec.ofChange weighSampleSpec)

/-- ITS FALSE NEIGHBOUR: 'it returns false'. Refute it at one input. -/
def weighSampleWrong : ChangeSpec := { name := "weighSample", fn := fun _ => fun
  | [d1, d2, d3] => { results := [.lit (.bool false)], args := [d1, d2, d3] }
  | _ => none }
def WeighSampleWrongFalsely : Prop := weighSampleRow.holds Tryz.pinned (OpenSpec.ofChange weighSampleWrong)

/-- 'burnishlaw27.FurnaceWhite': WHATEVER THE INPUT: true; the input reads as it did. -/
def furnaceWhiteSpec : ChangeSpec := { name := "furnaceWhite", fn := fun _ => fun
  | [d1, d2, d3, d4] => { results := [.lit (.bool true)], args := [d1, d2, d3, d4] }
  | _ => none }
def furnaceWhiteRow : OpenClaim := { program := "ytejcekikbnlllaagreat", sum := "d9367e381cccc66627fd279bf909afa80ec9c01dacccaa06fc3539862c59c1cd", func := "burnish/burnishlaw27.FurnaceWhite", spec := "furnaceWhite", inPlace := ["math.Float64bits", "math.Float64frombits", "math/bits.Sub64", "math/bits.Add64"], unfollowed := true, recurses := true, named := ["math/bits.divideError", "math/bits.overflowError"], apart := false }
def FurnaceWhiteSaid : Prop := furnaceWhiteRow.holds Tryz.pinned (OpenSpec.ofChange furnaceWhiteSpec)

/-- ITS FALSE NEIGHBOUR: 'it returns false'. Refute it at one input. -/
def furnaceWhiteWrong : ChangeSpec := { name := "furnaceWhite", fn := fun _ => fun
  | [d1, d2, d3, d4] => { results := [.lit (.bool false)], args := [d1, d2, d3, d4] }
  | _ => none }
def FurnaceWhiteWrongFalsely : Prop := furnaceWhiteRow.holds Tryz.pinned (OpenSpec.ofChange furnaceWhiteWrong)

/-- 'burnishlaw27.FurnaceGrey': WHATEVER THE INPUT: true; the input reads as it did. -/
def furnaceGreySpec : ChangeSpec := { name := "furnaceGrey", fn := fun _ => fun
  | [d1, d2, d3] => { results := [.lit (.bool true)], args := [d1, d2, d3] }
  | _ => none }
def furnaceGreyRow : OpenClaim := { program := "ytejcekikbnlllaagreat", sum := "d9367e381cccc66627fd279bf909afa80ec9c01dacccaa06fc3539862c59c1cd", func := "burnish/burnishlaw27.FurnaceGrey", spec := "furnaceGrey", inPlace := ["math.Float64bits", "math.Float64frombits", "math/bits.Sub64", "math/bits.Add64"], unfollowed := true, recurses := true, named := ["math/bits.divideError", "math/bits.overflowError"], apart := false }
def FurnaceGreySaid : Prop := furnaceGreyRow.holds Tryz.pinned (OpenSpec.ofChange furnaceGreySpec)

/-- ITS FALSE NEIGHBOUR: 'it returns false'. Refute it at one input. -/
def furnaceGreyWrong : ChangeSpec := { name := "furnaceGrey", fn := fun _ => fun
  | [d1, d2, d3] => { results := [.lit (.bool false)], args := [d1, d2, d3] }
  | _ => none }
def FurnaceGreyWrongFalsely : Prop := furnaceGreyRow.holds Tryz.pinned (OpenSpec.ofChange furnaceGreyWrong)

/-- 'burnishlaw27.FurnaceMean': WHATEVER THE INPUT: true; the input reads as it did. -/
def furnaceMeanSpec : ChangeSpec := { name := "furnaceMean", fn := fun _ => fun
  | [d1, d2, d3] => { results := [.lit (.bool true)], args := [d1, d2, d3] }
  | _ => none }
def furnaceMeanRow : OpenClaim := { program := "ytejcekikbnlllaagreat", sum := "d9367e381cccc66627fd279bf909afa80ec9c01dacccaa06fc3539862c59c1cd", func := "burnish/burnishlaw27.FurnaceMean", spec := "furnaceMean", inPlace := ["math.Float64bits", "math.Float64frombits", "math/bits.Sub64", "math/bits.Add64"], unfollowed := true, recurses := true, named := ["math/bits.divideError", "math/bits.overflowError"], apart := false }
def FurnaceMeanSaid : Prop := furnaceMeanRow.holds Tryz.pinned (OpenSpec.ofChange furnaceMeanSpec)

/-- ITS FALSE NEIGHBOUR: 'it returns false'. Refute it at one input. -/
def furnaceMeanWrong : ChangeSpec := { name := "furnaceMean", fn := fun _ => fun
  | [d1, d2, d3] => { results := [.lit (.bool false)], args := [d1, d2, d3] }
  | _ => none }
def FurnaceMeanWrongFalsely : Prop := furnaceMeanRow.holds Tryz.pinned (OpenSpec.ofChange furnaceMeanWrong)

/-- 'burnishlaw27.FurnaceRound': WHATEVER THE INPUT: true; the input reads as it did. -/
def furnaceRoundSpec : ChangeSpec := { name := "furnaceRound", fn := fun _ => fun
  | [d1, d2, d3] => { results := [.lit (.bool true)], args := [d1, d2, d3] }
  | _ => none }
def furnaceRoundRow : OpenClaim := { program := "ytejcekikbnlllaagreat", sum := "d9367e381cccc66627fd279bf909afa80ec9c01dacccaa06fc3539862c59c1cd", func := "burnish/burnishlaw27.FurnaceRound", spec := "furnaceRound", inPlace := ["math.Float64bits", "math.Float64frombits", "math/bits.Sub64", "math/bits.Add64"], unfollowed := true, recurses := true, named := ["math/bits.divideError", "math/bits.overflowError"], apart := false }
def FurnaceRoundSaid : Prop := furnaceRoundRow.holds Tryz.pinned (OpenSpec.ofChange furnaceRoundSpec)

/-- ITS FALSE NEIGHBOUR: 'it returns false'. Refute it at one input. -/
def furnaceRoundWrong : ChangeSpec := { name := "furnaceRound", fn := fun _ => fun
  | [d1, d2, d3] => { results := [.lit (.bool false)], args := [d1, d2, d3] }
  | _ => none }
def FurnaceRoundWrongFalsely : Prop := furnaceRoundRow.holds Tryz.pinned (OpenSpec.ofChange furnaceRoundWrong)

/-- 'burnishlaw27.FurnaceWrong': WHATEVER THE INPUT: true; the input reads as it did. -/
def furnaceWrongSpec : ChangeSpec := { name := "furnaceWrong", fn := fun _ => fun
  | [d1, d2, d3, d4, d5] => { results := [.lit (.bool true)], args := [d1, d2, d3, d4, d5] }
  | _ => none }
def furnaceWrongRow : OpenClaim := { program := "ytejcekikbnlllaagreat", sum := "d9367e381cccc66627fd279bf909afa80ec9c01dacccaa06fc3539862c59c1cd", func := "burnish/burnishlaw27.FurnaceWrong", spec := "furnaceWrong", inPlace := ["math.Float64bits", "math.Float64frombits", "math/bits.Sub64", "math/bits.Add64"], unfollowed := true, recurses := true, named := ["math/bits.divideError", "math/bits.overflowError"], apart := false }
def FurnaceWrongSaid : Prop := furnaceWrongRow.holds Tryz.pinned (OpenSpec.ofChange furnaceWrongSpec)

/-- ITS FALSE NEIGHBOUR: 'it returns false'. Refute it at one input. -/
def furnaceWrongWrong : ChangeSpec := { name := "furnaceWrong", fn := fun _ => fun
  | [d1, d2, d3, d4, d5] => { results := [.lit (.bool false)], args := [d1, d2, d3, d4, d5] }
  | _ => none }
def FurnaceWrongWrongFalsely : Prop := furnaceWrongRow.holds Tryz.pinned (OpenSpec.ofChange furnaceWrongWrong)

/- THE SECOND FORM. 'bulk': how many values and letters a reading holds, each counted each time it is reached (what is shared counts as often as it is met; a slice's spare places count too). A statement '..UptoSaid' is the law's where the arguments, and the package variables that the reading takes, are together of bulk at most 1048576: NARROWER than '..Said'. Prove '..Said' where nothing that the law and all that it calls make is longer than what came in: it says more and counts as full. Else prove '..UptoSaid'. A law counts once. -/
mutual
def uptoBulk {H : Type} : DataW H → Nat
  | .lit (.string bytes) => bytes.length + 1
  | .lit _ => 1
  | .nil => 1
  | .ptr d => uptoBulk d + 1
  | .slice elems spare => uptoBulkAll elems + uptoBulkAll spare + 1
  | .agg parts => uptoBulkAll parts + 1
  | .iface _ d => uptoBulk d + 1
  | .map entries => uptoBulkEntries entries + 1
  | .held _ => 1
def uptoBulkAll {H : Type} : List (DataW H) → Nat
  | [] => 0
  | d :: r => uptoBulk d + uptoBulkAll r
def uptoBulkEntries {H : Type} : List (Lit × DataW H) → Nat
  | [] => 0
  | x :: r => uptoBulkEntry x + uptoBulkEntries r
def uptoBulkEntry {H : Type} : Lit × DataW H → Nat
  | (.string bytes, d) => bytes.length + uptoBulk d + 1
  | (_, d) => uptoBulk d + 1
 end
def uptoSmall : (H : Type) → List (DataW H) → Bool := fun _ ds => decide (uptoBulkAll ds ≤ 1048576)
def OpenSpec.upto (s : _root_.Go.ChangeSpec) : _root_.Go.OpenSpec := { _root_.Go.OpenSpec.ofChange s with cond := some uptoSmall }

/-- 'burnishtop.TopOften', WHERE WHAT IT READS IS OF BULK AT MOST 1048576: true; the input reads as it did. -/
def topOftenUptoRow : OpenClaim := { program := "ytejcekikbnlllaagreat", sum := "d9367e381cccc66627fd279bf909afa80ec9c01dacccaa06fc3539862c59c1cd", func := "burnish/burnishtop.TopOften", spec := "topOften", inPlace := ["math.Float64bits", "math.Float64frombits", "math/bits.Add64", "math/bits.Sub64"], unfollowed := true, recurses := true, named := ["math/bits.divideError", "math/bits.overflowError"], apart := false, narrowed := true }
def TopOftenUptoSaid : Prop := topOftenUptoRow.holds Tryz.pinned (OpenSpec.upto topOftenSpec)

/-- 'burnishlaw24.WeighAlbedo', WHERE WHAT IT READS IS OF BULK AT MOST 1048576: true; the input reads as it did. -/
def weighAlbedoUptoRow : OpenClaim := { program := "ytejcekikbnlllaagreat", sum := "d9367e381cccc66627fd279bf909afa80ec9c01dacccaa06fc3539862c59c1cd", func := "burnish/burnishlaw24.WeighAlbedo", spec := "weighAlbedo", inPlace := ["math.Float64bits", "math.Float64frombits", "math/bits.Add64", "math/bits.Sub64"], unfollowed := true, recurses := true, named := ["math/bits.divideError", "math/bits.overflowError"], apart := false, narrowed := true }
def WeighAlbedoUptoSaid : Prop := weighAlbedoUptoRow.holds Tryz.pinned (OpenSpec.upto weighAlbedoSpec)

/-- 'burnishlaw29.QuadLambert', WHERE WHAT IT READS IS OF BULK AT MOST 1048576: true; the input reads as it did. -/
def quadLambertUptoRow : OpenClaim := { program := "ytejcekikbnlllaagreat", sum := "d9367e381cccc66627fd279bf909afa80ec9c01dacccaa06fc3539862c59c1cd", func := "burnish/burnishlaw29.QuadLambert", spec := "quadLambert", inPlace := ["math.Float64bits", "math.Float64frombits", "math/bits.Add64", "math/bits.Sub64"], unfollowed := true, recurses := true, named := ["math/bits.divideError", "math/bits.overflowError"], apart := false, narrowed := true }
def QuadLambertUptoSaid : Prop := quadLambertUptoRow.holds Tryz.pinned (OpenSpec.upto quadLambertSpec)

/-- 'burnishlaw29.QuadCells', WHERE WHAT IT READS IS OF BULK AT MOST 1048576: true; the input reads as it did. -/
def quadCellsUptoRow : OpenClaim := { program := "ytejcekikbnlllaagreat", sum := "d9367e381cccc66627fd279bf909afa80ec9c01dacccaa06fc3539862c59c1cd", func := "burnish/burnishlaw29.QuadCells", spec := "quadCells", inPlace := ["math.Float64bits", "math.Float64frombits", "math/bits.Add64", "math/bits.Sub64"], unfollowed := true, recurses := true, named := ["math/bits.divideError", "math/bits.overflowError"], apart := false, narrowed := true }
def QuadCellsUptoSaid : Prop := quadCellsUptoRow.holds Tryz.pinned (OpenSpec.upto quadCellsSpec)

/-- 'burnishlaw23.DrawTells', WHERE WHAT IT READS IS OF BULK AT MOST 1048576: true; the input reads as it did. -/
def drawTellsUptoRow : OpenClaim := { program := "ytejcekikbnlllaagreat", sum := "d9367e381cccc66627fd279bf909afa80ec9c01dacccaa06fc3539862c59c1cd", func := "burnish/burnishlaw23.DrawTells", spec := "drawTells", inPlace := ["math.Float64bits", "math.Float64frombits", "math/bits.Add64", "math/bits.Sub64", "math.FMA", "math.sqrt"], unfollowed := true, recurses := true, named := ["math/bits.divideError", "math/bits.overflowError"], apart := false, narrowed := true }
def DrawTellsUptoSaid : Prop := drawTellsUptoRow.holds Tryz.pinned (OpenSpec.upto drawTellsSpec)

/-- 'burnishlaw24.WeighBelow', WHERE WHAT IT READS IS OF BULK AT MOST 1048576: true; the input reads as it did. -/
def weighBelowUptoRow : OpenClaim := { program := "ytejcekikbnlllaagreat", sum := "d9367e381cccc66627fd279bf909afa80ec9c01dacccaa06fc3539862c59c1cd", func := "burnish/burnishlaw24.WeighBelow", spec := "weighBelow", inPlace := ["math.Float64bits", "math.Float64frombits", "math/bits.Add64", "math/bits.Sub64"], unfollowed := true, recurses := true, named := ["math/bits.divideError", "math/bits.overflowError"], apart := false, narrowed := true }
def WeighBelowUptoSaid : Prop := weighBelowUptoRow.holds Tryz.pinned (OpenSpec.upto weighBelowSpec)

/-- 'burnishlaw24.WeighSample', WHERE WHAT IT READS IS OF BULK AT MOST 1048576: true; the input reads as it did. -/
def weighSampleUptoRow : OpenClaim := { program := "ytejcekikbnlllaagreat", sum := "d9367e381cccc66627fd279bf909afa80ec9c01dacccaa06fc3539862c59c1cd", func := "burnish/burnishlaw24.WeighSample", spec := "weighSample", inPlace := ["math.Float64bits", "math.Float64frombits", "math/bits.Add64", "math/bits.Sub64"], unfollowed := true, recurses := true, named := ["math/bits.divideError", "math/bits.overflowError"], apart := false, narrowed := true }
def WeighSampleUptoSaid : Prop := weighSampleUptoRow.holds Tryz.pinned (OpenSpec.upto weighSampleSpec)

/-- 'burnishlaw27.FurnaceWhite', WHERE WHAT IT READS IS OF BULK AT MOST 1048576: true; the input reads as it did. -/
def furnaceWhiteUptoRow : OpenClaim := { program := "ytejcekikbnlllaagreat", sum := "d9367e381cccc66627fd279bf909afa80ec9c01dacccaa06fc3539862c59c1cd", func := "burnish/burnishlaw27.FurnaceWhite", spec := "furnaceWhite", inPlace := ["math.Float64bits", "math.Float64frombits", "math/bits.Sub64", "math/bits.Add64"], unfollowed := true, recurses := true, named := ["math/bits.divideError", "math/bits.overflowError"], apart := false, narrowed := true }
def FurnaceWhiteUptoSaid : Prop := furnaceWhiteUptoRow.holds Tryz.pinned (OpenSpec.upto furnaceWhiteSpec)

/-- 'burnishlaw27.FurnaceGrey', WHERE WHAT IT READS IS OF BULK AT MOST 1048576: true; the input reads as it did. -/
def furnaceGreyUptoRow : OpenClaim := { program := "ytejcekikbnlllaagreat", sum := "d9367e381cccc66627fd279bf909afa80ec9c01dacccaa06fc3539862c59c1cd", func := "burnish/burnishlaw27.FurnaceGrey", spec := "furnaceGrey", inPlace := ["math.Float64bits", "math.Float64frombits", "math/bits.Sub64", "math/bits.Add64"], unfollowed := true, recurses := true, named := ["math/bits.divideError", "math/bits.overflowError"], apart := false, narrowed := true }
def FurnaceGreyUptoSaid : Prop := furnaceGreyUptoRow.holds Tryz.pinned (OpenSpec.upto furnaceGreySpec)

/-- 'burnishlaw27.FurnaceMean', WHERE WHAT IT READS IS OF BULK AT MOST 1048576: true; the input reads as it did. -/
def furnaceMeanUptoRow : OpenClaim := { program := "ytejcekikbnlllaagreat", sum := "d9367e381cccc66627fd279bf909afa80ec9c01dacccaa06fc3539862c59c1cd", func := "burnish/burnishlaw27.FurnaceMean", spec := "furnaceMean", inPlace := ["math.Float64bits", "math.Float64frombits", "math/bits.Sub64", "math/bits.Add64"], unfollowed := true, recurses := true, named := ["math/bits.divideError", "math/bits.overflowError"], apart := false, narrowed := true }
def FurnaceMeanUptoSaid : Prop := furnaceMeanUptoRow.holds Tryz.pinned (OpenSpec.upto furnaceMeanSpec)

/-- 'burnishlaw27.FurnaceRound', WHERE WHAT IT READS IS OF BULK AT MOST 1048576: true; the input reads as it did. -/
def furnaceRoundUptoRow : OpenClaim := { program := "ytejcekikbnlllaagreat", sum := "d9367e381cccc66627fd279bf909afa80ec9c01dacccaa06fc3539862c59c1cd", func := "burnish/burnishlaw27.FurnaceRound", spec := "furnaceRound", inPlace := ["math.Float64bits", "math.Float64frombits", "math/bits.Sub64", "math/bits.Add64"], unfollowed := true, recurses := true, named := ["math/bits.divideError", "math/bits.overflowError"], apart := false, narrowed := true }
def FurnaceRoundUptoSaid : Prop := furnaceRoundUptoRow.holds Tryz.pinned (OpenSpec.upto furnaceRoundSpec)

/-- 'burnishlaw27.FurnaceWrong', WHERE WHAT IT READS IS OF BULK AT MOST 1048576: true; the input reads as it did. -/
def furnaceWrongUptoRow : OpenClaim := { program := "ytejcekikbnlllaagreat", sum := "d9367e381cccc66627fd279bf909afa80ec9c01dacccaa06fc3539862c59c1cd", func := "burnish/burnishlaw27.FurnaceWrong", spec := "furnaceWrong", inPlace := ["math.Float64bits", "math.Float64frombits", "math/bits.Sub64", "math/bits.Add64"], unfollowed := true, recurses := true, named := ["math/bits.divideError", "math/bits.overflowError"], apart := false, narrowed := true }
def FurnaceWrongUptoSaid : Prop := furnaceWrongUptoRow.holds Tryz.pinned (OpenSpec.upto furnaceWrongSpec)

end Rows
end Go.Proofs.YtejcekikbnlllaaGreat
