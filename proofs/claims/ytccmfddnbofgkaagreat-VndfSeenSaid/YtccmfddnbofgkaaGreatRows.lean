/-
  No cell of these rows narrows 'for every input' (looked for: loops, veiled, ifaces, maps, wideKeys, modest, calm, conditions, laid).
  DERIVED. THE GIVEN ROWS OF THIS SEAT. 12 by the template 'for every input the law returns true; each argument reads behind the call as it read before'; 0 by the template 'total and deterministic' (their statements: YtccmfddnbofgkaaGreatTotals.lean).
  GIVEN WITH THE SEED: the statements are not yours to turn. If you find one false, say at which input.
  Laid BY PROGRAM, IN A SANDBOX (cutbox-rows.mjs): the forced cells as the released guide's own fill.sh prints them over the translation 5b10e713eef61c27… (all of the seat's roots in one cut). By AI agents, Wed Nov 11 2026. No macro, syntax, notation, axiom, sorry.
-/
import Derived.Test.YtccmfddnbofgkaaGreatChecked
import GoSem.Claim
import GoSem.ClaimJoined
import GoSem.ClaimMapViews
import Derived.JoinedTies
import Derived.KernelRfl
namespace Go.Proofs.YtccmfddnbofgkaaGreat
/- THE CELL 'sum', in the pinned program and in every row, IS THE sha256 OF THE DUMP (.gsa) THAT YtccmfddnbofgkaaGreatProg.lean LOADS. Nothing in Lean hashes anything: it is a label: what it is worth is what the hold of that sum in a sandbox is worth. -/
noncomputable def Tryz.pinned : Pinned := { name := "ytccmfddnbofgkaagreat", sum := "5b10e713eef61c27c8def432bf48fac59d34f748c6735e8d62c8bbfaefb375b3", checked := Tryz.checked }
namespace Rows
def none {H : Type} : Left H := { results := [], args := [] }

/-- 'burnishlaw13.VndfSeen': WHATEVER THE INPUT: true; the input reads as it did. -/
def vndfSeenSpec : ChangeSpec := { name := "vndfSeen", fn := fun _ => fun
  | [d1, d2, d3, d4] => { results := [.lit (.bool true)], args := [d1, d2, d3, d4] }
  | _ => none }
def vndfSeenRow : OpenClaim := { program := "ytccmfddnbofgkaagreat", sum := "5b10e713eef61c27c8def432bf48fac59d34f748c6735e8d62c8bbfaefb375b3", func := "burnish/burnishlaw13.VndfSeen", spec := "vndfSeen", inPlace := ["math.Float64bits", "math.Float64frombits", "math/bits.Add64", "math/bits.Sub64"], unfollowed := true, recurses := true, named := ["math/bits.divideError", "math/bits.overflowError"], apart := false }
def VndfSeenSaid : Prop := vndfSeenRow.holds Tryz.pinned (OpenSpec.ofChange vndfSeenSpec)

/-- ITS FALSE NEIGHBOUR: 'it returns false'. Refute it at one input. -/
def vndfSeenWrong : ChangeSpec := { name := "vndfSeen", fn := fun _ => fun
  | [d1, d2, d3, d4] => { results := [.lit (.bool false)], args := [d1, d2, d3, d4] }
  | _ => none }
def VndfSeenWrongFalsely : Prop := vndfSeenRow.holds Tryz.pinned (OpenSpec.ofChange vndfSeenWrong)

/-- 'burnishlaw11.PairsBack': WHATEVER THE INPUT: true; the input reads as it did. -/
def pairsBackSpec : ChangeSpec := { name := "pairsBack", fn := fun _ => fun
  | [d1, d2, d3] => { results := [.lit (.bool true)], args := [d1, d2, d3] }
  | _ => none }
def pairsBackRow : OpenClaim := { program := "ytccmfddnbofgkaagreat", sum := "5b10e713eef61c27c8def432bf48fac59d34f748c6735e8d62c8bbfaefb375b3", func := "burnish/burnishlaw11.PairsBack", spec := "pairsBack", inPlace := ["math.Float64bits", "math.Float64frombits", "math/bits.Add64", "math/bits.Sub64"], unfollowed := true, recurses := true, named := ["math/bits.divideError", "math/bits.overflowError"], apart := false }
def PairsBackSaid : Prop := pairsBackRow.holds Tryz.pinned (OpenSpec.ofChange pairsBackSpec)

/-- ITS FALSE NEIGHBOUR: 'it returns false'. Refute it at one input. -/
def pairsBackWrong : ChangeSpec := { name := "pairsBack", fn := fun _ => fun
  | [d1, d2, d3] => { results := [.lit (.bool false)], args := [d1, d2, d3] }
  | _ => none }
def PairsBackWrongFalsely : Prop := pairsBackRow.holds Tryz.pinned (OpenSpec.ofChange pairsBackWrong)

/-- 'burnishlaw11.PairsWithin': WHATEVER THE INPUT: true; the input reads as it did. -/
def pairsWithinSpec : ChangeSpec := { name := "pairsWithin", fn := fun _ => fun
  | [d1, d2, d3, d4, d5, d6] => { results := [.lit (.bool true)], args := [d1, d2, d3, d4, d5, d6] }
  | _ => none }
def pairsWithinRow : OpenClaim := { program := "ytccmfddnbofgkaagreat", sum := "5b10e713eef61c27c8def432bf48fac59d34f748c6735e8d62c8bbfaefb375b3", func := "burnish/burnishlaw11.PairsWithin", spec := "pairsWithin", inPlace := ["math.Float64bits", "math.Float64frombits", "math/bits.Add64", "math/bits.Sub64"], unfollowed := true, recurses := true, named := ["math/bits.divideError", "math/bits.overflowError"], apart := false }
def PairsWithinSaid : Prop := pairsWithinRow.holds Tryz.pinned (OpenSpec.ofChange pairsWithinSpec)

/-- ITS FALSE NEIGHBOUR: 'it returns false'. Refute it at one input. -/
def pairsWithinWrong : ChangeSpec := { name := "pairsWithin", fn := fun _ => fun
  | [d1, d2, d3, d4, d5, d6] => { results := [.lit (.bool false)], args := [d1, d2, d3, d4, d5, d6] }
  | _ => none }
def PairsWithinWrongFalsely : Prop := pairsWithinRow.holds Tryz.pinned (OpenSpec.ofChange pairsWithinWrong)

/-- 'burnishlaw11.PairsFlat': WHATEVER THE INPUT: true; the input reads as it did. -/
def pairsFlatSpec : ChangeSpec := { name := "pairsFlat", fn := fun _ => fun
  | [d1, d2, d3, d4] => { results := [.lit (.bool true)], args := [d1, d2, d3, d4] }
  | _ => none }
def pairsFlatRow : OpenClaim := { program := "ytccmfddnbofgkaagreat", sum := "5b10e713eef61c27c8def432bf48fac59d34f748c6735e8d62c8bbfaefb375b3", func := "burnish/burnishlaw11.PairsFlat", spec := "pairsFlat", inPlace := ["math.Float64bits", "math.Float64frombits", "math/bits.Add64", "math/bits.Sub64"], unfollowed := true, recurses := true, named := ["math/bits.divideError", "math/bits.overflowError"], apart := false }
def PairsFlatSaid : Prop := pairsFlatRow.holds Tryz.pinned (OpenSpec.ofChange pairsFlatSpec)

/-- ITS FALSE NEIGHBOUR: 'it returns false'. Refute it at one input. -/
def pairsFlatWrong : ChangeSpec := { name := "pairsFlat", fn := fun _ => fun
  | [d1, d2, d3, d4] => { results := [.lit (.bool false)], args := [d1, d2, d3, d4] }
  | _ => none }
def PairsFlatWrongFalsely : Prop := pairsFlatRow.holds Tryz.pinned (OpenSpec.ofChange pairsFlatWrong)

/-- 'burnishlaw22.DensMirror': WHATEVER THE INPUT: true; the input reads as it did. -/
def densMirrorSpec : ChangeSpec := { name := "densMirror", fn := fun _ => fun
  | [d1, d2, d3] => { results := [.lit (.bool true)], args := [d1, d2, d3] }
  | _ => none }
def densMirrorRow : OpenClaim := { program := "ytccmfddnbofgkaagreat", sum := "5b10e713eef61c27c8def432bf48fac59d34f748c6735e8d62c8bbfaefb375b3", func := "burnish/burnishlaw22.DensMirror", spec := "densMirror", inPlace := ["math.Float64bits", "math.Float64frombits", "math/bits.Add64", "math/bits.Sub64"], unfollowed := true, recurses := true, named := ["math/bits.divideError", "math/bits.overflowError"], apart := false }
def DensMirrorSaid : Prop := densMirrorRow.holds Tryz.pinned (OpenSpec.ofChange densMirrorSpec)

/-- ITS FALSE NEIGHBOUR: 'it returns false'. Refute it at one input. -/
def densMirrorWrong : ChangeSpec := { name := "densMirror", fn := fun _ => fun
  | [d1, d2, d3] => { results := [.lit (.bool false)], args := [d1, d2, d3] }
  | _ => none }
def DensMirrorWrongFalsely : Prop := densMirrorRow.holds Tryz.pinned (OpenSpec.ofChange densMirrorWrong)

/-- 'burnishlaw22.DensMix': WHATEVER THE INPUT: true; the input reads as it did. -/
def densMixSpec : ChangeSpec := { name := "densMix", fn := fun _ => fun
  | [d1, d2, d3, d4, d5] => { results := [.lit (.bool true)], args := [d1, d2, d3, d4, d5] }
  | _ => none }
def densMixRow : OpenClaim := { program := "ytccmfddnbofgkaagreat", sum := "5b10e713eef61c27c8def432bf48fac59d34f748c6735e8d62c8bbfaefb375b3", func := "burnish/burnishlaw22.DensMix", spec := "densMix", inPlace := ["math.Float64bits", "math.Float64frombits", "math/bits.Add64", "math/bits.Sub64"], unfollowed := true, recurses := true, named := ["math/bits.divideError", "math/bits.overflowError"], apart := false }
def DensMixSaid : Prop := densMixRow.holds Tryz.pinned (OpenSpec.ofChange densMixSpec)

/-- ITS FALSE NEIGHBOUR: 'it returns false'. Refute it at one input. -/
def densMixWrong : ChangeSpec := { name := "densMix", fn := fun _ => fun
  | [d1, d2, d3, d4, d5] => { results := [.lit (.bool false)], args := [d1, d2, d3, d4, d5] }
  | _ => none }
def DensMixWrongFalsely : Prop := densMixRow.holds Tryz.pinned (OpenSpec.ofChange densMixWrong)

/-- 'burnishlaw23.DrawOften': WHATEVER THE INPUT: true; the input reads as it did. -/
def drawOftenSpec : ChangeSpec := { name := "drawOften", fn := fun _ => fun
  | [d1, d2, d3, d4, d5, d6] => { results := [.lit (.bool true)], args := [d1, d2, d3, d4, d5, d6] }
  | _ => none }
def drawOftenRow : OpenClaim := { program := "ytccmfddnbofgkaagreat", sum := "5b10e713eef61c27c8def432bf48fac59d34f748c6735e8d62c8bbfaefb375b3", func := "burnish/burnishlaw23.DrawOften", spec := "drawOften", inPlace := ["math.Float64bits", "math.Float64frombits", "math/bits.Add64", "math/bits.Sub64"], unfollowed := true, recurses := true, named := ["math/bits.divideError", "math/bits.overflowError"], apart := false }
def DrawOftenSaid : Prop := drawOftenRow.holds Tryz.pinned (OpenSpec.ofChange drawOftenSpec)

/-- ITS FALSE NEIGHBOUR: 'it returns false'. Refute it at one input. -/
def drawOftenWrong : ChangeSpec := { name := "drawOften", fn := fun _ => fun
  | [d1, d2, d3, d4, d5, d6] => { results := [.lit (.bool false)], args := [d1, d2, d3, d4, d5, d6] }
  | _ => none }
def DrawOftenWrongFalsely : Prop := drawOftenRow.holds Tryz.pinned (OpenSpec.ofChange drawOftenWrong)

/-- 'burnishlaw23.DrawBox': WHATEVER THE INPUT: true; the input reads as it did. -/
def drawBoxSpec : ChangeSpec := { name := "drawBox", fn := fun _ => fun
  | [d1, d2, d3, d4, d5] => { results := [.lit (.bool true)], args := [d1, d2, d3, d4, d5] }
  | _ => none }
def drawBoxRow : OpenClaim := { program := "ytccmfddnbofgkaagreat", sum := "5b10e713eef61c27c8def432bf48fac59d34f748c6735e8d62c8bbfaefb375b3", func := "burnish/burnishlaw23.DrawBox", spec := "drawBox", inPlace := ["math.Float64bits", "math.Float64frombits", "math/bits.Add64", "math/bits.Sub64"], unfollowed := true, recurses := true, named := ["math/bits.divideError", "math/bits.overflowError"], apart := false }
def DrawBoxSaid : Prop := drawBoxRow.holds Tryz.pinned (OpenSpec.ofChange drawBoxSpec)

/-- ITS FALSE NEIGHBOUR: 'it returns false'. Refute it at one input. -/
def drawBoxWrong : ChangeSpec := { name := "drawBox", fn := fun _ => fun
  | [d1, d2, d3, d4, d5] => { results := [.lit (.bool false)], args := [d1, d2, d3, d4, d5] }
  | _ => none }
def DrawBoxWrongFalsely : Prop := drawBoxRow.holds Tryz.pinned (OpenSpec.ofChange drawBoxWrong)

/-- 'burnishlaw23.DrawLeaf': WHATEVER THE INPUT: true; the input reads as it did. -/
def drawLeafSpec : ChangeSpec := { name := "drawLeaf", fn := fun _ => fun
  | [d1, d2, d3, d4] => { results := [.lit (.bool true)], args := [d1, d2, d3, d4] }
  | _ => none }
def drawLeafRow : OpenClaim := { program := "ytccmfddnbofgkaagreat", sum := "5b10e713eef61c27c8def432bf48fac59d34f748c6735e8d62c8bbfaefb375b3", func := "burnish/burnishlaw23.DrawLeaf", spec := "drawLeaf", inPlace := ["math.Float64bits", "math.Float64frombits", "math/bits.Add64", "math/bits.Sub64"], unfollowed := true, recurses := true, named := ["math/bits.divideError", "math/bits.overflowError"], apart := false }
def DrawLeafSaid : Prop := drawLeafRow.holds Tryz.pinned (OpenSpec.ofChange drawLeafSpec)

/-- ITS FALSE NEIGHBOUR: 'it returns false'. Refute it at one input. -/
def drawLeafWrong : ChangeSpec := { name := "drawLeaf", fn := fun _ => fun
  | [d1, d2, d3, d4] => { results := [.lit (.bool false)], args := [d1, d2, d3, d4] }
  | _ => none }
def DrawLeafWrongFalsely : Prop := drawLeafRow.holds Tryz.pinned (OpenSpec.ofChange drawLeafWrong)

/-- 'burnishlaw23.DrawWrong': WHATEVER THE INPUT: true; the input reads as it did. -/
def drawWrongSpec : ChangeSpec := { name := "drawWrong", fn := fun _ => fun
  | [d1, d2, d3, d4] => { results := [.lit (.bool true)], args := [d1, d2, d3, d4] }
  | _ => none }
def drawWrongRow : OpenClaim := { program := "ytccmfddnbofgkaagreat", sum := "5b10e713eef61c27c8def432bf48fac59d34f748c6735e8d62c8bbfaefb375b3", func := "burnish/burnishlaw23.DrawWrong", spec := "drawWrong", inPlace := ["math.Float64bits", "math.Float64frombits", "math/bits.Add64", "math/bits.Sub64"], unfollowed := true, recurses := true, named := ["math/bits.divideError", "math/bits.overflowError"], apart := false }
def DrawWrongSaid : Prop := drawWrongRow.holds Tryz.pinned (OpenSpec.ofChange drawWrongSpec)

/-- ITS FALSE NEIGHBOUR: 'it returns false'. Refute it at one input. -/
def drawWrongWrong : ChangeSpec := { name := "drawWrong", fn := fun _ => fun
  | [d1, d2, d3, d4] => { results := [.lit (.bool false)], args := [d1, d2, d3, d4] }
  | _ => none }
def DrawWrongWrongFalsely : Prop := drawWrongRow.holds Tryz.pinned (OpenSpec.ofChange drawWrongWrong)

/-- 'burnishlaw21.EvalMix': WHATEVER THE INPUT: true; the input reads as it did. -/
def evalMixSpec : ChangeSpec := { name := "evalMix", fn := fun _ => fun
  | [d1, d2, d3, d4] => { results := [.lit (.bool true)], args := [d1, d2, d3, d4] }
  | _ => none }
def evalMixRow : OpenClaim := { program := "ytccmfddnbofgkaagreat", sum := "5b10e713eef61c27c8def432bf48fac59d34f748c6735e8d62c8bbfaefb375b3", func := "burnish/burnishlaw21.EvalMix", spec := "evalMix", inPlace := ["math.Float64bits", "math.Float64frombits", "math/bits.Add64", "math/bits.Sub64"], unfollowed := true, recurses := true, named := ["math/bits.divideError", "math/bits.overflowError"], apart := false }
def EvalMixSaid : Prop := evalMixRow.holds Tryz.pinned (OpenSpec.ofChange evalMixSpec)

/-- ITS FALSE NEIGHBOUR: 'it returns false'. Refute it at one input. -/
def evalMixWrong : ChangeSpec := { name := "evalMix", fn := fun _ => fun
  | [d1, d2, d3, d4] => { results := [.lit (.bool false)], args := [d1, d2, d3, d4] }
  | _ => none }
def EvalMixWrongFalsely : Prop := evalMixRow.holds Tryz.pinned (OpenSpec.ofChange evalMixWrong)

/-- 'burnishlaw21.EvalCoat': WHATEVER THE INPUT: true; the input reads as it did. -/
def evalCoatSpec : ChangeSpec := { name := "evalCoat", fn := fun _ => fun
  | [d1, d2, d3, d4] => { results := [.lit (.bool true)], args := [d1, d2, d3, d4] }
  | _ => none }
def evalCoatRow : OpenClaim := { program := "ytccmfddnbofgkaagreat", sum := "5b10e713eef61c27c8def432bf48fac59d34f748c6735e8d62c8bbfaefb375b3", func := "burnish/burnishlaw21.EvalCoat", spec := "evalCoat", inPlace := ["math.Float64bits", "math.Float64frombits", "math/bits.Add64", "math/bits.Sub64"], unfollowed := true, recurses := true, named := ["math/bits.divideError", "math/bits.overflowError"], apart := false }
def EvalCoatSaid : Prop := evalCoatRow.holds Tryz.pinned (OpenSpec.ofChange evalCoatSpec)

/-- ITS FALSE NEIGHBOUR: 'it returns false'. Refute it at one input. -/
def evalCoatWrong : ChangeSpec := { name := "evalCoat", fn := fun _ => fun
  | [d1, d2, d3, d4] => { results := [.lit (.bool false)], args := [d1, d2, d3, d4] }
  | _ => none }
def EvalCoatWrongFalsely : Prop := evalCoatRow.holds Tryz.pinned (OpenSpec.ofChange evalCoatWrong)

/- THE SECOND FORM. 'bulk': how many values and letters a reading holds, each counted each time it is reached (what is shared counts as often as it is met; a slice's spare places count too). A statement '..UptoSaid' is the law's where the arguments, and the package variables that the reading takes, are together of bulk at most 1048576: NARROWER than '..Said'. Prove '..Said' where nothing that the law and all that it calls make is longer than what came in: it says more and counts as full. Else prove '..UptoSaid'. A law counts once. -/
mutual
def uptoBulk {H : Type} : DataW H → Nat
  | .lit (.string bytes) => bytes.length + 1
  | .lit _ => 1
  | .nil => 1
  | .ptr d => uptoBulk d + 1
  | .slice elems spare => uptoBulkAll elems + uptoBulkAll spare + 1
  | .agg parts => uptoBulkAll parts + 1
  | .iface _ d => uptoBulk d + 1
  | .map entries => uptoBulkEntries entries + 1
  | .held _ => 1
def uptoBulkAll {H : Type} : List (DataW H) → Nat
  | [] => 0
  | d :: r => uptoBulk d + uptoBulkAll r
def uptoBulkEntries {H : Type} : List (Lit × DataW H) → Nat
  | [] => 0
  | x :: r => uptoBulkEntry x + uptoBulkEntries r
def uptoBulkEntry {H : Type} : Lit × DataW H → Nat
  | (.string bytes, d) => bytes.length + uptoBulk d + 1
  | (_, d) => uptoBulk d + 1
 end
def uptoSmall : (H : Type) → List (DataW H) → Bool := fun _ ds => decide (uptoBulkAll ds ≤ 1048576)
def OpenSpec.upto (s : _root_.Go.ChangeSpec) : _root_.Go.OpenSpec := { _root_.Go.OpenSpec.ofChange s with cond := some uptoSmall }

/-- 'burnishlaw13.VndfSeen', WHERE WHAT IT READS IS OF BULK AT MOST 1048576: true; the input reads as it did. -/
def vndfSeenUptoRow : OpenClaim := { program := "ytccmfddnbofgkaagreat", sum := "5b10e713eef61c27c8def432bf48fac59d34f748c6735e8d62c8bbfaefb375b3", func := "burnish/burnishlaw13.VndfSeen", spec := "vndfSeen", inPlace := ["math.Float64bits", "math.Float64frombits", "math/bits.Add64", "math/bits.Sub64"], unfollowed := true, recurses := true, named := ["math/bits.divideError", "math/bits.overflowError"], apart := false, narrowed := true }
def VndfSeenUptoSaid : Prop := vndfSeenUptoRow.holds Tryz.pinned (OpenSpec.upto vndfSeenSpec)

/-- 'burnishlaw11.PairsBack', WHERE WHAT IT READS IS OF BULK AT MOST 1048576: true; the input reads as it did. -/
def pairsBackUptoRow : OpenClaim := { program := "ytccmfddnbofgkaagreat", sum := "5b10e713eef61c27c8def432bf48fac59d34f748c6735e8d62c8bbfaefb375b3", func := "burnish/burnishlaw11.PairsBack", spec := "pairsBack", inPlace := ["math.Float64bits", "math.Float64frombits", "math/bits.Add64", "math/bits.Sub64"], unfollowed := true, recurses := true, named := ["math/bits.divideError", "math/bits.overflowError"], apart := false, narrowed := true }
def PairsBackUptoSaid : Prop := pairsBackUptoRow.holds Tryz.pinned (OpenSpec.upto pairsBackSpec)

/-- 'burnishlaw11.PairsWithin', WHERE WHAT IT READS IS OF BULK AT MOST 1048576: true; the input reads as it did. -/
def pairsWithinUptoRow : OpenClaim := { program := "ytccmfddnbofgkaagreat", sum := "5b10e713eef61c27c8def432bf48fac59d34f748c6735e8d62c8bbfaefb375b3", func := "burnish/burnishlaw11.PairsWithin", spec := "pairsWithin", inPlace := ["math.Float64bits", "math.Float64frombits", "math/bits.Add64", "math/bits.Sub64"], unfollowed := true, recurses := true, named := ["math/bits.divideError", "math/bits.overflowError"], apart := false, narrowed := true }
def PairsWithinUptoSaid : Prop := pairsWithinUptoRow.holds Tryz.pinned (OpenSpec.upto pairsWithinSpec)

/-- 'burnishlaw11.PairsFlat', WHERE WHAT IT READS IS OF BULK AT MOST 1048576: true; the input reads as it did. -/
def pairsFlatUptoRow : OpenClaim := { program := "ytccmfddnbofgkaagreat", sum := "5b10e713eef61c27c8def432bf48fac59d34f748c6735e8d62c8bbfaefb375b3", func := "burnish/burnishlaw11.PairsFlat", spec := "pairsFlat", inPlace := ["math.Float64bits", "math.Float64frombits", "math/bits.Add64", "math/bits.Sub64"], unfollowed := true, recurses := true, named := ["math/bits.divideError", "math/bits.overflowError"], apart := false, narrowed := true }
def PairsFlatUptoSaid : Prop := pairsFlatUptoRow.holds Tryz.pinned (OpenSpec.upto pairsFlatSpec)

/-- 'burnishlaw22.DensMirror', WHERE WHAT IT READS IS OF BULK AT MOST 1048576: true; the input reads as it did. -/
def densMirrorUptoRow : OpenClaim := { program := "ytccmfddnbofgkaagreat", sum := "5b10e713eef61c27c8def432bf48fac59d34f748c6735e8d62c8bbfaefb375b3", func := "burnish/burnishlaw22.DensMirror", spec := "densMirror", inPlace := ["math.Float64bits", "math.Float64frombits", "math/bits.Add64", "math/bits.Sub64"], unfollowed := true, recurses := true, named := ["math/bits.divideError", "math/bits.overflowError"], apart := false, narrowed := true }
def DensMirrorUptoSaid : Prop := densMirrorUptoRow.holds Tryz.pinned (OpenSpec.upto densMirrorSpec)

/-- 'burnishlaw22.DensMix', WHERE WHAT IT READS IS OF BULK AT MOST 1048576: true; the input reads as it did. -/
def densMixUptoRow : OpenClaim := { program := "ytccmfddnbofgkaagreat", sum := "5b10e713eef61c27c8def432bf48fac59d34f748c6735e8d62c8bbfaefb375b3", func := "burnish/burnishlaw22.DensMix", spec := "densMix", inPlace := ["math.Float64bits", "math.Float64frombits", "math/bits.Add64", "math/bits.Sub64"], unfollowed := true, recurses := true, named := ["math/bits.divideError", "math/bits.overflowError"], apart := false, narrowed := true }
def DensMixUptoSaid : Prop := densMixUptoRow.holds Tryz.pinned (OpenSpec.upto densMixSpec)

/-- 'burnishlaw23.DrawOften', WHERE WHAT IT READS IS OF BULK AT MOST 1048576: true; the input reads as it did. -/
def drawOftenUptoRow : OpenClaim := { program := "ytccmfddnbofgkaagreat", sum := "5b10e713eef61c27c8def432bf48fac59d34f748c6735e8d62c8bbfaefb375b3", func := "burnish/burnishlaw23.DrawOften", spec := "drawOften", inPlace := ["math.Float64bits", "math.Float64frombits", "math/bits.Add64", "math/bits.Sub64"], unfollowed := true, recurses := true, named := ["math/bits.divideError", "math/bits.overflowError"], apart := false, narrowed := true }
def DrawOftenUptoSaid : Prop := drawOftenUptoRow.holds Tryz.pinned (OpenSpec.upto drawOftenSpec)

/-- 'burnishlaw23.DrawBox', WHERE WHAT IT READS IS OF BULK AT MOST 1048576: true; the input reads as it did. -/
def drawBoxUptoRow : OpenClaim := { program := "ytccmfddnbofgkaagreat", sum := "5b10e713eef61c27c8def432bf48fac59d34f748c6735e8d62c8bbfaefb375b3", func := "burnish/burnishlaw23.DrawBox", spec := "drawBox", inPlace := ["math.Float64bits", "math.Float64frombits", "math/bits.Add64", "math/bits.Sub64"], unfollowed := true, recurses := true, named := ["math/bits.divideError", "math/bits.overflowError"], apart := false, narrowed := true }
def DrawBoxUptoSaid : Prop := drawBoxUptoRow.holds Tryz.pinned (OpenSpec.upto drawBoxSpec)

/-- 'burnishlaw23.DrawLeaf', WHERE WHAT IT READS IS OF BULK AT MOST 1048576: true; the input reads as it did. -/
def drawLeafUptoRow : OpenClaim := { program := "ytccmfddnbofgkaagreat", sum := "5b10e713eef61c27c8def432bf48fac59d34f748c6735e8d62c8bbfaefb375b3", func := "burnish/burnishlaw23.DrawLeaf", spec := "drawLeaf", inPlace := ["math.Float64bits", "math.Float64frombits", "math/bits.Add64", "math/bits.Sub64"], unfollowed := true, recurses := true, named := ["math/bits.divideError", "math/bits.overflowError"], apart := false, narrowed := true }
def DrawLeafUptoSaid : Prop := drawLeafUptoRow.holds Tryz.pinned (OpenSpec.upto drawLeafSpec)

/-- 'burnishlaw23.DrawWrong', WHERE WHAT IT READS IS OF BULK AT MOST 1048576: true; the input reads as it did. -/
def drawWrongUptoRow : OpenClaim := { program := "ytccmfddnbofgkaagreat", sum := "5b10e713eef61c27c8def432bf48fac59d34f748c6735e8d62c8bbfaefb375b3", func := "burnish/burnishlaw23.DrawWrong", spec := "drawWrong", inPlace := ["math.Float64bits", "math.Float64frombits", "math/bits.Add64", "math/bits.Sub64"], unfollowed := true, recurses := true, named := ["math/bits.divideError", "math/bits.overflowError"], apart := false, narrowed := true }
def DrawWrongUptoSaid : Prop := drawWrongUptoRow.holds Tryz.pinned (OpenSpec.upto drawWrongSpec)

/-- 'burnishlaw21.EvalMix', WHERE WHAT IT READS IS OF BULK AT MOST 1048576: true; the input reads as it did. -/
def evalMixUptoRow : OpenClaim := { program := "ytccmfddnbofgkaagreat", sum := "5b10e713eef61c27c8def432bf48fac59d34f748c6735e8d62c8bbfaefb375b3", func := "burnish/burnishlaw21.EvalMix", spec := "evalMix", inPlace := ["math.Float64bits", "math.Float64frombits", "math/bits.Add64", "math/bits.Sub64"], unfollowed := true, recurses := true, named := ["math/bits.divideError", "math/bits.overflowError"], apart := false, narrowed := true }
def EvalMixUptoSaid : Prop := evalMixUptoRow.holds Tryz.pinned (OpenSpec.upto evalMixSpec)

/-- 'burnishlaw21.EvalCoat', WHERE WHAT IT READS IS OF BULK AT MOST 1048576: true; the input reads as it did. -/
def evalCoatUptoRow : OpenClaim := { program := "ytccmfddnbofgkaagreat", sum := "5b10e713eef61c27c8def432bf48fac59d34f748c6735e8d62c8bbfaefb375b3", func := "burnish/burnishlaw21.EvalCoat", spec := "evalCoat", inPlace := ["math.Float64bits", "math.Float64frombits", "math/bits.Add64", "math/bits.Sub64"], unfollowed := true, recurses := true, named := ["math/bits.divideError", "math/bits.overflowError"], apart := false, narrowed := true }
def EvalCoatUptoSaid : Prop := evalCoatUptoRow.holds Tryz.pinned (OpenSpec.upto evalCoatSpec)

end Rows
end Go.Proofs.YtccmfddnbofgkaaGreat
