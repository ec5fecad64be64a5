/-
  No cell of these rows narrows 'for every input' (looked for: loops, veiled, ifaces, maps, wideKeys, modest, calm, conditions, laid).
  DERIVED. THE GIVEN ROWS OF THIS SEAT. 4 by the template 'for every input the law returns true; each argument reads behind the call as it read before'; 0 by the template 'total and deterministic' (their statements: YtkgpcnehffiifaaTotals.lean).
  GIVEN WITH THE SEED: the statements are not yours to turn. If you find one false, say at which input.
  Laid BY PROGRAM, IN A SANDBOX (cutbox-rows.mjs): the forced cells as the released guide's own fill.sh prints them over the translation f1cf780923f9eaa1… (all of the seat's roots in one cut). By AI agents, Wed Nov 11 2026. No macro, syntax, notation, axiom, sorry.
-/
import Derived.Test.YtkgpcnehffiifaaChecked
import GoSem.Claim
import GoSem.ClaimJoined
import GoSem.ClaimMapViews
import Derived.JoinedTies
import Derived.KernelRfl
namespace Go.Proofs.Ytkgpcnehffiifaa
/- THE CELL 'sum', in the pinned program and in every row, IS THE sha256 OF THE DUMP (.gsa) THAT YtkgpcnehffiifaaProg.lean LOADS. Nothing in Lean hashes anything: it is a label: what it is worth is what the hold of that sum in a sandbox is worth. -/
noncomputable def Try.pinned : Pinned := { name := "ytkgpcnehffiifaa", sum := "f1cf780923f9eaa14e5b0ccd8df3ec8f913759647345244c1662d86b54c25f22", checked := Try.checked }
namespace Rows
def none {H : Type} : Left H := { results := [], args := [] }

/-- 'burnishlaw03.UnitOf': WHATEVER THE INPUT: true; the input reads as it did. -/
def unitOfSpec : ChangeSpec := { name := "unitOf", fn := fun _ => fun
  | [d1, d2] => { results := [.lit (.bool true)], args := [d1, d2] }
  | _ => none }
def unitOfRow : OpenClaim := { program := "ytkgpcnehffiifaa", sum := "f1cf780923f9eaa14e5b0ccd8df3ec8f913759647345244c1662d86b54c25f22", func := "burnish/burnishlaw03.UnitOf", spec := "unitOf", inPlace := ["math.Float64bits", "math.Float64frombits"], unfollowed := true, recurses := true, named := ["math/bits.divideError", "math/bits.overflowError"], apart := false }
def UnitOfSaid : Prop := unitOfRow.holds Try.pinned (OpenSpec.ofChange unitOfSpec)

/-- ITS FALSE NEIGHBOUR: 'it returns false'. Refute it at one input. -/
def unitOfWrong : ChangeSpec := { name := "unitOf", fn := fun _ => fun
  | [d1, d2] => { results := [.lit (.bool false)], args := [d1, d2] }
  | _ => none }
def UnitOfWrongFalsely : Prop := unitOfRow.holds Try.pinned (OpenSpec.ofChange unitOfWrong)

/-- 'burnishlaw03.UnitSides': WHATEVER THE INPUT: true; the input reads as it did. -/
def unitSidesSpec : ChangeSpec := { name := "unitSides", fn := fun _ => fun
  | [d1, d2] => { results := [.lit (.bool true)], args := [d1, d2] }
  | _ => none }
def unitSidesRow : OpenClaim := { program := "ytkgpcnehffiifaa", sum := "f1cf780923f9eaa14e5b0ccd8df3ec8f913759647345244c1662d86b54c25f22", func := "burnish/burnishlaw03.UnitSides", spec := "unitSides", inPlace := ["math.Float64bits", "math.Float64frombits"], unfollowed := true, recurses := true, named := ["math/bits.divideError", "math/bits.overflowError"], apart := false }
def UnitSidesSaid : Prop := unitSidesRow.holds Try.pinned (OpenSpec.ofChange unitSidesSpec)

/-- ITS FALSE NEIGHBOUR: 'it returns false'. Refute it at one input. -/
def unitSidesWrong : ChangeSpec := { name := "unitSides", fn := fun _ => fun
  | [d1, d2] => { results := [.lit (.bool false)], args := [d1, d2] }
  | _ => none }
def UnitSidesWrongFalsely : Prop := unitSidesRow.holds Try.pinned (OpenSpec.ofChange unitSidesWrong)

/-- 'burnishlaw03.UnitLeft': WHATEVER THE INPUT: true; the input reads as it did. -/
def unitLeftSpec : ChangeSpec := { name := "unitLeft", fn := fun _ => fun
  | [d1, d2, d3] => { results := [.lit (.bool true)], args := [d1, d2, d3] }
  | _ => none }
def unitLeftRow : OpenClaim := { program := "ytkgpcnehffiifaa", sum := "f1cf780923f9eaa14e5b0ccd8df3ec8f913759647345244c1662d86b54c25f22", func := "burnish/burnishlaw03.UnitLeft", spec := "unitLeft", inPlace := ["math.Float64bits", "math.Float64frombits"], unfollowed := true, recurses := true, named := ["math/bits.divideError", "math/bits.overflowError"], apart := false }
def UnitLeftSaid : Prop := unitLeftRow.holds Try.pinned (OpenSpec.ofChange unitLeftSpec)

/-- ITS FALSE NEIGHBOUR: 'it returns false'. Refute it at one input. -/
def unitLeftWrong : ChangeSpec := { name := "unitLeft", fn := fun _ => fun
  | [d1, d2, d3] => { results := [.lit (.bool false)], args := [d1, d2, d3] }
  | _ => none }
def UnitLeftWrongFalsely : Prop := unitLeftRow.holds Try.pinned (OpenSpec.ofChange unitLeftWrong)

/-- 'burnishlaw03.UnitTells': WHATEVER THE INPUT: true; the input reads as it did. -/
def unitTellsSpec : ChangeSpec := { name := "unitTells", fn := fun _ => fun
  | [d1, d2] => { results := [.lit (.bool true)], args := [d1, d2] }
  | _ => none }
def unitTellsRow : OpenClaim := { program := "ytkgpcnehffiifaa", sum := "f1cf780923f9eaa14e5b0ccd8df3ec8f913759647345244c1662d86b54c25f22", func := "burnish/burnishlaw03.UnitTells", spec := "unitTells", inPlace := ["math.Float64bits", "math.Float64frombits"], unfollowed := true, recurses := true, named := ["math/bits.divideError", "math/bits.overflowError"], apart := false }
def UnitTellsSaid : Prop := unitTellsRow.holds Try.pinned (OpenSpec.ofChange unitTellsSpec)

/-- ITS FALSE NEIGHBOUR: 'it returns false'. Refute it at one input. -/
def unitTellsWrong : ChangeSpec := { name := "unitTells", fn := fun _ => fun
  | [d1, d2] => { results := [.lit (.bool false)], args := [d1, d2] }
  | _ => none }
def UnitTellsWrongFalsely : Prop := unitTellsRow.holds Try.pinned (OpenSpec.ofChange unitTellsWrong)

/- THE SECOND FORM. 'bulk': how many values and letters a reading holds, each counted each time it is reached (what is shared counts as often as it is met; a slice's spare places count too). A statement '..UptoSaid' is the law's where the arguments, and the package variables that the reading takes, are together of bulk at most 1048576: NARROWER than '..Said'. Prove '..Said' where nothing that the law and all that it calls make is longer than what came in: it says more and counts as full. Else prove '..UptoSaid'. A law counts once. -/
mutual
def uptoBulk {H : Type} : DataW H → Nat
  | .lit (.string bytes) => bytes.length + 1
  | .lit _ => 1
  | .nil => 1
  | .ptr d => uptoBulk d + 1
  | .slice elems spare => uptoBulkAll elems + uptoBulkAll spare + 1
  | .agg parts => uptoBulkAll parts + 1
  | .iface _ d => uptoBulk d + 1
  | .map entries => uptoBulkEntries entries + 1
  | .held _ => 1
def uptoBulkAll {H : Type} : List (DataW H) → Nat
  | [] => 0
  | d :: r => uptoBulk d + uptoBulkAll r
def uptoBulkEntries {H : Type} : List (Lit × DataW H) → Nat
  | [] => 0
  | x :: r => uptoBulkEntry x + uptoBulkEntries r
def uptoBulkEntry {H : Type} : Lit × DataW H → Nat
  | (.string bytes, d) => bytes.length + uptoBulk d + 1
  | (_, d) => uptoBulk d + 1
 end
def uptoSmall : (H : Type) → List (DataW H) → Bool := fun _ ds => decide (uptoBulkAll ds ≤ 1048576)
def OpenSpec.upto (s : _root_.Go.ChangeSpec) : _root_.Go.OpenSpec := { _root_.Go.OpenSpec.ofChange s with cond := some uptoSmall }

/-- 'burnishlaw03.UnitOf', WHERE WHAT IT READS IS OF BULK AT MOST 1048576: true; the input reads as it did. -/
def unitOfUptoRow : OpenClaim := { program := "ytkgpcnehffiifaa", sum := "f1cf780923f9eaa14e5b0ccd8df3ec8f913759647345244c1662d86b54c25f22", func := "burnish/burnishlaw03.UnitOf", spec := "unitOf", inPlace := ["math.Float64bits", "math.Float64frombits"], unfollowed := true, recurses := true, named := ["math/bits.divideError", "math/bits.overflowError"], apart := false, narrowed := true }
def UnitOfUptoSaid : Prop := unitOfUptoRow.holds Try.pinned (OpenSpec.upto unitOfSpec)

/-- 'burnishlaw03.UnitSides', WHERE WHAT IT READS IS OF BULK AT MOST 1048576: true; the input reads as it did. -/
def unitSidesUptoRow : OpenClaim := { program := "ytkgpcnehffiifaa", sum := "f1cf780923f9eaa14e5b0ccd8df3ec8f913759647345244c1662d86b54c25f22", func := "burnish/burnishlaw03.UnitSides", spec := "unitSides", inPlace := ["math.Float64bits", "math.Float64frombits"], unfollowed := true, recurses := true, named := ["math/bits.divideError", "math/bits.overflowError"], apart := false, narrowed := true }
def UnitSidesUptoSaid : Prop := unitSidesUptoRow.holds Try.pinned (OpenSpec.upto unitSidesSpec)

/-- 'burnishlaw03.UnitLeft', WHERE WHAT IT READS IS OF BULK AT MOST 1048576: true; the input reads as it did. -/
def unitLeftUptoRow : OpenClaim := { program := "ytkgpcnehffiifaa", sum := "f1cf780923f9eaa14e5b0ccd8df3ec8f913759647345244c1662d86b54c25f22", func := "burnish/burnishlaw03.UnitLeft", spec := "unitLeft", inPlace := ["math.Float64bits", "math.Float64frombits"], unfollowed := true, recurses := true, named := ["math/bits.divideError", "math/bits.overflowError"], apart := false, narrowed := true }
def UnitLeftUptoSaid : Prop := unitLeftUptoRow.holds Try.pinned (OpenSpec.upto unitLeftSpec)

/-- 'burnishlaw03.UnitTells', WHERE WHAT IT READS IS OF BULK AT MOST 1048576: true; the input reads as it did. -/
def unitTellsUptoRow : OpenClaim := { program := "ytkgpcnehffiifaa", sum := "f1cf780923f9eaa14e5b0ccd8df3ec8f913759647345244c1662d86b54c25f22", func := "burnish/burnishlaw03.UnitTells", spec := "unitTells", inPlace := ["math.Float64bits", "math.Float64frombits"], unfollowed := true, recurses := true, named := ["math/bits.divideError", "math/bits.overflowError"], apart := false, narrowed := true }
def UnitTellsUptoSaid : Prop := unitTellsUptoRow.holds Try.pinned (OpenSpec.upto unitTellsSpec)

end Rows
end Go.Proofs.Ytkgpcnehffiifaa
