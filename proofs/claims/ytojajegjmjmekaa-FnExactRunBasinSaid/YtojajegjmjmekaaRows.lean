/-
  No cell of these rows narrows 'for every input' (looked for: loops, veiled, ifaces, maps, wideKeys, modest, calm, conditions, laid).
  DERIVED. THE GIVEN ROWS OF THIS SEAT. 22 by the template 'for every input the law returns true; each argument reads behind the call as it read before'; 0 by the template 'total and deterministic' (their statements: YtojajegjmjmekaaTotals.lean).
  GIVEN WITH THE SEED: the statements are not yours to turn. If you find one false, say at which input.
  Laid BY PROGRAM, IN A SANDBOX (cutbox-rows.mjs): the forced cells as the released guide's own fill.sh prints them over the translation 0ac89e648e5ed0b5… (all of the seat's roots in one cut). By AI agents, Wed Nov 11 2026. No macro, syntax, notation, axiom, sorry.
-/
import Derived.Test.YtojajegjmjmekaaChecked
import GoSem.Claim
import GoSem.ClaimJoined
import GoSem.ClaimMapViews
import Derived.JoinedTies
import Derived.KernelRfl
namespace Go.Proofs.Ytojajegjmjmekaa
/- THE CELL 'sum', in the pinned program and in every row, IS THE sha256 OF THE DUMP (.gsa) THAT YtojajegjmjmekaaProg.lean LOADS. Nothing in Lean hashes anything: it is a label: what it is worth is what the hold of that sum in a sandbox is worth. -/
noncomputable def Try.pinned : Pinned := { name := "ytojajegjmjmekaa", sum := "0ac89e648e5ed0b5ba757c11ac874340ae64f63f1b8ecd37b59f7116543d0c37", checked := Try.checked }
namespace Rows
def none {H : Type} : Left H := { results := [], args := [] }

/-- 'laws.FnExactValidBasin': WHATEVER THE INPUT: true; the input reads as it did. -/
def fnExactValidBasinSpec : ChangeSpec := { name := "fnExactValidBasin", fn := fun _ => fun
  | [d] => { results := [.lit (.bool true)], args := [d] }
  | _ => none }
def fnExactValidBasinRow : OpenClaim := { program := "ytojajegjmjmekaa", sum := "0ac89e648e5ed0b5ba757c11ac874340ae64f63f1b8ecd37b59f7116543d0c37", func := "loop.example/g01266/laws.FnExactValidBasin", spec := "fnExactValidBasin", unfollowed := true, recurses := true, apart := false }
def FnExactValidBasinSaid : Prop := fnExactValidBasinRow.holds Try.pinned (OpenSpec.ofChange fnExactValidBasinSpec)

/-- ITS FALSE NEIGHBOUR: 'it returns false'. Refute it at one input. -/
def fnExactValidBasinWrong : ChangeSpec := { name := "fnExactValidBasin", fn := fun _ => fun
  | [d] => { results := [.lit (.bool false)], args := [d] }
  | _ => none }
def FnExactValidBasinWrongFalsely : Prop := fnExactValidBasinRow.holds Try.pinned (OpenSpec.ofChange fnExactValidBasinWrong)

/-- 'laws.FnExactSameBasin': WHATEVER THE INPUT: true; the input reads as it did. -/
def fnExactSameBasinSpec : ChangeSpec := { name := "fnExactSameBasin", fn := fun _ => fun
  | [d1, d2] => { results := [.lit (.bool true)], args := [d1, d2] }
  | _ => none }
def fnExactSameBasinRow : OpenClaim := { program := "ytojajegjmjmekaa", sum := "0ac89e648e5ed0b5ba757c11ac874340ae64f63f1b8ecd37b59f7116543d0c37", func := "loop.example/g01266/laws.FnExactSameBasin", spec := "fnExactSameBasin", inPlace := ["math.Float32bits"], unfollowed := true, recurses := true, apart := false }
def FnExactSameBasinSaid : Prop := fnExactSameBasinRow.holds Try.pinned (OpenSpec.ofChange fnExactSameBasinSpec)

/-- ITS FALSE NEIGHBOUR: 'it returns false'. Refute it at one input. -/
def fnExactSameBasinWrong : ChangeSpec := { name := "fnExactSameBasin", fn := fun _ => fun
  | [d1, d2] => { results := [.lit (.bool false)], args := [d1, d2] }
  | _ => none }
def FnExactSameBasinWrongFalsely : Prop := fnExactSameBasinRow.holds Try.pinned (OpenSpec.ofChange fnExactSameBasinWrong)

/-- 'laws.FnExactRangeInBasin': WHATEVER THE INPUT: true; the input reads as it did. -/
def fnExactRangeInBasinSpec : ChangeSpec := { name := "fnExactRangeInBasin", fn := fun _ => fun
  | [d] => { results := [.lit (.bool true)], args := [d] }
  | _ => none }
def fnExactRangeInBasinRow : OpenClaim := { program := "ytojajegjmjmekaa", sum := "0ac89e648e5ed0b5ba757c11ac874340ae64f63f1b8ecd37b59f7116543d0c37", func := "loop.example/g01266/laws.FnExactRangeInBasin", spec := "fnExactRangeInBasin", unfollowed := true, recurses := true, apart := false }
def FnExactRangeInBasinSaid : Prop := fnExactRangeInBasinRow.holds Try.pinned (OpenSpec.ofChange fnExactRangeInBasinSpec)

/-- ITS FALSE NEIGHBOUR: 'it returns false'. Refute it at one input. -/
def fnExactRangeInBasinWrong : ChangeSpec := { name := "fnExactRangeInBasin", fn := fun _ => fun
  | [d] => { results := [.lit (.bool false)], args := [d] }
  | _ => none }
def FnExactRangeInBasinWrongFalsely : Prop := fnExactRangeInBasinRow.holds Try.pinned (OpenSpec.ofChange fnExactRangeInBasinWrong)

/-- 'laws.FnExactSquaresInBasin': WHATEVER THE INPUT: true; the input reads as it did. -/
def fnExactSquaresInBasinSpec : ChangeSpec := { name := "fnExactSquaresInBasin", fn := fun _ => fun
  | [d] => { results := [.lit (.bool true)], args := [d] }
  | _ => none }
def fnExactSquaresInBasinRow : OpenClaim := { program := "ytojajegjmjmekaa", sum := "0ac89e648e5ed0b5ba757c11ac874340ae64f63f1b8ecd37b59f7116543d0c37", func := "loop.example/g01266/laws.FnExactSquaresInBasin", spec := "fnExactSquaresInBasin", unfollowed := true, recurses := true, apart := false }
def FnExactSquaresInBasinSaid : Prop := fnExactSquaresInBasinRow.holds Try.pinned (OpenSpec.ofChange fnExactSquaresInBasinSpec)

/-- ITS FALSE NEIGHBOUR: 'it returns false'. Refute it at one input. -/
def fnExactSquaresInBasinWrong : ChangeSpec := { name := "fnExactSquaresInBasin", fn := fun _ => fun
  | [d] => { results := [.lit (.bool false)], args := [d] }
  | _ => none }
def FnExactSquaresInBasinWrongFalsely : Prop := fnExactSquaresInBasinRow.holds Try.pinned (OpenSpec.ofChange fnExactSquaresInBasinWrong)

/-- 'laws.FnExactTotalInBasin': WHATEVER THE INPUT: true; the input reads as it did. -/
def fnExactTotalInBasinSpec : ChangeSpec := { name := "fnExactTotalInBasin", fn := fun _ => fun
  | [d] => { results := [.lit (.bool true)], args := [d] }
  | _ => none }
def fnExactTotalInBasinRow : OpenClaim := { program := "ytojajegjmjmekaa", sum := "0ac89e648e5ed0b5ba757c11ac874340ae64f63f1b8ecd37b59f7116543d0c37", func := "loop.example/g01266/laws.FnExactTotalInBasin", spec := "fnExactTotalInBasin", unfollowed := true, recurses := true, apart := false }
def FnExactTotalInBasinSaid : Prop := fnExactTotalInBasinRow.holds Try.pinned (OpenSpec.ofChange fnExactTotalInBasinSpec)

/-- ITS FALSE NEIGHBOUR: 'it returns false'. Refute it at one input. -/
def fnExactTotalInBasinWrong : ChangeSpec := { name := "fnExactTotalInBasin", fn := fun _ => fun
  | [d] => { results := [.lit (.bool false)], args := [d] }
  | _ => none }
def FnExactTotalInBasinWrongFalsely : Prop := fnExactTotalInBasinRow.holds Try.pinned (OpenSpec.ofChange fnExactTotalInBasinWrong)

/-- 'laws.FnExactFlatBasin': WHATEVER THE INPUT: true; the input reads as it did. -/
def fnExactFlatBasinSpec : ChangeSpec := { name := "fnExactFlatBasin", fn := fun _ => fun
  | [d1, d2, d3] => { results := [.lit (.bool true)], args := [d1, d2, d3] }
  | _ => none }
def fnExactFlatBasinRow : OpenClaim := { program := "ytojajegjmjmekaa", sum := "0ac89e648e5ed0b5ba757c11ac874340ae64f63f1b8ecd37b59f7116543d0c37", func := "loop.example/g01266/laws.FnExactFlatBasin", spec := "fnExactFlatBasin", unfollowed := true, recurses := true, apart := false }
def FnExactFlatBasinSaid : Prop := fnExactFlatBasinRow.holds Try.pinned (OpenSpec.ofChange fnExactFlatBasinSpec)

/-- ITS FALSE NEIGHBOUR: 'it returns false'. Refute it at one input. -/
def fnExactFlatBasinWrong : ChangeSpec := { name := "fnExactFlatBasin", fn := fun _ => fun
  | [d1, d2, d3] => { results := [.lit (.bool false)], args := [d1, d2, d3] }
  | _ => none }
def FnExactFlatBasinWrongFalsely : Prop := fnExactFlatBasinRow.holds Try.pinned (OpenSpec.ofChange fnExactFlatBasinWrong)

/-- 'laws.FnExactStepBasin': WHATEVER THE INPUT: true; the input reads as it did. -/
def fnExactStepBasinSpec : ChangeSpec := { name := "fnExactStepBasin", fn := fun _ => fun
  | [d1, d2, d3, d4] => { results := [.lit (.bool true)], args := [d1, d2, d3, d4] }
  | _ => none }
def fnExactStepBasinRow : OpenClaim := { program := "ytojajegjmjmekaa", sum := "0ac89e648e5ed0b5ba757c11ac874340ae64f63f1b8ecd37b59f7116543d0c37", func := "loop.example/g01266/laws.FnExactStepBasin", spec := "fnExactStepBasin", inPlace := ["math.archFloor", "math.Float64bits", "math.Float64frombits", "math.archTrunc", "math.Float32bits", "math.Float32frombits"], unfollowed := true, recurses := true, apart := false }
def FnExactStepBasinSaid : Prop := fnExactStepBasinRow.holds Try.pinned (OpenSpec.ofChange fnExactStepBasinSpec)

/-- ITS FALSE NEIGHBOUR: 'it returns false'. Refute it at one input. -/
def fnExactStepBasinWrong : ChangeSpec := { name := "fnExactStepBasin", fn := fun _ => fun
  | [d1, d2, d3, d4] => { results := [.lit (.bool false)], args := [d1, d2, d3, d4] }
  | _ => none }
def FnExactStepBasinWrongFalsely : Prop := fnExactStepBasinRow.holds Try.pinned (OpenSpec.ofChange fnExactStepBasinWrong)

/-- 'laws.FnExactMirrorBasin': WHATEVER THE INPUT: true; the input reads as it did. -/
def fnExactMirrorBasinSpec : ChangeSpec := { name := "fnExactMirrorBasin", fn := fun _ => fun
  | [d] => { results := [.lit (.bool true)], args := [d] }
  | _ => none }
def fnExactMirrorBasinRow : OpenClaim := { program := "ytojajegjmjmekaa", sum := "0ac89e648e5ed0b5ba757c11ac874340ae64f63f1b8ecd37b59f7116543d0c37", func := "loop.example/g01266/laws.FnExactMirrorBasin", spec := "fnExactMirrorBasin", unfollowed := true, recurses := true, apart := false }
def FnExactMirrorBasinSaid : Prop := fnExactMirrorBasinRow.holds Try.pinned (OpenSpec.ofChange fnExactMirrorBasinSpec)

/-- ITS FALSE NEIGHBOUR: 'it returns false'. Refute it at one input. -/
def fnExactMirrorBasinWrong : ChangeSpec := { name := "fnExactMirrorBasin", fn := fun _ => fun
  | [d] => { results := [.lit (.bool false)], args := [d] }
  | _ => none }
def FnExactMirrorBasinWrongFalsely : Prop := fnExactMirrorBasinRow.holds Try.pinned (OpenSpec.ofChange fnExactMirrorBasinWrong)

/-- 'laws.FnExactRollBasin': WHATEVER THE INPUT: true; the input reads as it did. -/
def fnExactRollBasinSpec : ChangeSpec := { name := "fnExactRollBasin", fn := fun _ => fun
  | [d1, d2, d3] => { results := [.lit (.bool true)], args := [d1, d2, d3] }
  | _ => none }
def fnExactRollBasinRow : OpenClaim := { program := "ytojajegjmjmekaa", sum := "0ac89e648e5ed0b5ba757c11ac874340ae64f63f1b8ecd37b59f7116543d0c37", func := "loop.example/g01266/laws.FnExactRollBasin", spec := "fnExactRollBasin", unfollowed := true, recurses := true, apart := false }
def FnExactRollBasinSaid : Prop := fnExactRollBasinRow.holds Try.pinned (OpenSpec.ofChange fnExactRollBasinSpec)

/-- ITS FALSE NEIGHBOUR: 'it returns false'. Refute it at one input. -/
def fnExactRollBasinWrong : ChangeSpec := { name := "fnExactRollBasin", fn := fun _ => fun
  | [d1, d2, d3] => { results := [.lit (.bool false)], args := [d1, d2, d3] }
  | _ => none }
def FnExactRollBasinWrongFalsely : Prop := fnExactRollBasinRow.holds Try.pinned (OpenSpec.ofChange fnExactRollBasinWrong)

/-- 'laws.FnExactBlobBasin': WHATEVER THE INPUT: true; the input reads as it did. -/
def fnExactBlobBasinSpec : ChangeSpec := { name := "fnExactBlobBasin", fn := fun _ => fun
  | [d1, d2, d3, d4, d5, d6] => { results := [.lit (.bool true)], args := [d1, d2, d3, d4, d5, d6] }
  | _ => none }
def fnExactBlobBasinRow : OpenClaim := { program := "ytojajegjmjmekaa", sum := "0ac89e648e5ed0b5ba757c11ac874340ae64f63f1b8ecd37b59f7116543d0c37", func := "loop.example/g01266/laws.FnExactBlobBasin", spec := "fnExactBlobBasin", unfollowed := true, recurses := true, apart := false }
def FnExactBlobBasinSaid : Prop := fnExactBlobBasinRow.holds Try.pinned (OpenSpec.ofChange fnExactBlobBasinSpec)

/-- ITS FALSE NEIGHBOUR: 'it returns false'. Refute it at one input. -/
def fnExactBlobBasinWrong : ChangeSpec := { name := "fnExactBlobBasin", fn := fun _ => fun
  | [d1, d2, d3, d4, d5, d6] => { results := [.lit (.bool false)], args := [d1, d2, d3, d4, d5, d6] }
  | _ => none }
def FnExactBlobBasinWrongFalsely : Prop := fnExactBlobBasinRow.holds Try.pinned (OpenSpec.ofChange fnExactBlobBasinWrong)

/-- 'laws.FnExactScaleBasin': WHATEVER THE INPUT: true; the input reads as it did. -/
def fnExactScaleBasinSpec : ChangeSpec := { name := "fnExactScaleBasin", fn := fun _ => fun
  | [d1, d2] => { results := [.lit (.bool true)], args := [d1, d2] }
  | _ => none }
def fnExactScaleBasinRow : OpenClaim := { program := "ytojajegjmjmekaa", sum := "0ac89e648e5ed0b5ba757c11ac874340ae64f63f1b8ecd37b59f7116543d0c37", func := "loop.example/g01266/laws.FnExactScaleBasin", spec := "fnExactScaleBasin", unfollowed := true, recurses := true, apart := false }
def FnExactScaleBasinSaid : Prop := fnExactScaleBasinRow.holds Try.pinned (OpenSpec.ofChange fnExactScaleBasinSpec)

/-- ITS FALSE NEIGHBOUR: 'it returns false'. Refute it at one input. -/
def fnExactScaleBasinWrong : ChangeSpec := { name := "fnExactScaleBasin", fn := fun _ => fun
  | [d1, d2] => { results := [.lit (.bool false)], args := [d1, d2] }
  | _ => none }
def FnExactScaleBasinWrongFalsely : Prop := fnExactScaleBasinRow.holds Try.pinned (OpenSpec.ofChange fnExactScaleBasinWrong)

/-- 'laws.FnExactRunBasin': WHATEVER THE INPUT: true; the input reads as it did. -/
def fnExactRunBasinSpec : ChangeSpec := { name := "fnExactRunBasin", fn := fun _ => fun
  | [d1, d2, d3, d4, d5] => { results := [.lit (.bool true)], args := [d1, d2, d3, d4, d5] }
  | _ => none }
def fnExactRunBasinRow : OpenClaim := { program := "ytojajegjmjmekaa", sum := "0ac89e648e5ed0b5ba757c11ac874340ae64f63f1b8ecd37b59f7116543d0c37", func := "loop.example/g01266/laws.FnExactRunBasin", spec := "fnExactRunBasin", inPlace := ["math.archFloor", "math.Float64bits", "math.Float64frombits", "math.archTrunc", "math.Float32bits", "math.Float32frombits"], unfollowed := true, recurses := true, apart := false }
def FnExactRunBasinSaid : Prop := fnExactRunBasinRow.holds Try.pinned (OpenSpec.ofChange fnExactRunBasinSpec)

/-- ITS FALSE NEIGHBOUR: 'it returns false'. Refute it at one input. -/
def fnExactRunBasinWrong : ChangeSpec := { name := "fnExactRunBasin", fn := fun _ => fun
  | [d1, d2, d3, d4, d5] => { results := [.lit (.bool false)], args := [d1, d2, d3, d4, d5] }
  | _ => none }
def FnExactRunBasinWrongFalsely : Prop := fnExactRunBasinRow.holds Try.pinned (OpenSpec.ofChange fnExactRunBasinWrong)

/-- 'laws.FnExactAddBasins': WHATEVER THE INPUT: true; the input reads as it did. -/
def fnExactAddBasinsSpec : ChangeSpec := { name := "fnExactAddBasins", fn := fun _ => fun
  | [d1, d2] => { results := [.lit (.bool true)], args := [d1, d2] }
  | _ => none }
def fnExactAddBasinsRow : OpenClaim := { program := "ytojajegjmjmekaa", sum := "0ac89e648e5ed0b5ba757c11ac874340ae64f63f1b8ecd37b59f7116543d0c37", func := "loop.example/g01266/laws.FnExactAddBasins", spec := "fnExactAddBasins", unfollowed := true, recurses := true, apart := false }
def FnExactAddBasinsSaid : Prop := fnExactAddBasinsRow.holds Try.pinned (OpenSpec.ofChange fnExactAddBasinsSpec)

/-- ITS FALSE NEIGHBOUR: 'it returns false'. Refute it at one input. -/
def fnExactAddBasinsWrong : ChangeSpec := { name := "fnExactAddBasins", fn := fun _ => fun
  | [d1, d2] => { results := [.lit (.bool false)], args := [d1, d2] }
  | _ => none }
def FnExactAddBasinsWrongFalsely : Prop := fnExactAddBasinsRow.holds Try.pinned (OpenSpec.ofChange fnExactAddBasinsWrong)

/-- 'laws.FnExactFlowsInBasin': WHATEVER THE INPUT: true; the input reads as it did. -/
def fnExactFlowsInBasinSpec : ChangeSpec := { name := "fnExactFlowsInBasin", fn := fun _ => fun
  | [d] => { results := [.lit (.bool true)], args := [d] }
  | _ => none }
def fnExactFlowsInBasinRow : OpenClaim := { program := "ytojajegjmjmekaa", sum := "0ac89e648e5ed0b5ba757c11ac874340ae64f63f1b8ecd37b59f7116543d0c37", func := "loop.example/g01266/laws.FnExactFlowsInBasin", spec := "fnExactFlowsInBasin", unfollowed := true, recurses := true, apart := false }
def FnExactFlowsInBasinSaid : Prop := fnExactFlowsInBasinRow.holds Try.pinned (OpenSpec.ofChange fnExactFlowsInBasinSpec)

/-- ITS FALSE NEIGHBOUR: 'it returns false'. Refute it at one input. -/
def fnExactFlowsInBasinWrong : ChangeSpec := { name := "fnExactFlowsInBasin", fn := fun _ => fun
  | [d] => { results := [.lit (.bool false)], args := [d] }
  | _ => none }
def FnExactFlowsInBasinWrongFalsely : Prop := fnExactFlowsInBasinRow.holds Try.pinned (OpenSpec.ofChange fnExactFlowsInBasinWrong)

/-- 'laws.FnExactLaplaceBasin': WHATEVER THE INPUT: true; the input reads as it did. -/
def fnExactLaplaceBasinSpec : ChangeSpec := { name := "fnExactLaplaceBasin", fn := fun _ => fun
  | [d] => { results := [.lit (.bool true)], args := [d] }
  | _ => none }
def fnExactLaplaceBasinRow : OpenClaim := { program := "ytojajegjmjmekaa", sum := "0ac89e648e5ed0b5ba757c11ac874340ae64f63f1b8ecd37b59f7116543d0c37", func := "loop.example/g01266/laws.FnExactLaplaceBasin", spec := "fnExactLaplaceBasin", unfollowed := true, recurses := true, apart := false }
def FnExactLaplaceBasinSaid : Prop := fnExactLaplaceBasinRow.holds Try.pinned (OpenSpec.ofChange fnExactLaplaceBasinSpec)

/-- ITS FALSE NEIGHBOUR: 'it returns false'. Refute it at one input. -/
def fnExactLaplaceBasinWrong : ChangeSpec := { name := "fnExactLaplaceBasin", fn := fun _ => fun
  | [d] => { results := [.lit (.bool false)], args := [d] }
  | _ => none }
def FnExactLaplaceBasinWrongFalsely : Prop := fnExactLaplaceBasinRow.holds Try.pinned (OpenSpec.ofChange fnExactLaplaceBasinWrong)

/-- 'laws.FnExactEvenOut': WHATEVER THE INPUT: true; the input reads as it did. -/
def fnExactEvenOutSpec : ChangeSpec := { name := "fnExactEvenOut", fn := fun _ => fun
  | [d] => { results := [.lit (.bool true)], args := [d] }
  | _ => none }
def fnExactEvenOutRow : OpenClaim := { program := "ytojajegjmjmekaa", sum := "0ac89e648e5ed0b5ba757c11ac874340ae64f63f1b8ecd37b59f7116543d0c37", func := "loop.example/g01266/laws.FnExactEvenOut", spec := "fnExactEvenOut", unfollowed := true, recurses := true, apart := false }
def FnExactEvenOutSaid : Prop := fnExactEvenOutRow.holds Try.pinned (OpenSpec.ofChange fnExactEvenOutSpec)

/-- ITS FALSE NEIGHBOUR: 'it returns false'. Refute it at one input. -/
def fnExactEvenOutWrong : ChangeSpec := { name := "fnExactEvenOut", fn := fun _ => fun
  | [d] => { results := [.lit (.bool false)], args := [d] }
  | _ => none }
def FnExactEvenOutWrongFalsely : Prop := fnExactEvenOutRow.holds Try.pinned (OpenSpec.ofChange fnExactEvenOutWrong)

/-- 'laws.FnExactSpreadBasin': WHATEVER THE INPUT: true; the input reads as it did. -/
def fnExactSpreadBasinSpec : ChangeSpec := { name := "fnExactSpreadBasin", fn := fun _ => fun
  | [d1, d2, d3] => { results := [.lit (.bool true)], args := [d1, d2, d3] }
  | _ => none }
def fnExactSpreadBasinRow : OpenClaim := { program := "ytojajegjmjmekaa", sum := "0ac89e648e5ed0b5ba757c11ac874340ae64f63f1b8ecd37b59f7116543d0c37", func := "loop.example/g01266/laws.FnExactSpreadBasin", spec := "fnExactSpreadBasin", unfollowed := true, recurses := true, apart := false }
def FnExactSpreadBasinSaid : Prop := fnExactSpreadBasinRow.holds Try.pinned (OpenSpec.ofChange fnExactSpreadBasinSpec)

/-- ITS FALSE NEIGHBOUR: 'it returns false'. Refute it at one input. -/
def fnExactSpreadBasinWrong : ChangeSpec := { name := "fnExactSpreadBasin", fn := fun _ => fun
  | [d1, d2, d3] => { results := [.lit (.bool false)], args := [d1, d2, d3] }
  | _ => none }
def FnExactSpreadBasinWrongFalsely : Prop := fnExactSpreadBasinRow.holds Try.pinned (OpenSpec.ofChange fnExactSpreadBasinWrong)

/-- 'laws.FnExactSpinAbout': WHATEVER THE INPUT: true; the input reads as it did. -/
def fnExactSpinAboutSpec : ChangeSpec := { name := "fnExactSpinAbout", fn := fun _ => fun
  | [d1, d2, d3] => { results := [.lit (.bool true)], args := [d1, d2, d3] }
  | _ => none }
def fnExactSpinAboutRow : OpenClaim := { program := "ytojajegjmjmekaa", sum := "0ac89e648e5ed0b5ba757c11ac874340ae64f63f1b8ecd37b59f7116543d0c37", func := "loop.example/g01266/laws.FnExactSpinAbout", spec := "fnExactSpinAbout", inPlace := ["math.archFloor", "math.Float64bits", "math.Float64frombits", "math.archTrunc", "math.Float32bits", "math.Float32frombits"], unfollowed := true, recurses := true, apart := false }
def FnExactSpinAboutSaid : Prop := fnExactSpinAboutRow.holds Try.pinned (OpenSpec.ofChange fnExactSpinAboutSpec)

/-- ITS FALSE NEIGHBOUR: 'it returns false'. Refute it at one input. -/
def fnExactSpinAboutWrong : ChangeSpec := { name := "fnExactSpinAbout", fn := fun _ => fun
  | [d1, d2, d3] => { results := [.lit (.bool false)], args := [d1, d2, d3] }
  | _ => none }
def FnExactSpinAboutWrongFalsely : Prop := fnExactSpinAboutRow.holds Try.pinned (OpenSpec.ofChange fnExactSpinAboutWrong)

/-- 'laws.FnExactMissOfStream': WHATEVER THE INPUT: true; the input reads as it did. -/
def fnExactMissOfStreamSpec : ChangeSpec := { name := "fnExactMissOfStream", fn := fun _ => fun
  | [d1, d2] => { results := [.lit (.bool true)], args := [d1, d2] }
  | _ => none }
def fnExactMissOfStreamRow : OpenClaim := { program := "ytojajegjmjmekaa", sum := "0ac89e648e5ed0b5ba757c11ac874340ae64f63f1b8ecd37b59f7116543d0c37", func := "loop.example/g01266/laws.FnExactMissOfStream", spec := "fnExactMissOfStream", inPlace := ["math.Float32bits", "math.Float32frombits"], unfollowed := true, recurses := true, apart := false }
def FnExactMissOfStreamSaid : Prop := fnExactMissOfStreamRow.holds Try.pinned (OpenSpec.ofChange fnExactMissOfStreamSpec)

/-- ITS FALSE NEIGHBOUR: 'it returns false'. Refute it at one input. -/
def fnExactMissOfStreamWrong : ChangeSpec := { name := "fnExactMissOfStream", fn := fun _ => fun
  | [d1, d2] => { results := [.lit (.bool false)], args := [d1, d2] }
  | _ => none }
def FnExactMissOfStreamWrongFalsely : Prop := fnExactMissOfStreamRow.holds Try.pinned (OpenSpec.ofChange fnExactMissOfStreamWrong)

/-- 'laws.FnExactSweepStream': WHATEVER THE INPUT: true; the input reads as it did. -/
def fnExactSweepStreamSpec : ChangeSpec := { name := "fnExactSweepStream", fn := fun _ => fun
  | [d1, d2, d3] => { results := [.lit (.bool true)], args := [d1, d2, d3] }
  | _ => none }
def fnExactSweepStreamRow : OpenClaim := { program := "ytojajegjmjmekaa", sum := "0ac89e648e5ed0b5ba757c11ac874340ae64f63f1b8ecd37b59f7116543d0c37", func := "loop.example/g01266/laws.FnExactSweepStream", spec := "fnExactSweepStream", unfollowed := true, recurses := true, apart := false }
def FnExactSweepStreamSaid : Prop := fnExactSweepStreamRow.holds Try.pinned (OpenSpec.ofChange fnExactSweepStreamSpec)

/-- ITS FALSE NEIGHBOUR: 'it returns false'. Refute it at one input. -/
def fnExactSweepStreamWrong : ChangeSpec := { name := "fnExactSweepStream", fn := fun _ => fun
  | [d1, d2, d3] => { results := [.lit (.bool false)], args := [d1, d2, d3] }
  | _ => none }
def FnExactSweepStreamWrongFalsely : Prop := fnExactSweepStreamRow.holds Try.pinned (OpenSpec.ofChange fnExactSweepStreamWrong)

/-- 'laws.FnExactCarryBasin': WHATEVER THE INPUT: true; the input reads as it did. -/
def fnExactCarryBasinSpec : ChangeSpec := { name := "fnExactCarryBasin", fn := fun _ => fun
  | [d1, d2, d3, d4] => { results := [.lit (.bool true)], args := [d1, d2, d3, d4] }
  | _ => none }
def fnExactCarryBasinRow : OpenClaim := { program := "ytojajegjmjmekaa", sum := "0ac89e648e5ed0b5ba757c11ac874340ae64f63f1b8ecd37b59f7116543d0c37", func := "loop.example/g01266/laws.FnExactCarryBasin", spec := "fnExactCarryBasin", inPlace := ["math.archFloor", "math.Float64bits", "math.Float64frombits", "math.archTrunc", "math.Float32bits", "math.Float32frombits"], unfollowed := true, recurses := true, apart := false }
def FnExactCarryBasinSaid : Prop := fnExactCarryBasinRow.holds Try.pinned (OpenSpec.ofChange fnExactCarryBasinSpec)

/-- ITS FALSE NEIGHBOUR: 'it returns false'. Refute it at one input. -/
def fnExactCarryBasinWrong : ChangeSpec := { name := "fnExactCarryBasin", fn := fun _ => fun
  | [d1, d2, d3, d4] => { results := [.lit (.bool false)], args := [d1, d2, d3, d4] }
  | _ => none }
def FnExactCarryBasinWrongFalsely : Prop := fnExactCarryBasinRow.holds Try.pinned (OpenSpec.ofChange fnExactCarryBasinWrong)

/-- 'laws.FnExactWaveStream': WHATEVER THE INPUT: true; the input reads as it did. -/
def fnExactWaveStreamSpec : ChangeSpec := { name := "fnExactWaveStream", fn := fun _ => fun
  | [d] => { results := [.lit (.bool true)], args := [d] }
  | _ => none }
def fnExactWaveStreamRow : OpenClaim := { program := "ytojajegjmjmekaa", sum := "0ac89e648e5ed0b5ba757c11ac874340ae64f63f1b8ecd37b59f7116543d0c37", func := "loop.example/g01266/laws.FnExactWaveStream", spec := "fnExactWaveStream", inPlace := ["math.Float64frombits", "math.archTrunc", "math.Float64bits"], unfollowed := true, recurses := true, apart := false }
def FnExactWaveStreamSaid : Prop := fnExactWaveStreamRow.holds Try.pinned (OpenSpec.ofChange fnExactWaveStreamSpec)

/-- ITS FALSE NEIGHBOUR: 'it returns false'. Refute it at one input. -/
def fnExactWaveStreamWrong : ChangeSpec := { name := "fnExactWaveStream", fn := fun _ => fun
  | [d] => { results := [.lit (.bool false)], args := [d] }
  | _ => none }
def FnExactWaveStreamWrongFalsely : Prop := fnExactWaveStreamRow.holds Try.pinned (OpenSpec.ofChange fnExactWaveStreamWrong)

/- THE SECOND FORM. 'bulk': how many values and letters a reading holds, each counted each time it is reached (what is shared counts as often as it is met; a slice's spare places count too). A statement '..UptoSaid' is the law's where the arguments, and the package variables that the reading takes, are together of bulk at most 1048576: NARROWER than '..Said'. Prove '..Said' where nothing that the law and all that it calls make is longer than what came in: it says more and counts as full. Else prove '..UptoSaid'. A law counts once. -/
mutual
def uptoBulk {H : Type} : DataW H → Nat
  | .lit (.string bytes) => bytes.length + 1
  | .lit _ => 1
  | .nil => 1
  | .ptr d => uptoBulk d + 1
  | .slice elems spare => uptoBulkAll elems + uptoBulkAll spare + 1
  | .agg parts => uptoBulkAll parts + 1
  | .iface _ d => uptoBulk d + 1
  | .map entries => uptoBulkEntries entries + 1
  | .held _ => 1
def uptoBulkAll {H : Type} : List (DataW H) → Nat
  | [] => 0
  | d :: r => uptoBulk d + uptoBulkAll r
def uptoBulkEntries {H : Type} : List (Lit × DataW H) → Nat
  | [] => 0
  | x :: r => uptoBulkEntry x + uptoBulkEntries r
def uptoBulkEntry {H : Type} : Lit × DataW H → Nat
  | (.string bytes, d) => bytes.length + uptoBulk d + 1
  | (_, d) => uptoBulk d + 1
 end
def uptoSmall : (H : Type) → List (DataW H) → Bool := fun _ ds => decide (uptoBulkAll ds ≤ 1048576)
def OpenSpec.upto (s : _root_.Go.ChangeSpec) : _root_.Go.OpenSpec := { _root_.Go.OpenSpec.ofChange s with cond := some uptoSmall }

/-- 'laws.FnExactValidBasin', WHERE WHAT IT READS IS OF BULK AT MOST 1048576: true; the input reads as it did. -/
def fnExactValidBasinUptoRow : OpenClaim := { program := "ytojajegjmjmekaa", sum := "0ac89e648e5ed0b5ba757c11ac874340ae64f63f1b8ecd37b59f7116543d0c37", func := "loop.example/g01266/laws.FnExactValidBasin", spec := "fnExactValidBasin", unfollowed := true, recurses := true, apart := false, narrowed := true }
def FnExactValidBasinUptoSaid : Prop := fnExactValidBasinUptoRow.holds Try.pinned (OpenSpec.upto fnExactValidBasinSpec)

/-- 'laws.FnExactSameBasin', WHERE WHAT IT READS IS OF BULK AT MOST 1048576: true; the input reads as it did. -/
def fnExactSameBasinUptoRow : OpenClaim := { program := "ytojajegjmjmekaa", sum := "0ac89e648e5ed0b5ba757c11ac874340ae64f63f1b8ecd37b59f7116543d0c37", func := "loop.example/g01266/laws.FnExactSameBasin", spec := "fnExactSameBasin", inPlace := ["math.Float32bits"], unfollowed := true, recurses := true, apart := false, narrowed := true }
def FnExactSameBasinUptoSaid : Prop := fnExactSameBasinUptoRow.holds Try.pinned (OpenSpec.upto fnExactSameBasinSpec)

/-- 'laws.FnExactRangeInBasin', WHERE WHAT IT READS IS OF BULK AT MOST 1048576: true; the input reads as it did. -/
def fnExactRangeInBasinUptoRow : OpenClaim := { program := "ytojajegjmjmekaa", sum := "0ac89e648e5ed0b5ba757c11ac874340ae64f63f1b8ecd37b59f7116543d0c37", func := "loop.example/g01266/laws.FnExactRangeInBasin", spec := "fnExactRangeInBasin", unfollowed := true, recurses := true, apart := false, narrowed := true }
def FnExactRangeInBasinUptoSaid : Prop := fnExactRangeInBasinUptoRow.holds Try.pinned (OpenSpec.upto fnExactRangeInBasinSpec)

/-- 'laws.FnExactSquaresInBasin', WHERE WHAT IT READS IS OF BULK AT MOST 1048576: true; the input reads as it did. -/
def fnExactSquaresInBasinUptoRow : OpenClaim := { program := "ytojajegjmjmekaa", sum := "0ac89e648e5ed0b5ba757c11ac874340ae64f63f1b8ecd37b59f7116543d0c37", func := "loop.example/g01266/laws.FnExactSquaresInBasin", spec := "fnExactSquaresInBasin", unfollowed := true, recurses := true, apart := false, narrowed := true }
def FnExactSquaresInBasinUptoSaid : Prop := fnExactSquaresInBasinUptoRow.holds Try.pinned (OpenSpec.upto fnExactSquaresInBasinSpec)

/-- 'laws.FnExactTotalInBasin', WHERE WHAT IT READS IS OF BULK AT MOST 1048576: true; the input reads as it did. -/
def fnExactTotalInBasinUptoRow : OpenClaim := { program := "ytojajegjmjmekaa", sum := "0ac89e648e5ed0b5ba757c11ac874340ae64f63f1b8ecd37b59f7116543d0c37", func := "loop.example/g01266/laws.FnExactTotalInBasin", spec := "fnExactTotalInBasin", unfollowed := true, recurses := true, apart := false, narrowed := true }
def FnExactTotalInBasinUptoSaid : Prop := fnExactTotalInBasinUptoRow.holds Try.pinned (OpenSpec.upto fnExactTotalInBasinSpec)

/-- 'laws.FnExactFlatBasin', WHERE WHAT IT READS IS OF BULK AT MOST 1048576: true; the input reads as it did. -/
def fnExactFlatBasinUptoRow : OpenClaim := { program := "ytojajegjmjmekaa", sum := "0ac89e648e5ed0b5ba757c11ac874340ae64f63f1b8ecd37b59f7116543d0c37", func := "loop.example/g01266/laws.FnExactFlatBasin", spec := "fnExactFlatBasin", unfollowed := true, recurses := true, apart := false, narrowed := true }
def FnExactFlatBasinUptoSaid : Prop := fnExactFlatBasinUptoRow.holds Try.pinned (OpenSpec.upto fnExactFlatBasinSpec)

/-- 'laws.FnExactStepBasin', WHERE WHAT IT READS IS OF BULK AT MOST 1048576: true; the input reads as it did. -/
def fnExactStepBasinUptoRow : OpenClaim := { program := "ytojajegjmjmekaa", sum := "0ac89e648e5ed0b5ba757c11ac874340ae64f63f1b8ecd37b59f7116543d0c37", func := "loop.example/g01266/laws.FnExactStepBasin", spec := "fnExactStepBasin", inPlace := ["math.archFloor", "math.Float64bits", "math.Float64frombits", "math.archTrunc", "math.Float32bits", "math.Float32frombits"], unfollowed := true, recurses := true, apart := false, narrowed := true }
def FnExactStepBasinUptoSaid : Prop := fnExactStepBasinUptoRow.holds Try.pinned (OpenSpec.upto fnExactStepBasinSpec)

/-- 'laws.FnExactMirrorBasin', WHERE WHAT IT READS IS OF BULK AT MOST 1048576: true; the input reads as it did. -/
def fnExactMirrorBasinUptoRow : OpenClaim := { program := "ytojajegjmjmekaa", sum := "0ac89e648e5ed0b5ba757c11ac874340ae64f63f1b8ecd37b59f7116543d0c37", func := "loop.example/g01266/laws.FnExactMirrorBasin", spec := "fnExactMirrorBasin", unfollowed := true, recurses := true, apart := false, narrowed := true }
def FnExactMirrorBasinUptoSaid : Prop := fnExactMirrorBasinUptoRow.holds Try.pinned (OpenSpec.upto fnExactMirrorBasinSpec)

/-- 'laws.FnExactRollBasin', WHERE WHAT IT READS IS OF BULK AT MOST 1048576: true; the input reads as it did. -/
def fnExactRollBasinUptoRow : OpenClaim := { program := "ytojajegjmjmekaa", sum := "0ac89e648e5ed0b5ba757c11ac874340ae64f63f1b8ecd37b59f7116543d0c37", func := "loop.example/g01266/laws.FnExactRollBasin", spec := "fnExactRollBasin", unfollowed := true, recurses := true, apart := false, narrowed := true }
def FnExactRollBasinUptoSaid : Prop := fnExactRollBasinUptoRow.holds Try.pinned (OpenSpec.upto fnExactRollBasinSpec)

/-- 'laws.FnExactBlobBasin', WHERE WHAT IT READS IS OF BULK AT MOST 1048576: true; the input reads as it did. -/
def fnExactBlobBasinUptoRow : OpenClaim := { program := "ytojajegjmjmekaa", sum := "0ac89e648e5ed0b5ba757c11ac874340ae64f63f1b8ecd37b59f7116543d0c37", func := "loop.example/g01266/laws.FnExactBlobBasin", spec := "fnExactBlobBasin", unfollowed := true, recurses := true, apart := false, narrowed := true }
def FnExactBlobBasinUptoSaid : Prop := fnExactBlobBasinUptoRow.holds Try.pinned (OpenSpec.upto fnExactBlobBasinSpec)

/-- 'laws.FnExactScaleBasin', WHERE WHAT IT READS IS OF BULK AT MOST 1048576: true; the input reads as it did. -/
def fnExactScaleBasinUptoRow : OpenClaim := { program := "ytojajegjmjmekaa", sum := "0ac89e648e5ed0b5ba757c11ac874340ae64f63f1b8ecd37b59f7116543d0c37", func := "loop.example/g01266/laws.FnExactScaleBasin", spec := "fnExactScaleBasin", unfollowed := true, recurses := true, apart := false, narrowed := true }
def FnExactScaleBasinUptoSaid : Prop := fnExactScaleBasinUptoRow.holds Try.pinned (OpenSpec.upto fnExactScaleBasinSpec)

/-- 'laws.FnExactRunBasin', WHERE WHAT IT READS IS OF BULK AT MOST 1048576: true; the input reads as it did. -/
def fnExactRunBasinUptoRow : OpenClaim := { program := "ytojajegjmjmekaa", sum := "0ac89e648e5ed0b5ba757c11ac874340ae64f63f1b8ecd37b59f7116543d0c37", func := "loop.example/g01266/laws.FnExactRunBasin", spec := "fnExactRunBasin", inPlace := ["math.archFloor", "math.Float64bits", "math.Float64frombits", "math.archTrunc", "math.Float32bits", "math.Float32frombits"], unfollowed := true, recurses := true, apart := false, narrowed := true }
def FnExactRunBasinUptoSaid : Prop := fnExactRunBasinUptoRow.holds Try.pinned (OpenSpec.upto fnExactRunBasinSpec)

/-- 'laws.FnExactAddBasins', WHERE WHAT IT READS IS OF BULK AT MOST 1048576: true; the input reads as it did. -/
def fnExactAddBasinsUptoRow : OpenClaim := { program := "ytojajegjmjmekaa", sum := "0ac89e648e5ed0b5ba757c11ac874340ae64f63f1b8ecd37b59f7116543d0c37", func := "loop.example/g01266/laws.FnExactAddBasins", spec := "fnExactAddBasins", unfollowed := true, recurses := true, apart := false, narrowed := true }
def FnExactAddBasinsUptoSaid : Prop := fnExactAddBasinsUptoRow.holds Try.pinned (OpenSpec.upto fnExactAddBasinsSpec)

/-- 'laws.FnExactFlowsInBasin', WHERE WHAT IT READS IS OF BULK AT MOST 1048576: true; the input reads as it did. -/
def fnExactFlowsInBasinUptoRow : OpenClaim := { program := "ytojajegjmjmekaa", sum := "0ac89e648e5ed0b5ba757c11ac874340ae64f63f1b8ecd37b59f7116543d0c37", func := "loop.example/g01266/laws.FnExactFlowsInBasin", spec := "fnExactFlowsInBasin", unfollowed := true, recurses := true, apart := false, narrowed := true }
def FnExactFlowsInBasinUptoSaid : Prop := fnExactFlowsInBasinUptoRow.holds Try.pinned (OpenSpec.upto fnExactFlowsInBasinSpec)

/-- 'laws.FnExactLaplaceBasin', WHERE WHAT IT READS IS OF BULK AT MOST 1048576: true; the input reads as it did. -/
def fnExactLaplaceBasinUptoRow : OpenClaim := { program := "ytojajegjmjmekaa", sum := "0ac89e648e5ed0b5ba757c11ac874340ae64f63f1b8ecd37b59f7116543d0c37", func := "loop.example/g01266/laws.FnExactLaplaceBasin", spec := "fnExactLaplaceBasin", unfollowed := true, recurses := true, apart := false, narrowed := true }
def FnExactLaplaceBasinUptoSaid : Prop := fnExactLaplaceBasinUptoRow.holds Try.pinned (OpenSpec.upto fnExactLaplaceBasinSpec)

/-- 'laws.FnExactEvenOut', WHERE WHAT IT READS IS OF BULK AT MOST 1048576: true; the input reads as it did. -/
def fnExactEvenOutUptoRow : OpenClaim := { program := "ytojajegjmjmekaa", sum := "0ac89e648e5ed0b5ba757c11ac874340ae64f63f1b8ecd37b59f7116543d0c37", func := "loop.example/g01266/laws.FnExactEvenOut", spec := "fnExactEvenOut", unfollowed := true, recurses := true, apart := false, narrowed := true }
def FnExactEvenOutUptoSaid : Prop := fnExactEvenOutUptoRow.holds Try.pinned (OpenSpec.upto fnExactEvenOutSpec)

/-- 'laws.FnExactSpreadBasin', WHERE WHAT IT READS IS OF BULK AT MOST 1048576: true; the input reads as it did. -/
def fnExactSpreadBasinUptoRow : OpenClaim := { program := "ytojajegjmjmekaa", sum := "0ac89e648e5ed0b5ba757c11ac874340ae64f63f1b8ecd37b59f7116543d0c37", func := "loop.example/g01266/laws.FnExactSpreadBasin", spec := "fnExactSpreadBasin", unfollowed := true, recurses := true, apart := false, narrowed := true }
def FnExactSpreadBasinUptoSaid : Prop := fnExactSpreadBasinUptoRow.holds Try.pinned (OpenSpec.upto fnExactSpreadBasinSpec)

/-- 'laws.FnExactSpinAbout', WHERE WHAT IT READS IS OF BULK AT MOST 1048576: true; the input reads as it did. -/
def fnExactSpinAboutUptoRow : OpenClaim := { program := "ytojajegjmjmekaa", sum := "0ac89e648e5ed0b5ba757c11ac874340ae64f63f1b8ecd37b59f7116543d0c37", func := "loop.example/g01266/laws.FnExactSpinAbout", spec := "fnExactSpinAbout", inPlace := ["math.archFloor", "math.Float64bits", "math.Float64frombits", "math.archTrunc", "math.Float32bits", "math.Float32frombits"], unfollowed := true, recurses := true, apart := false, narrowed := true }
def FnExactSpinAboutUptoSaid : Prop := fnExactSpinAboutUptoRow.holds Try.pinned (OpenSpec.upto fnExactSpinAboutSpec)

/-- 'laws.FnExactMissOfStream', WHERE WHAT IT READS IS OF BULK AT MOST 1048576: true; the input reads as it did. -/
def fnExactMissOfStreamUptoRow : OpenClaim := { program := "ytojajegjmjmekaa", sum := "0ac89e648e5ed0b5ba757c11ac874340ae64f63f1b8ecd37b59f7116543d0c37", func := "loop.example/g01266/laws.FnExactMissOfStream", spec := "fnExactMissOfStream", inPlace := ["math.Float32bits", "math.Float32frombits"], unfollowed := true, recurses := true, apart := false, narrowed := true }
def FnExactMissOfStreamUptoSaid : Prop := fnExactMissOfStreamUptoRow.holds Try.pinned (OpenSpec.upto fnExactMissOfStreamSpec)

/-- 'laws.FnExactSweepStream', WHERE WHAT IT READS IS OF BULK AT MOST 1048576: true; the input reads as it did. -/
def fnExactSweepStreamUptoRow : OpenClaim := { program := "ytojajegjmjmekaa", sum := "0ac89e648e5ed0b5ba757c11ac874340ae64f63f1b8ecd37b59f7116543d0c37", func := "loop.example/g01266/laws.FnExactSweepStream", spec := "fnExactSweepStream", unfollowed := true, recurses := true, apart := false, narrowed := true }
def FnExactSweepStreamUptoSaid : Prop := fnExactSweepStreamUptoRow.holds Try.pinned (OpenSpec.upto fnExactSweepStreamSpec)

/-- 'laws.FnExactCarryBasin', WHERE WHAT IT READS IS OF BULK AT MOST 1048576: true; the input reads as it did. -/
def fnExactCarryBasinUptoRow : OpenClaim := { program := "ytojajegjmjmekaa", sum := "0ac89e648e5ed0b5ba757c11ac874340ae64f63f1b8ecd37b59f7116543d0c37", func := "loop.example/g01266/laws.FnExactCarryBasin", spec := "fnExactCarryBasin", inPlace := ["math.archFloor", "math.Float64bits", "math.Float64frombits", "math.archTrunc", "math.Float32bits", "math.Float32frombits"], unfollowed := true, recurses := true, apart := false, narrowed := true }
def FnExactCarryBasinUptoSaid : Prop := fnExactCarryBasinUptoRow.holds Try.pinned (OpenSpec.upto fnExactCarryBasinSpec)

/-- 'laws.FnExactWaveStream', WHERE WHAT IT READS IS OF BULK AT MOST 1048576: true; the input reads as it did. -/
def fnExactWaveStreamUptoRow : OpenClaim := { program := "ytojajegjmjmekaa", sum := "0ac89e648e5ed0b5ba757c11ac874340ae64f63f1b8ecd37b59f7116543d0c37", func := "loop.example/g01266/laws.FnExactWaveStream", spec := "fnExactWaveStream", inPlace := ["math.Float64frombits", "math.archTrunc", "math.Float64bits"], unfollowed := true, recurses := true, apart := false, narrowed := true }
def FnExactWaveStreamUptoSaid : Prop := fnExactWaveStreamUptoRow.holds Try.pinned (OpenSpec.upto fnExactWaveStreamSpec)

end Rows
end Go.Proofs.Ytojajegjmjmekaa
