/-
  No cell of these rows narrows 'for every input' (looked for: loops, veiled, ifaces, maps, wideKeys, modest, calm, conditions, laid).
  DERIVED. THE GIVEN ROWS OF THIS SEAT. 5 by the template 'for every input the law returns true; each argument reads behind the call as it read before'; 0 by the template 'total and deterministic' (their statements: YtfhgggjpdimaoaaTotals.lean).
  GIVEN WITH THE SEED: the statements are not yours to turn. If you find one false, say at which input.
  Laid BY PROGRAM, IN A SANDBOX (cutbox-rows.mjs): the forced cells as the released guide's own fill.sh prints them over the translation 2b86668a0f189b9a… (all of the seat's roots in one cut). By AI agents, Wed Nov 11 2026. No macro, syntax, notation, axiom, sorry.
-/
import Derived.Test.YtfhgggjpdimaoaaChecked
import GoSem.Claim
import GoSem.ClaimJoined
import GoSem.ClaimMapViews
import Derived.JoinedTies
import Derived.KernelRfl
namespace Go.Proofs.Ytfhgggjpdimaoaa
/- THE CELL 'sum', in the pinned program and in every row, IS THE sha256 OF THE DUMP (.gsa) THAT YtfhgggjpdimaoaaProg.lean LOADS. Nothing in Lean hashes anything: it is a label: what it is worth is what the hold of that sum in a sandbox is worth. -/
noncomputable def Try.pinned : Pinned := { name := "ytfhgggjpdimaoaa", sum := "2b86668a0f189b9aae01f3da15ffe37b0a2ac62d7213ccd9f9a1961d6f636d8b", checked := Try.checked }
namespace Rows
def none {H : Type} : Left H := { results := [], args := [] }

/-- 'laws.FnExactIsThread': WHATEVER THE INPUT: true; the input reads as it did. -/
def fnExactIsThreadSpec : ChangeSpec := { name := "fnExactIsThread", fn := fun _ => fun
  | [d] => { results := [.lit (.bool true)], args := [d] }
  | _ => none }
def fnExactIsThreadRow : OpenClaim := { program := "ytfhgggjpdimaoaa", sum := "2b86668a0f189b9aae01f3da15ffe37b0a2ac62d7213ccd9f9a1961d6f636d8b", func := "loop.example/g01266/laws.FnExactIsThread", spec := "fnExactIsThread", unfollowed := true, recurses := true, apart := false }
def FnExactIsThreadSaid : Prop := fnExactIsThreadRow.holds Try.pinned (OpenSpec.ofChange fnExactIsThreadSpec)

/-- ITS FALSE NEIGHBOUR: 'it returns false'. Refute it at one input. -/
def fnExactIsThreadWrong : ChangeSpec := { name := "fnExactIsThread", fn := fun _ => fun
  | [d] => { results := [.lit (.bool false)], args := [d] }
  | _ => none }
def FnExactIsThreadWrongFalsely : Prop := fnExactIsThreadRow.holds Try.pinned (OpenSpec.ofChange fnExactIsThreadWrong)

/-- 'laws.FnExactFlatSheet': WHATEVER THE INPUT: true; the input reads as it did. -/
def fnExactFlatSheetSpec : ChangeSpec := { name := "fnExactFlatSheet", fn := fun _ => fun
  | [d1, d2, d3] => { results := [.lit (.bool true)], args := [d1, d2, d3] }
  | _ => none }
def fnExactFlatSheetRow : OpenClaim := { program := "ytfhgggjpdimaoaa", sum := "2b86668a0f189b9aae01f3da15ffe37b0a2ac62d7213ccd9f9a1961d6f636d8b", func := "loop.example/g01266/laws.FnExactFlatSheet", spec := "fnExactFlatSheet", unfollowed := true, recurses := true, apart := false }
def FnExactFlatSheetSaid : Prop := fnExactFlatSheetRow.holds Try.pinned (OpenSpec.ofChange fnExactFlatSheetSpec)

/-- ITS FALSE NEIGHBOUR: 'it returns false'. Refute it at one input. -/
def fnExactFlatSheetWrong : ChangeSpec := { name := "fnExactFlatSheet", fn := fun _ => fun
  | [d1, d2, d3] => { results := [.lit (.bool false)], args := [d1, d2, d3] }
  | _ => none }
def FnExactFlatSheetWrongFalsely : Prop := fnExactFlatSheetRow.holds Try.pinned (OpenSpec.ofChange fnExactFlatSheetWrong)

/-- 'laws.FnExactSolveSquare': WHATEVER THE INPUT: true; the input reads as it did. -/
def fnExactSolveSquareSpec : ChangeSpec := { name := "fnExactSolveSquare", fn := fun _ => fun
  | [d1, d2] => { results := [.lit (.bool true)], args := [d1, d2] }
  | _ => none }
def fnExactSolveSquareRow : OpenClaim := { program := "ytfhgggjpdimaoaa", sum := "2b86668a0f189b9aae01f3da15ffe37b0a2ac62d7213ccd9f9a1961d6f636d8b", func := "loop.example/g01266/laws.FnExactSolveSquare", spec := "fnExactSolveSquare", inPlace := ["math.Float32bits", "math.Float32frombits"], unfollowed := true, recurses := true, apart := false }
def FnExactSolveSquareSaid : Prop := fnExactSolveSquareRow.holds Try.pinned (OpenSpec.ofChange fnExactSolveSquareSpec)

/-- ITS FALSE NEIGHBOUR: 'it returns false'. Refute it at one input. -/
def fnExactSolveSquareWrong : ChangeSpec := { name := "fnExactSolveSquare", fn := fun _ => fun
  | [d1, d2] => { results := [.lit (.bool false)], args := [d1, d2] }
  | _ => none }
def FnExactSolveSquareWrongFalsely : Prop := fnExactSolveSquareRow.holds Try.pinned (OpenSpec.ofChange fnExactSolveSquareWrong)

/-- 'laws.FnExactPolygonOfWhirls': WHATEVER THE INPUT: true; the input reads as it did. -/
def fnExactPolygonOfWhirlsSpec : ChangeSpec := { name := "fnExactPolygonOfWhirls", fn := fun _ => fun
  | [d1, d2, d3] => { results := [.lit (.bool true)], args := [d1, d2, d3] }
  | _ => none }
def fnExactPolygonOfWhirlsRow : OpenClaim := { program := "ytfhgggjpdimaoaa", sum := "2b86668a0f189b9aae01f3da15ffe37b0a2ac62d7213ccd9f9a1961d6f636d8b", func := "loop.example/g01266/laws.FnExactPolygonOfWhirls", spec := "fnExactPolygonOfWhirls", inPlace := ["math.Float32frombits", "math.Float64frombits", "math.Float64bits", "math.archTrunc"], unfollowed := true, recurses := true, apart := false }
def FnExactPolygonOfWhirlsSaid : Prop := fnExactPolygonOfWhirlsRow.holds Try.pinned (OpenSpec.ofChange fnExactPolygonOfWhirlsSpec)

/-- ITS FALSE NEIGHBOUR: 'it returns false'. Refute it at one input. -/
def fnExactPolygonOfWhirlsWrong : ChangeSpec := { name := "fnExactPolygonOfWhirls", fn := fun _ => fun
  | [d1, d2, d3] => { results := [.lit (.bool false)], args := [d1, d2, d3] }
  | _ => none }
def FnExactPolygonOfWhirlsWrongFalsely : Prop := fnExactPolygonOfWhirlsRow.holds Try.pinned (OpenSpec.ofChange fnExactPolygonOfWhirlsWrong)

/-- 'laws.FnExactRingSheet': WHATEVER THE INPUT: true; the input reads as it did. -/
def fnExactRingSheetSpec : ChangeSpec := { name := "fnExactRingSheet", fn := fun _ => fun
  | [d1, d2, d3] => { results := [.lit (.bool true)], args := [d1, d2, d3] }
  | _ => none }
def fnExactRingSheetRow : OpenClaim := { program := "ytfhgggjpdimaoaa", sum := "2b86668a0f189b9aae01f3da15ffe37b0a2ac62d7213ccd9f9a1961d6f636d8b", func := "loop.example/g01266/laws.FnExactRingSheet", spec := "fnExactRingSheet", inPlace := ["math.Float32frombits", "math.Float64frombits", "math.Float64bits", "math.archTrunc"], unfollowed := true, recurses := true, apart := false }
def FnExactRingSheetSaid : Prop := fnExactRingSheetRow.holds Try.pinned (OpenSpec.ofChange fnExactRingSheetSpec)

/-- ITS FALSE NEIGHBOUR: 'it returns false'. Refute it at one input. -/
def fnExactRingSheetWrong : ChangeSpec := { name := "fnExactRingSheet", fn := fun _ => fun
  | [d1, d2, d3] => { results := [.lit (.bool false)], args := [d1, d2, d3] }
  | _ => none }
def FnExactRingSheetWrongFalsely : Prop := fnExactRingSheetRow.holds Try.pinned (OpenSpec.ofChange fnExactRingSheetWrong)

/- THE SECOND FORM. 'bulk': how many values and letters a reading holds, each counted each time it is reached (what is shared counts as often as it is met; a slice's spare places count too). A statement '..UptoSaid' is the law's where the arguments, and the package variables that the reading takes, are together of bulk at most 1048576: NARROWER than '..Said'. Prove '..Said' where nothing that the law and all that it calls make is longer than what came in: it says more and counts as full. Else prove '..UptoSaid'. A law counts once. -/
mutual
def uptoBulk {H : Type} : DataW H → Nat
  | .lit (.string bytes) => bytes.length + 1
  | .lit _ => 1
  | .nil => 1
  | .ptr d => uptoBulk d + 1
  | .slice elems spare => uptoBulkAll elems + uptoBulkAll spare + 1
  | .agg parts => uptoBulkAll parts + 1
  | .iface _ d => uptoBulk d + 1
  | .map entries => uptoBulkEntries entries + 1
  | .held _ => 1
def uptoBulkAll {H : Type} : List (DataW H) → Nat
  | [] => 0
  | d :: r => uptoBulk d + uptoBulkAll r
def uptoBulkEntries {H : Type} : List (Lit × DataW H) → Nat
  | [] => 0
  | x :: r => uptoBulkEntry x + uptoBulkEntries r
def uptoBulkEntry {H : Type} : Lit × DataW H → Nat
  | (.string bytes, d) => bytes.length + uptoBulk d + 1
  | (_, d) => uptoBulk d + 1
 end
def uptoSmall : (H : Type) → List (DataW H) → Bool := fun _ ds => decide (uptoBulkAll ds ≤ 1048576)
def OpenSpec.upto (s : _root_.Go.ChangeSpec) : _root_.Go.OpenSpec := { _root_.Go.OpenSpec.ofChange s with cond := some uptoSmall }

/-- 'laws.FnExactIsThread', WHERE WHAT IT READS IS OF BULK AT MOST 1048576: true; the input reads as it did. -/
def fnExactIsThreadUptoRow : OpenClaim := { program := "ytfhgggjpdimaoaa", sum := "2b86668a0f189b9aae01f3da15ffe37b0a2ac62d7213ccd9f9a1961d6f636d8b", func := "loop.example/g01266/laws.FnExactIsThread", spec := "fnExactIsThread", unfollowed := true, recurses := true, apart := false, narrowed := true }
def FnExactIsThreadUptoSaid : Prop := fnExactIsThreadUptoRow.holds Try.pinned (OpenSpec.upto fnExactIsThreadSpec)

/-- 'laws.FnExactFlatSheet', WHERE WHAT IT READS IS OF BULK AT MOST 1048576: true; the input reads as it did. -/
def fnExactFlatSheetUptoRow : OpenClaim := { program := "ytfhgggjpdimaoaa", sum := "2b86668a0f189b9aae01f3da15ffe37b0a2ac62d7213ccd9f9a1961d6f636d8b", func := "loop.example/g01266/laws.FnExactFlatSheet", spec := "fnExactFlatSheet", unfollowed := true, recurses := true, apart := false, narrowed := true }
def FnExactFlatSheetUptoSaid : Prop := fnExactFlatSheetUptoRow.holds Try.pinned (OpenSpec.upto fnExactFlatSheetSpec)

/-- 'laws.FnExactSolveSquare', WHERE WHAT IT READS IS OF BULK AT MOST 1048576: true; the input reads as it did. -/
def fnExactSolveSquareUptoRow : OpenClaim := { program := "ytfhgggjpdimaoaa", sum := "2b86668a0f189b9aae01f3da15ffe37b0a2ac62d7213ccd9f9a1961d6f636d8b", func := "loop.example/g01266/laws.FnExactSolveSquare", spec := "fnExactSolveSquare", inPlace := ["math.Float32bits", "math.Float32frombits"], unfollowed := true, recurses := true, apart := false, narrowed := true }
def FnExactSolveSquareUptoSaid : Prop := fnExactSolveSquareUptoRow.holds Try.pinned (OpenSpec.upto fnExactSolveSquareSpec)

/-- 'laws.FnExactPolygonOfWhirls', WHERE WHAT IT READS IS OF BULK AT MOST 1048576: true; the input reads as it did. -/
def fnExactPolygonOfWhirlsUptoRow : OpenClaim := { program := "ytfhgggjpdimaoaa", sum := "2b86668a0f189b9aae01f3da15ffe37b0a2ac62d7213ccd9f9a1961d6f636d8b", func := "loop.example/g01266/laws.FnExactPolygonOfWhirls", spec := "fnExactPolygonOfWhirls", inPlace := ["math.Float32frombits", "math.Float64frombits", "math.Float64bits", "math.archTrunc"], unfollowed := true, recurses := true, apart := false, narrowed := true }
def FnExactPolygonOfWhirlsUptoSaid : Prop := fnExactPolygonOfWhirlsUptoRow.holds Try.pinned (OpenSpec.upto fnExactPolygonOfWhirlsSpec)

/-- 'laws.FnExactRingSheet', WHERE WHAT IT READS IS OF BULK AT MOST 1048576: true; the input reads as it did. -/
def fnExactRingSheetUptoRow : OpenClaim := { program := "ytfhgggjpdimaoaa", sum := "2b86668a0f189b9aae01f3da15ffe37b0a2ac62d7213ccd9f9a1961d6f636d8b", func := "loop.example/g01266/laws.FnExactRingSheet", spec := "fnExactRingSheet", inPlace := ["math.Float32frombits", "math.Float64frombits", "math.Float64bits", "math.archTrunc"], unfollowed := true, recurses := true, apart := false, narrowed := true }
def FnExactRingSheetUptoSaid : Prop := fnExactRingSheetUptoRow.holds Try.pinned (OpenSpec.upto fnExactRingSheetSpec)

end Rows
end Go.Proofs.Ytfhgggjpdimaoaa
