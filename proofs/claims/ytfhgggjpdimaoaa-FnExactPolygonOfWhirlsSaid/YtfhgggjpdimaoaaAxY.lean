/- A symbolic walk over the code of one function, and that it tells no more than the model does: no condition. -/
import Derived.Test.YtfhgggjpdimaoaaAxX
set_option linter.unusedVariables false
set_option linter.unusedSimpArgs false
namespace Go.AX

/-! ## Parts of a turn: a table -/

abbrev K25 : Nat := 4598175219545276416
abbrev K50 : Nat := 4602678819172646912
abbrev KB : Nat := 4841369599423283200
abbrev KN : Nat := 14064741636278059008
def ftr0 (y : Nat) : Nat := Ieee.double.write ((Ieee.double.read y).integral .zero)
def lbB (y : Nat) (E : Int) : Bool := match Ieee.double.read y with
  | .number _ m e => m == 0 || decide ((m.log2 : Int) + e ≤ E)
  | _ => false
def okP0 (y : Nat) : Bool := isNum .f64 y && (decide (y < 9223372036854775808) && (floatToIntVal .f64 y .i64 == some 0 && (fop0 .sub .f64 y (FloatKind.f64.nearest 0) == y && (!fcmp0 .lss .f64 y 0 && (!fcmp0 .neq .f64 (ftr0 y) 0 &&
  (!fcmp0 .geq .f64 y KB && !fcmp0 .leq .f64 y KN))))))
def okS0 (y : Nat) : Bool := okP0 y && (!fcmp0 .geq .f64 y K50 && (!fcmp0 .gtr .f64 y K25 && lbB y (-2)))
def fs0 (x : Nat) : Nat → Nat
  | 0 => x
  | j + 1 => fop0 .sub .f64 (fs0 x j) K25
def okF0 (x : Nat) (Q : Nat) : Bool := (List.range Q).all (fun j => fcmp0 .geq .f64 (fs0 x j) K25) && (!fcmp0 .geq .f64 (fs0 x Q) K25 && (okS0 (fop0 .sub .f64 K25 (fs0 x Q)) && okS0 (fs0 x Q)))
def Qk (k c : Nat) : Nat := fop0 .quo .f64 (FloatKind.f64.nearest (k : Int)) (FloatKind.f64.nearest (c : Int))
def chkPh (k c : Nat) : Bool := okP0 (Qk k c) && okF0 (Qk k c) (4 * k / c)
theorem tabPh0 : (List.range 17).all (fun c => (List.range (c + 0)).all fun k => chkPh k (c + 0)) = true := by decide +kernel
theorem tabPh1 : (List.range 8).all (fun c => (List.range (c + 17)).all fun k => chkPh k (c + 17)) = true := by decide +kernel
end Go.AX
