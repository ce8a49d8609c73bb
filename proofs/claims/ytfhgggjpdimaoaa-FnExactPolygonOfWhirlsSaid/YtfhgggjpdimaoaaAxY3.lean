/- A symbolic walk over the code of one function, and that it tells no more than the model does: no condition. -/
import Derived.Test.YtfhgggjpdimaoaaAxY
set_option linter.unusedVariables false
set_option linter.unusedSimpArgs false
namespace Go.AX
theorem tabPh5 : (List.range 3).all (fun c => (List.range (c + 40)).all fun k => chkPh k (c + 40)) = true := by decide +kernel
theorem tabPh6 : (List.range 3).all (fun c => (List.range (c + 43)).all fun k => chkPh k (c + 43)) = true := by decide +kernel
theorem tabPh7 : (List.range 3).all (fun c => (List.range (c + 46)).all fun k => chkPh k (c + 46)) = true := by decide +kernel
end Go.AX
