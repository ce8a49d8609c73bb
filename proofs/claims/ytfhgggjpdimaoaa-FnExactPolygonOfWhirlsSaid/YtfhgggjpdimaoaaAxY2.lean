/- A symbolic walk over the code of one function, and that it tells no more than the model does: no condition. -/
import Derived.Test.YtfhgggjpdimaoaaAxY
set_option linter.unusedVariables false
set_option linter.unusedSimpArgs false
namespace Go.AX
theorem tabPh2 : (List.range 6).all (fun c => (List.range (c + 25)).all fun k => chkPh k (c + 25)) = true := by decide +kernel
theorem tabPh3 : (List.range 5).all (fun c => (List.range (c + 31)).all fun k => chkPh k (c + 31)) = true := by decide +kernel
theorem tabPh4 : (List.range 4).all (fun c => (List.range (c + 36)).all fun k => chkPh k (c + 36)) = true := by decide +kernel
end Go.AX
