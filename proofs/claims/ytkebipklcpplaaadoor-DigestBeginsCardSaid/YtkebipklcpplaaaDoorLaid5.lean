/- A world for the witnesses of rows that list five tables. -/
import Derived.Test.YtkebipklcpplaaaDoorLaid
namespace Go.Proofs.YtkebipklcpplaaaDoor
open Go.ChangeShapes Go.WideShapes Go.ChangeAt Go.RowKit
set_option linter.unusedVariables false
def litCell : DataW Unit → Value
  | .lit (.int k z) => .int k z
  | _ => undef
def tabCells : DataW Unit → Array Value
  | .agg xs => (xs.map litCell).toArray
  | _ => #[]
/-- the settled world, the five tables holding what their initialisers lay -/
noncomputable def laidWorld5 (os : Os) : World :=
  { laidWorld os with heap := (((laidWorld os).heap.modify 4 (setObj (tabCells Rows.laid_math_bits_deBruijn32tab))).modify 5 (setObj (tabCells Rows.laid_math_bits_deBruijn64tab))).modify 3 (setObj (tabCells Rows.laid_internal_strconv_uint64pow10)) }
end Go.Proofs.YtkebipklcpplaaaDoor
