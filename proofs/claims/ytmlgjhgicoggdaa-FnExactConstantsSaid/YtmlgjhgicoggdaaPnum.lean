/- Proved here: the plain laws on the encodings of numbers: what the program's shallow functions compute is what the reference's compute. -/
import Derived.Test.YtmlgjhgicoggdaaK9
import Derived.Test.YtmlgjhgicoggdaaSh
namespace Go.Proofs.Ytmlgjhgicoggdaa
open Go Go.RowKit
set_option linter.unusedVariables false
set_option linter.unusedSimpArgs false

theorem P_FnExactConstants (F : Nat) (hF : 2097152 ≤ F) : S_laws_FnExactConstants F = some true := rfl

end Go.Proofs.Ytmlgjhgicoggdaa
