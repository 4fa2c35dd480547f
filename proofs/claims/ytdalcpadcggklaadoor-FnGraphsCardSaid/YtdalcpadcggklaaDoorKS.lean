/- Proved here: what the calls of strconv do. -/
import Derived.Test.YtdalcpadcggklaaDoorK12
import Derived.Test.YtdalcpadcggklaaDoorKL
import Derived.Test.YtdalcpadcggklaaDoorRows
import Derived.Lib.AppendIntMem
import Derived.Lib.AtoiErrMem
namespace Go.Proofs.YtdalcpadcggklaaDoor
open Go Go.RowKit
set_option linter.unusedVariables false
set_option linter.unusedSimpArgs false

/-- The table's name, off the row that lists it. -/
def tabN : String := Rows.fnSetsRow.named.getD 0 default

theorem c_strconv_Itoa (F : Nat) (n : Int) {r : List UInt8} (hF : S_strconv_Itoa F n = some r) (w0 : World) (h0 : (tabR Tryd.prog tabN).P w0) :
    Calls Tryd.prog 94 [(Value.int IntKind.i64 n)].toArray w0 (retPost fun v w' => v = (Value.string (bs r)) ∧ Mem Nob w0 w' []) := by
  unfold S_strconv_Itoa at hF
  split at hF
  · rename_i hb
    cases hF
    refine (Any.strconv_Itoa laysM171 n hb.1 hb.2 w0 (tab_of h0)).mono fun e w' h => ?_
    obtain ⟨rfl, k, os, rfl⟩ := h
    exact ⟨rfl, mem_below (Lib.below_grow _ _ (Nat.le_refl _) _ _)⟩
  · cases hF

end Go.Proofs.YtdalcpadcggklaaDoor
