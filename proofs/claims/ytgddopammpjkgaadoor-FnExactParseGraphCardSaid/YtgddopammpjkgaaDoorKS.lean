/- Proved here: what the calls of strconv do. -/
import Derived.Test.YtgddopammpjkgaaDoorK12
import Derived.Test.YtgddopammpjkgaaDoorKL
import Derived.Test.YtgddopammpjkgaaDoorRows
import Derived.Lib.AppendIntMem
import Derived.Lib.AtoiErrMem
namespace Go.Proofs.YtgddopammpjkgaaDoor
open Go Go.RowKit
set_option linter.unusedVariables false
set_option linter.unusedSimpArgs false

/-- The table's name, off the row that lists it. -/
def tabN : String := Rows.fnIntegerEncodingsRow.named.getD 0 default

def synN : String := "strconv.ErrSyntax"

theorem c_strconv_Itoa (F : Nat) (n : Int) {r : List UInt8} (hF : S_strconv_Itoa F n = some r) (w0 : World) (h0 : (tabR Tryd.prog tabN).P w0) :
    Calls Tryd.prog 42 [(Value.int IntKind.i64 n)].toArray w0 (retPost fun v w' => v = (Value.string (bs r)) ∧ Mem Nob w0 w' []) := by
  unfold S_strconv_Itoa at hF
  split at hF
  · rename_i hb
    cases hF
    refine (Any.strconv_Itoa laysM171 n hb.1 hb.2 w0 (tab_of h0)).mono fun e w' h => ?_
    obtain ⟨rfl, k, os, rfl⟩ := h
    exact ⟨rfl, mem_below (Lib.below_grow _ _ (Nat.le_refl _) _ _)⟩
  · cases hF

theorem c_strconv_Atoi (F : Nat) (s : List UInt8) {r : Int × Bool} (hF : S_strconv_Atoi F s = some r) (w0 : World) (h0 : (tabR Tryd.prog tabN).P w0) (h1 : (synR Tryd.prog synN).P w0) :
    Calls Tryd.prog 43 [(Value.string (bs s))].toArray w0 (retPost fun v w' => ∃ ev, v = (Value.tuple #[(Value.int IntKind.i64 r.1), ev]) ∧ ErrV ev r.2 ∧ Mem Nob w0 w' []) := by
  unfold S_strconv_Atoi at hF
  split at hF
  · rename_i hb
    have hl : (bs s).size ≤ 18 := by rw [bs_size]; exact hb
    have hd : (bs s).data.toList = s := by simp [bs]
    cases ha : Lib.atoi s with
    | some n =>
      rw [ha] at hF
      cases hF
      refine (Any.strconv_Atoi lays172 (bs s) n hl (by rw [hd]; exact ha) w0).mono fun e w' h => ?_
      obtain ⟨rfl, t, rfl⟩ := h
      exact ⟨.nilIface, rfl, rfl, mem_below (Lib.bytesWorld_below _ _ _)⟩
    | none =>
      rw [ha] at hF
      cases hF
      obtain ⟨cs, hv, tp, p, rfl⟩ := h1
      refine (Any.strconv_Atoi_err_var laysC172 (bs s) hl (by rw [hd]; exact ha) tp p w0 hv).mono fun e w' h => ?_
      obtain ⟨M, rfl, _, _, hb2⟩ := h
      exact ⟨_, rfl, ⟨_, _, rfl⟩, mem_below hb2⟩
  · cases hF

end Go.Proofs.YtgddopammpjkgaaDoor
