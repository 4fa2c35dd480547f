/- Proved here: the complement of a graph is a graph. -/
import Derived.Test.YtdalcpadcggklaaDoorPedge
namespace Go.Proofs.YtdalcpadcggklaaDoor
open Go Go.RowKit
set_option linter.unusedVariables false
set_option linter.unusedSimpArgs false

/-! ### complements undo themselves -/

theorem comp_bit : ∀ n, n ≤ 7 → ∀ r, r < 2 ^ n → ∀ v, v < n → r.testBit v = false → ∀ w, w < n → (2 ^ n - 1 - r - 2 ^ v).testBit w = (!(r.testBit w) && (w != v)) := by decide +kernel
theorem compB {m : Nat} {R : Nat → Nat} (g : VG m R) {v w : Nat} (hv : v < m) (hw : w < m) : (compR m R v).testBit w = (!((R v).testBit w) && (w != v)) := comp_bit m g.n7 _ (g.lt v hv) v hv (g.irr v hv) w hw
theorem compV {m : Nat} {R : Nat → Nat} (g : VG m R) : VG m (compR m R) := by
  refine ⟨g.n1, g.n7, ?_, ?_, ?_⟩
  · intro v hv
    have := (comp_eq m g.n7 _ (g.lt v hv) v hv (g.irr v hv)).2
    have := g.lt v hv
    show 2 ^ m - 1 - R v - 2 ^ v < 2 ^ m
    generalize 2 ^ m = M at *
    generalize 2 ^ v = P at *
    omega
  · intro v hv
    rw [compB g hv hv]
    simp
  · intro v w hv hw
    rw [compB g hv hw, compB g hw hv, g.sym v w hv hw]
    have : (w != v) = (v != w) := by
      rw [Bool.eq_iff_iff]
      simp only [bne_iff_ne]
      omega
    rw [this]
theorem rowsOf_congr {m : Nat} {R S : Nat → Nat} (h : ∀ v, v < m → R v = S v) : rowsOf m R = rowsOf m S := by
  unfold rowsOf
  apply List.map_congr_left
  intro v hv
  rw [h v (List.mem_range.1 hv)]
theorem compComp {m : Nat} {R : Nat → Nat} (g : VG m R) : rowsOf m (compR m (compR m R)) = rowsOf m R := by
  apply rowsOf_congr
  intro v hv
  have := (comp_eq m g.n7 _ (g.lt v hv) v hv (g.irr v hv)).2
  show 2 ^ m - 1 - (2 ^ m - 1 - R v - 2 ^ v) - 2 ^ v = R v
  generalize 2 ^ m = M at *
  generalize 2 ^ v = P at *
  omega

end Go.Proofs.YtdalcpadcggklaaDoor
