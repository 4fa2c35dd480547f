/- Proved here: edges put in and taken out, later neighbours, distances: both programs compute the same. -/
import Derived.Test.YtblbimlobacciaaPedge
namespace Go.Proofs.Ytblbimlobacciaa
open Go Go.RowKit
set_option linter.unusedVariables false
set_option linter.unusedSimpArgs false

/-! ### one edge changed -/

def flipR (R : Nat → Nat) (v w u : Nat) : Nat := if u = v then R v ^^^ 2 ^ w else if u = w then R w ^^^ 2 ^ v else R u

theorem rowsOf_upd (m : Nat) (R : Nat → Nat) (v x : Nat) (hv : v < m) : (rowsOf m R).set v (x : Int) = rowsOf m (fun u => if u = v then x else R u) := by
  apply List.ext_getElem
  · simp [rowsOf_len]
  · intro i h1 h2
    rw [List.getElem_set]
    simp only [rowsOf, List.getElem_map, List.getElem_range]
    by_cases e : v = i
    · subst e; simp
    · have e2 : ¬ i = v := fun h => e h.symm
      simp [e, e2]

theorem rowsOf_flip {m : Nat} {R : Nat → Nat} {v w : Nat} (hv : v < m) (hw : w < m) (hne : v ≠ w) : ((rowsOf m R).set v ((R v ^^^ 2 ^ w : Nat) : Int)).set w ((R w ^^^ 2 ^ v : Nat) : Int) = rowsOf m (flipR R v w) := by
  rw [rowsOf_upd m R v _ hv, rowsOf_upd m _ w _ hw]
  congr 1
  funext u
  unfold flipR
  by_cases e1 : u = v
  · subst e1; simp [hne]
  · simp [e1]

theorem flip_add : ∀ r, r < 128 → ∀ w, w < 7 → r.testBit w = false → r + 2 ^ w = r ^^^ 2 ^ w := by decide +kernel
theorem flip_sub : ∀ r, r < 128 → ∀ w, w < 7 → r.testBit w = true → r - 2 ^ w = r ^^^ 2 ^ w := by decide +kernel

theorem flip_VG {m : Nat} {R : Nat → Nat} (g : VG m R) {v w : Nat} (hv : v < m) (hw : w < m) (hne : v ≠ w) : VG m (flipR R v w) := by
  have hp : ∀ x, x < m → (2 : Nat) ^ x < 2 ^ m := fun x hx => Nat.pow_lt_pow_right (by decide) hx
  refine ⟨g.n1, g.n7, fun u hu => ?_, fun u hu => ?_, fun a b ha hb => ?_⟩
  · unfold flipR
    split
    · exact Nat.xor_lt_two_pow (g.lt v hv) (hp w hw)
    · split
      · exact Nat.xor_lt_two_pow (g.lt w hw) (hp v hv)
      · exact g.lt u hu
  · unfold flipR
    split
    · subst_vars
      rw [Nat.testBit_xor, g.irr _ hv, Nat.testBit_two_pow]
      simp; omega
    · split
      · subst_vars
        rw [Nat.testBit_xor, g.irr _ hw, Nat.testBit_two_pow]
        simp; omega
      · exact g.irr u hu
  · have bitAt : ∀ a b, a < m → (flipR R v w a).testBit b = ((R a).testBit b ^^ (decide (a = v ∧ b = w) || decide (a = w ∧ b = v))) := by
      intro a b ha
      unfold flipR
      by_cases e1 : a = v
      · subst e1
        have : ¬ a = w := hne
        rw [if_pos rfl, Nat.testBit_xor, Nat.testBit_two_pow]
        simp only [true_and, this, false_and, decide_false, Bool.or_false]
        congr 1
        exact decide_eq_decide.2 ⟨fun h => h.symm, fun h => h.symm⟩
      · rw [if_neg e1]
        by_cases e2 : a = w
        · subst e2
          rw [if_pos rfl, Nat.testBit_xor, Nat.testBit_two_pow]
          simp only [true_and, e1, false_and, decide_false, Bool.false_or]
          congr 1
          exact decide_eq_decide.2 ⟨fun h => h.symm, fun h => h.symm⟩
        · rw [if_neg e2]
          simp [e1, e2]
    rw [bitAt a b ha, bitAt b a hb, g.sym a b ha hb]
    congr 1
    rw [Bool.eq_iff_iff]
    simp only [Bool.or_eq_true, decide_eq_true_eq]
    omega

def pairB (n : Int) (rows : List Int) (v w : Int) : Bool := isG n rows && inB v 0 (n - 1) && inB w 0 (n - 1) && (v != w)
theorem pairB_elim {n : Int} {rows : List Int} {v w : Int} (h : pairB n rows v w = true) : ∃ (m : Nat) (R : Nat → Nat) (a b : Nat), n = (m : Int) ∧ rows = rowsOf m R ∧ v = (a : Int) ∧ w = (b : Int) ∧ VG m R ∧ a < m ∧ b < m ∧ a ≠ b := by
  simp only [pairB, Bool.and_eq_true, inB_iff, bne_iff_ne] at h
  obtain ⟨⟨⟨h1, h2⟩, h3⟩, h4⟩ := h
  obtain ⟨m, R, rfl, rfl, g⟩ := isG_elim h1
  exact ⟨m, R, v.toNat, w.toNat, rfl, rfl, by omega, by omega, g, by omega, by omega, by omega⟩

theorem sPair (F : Nat) (hF : 8 ≤ F) (n : Int) (rows : List Int) (hr : Row64 rows) (v w : Int) : S_spec_l2Pair F n rows v w = some (pairB n rows v w) := by
  unfold S_spec_l2Pair pairB
  rw [sIsGraph F hF n rows hr, obind]
  have e : ∀ x : Int, decide (x < n) = decide (x ≤ n - 1) := fun x => decide_eq_decide.2 ⟨fun h => by omega, fun h => by omega⟩
  rw [e, e]
  unfold inB S_spec_l2Pair_j1
  cases isG n rows <;> cases decide (0 ≤ v) <;> cases decide (0 ≤ w) <;> cases decide (v ≤ n - 1) <;> cases decide (w ≤ n - 1) <;> simp

end Go.Proofs.Ytblbimlobacciaa
