/- Proved here: cliques, independent sets, vertices and orders: both programs compute the same. -/
import Derived.Test.YtblbimlobacciaaPset
namespace Go.Proofs.Ytblbimlobacciaa
open Go Go.RowKit
set_option linter.unusedVariables false
set_option linter.unusedSimpArgs false

theorem row64_of {rows : List Int} (h : ∀ n, n ∈ rows → I64 n) : Row64 rows := h
def hasE (n : Int) (rows : List Int) (v w : Int) : Bool := isG n rows && inB v 0 (n - 1) && inB w 0 (n - 1) && hasB (rows.getD v.toNat 0) w.toNat

/-! ### cliques -/

theorem cliq_spec {n s : Nat} {R : Nat → Nat} (g : VG n R) (hs : s < 2 ^ n) : allB n (fun v => !(s.testBit v) || ((R v &&& s) == s ^^^ 2 ^ v)) = cliq n R s := by
  unfold cliq
  refine allB_congr fun v hv => ?_
  cases hb : s.testBit v with
  | false => rfl
  | true =>
    simp only [Bool.not_true, Bool.false_or]
    have h2 : 2 ^ v < 2 ^ n := Nat.pow_lt_pow_right (by decide) hv
    rw [Bool.eq_iff_iff, beq_iff_eq, allB_iff]
    constructor
    · intro h w hw
      have := congrArg (fun z => Nat.testBit z w) h
      simp only [Nat.testBit_and, Nat.testBit_xor, Nat.testBit_two_pow] at this
      cases h1 : s.testBit w with
      | false => rfl
      | true =>
        rw [h1] at this
        by_cases e : v = w
        · subst e; simp
        · simp [e] at this
          simp [this]
    · intro h
      refine ext7 (n := n) (Nat.lt_of_le_of_lt Nat.and_le_right hs) (Nat.xor_lt_two_pow hs h2) fun w hw => ?_
      have := h w hw
      simp only [Nat.testBit_and, Nat.testBit_xor, Nat.testBit_two_pow]
      by_cases e : v = w
      · subst e
        rw [g.irr v hv, hb]; simp
      · cases h1 : s.testBit w with
        | false => simp [e]
        | true =>
          rw [h1] at this
          have e2 : ¬ w = v := fun h => e h.symm
          simp [e2] at this
          simp [e, this]

theorem cliq_impl {n s : Nat} {R : Nat → Nat} (g : VG n R) (hs : s < 2 ^ n) : allB n (fun v => !(s.testBit v) || (ndiff s (R v) == 2 ^ v)) = cliq n R s := by
  unfold cliq
  refine allB_congr fun v hv => ?_
  cases hb : s.testBit v with
  | false => rfl
  | true =>
    simp only [Bool.not_true, Bool.false_or]
    have h2 : 2 ^ v < 2 ^ n := Nat.pow_lt_pow_right (by decide) hv
    rw [Bool.eq_iff_iff, beq_iff_eq, allB_iff]
    constructor
    · intro h w hw
      have := congrArg (fun z => Nat.testBit z w) h
      simp only [ndiff_bit, Nat.testBit_two_pow] at this
      cases h1 : s.testBit w with
      | false => rfl
      | true =>
        rw [h1] at this
        by_cases e : v = w
        · subst e; simp
        · simp [e] at this
          simp [this]
    · intro h
      refine ext7 (n := n) (ndiff_lt hs) h2 fun w hw => ?_
      have := h w hw
      simp only [ndiff_bit, Nat.testBit_two_pow]
      by_cases e : v = w
      · subst e
        rw [g.irr v hv, hb]; simp
      · cases h1 : s.testBit w with
        | false => simp [e]
        | true =>
          rw [h1] at this
          have e2 : ¬ w = v := fun h => e h.symm
          simp [e2] at this
          simp [e, this]

def indep (n : Nat) (R : Nat → Nat) (s : Nat) : Bool := allB n (fun v => !(s.testBit v) || (R v &&& s) == 0)

theorem and_eq_zero {a b : Nat} : a &&& b = 0 ↔ ∀ i, ¬ (a.testBit i = true ∧ b.testBit i = true) := by
  constructor
  · intro h i ⟨h1, h2⟩
    have := congrArg (fun z => Nat.testBit z i) h
    simp [h1, h2] at this
  · intro h
    apply Nat.eq_of_testBit_eq
    intro i
    rw [Nat.testBit_and, Nat.zero_testBit]
    cases h1 : a.testBit i <;> cases h2 : b.testBit i <;> simp
    exact h i ⟨h1, h2⟩

theorem indep_impl {n s : Nat} {R : Nat → Nat} (g : VG n R) (hs : s < 2 ^ n) : (nbr R s &&& s == 0) = indep n R s := by
  unfold indep
  rw [Bool.eq_iff_iff, beq_iff_eq, allB_iff, and_eq_zero]
  constructor
  · intro h v hv
    cases hb : s.testBit v with
    | false => rfl
    | true =>
      simp only [Bool.not_true, Bool.false_or, beq_iff_eq, and_eq_zero]
      intro i ⟨h1, h2⟩
      exact h i ⟨(nbr_bit hs g.n7 i).2 ⟨v, hv, hb, h1⟩, h2⟩
  · intro h i ⟨h1, h2⟩
    obtain ⟨v, hv, hb, hx⟩ := (nbr_bit hs g.n7 i).1 h1
    have := h v hv
    simp only [hb, Bool.not_true, Bool.false_or, beq_iff_eq, and_eq_zero] at this
    exact this i ⟨hx, h2⟩

/-! ### the laws -/

theorem sz_neg (l : List Int) (h : ¬ (1048576 : Int) < (l.length : Int)) : ¬ ((1048576 : Int) - (l.length : Int) < 0) := by omega

end Go.Proofs.Ytblbimlobacciaa
