/- Proved here: cliques, independent sets, vertices and orders: both programs compute the same. -/
import Derived.Test.YtdalcpadcggklaaDoorPset
namespace Go.Proofs.YtdalcpadcggklaaDoor
open Go Go.RowKit
set_option linter.unusedVariables false
set_option linter.unusedSimpArgs false

theorem row64_of {rows : List Int} (h : ∀ n, n ∈ rows → I64 n) : Row64 rows := h
def hasE (n : Int) (rows : List Int) (v w : Int) : Bool := isG n rows && inB v 0 (n - 1) && inB w 0 (n - 1) && hasB (rows.getD v.toNat 0) w.toNat

theorem iVertex (F : Nat) (hF : 8 ≤ F) (n : Int) (hn : I64 n) (rows : List Int) (hr : Row64 rows) (l : List Int) (hl : l.length < F) (hl2 : l.length ≤ 1048576) : S_impl_isVertex F n rows l = some (isG n rows && l.all (fun v => inB v 0 (n - 1))) := by
  unfold S_impl_isVertex
  rw [loop_allI (.inl ()) (.inr false) (fun k => inB (l.getD k 0) 0 (IntKind.i64.wrap (n - 1))) l.length ?_ ?_ hl]
  · rw [obind, allB_list l 0 (fun v => inB v 0 (IntKind.i64.wrap (n - 1)))]
    have h1 : isG n rows = true → IntKind.i64.wrap (n - 1) = n - 1 := fun h => by
      obtain ⟨m, R, rfl, rfl, g⟩ := isG_elim h
      have := g.n1; have := g.n7
      rw [w64 (by omega) (by omega)]
    cases hG : isG n rows with
    | false =>
      cases l.all (fun v => inB v 0 (IntKind.i64.wrap (n - 1))) <;> simp [S_impl_isVertex_j1, iIsGraph F hF n rows hr, hG]
    | true =>
      rw [h1 hG]
      cases l.all (fun v => inB v 0 (n - 1)) <;> simp [S_impl_isVertex_j1, iIsGraph F hF n rows hr, hG]
  · intro k hk
    unfold S_impl_isVertex_l2
    rw [if_pos (by simpa using hk), idxL_getD hk, obind, iIn, obind, w64 (n := (k : Int) + 1) (by omega) (by omega)]
    cases inB (l.getD k 0) 0 (IntKind.i64.wrap (n - 1)) <;> simp
  · unfold S_impl_isVertex_l2
    simp

theorem iHasEdge (F : Nat) (hF : 8 ≤ F) (n : Int) (hn : I64 n) (rows : List Int) (hr : Row64 rows) (v w : Int) : S_impl_HasEdge F n rows v w = some (hasE n rows v w) := by
  unfold S_impl_HasEdge hasE
  rw [iVertex F hF n hn rows hr _ (by simp; omega) (by simp), obind]
  cases hG : isG n rows with
  | false => simp [S_impl_HasEdge_j1]
  | true =>
    obtain ⟨m, R, rfl, rfl, g⟩ := isG_elim hG
    have h7 := g.n7
    simp only [List.all_cons, List.all_nil, Bool.and_true, Bool.true_and]
    cases hv : inB v 0 ((m : Int) - 1) with
    | false => simp [S_impl_HasEdge_j1]
    | true =>
      cases hw : inB w 0 ((m : Int) - 1) with
      | false => simp [S_impl_HasEdge_j1]
      | true =>
        rw [inB_iff] at hv hw
        obtain ⟨a, rfl⟩ : ∃ a : Nat, v = a := ⟨v.toNat, by omega⟩
        obtain ⟨b, rfl⟩ : ∃ b : Nat, w = b := ⟨w.toNat, by omega⟩
        have hb := g.b128 (show a < m by omega)
        simp only [Bool.and_self, if_true, Bool.true_and, Int.toNat_natCast]
        rw [rowsOf_idx (by omega), obind, iHasN F (by omega) (by omega), obind, rowsOf_getD (by omega), hasB_nat]
        rfl

theorem sHasEdge (F : Nat) (hF : 8 ≤ F) (n : Int) (hn : I64 n) (rows : List Int) (hr : Row64 rows) (v w : Int) : S_spec_HasEdge F n rows v w = some (hasE n rows v w) := by
  unfold S_spec_HasEdge hasE
  rw [sIsGraph F hF n rows hr, obind]
  cases hG : isG n rows with
  | false => simp [S_spec_HasEdge_j1]
  | true =>
    obtain ⟨m, R, rfl, rfl, g⟩ := isG_elim hG
    have h7 := g.n7
    rw [if_pos rfl]
    have e : ∀ x : Int, decide (x < (m : Int)) = decide (x ≤ (m : Int) - 1) := fun x => decide_eq_decide.2 ⟨fun h => by omega, fun h => by omega⟩
    by_cases hv : inB v 0 ((m : Int) - 1) = true
    · by_cases hw : inB w 0 ((m : Int) - 1) = true
      · rw [hv, hw]
        rw [inB_iff] at hv hw
        obtain ⟨a, rfl⟩ : ∃ a : Nat, v = a := ⟨v.toNat, by omega⟩
        obtain ⟨b, rfl⟩ : ∃ b : Nat, w = b := ⟨w.toNat, by omega⟩
        rw [if_pos (by simp), if_pos (by simp), if_pos (by simp; omega), if_pos (by simp; omega)]
        rw [sEdge F g (by omega) (by omega), obind]
        simp only [Bool.and_self, Bool.true_and, Int.toNat_natCast]
        rw [rowsOf_getD (by omega), hasB_nat]
        rfl
      · rw [Bool.not_eq_true] at hw
        rw [hw]
        simp only [inB] at hw
        rw [e, e]
        revert hw
        cases decide (0 ≤ v) <;> cases decide (v ≤ (m : Int) - 1) <;> cases decide (0 ≤ w) <;> cases decide (w ≤ (m : Int) - 1) <;> simp [S_spec_HasEdge_j1]
    · rw [Bool.not_eq_true] at hv
      rw [hv]
      simp only [inB] at hv
      rw [e, e]
      revert hv
      cases decide (0 ≤ v) <;> cases decide (v ≤ (m : Int) - 1) <;> cases decide (0 ≤ w) <;> cases decide (w ≤ (m : Int) - 1) <;> simp [S_spec_HasEdge_j1]

/-! ### cliques -/

theorem cliq_spec {n s : Nat} {R : Nat → Nat} (g : VG n R) (hs : s < 2 ^ n) : allB n (fun v => !(s.testBit v) || ((R v &&& s) == s ^^^ 2 ^ v)) = cliq n R s := by
  unfold cliq
  refine allB_congr fun v hv => ?_
  cases hb : s.testBit v with
  | false => rfl
  | true =>
    simp only [Bool.not_true, Bool.false_or]
    have h2 : 2 ^ v < 2 ^ n := Nat.pow_lt_pow_right (by decide) hv
    rw [Bool.eq_iff_iff, beq_iff_eq, allB_iff]
    constructor
    · intro h w hw
      have := congrArg (fun z => Nat.testBit z w) h
      simp only [Nat.testBit_and, Nat.testBit_xor, Nat.testBit_two_pow] at this
      cases h1 : s.testBit w with
      | false => rfl
      | true =>
        rw [h1] at this
        by_cases e : v = w
        · subst e; simp
        · simp [e] at this
          simp [this]
    · intro h
      refine ext7 (n := n) (Nat.lt_of_le_of_lt Nat.and_le_right hs) (Nat.xor_lt_two_pow hs h2) fun w hw => ?_
      have := h w hw
      simp only [Nat.testBit_and, Nat.testBit_xor, Nat.testBit_two_pow]
      by_cases e : v = w
      · subst e
        rw [g.irr v hv, hb]; simp
      · cases h1 : s.testBit w with
        | false => simp [e]
        | true =>
          rw [h1] at this
          have e2 : ¬ w = v := fun h => e h.symm
          simp [e2] at this
          simp [e, this]

theorem cliq_impl {n s : Nat} {R : Nat → Nat} (g : VG n R) (hs : s < 2 ^ n) : allB n (fun v => !(s.testBit v) || (ndiff s (R v) == 2 ^ v)) = cliq n R s := by
  unfold cliq
  refine allB_congr fun v hv => ?_
  cases hb : s.testBit v with
  | false => rfl
  | true =>
    simp only [Bool.not_true, Bool.false_or]
    have h2 : 2 ^ v < 2 ^ n := Nat.pow_lt_pow_right (by decide) hv
    rw [Bool.eq_iff_iff, beq_iff_eq, allB_iff]
    constructor
    · intro h w hw
      have := congrArg (fun z => Nat.testBit z w) h
      simp only [ndiff_bit, Nat.testBit_two_pow] at this
      cases h1 : s.testBit w with
      | false => rfl
      | true =>
        rw [h1] at this
        by_cases e : v = w
        · subst e; simp
        · simp [e] at this
          simp [this]
    · intro h
      refine ext7 (n := n) (ndiff_lt hs) h2 fun w hw => ?_
      have := h w hw
      simp only [ndiff_bit, Nat.testBit_two_pow]
      by_cases e : v = w
      · subst e
        rw [g.irr v hv, hb]; simp
      · cases h1 : s.testBit w with
        | false => simp [e]
        | true =>
          rw [h1] at this
          have e2 : ¬ w = v := fun h => e h.symm
          simp [e2] at this
          simp [e, this]

def indep (n : Nat) (R : Nat → Nat) (s : Nat) : Bool := allB n (fun v => !(s.testBit v) || (R v &&& s) == 0)

theorem and_eq_zero {a b : Nat} : a &&& b = 0 ↔ ∀ i, ¬ (a.testBit i = true ∧ b.testBit i = true) := by
  constructor
  · intro h i ⟨h1, h2⟩
    have := congrArg (fun z => Nat.testBit z i) h
    simp [h1, h2] at this
  · intro h
    apply Nat.eq_of_testBit_eq
    intro i
    rw [Nat.testBit_and, Nat.zero_testBit]
    cases h1 : a.testBit i <;> cases h2 : b.testBit i <;> simp
    exact h i ⟨h1, h2⟩

theorem indep_impl {n s : Nat} {R : Nat → Nat} (g : VG n R) (hs : s < 2 ^ n) : (nbr R s &&& s == 0) = indep n R s := by
  unfold indep
  rw [Bool.eq_iff_iff, beq_iff_eq, allB_iff, and_eq_zero]
  constructor
  · intro h v hv
    cases hb : s.testBit v with
    | false => rfl
    | true =>
      simp only [Bool.not_true, Bool.false_or, beq_iff_eq, and_eq_zero]
      intro i ⟨h1, h2⟩
      exact h i ⟨(nbr_bit hs g.n7 i).2 ⟨v, hv, hb, h1⟩, h2⟩
  · intro h i ⟨h1, h2⟩
    obtain ⟨v, hv, hb, hx⟩ := (nbr_bit hs g.n7 i).1 h1
    have := h v hv
    simp only [hb, Bool.not_true, Bool.false_or, beq_iff_eq, and_eq_zero] at this
    exact this i ⟨hx, h2⟩

/-! ### the laws -/

theorem sz_neg (l : List Int) (h : ¬ (1048576 : Int) < (l.length : Int)) : ¬ ((1048576 : Int) - (l.length : Int) < 0) := by omega

end Go.Proofs.YtdalcpadcggklaaDoor
