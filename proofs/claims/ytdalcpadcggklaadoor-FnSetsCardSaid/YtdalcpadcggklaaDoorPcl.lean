/- Proved here: cliques, independent sets, vertices and orders: both programs compute the same. -/
import Derived.Test.YtdalcpadcggklaaDoorPset
namespace Go.Proofs.YtdalcpadcggklaaDoor
open Go Go.RowKit
set_option linter.unusedVariables false
set_option linter.unusedSimpArgs false

theorem row64_of {rows : List Int} (h : ∀ n, n ∈ rows → I64 n) : Row64 rows := h
def hasE (n : Int) (rows : List Int) (v w : Int) : Bool := isG n rows && inB v 0 (n - 1) && inB w 0 (n - 1) && hasB (rows.getD v.toNat 0) w.toNat

/-! ### cliques -/

theorem cliq_spec {n s : Nat} {R : Nat → Nat} (g : VG n R) (hs : s < 2 ^ n) : allB n (fun v => !(s.testBit v) || ((R v &&& s) == s ^^^ 2 ^ v)) = cliq n R s := by
  unfold cliq
  refine allB_congr fun v hv => ?_
  cases hb : s.testBit v with
  | false => rfl
  | true =>
    simp only [Bool.not_true, Bool.false_or]
    have h2 : 2 ^ v < 2 ^ n := Nat.pow_lt_pow_right (by decide) hv
    rw [Bool.eq_iff_iff, beq_iff_eq, allB_iff]
    constructor
    · intro h w hw
      have := congrArg (fun z => Nat.testBit z w) h
      simp only [Nat.testBit_and, Nat.testBit_xor, Nat.testBit_two_pow] at this
      cases h1 : s.testBit w with
      | false => rfl
      | true =>
        rw [h1] at this
        by_cases e : v = w
        · subst e; simp
        · simp [e] at this
          simp [this]
    · intro h
      refine ext7 (n := n) (Nat.lt_of_le_of_lt Nat.and_le_right hs) (Nat.xor_lt_two_pow hs h2) fun w hw => ?_
      have := h w hw
      simp only [Nat.testBit_and, Nat.testBit_xor, Nat.testBit_two_pow]
      by_cases e : v = w
      · subst e
        rw [g.irr v hv, hb]; simp
      · cases h1 : s.testBit w with
        | false => simp [e]
        | true =>
          rw [h1] at this
          have e2 : ¬ w = v := fun h => e h.symm
          simp [e2] at this
          simp [e, this]

theorem cliq_impl {n s : Nat} {R : Nat → Nat} (g : VG n R) (hs : s < 2 ^ n) : allB n (fun v => !(s.testBit v) || (ndiff s (R v) == 2 ^ v)) = cliq n R s := by
  unfold cliq
  refine allB_congr fun v hv => ?_
  cases hb : s.testBit v with
  | false => rfl
  | true =>
    simp only [Bool.not_true, Bool.false_or]
    have h2 : 2 ^ v < 2 ^ n := Nat.pow_lt_pow_right (by decide) hv
    rw [Bool.eq_iff_iff, beq_iff_eq, allB_iff]
    constructor
    · intro h w hw
      have := congrArg (fun z => Nat.testBit z w) h
      simp only [ndiff_bit, Nat.testBit_two_pow] at this
      cases h1 : s.testBit w with
      | false => rfl
      | true =>
        rw [h1] at this
        by_cases e : v = w
        · subst e; simp
        · simp [e] at this
          simp [this]
    · intro h
      refine ext7 (n := n) (ndiff_lt hs) h2 fun w hw => ?_
      have := h w hw
      simp only [ndiff_bit, Nat.testBit_two_pow]
      by_cases e : v = w
      · subst e
        rw [g.irr v hv, hb]; simp
      · cases h1 : s.testBit w with
        | false => simp [e]
        | true =>
          rw [h1] at this
          have e2 : ¬ w = v := fun h => e h.symm
          simp [e2] at this
          simp [e, this]

def indep (n : Nat) (R : Nat → Nat) (s : Nat) : Bool := allB n (fun v => !(s.testBit v) || (R v &&& s) == 0)

theorem and_eq_zero {a b : Nat} : a &&& b = 0 ↔ ∀ i, ¬ (a.testBit i = true ∧ b.testBit i = true) := by
  constructor
  · intro h i ⟨h1, h2⟩
    have := congrArg (fun z => Nat.testBit z i) h
    simp [h1, h2] at this
  · intro h
    apply Nat.eq_of_testBit_eq
    intro i
    rw [Nat.testBit_and, Nat.zero_testBit]
    cases h1 : a.testBit i <;> cases h2 : b.testBit i <;> simp
    exact h i ⟨h1, h2⟩

theorem indep_impl {n s : Nat} {R : Nat → Nat} (g : VG n R) (hs : s < 2 ^ n) : (nbr R s &&& s == 0) = indep n R s := by
  unfold indep
  rw [Bool.eq_iff_iff, beq_iff_eq, allB_iff, and_eq_zero]
  constructor
  · intro h v hv
    cases hb : s.testBit v with
    | false => rfl
    | true =>
      simp only [Bool.not_true, Bool.false_or, beq_iff_eq, and_eq_zero]
      intro i ⟨h1, h2⟩
      exact h i ⟨(nbr_bit hs g.n7 i).2 ⟨v, hv, hb, h1⟩, h2⟩
  · intro h i ⟨h1, h2⟩
    obtain ⟨v, hv, hb, hx⟩ := (nbr_bit hs g.n7 i).1 h1
    have := h v hv
    simp only [hb, Bool.not_true, Bool.false_or, beq_iff_eq, and_eq_zero] at this
    exact this i ⟨hx, h2⟩

theorem sIsClique (F : Nat) (hF : 8 ≤ F) (n : Int) (rows : List Int) (hr : Row64 rows) (s : Int) : S_spec_IsClique F n rows s = some (isS n rows s && cliq n.toNat (fun v => (rows.getD v 0).toNat) s.toNat) := by
  unfold S_spec_IsClique
  rw [sIsSet F hF n rows hr, obind]
  cases hS : isS n rows s with
  | false => simp
  | true =>
    obtain ⟨m, R, z, rfl, rfl, rfl, g, hz⟩ := isS_elim hS
    have h7 := g.n7
    have hp := pow128 h7
    rw [if_neg (by simp)]
    have e : cliq m (fun v => ((rowsOf m R).getD v 0).toNat) z = cliq m R z := by
      unfold cliq
      refine allB_congr fun v hv => ?_
      dsimp only
      rw [rowsOf_getD hv, Int.toNat_natCast]
    simp only [Int.toNat_natCast]
    rw [e, ← cliq_spec g hz]
    rw [loop_allI (.inl ()) (.inr false) (fun v => !(z.testBit v) || ((R v &&& z) == z ^^^ 2 ^ v)) m ?_ ?_ (by omega)]
    · rw [obind]
      cases allB m (fun v => !(z.testBit v) || ((R v &&& z) == z ^^^ 2 ^ v)) <;> simp [S_spec_IsClique_j1]
    · intro v hv
      have hb := g.b128 hv
      unfold S_spec_IsClique_l2
      rw [if_pos (by simp; omega), nnO_ok (by omega), obind, bit_nat (by omega) (by omega)]
      unfold S_spec_IsClique_j3
      rw [w64 (n := (v : Int) + 1) (by omega) (by omega)]
      cases hzv : z.testBit v with
      | false => simp
      | true =>
        have h1 := sub_bit z (by omega) v (by omega) hzv
        have h2 := bit_le z (by omega) v (by omega) hzv
        rw [if_pos rfl, rowsOf_idx hv, obind, obind, bAnd_nat _ _ (by omega) (by omega), shL1 (by omega), ← h1]
        generalize 2 ^ v = q at *
        rw [w64 (by omega) (by omega), show (z : Int) - (q : Int) = ((z - q : Nat) : Int) by omega]
        generalize R v &&& z = x
        generalize z - q = y
        by_cases e : x = y
        · simp [e]
        · have e2 : ¬ ((x : Int) = (y : Int)) := by omega
          simp [e, e2]
    · unfold S_spec_IsClique_l2
      simp

theorem iClique (F : Nat) (hF : 8 ≤ F) {m : Nat} {R : Nat → Nat} (g : VG m R) {z : Nat} (hz : z < 2 ^ m) (n : Int) : S_impl_isClique F n (rowsOf m R) (z : Int) = some (cliq m R z) := by
  unfold S_impl_isClique
  have h7 := g.n7
  have hp := pow128 h7
  have hl := selN_len 7 z.testBit
  rw [iListOf F hF _ (by unfold I64; omega), obind, listN_nat hz h7, ← cliq_impl g hz, ← allB_bits hz h7]
  have e := all_selN 7 z.testBit (fun v => ndiff z (R v.toNat) == 2 ^ v.toNat)
  simp only [Int.toNat_natCast] at e
  rw [← e, ← allB_list (selN 7 z.testBit) 0]
  rw [loop_allI (.inl ()) (.inr false) (fun k => ndiff z (R ((selN 7 z.testBit).getD k 0).toNat) == 2 ^ ((selN 7 z.testBit).getD k 0).toNat) (selN 7 z.testBit).length ?_ ?_ (by omega)]
  · rw [obind]
    cases allB (selN 7 z.testBit).length (fun k => ndiff z (R ((selN 7 z.testBit).getD k 0).toNat) == 2 ^ ((selN 7 z.testBit).getD k 0).toNat) <;> simp [S_impl_isClique_j1]
  · intro k hk
    obtain ⟨v, hv7, hv, e⟩ := mem_selN.1 (List.getElem_mem hk)
    have hvm := bit_lt hz hv
    have hb := g.b128 hvm
    unfold S_impl_isClique_l2
    have e2 : (selN 7 z.testBit).getD k 0 = (v : Int) := by simp [hk, e]
    rw [if_pos (by simpa using hk), idxL_getD hk, e2, obind, rowsOf_idx hvm, obind, nnO_ok (by omega), obind, bAndNot_nat _ _ (by omega) (by omega), shL1 (by omega), w64 (by omega) (by omega), Int.toNat_natCast]
    generalize ndiff z (R v) = x
    generalize 2 ^ v = y
    by_cases e : x = y
    · simp [e]
    · have e2 : ¬ ((x : Int) = (y : Int)) := by omega
      simp [e, e2]
  · unfold S_impl_isClique_l2
    simp

theorem iIsClique (F : Nat) (hF : 8 ≤ F) (n : Int) (rows : List Int) (hr : Row64 rows) (s : Int) : S_impl_IsClique F n rows s = some (isS n rows s && cliq n.toNat (fun v => (rows.getD v 0).toNat) s.toNat) := by
  unfold S_impl_IsClique
  rw [iIsSet F hF n rows hr, obind]
  cases hS : isS n rows s with
  | false => simp [S_impl_IsClique_j1]
  | true =>
    obtain ⟨m, R, z, rfl, rfl, rfl, g, hz⟩ := isS_elim hS
    have e : cliq m (fun v => ((rowsOf m R).getD v 0).toNat) z = cliq m R z := by
      unfold cliq
      refine allB_congr fun v hv => ?_
      dsimp only
      rw [rowsOf_getD hv, Int.toNat_natCast]
    simp only [Int.toNat_natCast, Bool.true_and]
    rw [e, if_pos trivial, iClique F hF g hz, obind]
    rfl

theorem kIsIndependent (F : Nat) (hF : 8 ≤ F) (n : Int) (rows : List Int) (hr : Row64 rows) (s : Int) : ∃ r, S_spec_IsIndependent F n rows s = some r ∧ S_impl_IsIndependent F n rows s = some r := by
  unfold S_spec_IsIndependent S_impl_IsIndependent
  rw [sIsSet F hF n rows hr, iIsSet F hF n rows hr, obind, obind]
  cases hS : isS n rows s with
  | false => exact ⟨_, rfl, rfl⟩
  | true =>
    obtain ⟨m, R, z, rfl, rfl, rfl, g, hz⟩ := isS_elim hS
    have h7 := g.n7
    have hp := pow128 h7
    refine ⟨indep m R z, ?_, ?_⟩
    · rw [if_neg (by simp)]
      unfold indep
      rw [loop_allI (.inl ()) (.inr false) (fun v => !(z.testBit v) || ((R v &&& z) == 0)) m ?_ ?_ (by omega)]
      · rw [obind]
        cases allB m (fun v => !(z.testBit v) || ((R v &&& z) == 0)) <;> simp [S_spec_IsIndependent_j1]
      · intro v hv
        have hb := g.b128 hv
        unfold S_spec_IsIndependent_l2
        rw [if_pos (by simp; omega), nnO_ok (by omega), obind, bit_nat (by omega) (by omega)]
        unfold S_spec_IsIndependent_j3
        rw [w64 (n := (v : Int) + 1) (by omega) (by omega)]
        cases hzv : z.testBit v with
        | false => simp
        | true =>
          rw [if_pos rfl, rowsOf_idx hv, obind, bAnd_nat _ _ (by omega) (by omega)]
          generalize R v &&& z = x
          by_cases e : x = 0
          · simp [e]
          · have e2 : ¬ ((x : Int) = 0) := by omega
            simp [e, e2]
      · unfold S_spec_IsIndependent_l2
        simp
    · have hn : nbr R z < 128 := Nat.lt_of_lt_of_le (nbr_lt g hz) hp
      rw [if_pos rfl, iNeighbors F hF g hz, obind, bAnd_nat _ _ (by omega) (by omega), ← indep_impl g hz]
      unfold S_impl_IsIndependent_j1
      generalize nbr R z &&& z = x
      congr 1
      rw [Bool.eq_iff_iff, beq_iff_eq, beq_iff_eq]
      omega

/-! ### the laws -/

theorem sz_neg (l : List Int) (h : ¬ (1048576 : Int) < (l.length : Int)) : ¬ ((1048576 : Int) - (l.length : Int) < 0) := by omega

end Go.Proofs.YtdalcpadcggklaaDoor
