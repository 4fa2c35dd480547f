/- Proved here: what the two IsGraph compute, and what a valid graph is. -/
import Derived.Test.YtblbimlobacciaaPbit
namespace Go.Proofs.Ytblbimlobacciaa
open Go Go.RowKit
set_option linter.unusedVariables false
set_option linter.unusedSimpArgs false

theorem idxL_getD {l : List Int} {k : Nat} (h : k < l.length) : idxL l (k : Int) = some (l.getD k 0) := by
  rw [idxL_get h]; simp [h]

/-- A row is within the graph, and has not its own vertex. -/
def rowIn (n : Nat) (rows : List Int) (v : Nat) : Bool := inB (rows.getD v 0) 0 ((2 : Int) ^ n - 1)
def isG (n : Int) (rows : List Int) : Bool :=
  inB n 1 7 && ((rows.length : Int) == n) && allB rows.length (fun v => rowIn n.toNat rows v && !(hasB (rows.getD v 0) v)) && allB rows.length (fun v => allB v (fun w => hasB (rows.getD v 0) w == hasB (rows.getD w 0) v))

structure VG (n : Nat) (R : Nat → Nat) : Prop where
  n1 : 1 ≤ n
  n7 : n ≤ 7
  lt : ∀ v, v < n → R v < 2 ^ n
  irr : ∀ v, v < n → (R v).testBit v = false
  sym : ∀ v w, v < n → w < n → (R v).testBit w = (R w).testBit v

def rowsOf (n : Nat) (R : Nat → Nat) : List Int := (List.range n).map fun v => ((R v : Nat) : Int)
theorem rowsOf_len (n : Nat) (R : Nat → Nat) : (rowsOf n R).length = n := by simp [rowsOf]
theorem rowsOf_getD {n : Nat} {R : Nat → Nat} {v : Nat} (h : v < n) : (rowsOf n R).getD v 0 = ((R v : Nat) : Int) := by
  simp [rowsOf, h]
theorem rowsOf_idx {n : Nat} {R : Nat → Nat} {v : Nat} (h : v < n) : idxL (rowsOf n R) (v : Int) = some ((R v : Nat) : Int) := by
  rw [idxL_getD (by simpa [rowsOf_len] using h), rowsOf_getD h]

theorem pow128 {n : Nat} (h : n ≤ 7) : (2 : Nat) ^ n ≤ 128 := Nat.pow_le_pow_right (by decide) h
theorem VG.b128 {n : Nat} {R : Nat → Nat} (g : VG n R) {v : Nat} (h : v < n) : R v < 128 := Nat.lt_of_lt_of_le (g.lt v h) (pow128 g.n7)

theorem pow2cast (n : Nat) : (2 : Int) ^ n = ((2 ^ n : Nat) : Int) := by simp

theorem isG_elim {n : Int} {rows : List Int} (h : isG n rows = true) : ∃ (m : Nat) (R : Nat → Nat), n = (m : Int) ∧ rows = rowsOf m R ∧ VG m R := by
  simp only [isG, Bool.and_eq_true, beq_iff_eq, allB_iff, inB_iff, rowIn, Bool.not_eq_true'] at h
  obtain ⟨⟨⟨⟨h1, h7⟩, hl⟩, hr⟩, hs⟩ := h
  have hnn : n = ((rows.length : Nat) : Int) := hl.symm
  subst hnn
  simp only [Int.toNat_natCast] at hr
  refine ⟨rows.length, fun v => (rows.getD v 0).toNat, rfl, ?_, ?_⟩
  · apply List.ext_getElem
    · simp [rowsOf]
    · intro i h2 h3
      have := (hr i h2).1.1
      simp only [List.getD_eq_getElem?_getD, List.getElem?_eq_getElem h2, Option.getD_some] at this
      simp only [rowsOf, List.getElem_map, List.getElem_range, List.getD_eq_getElem?_getD, List.getElem?_eq_getElem h2, Option.getD_some]
      omega
  · have tb : ∀ v w, v < rows.length → (rows.getD v 0).toNat.testBit w = hasB (rows.getD v 0) w := fun v w hv => by
      have := (hr v hv).1.1
      rw [← hasB_nat, show (((rows.getD v 0).toNat : Nat) : Int) = rows.getD v 0 by omega]
    refine ⟨by omega, by omega, fun v hv => ?_, fun v hv => ?_, fun v w hv hw => ?_⟩
    · have := (hr v hv).1
      rw [pow2cast] at this
      generalize 2 ^ rows.length = q at *
      omega
    · rw [tb v v hv]; exact (hr v hv).2
    · rw [tb v w hv, tb w v hw]
      rcases Nat.lt_trichotomy v w with h | h | h
      · exact (hs w hw v h).symm
      · rw [h]
      · exact hs v hv w h

theorem isG_intro {m : Nat} {R : Nat → Nat} (g : VG m R) : isG (m : Int) (rowsOf m R) = true := by
  have h1 := g.n1
  have h7 := g.n7
  simp only [isG, Bool.and_eq_true, beq_iff_eq, allB_iff, inB_iff, rowIn, Bool.not_eq_true', rowsOf_len]
  refine ⟨⟨⟨⟨by omega, by omega⟩, trivial⟩, fun v hv => ?_⟩, fun v hv w hw => ?_⟩
  · rw [rowsOf_getD hv, Int.toNat_natCast, hasB_nat]
    have := g.lt v hv
    rw [pow2cast]
    generalize 2 ^ m = q at *
    exact ⟨⟨by omega, by omega⟩, g.irr v hv⟩
  · rw [rowsOf_getD hv, rowsOf_getD (show w < m by omega), hasB_nat, hasB_nat]
    exact g.sym v w hv (by omega)

def Row64 (rows : List Int) : Prop := ∀ x, x ∈ rows → I64 x
theorem Row64.at {rows : List Int} (h : Row64 rows) (v : Nat) : I64 (rows.getD v 0) := by
  by_cases hv : v < rows.length
  · simp only [List.getD_eq_getElem?_getD, List.getElem?_eq_getElem hv, Option.getD_some]
    exact h _ (List.getElem_mem hv)
  · simp only [List.getD_eq_getElem?_getD, List.getElem?_eq_none (Nat.not_lt.1 hv), Option.getD_none]
    unfold I64; omega
theorem VG.row64 {n : Nat} {R : Nat → Nat} (g : VG n R) : Row64 (rowsOf n R) := by
  intro x hx
  simp only [rowsOf, List.mem_map, List.mem_range] at hx
  obtain ⟨v, hv, rfl⟩ := hx
  have := g.b128 hv
  unfold I64; omega

theorem iIsGraph (F : Nat) (hF : 8 ≤ F) (n : Int) (rows : List Int) (hr : Row64 rows) : S_impl_IsGraph F n rows = some (isG n rows) := by
  unfold S_impl_IsGraph isG
  rw [iIn, obind]
  cases h1 : inB n 1 7 with
  | false => simp [S_impl_IsGraph_j1]
  | true =>
    rw [if_neg (by simp)]
    unfold S_impl_IsGraph_j1
    rw [inB_iff] at h1
    by_cases hl : (rows.length : Int) = n
    · subst hl
      rw [if_neg (by simp)]
      have hl7 : rows.length ≤ 7 := by omega
      generalize hm : rows.length = m at *
      rw [loop_allI (.inl ()) (.inr false) (fun v => rowIn m rows v && !(hasB (rows.getD v 0) v)) m ?_ ?_ (by omega)]
      · simp only [Int.toNat_natCast, beq_self_eq_true, Bool.true_and, obind]
        cases hA : allB m (fun v => rowIn m rows v && !(hasB (rows.getD v 0) v)) with
        | false => simp
        | true =>
          simp only [if_true, Bool.true_and]
          unfold S_impl_IsGraph_j2
          rw [loop_allI (.inl ()) (.inr false) (fun v => allB v (fun w => hasB (rows.getD v 0) w == hasB (rows.getD w 0) v)) m ?_ ?_ (by omega)]
          · rw [obind]
            cases allB m (fun v => allB v (fun w => hasB (rows.getD v 0) w == hasB (rows.getD w 0) v)) <;> simp [S_impl_IsGraph_j3]
          · intro v hv
            unfold S_impl_IsGraph_l4
            rw [if_pos (by simp; omega), idxL_getD (by omega), obind]
            rw [loop_allI (.inl ()) (.inr false) (fun w => hasB (rows.getD v 0) w == hasB (rows.getD w 0) v) v ?_ ?_ (by omega)]
            · rw [obind]
              cases allB v (fun w => hasB (rows.getD v 0) w == hasB (rows.getD w 0) v) with
              | false => simp
              | true =>
                simp only [if_true]
                unfold S_impl_IsGraph_j5
                rw [w64 (by omega) (by omega)]
                simp
            · intro w hw
              unfold S_impl_IsGraph_l6
              rw [if_pos (by simp; omega), idxL_getD (by omega), obind, iHas F (hr.at v) (by omega), obind, iHas F (hr.at w) (by omega), obind, w64 (by omega) (by omega)]
              cases hasB (rows.getD v 0) w <;> cases hasB (rows.getD w 0) v <;> simp
            · unfold S_impl_IsGraph_l6
              simp
          · unfold S_impl_IsGraph_l4
            simp [hm]
      · intro v hv
        unfold S_impl_IsGraph_l7
        have e2 : IntKind.i64.wrap (((2 ^ m : Nat) : Int) - 1) = (2 : Int) ^ m - 1 := by
          rw [pow2cast]
          have := pow128 hl7
          generalize 2 ^ m = q at *
          exact w64 (by omega) (by omega)
        rw [if_pos (by simp; omega), idxL_getD (by omega), obind, nnO_ok (by omega), obind, shL1 (by omega), e2, iIn, obind]
        unfold S_impl_IsGraph_j8 rowIn
        cases inB (rows.getD v 0) 0 ((2 : Int) ^ m - 1) with
        | false => simp
        | true =>
          rw [if_neg (by simp), iHas F (hr.at v) (by omega), obind, w64 (by omega) (by omega)]
          cases hasB (rows.getD v 0) v <;> simp
      · unfold S_impl_IsGraph_l7
        simp [hm]
    · rw [if_pos (by simpa using hl)]
      simp [hl]

theorem sIsGraph (F : Nat) (hF : 8 ≤ F) (n : Int) (rows : List Int) (hr : Row64 rows) : S_spec_IsGraph F n rows = some (isG n rows) := by
  unfold S_spec_IsGraph isG
  rw [sIn, obind]
  cases h1 : inB n 1 7 with
  | false => simp [S_spec_IsGraph_j1]
  | true =>
    rw [if_neg (by simp)]
    unfold S_spec_IsGraph_j1
    rw [inB_iff] at h1
    by_cases hl : (rows.length : Int) = n
    · subst hl
      rw [if_neg (by simp)]
      have hl7 : rows.length ≤ 7 := by omega
      generalize hm : rows.length = m at *
      have e1 : ∀ v, decide (((2 ^ m : Nat) : Int) ≤ rows.getD v 0) = !decide (rows.getD v 0 ≤ (2 : Int) ^ m - 1) := fun v => by
        rw [pow2cast]
        generalize 2 ^ m = q at *
        rw [← decide_not]
        exact decide_eq_decide.2 ⟨fun h => by omega, fun h => by omega⟩
      have e0 : ∀ v, decide (rows.getD v 0 < 0) = !decide (0 ≤ rows.getD v 0) := fun v => by
        rw [← decide_not]
        exact decide_eq_decide.2 ⟨fun h => by omega, fun h => by omega⟩
      rw [loop_allI (.inl ()) (.inr false) (fun v => (rowIn m rows v && !(hasB (rows.getD v 0) v)) && allB m (fun w => !(hasB (rows.getD v 0) w) || (rowIn m rows w && hasB (rows.getD w 0) v))) m ?_ ?_ (by omega)]
      · rw [obind]
        have key : allB m (fun v => (rowIn m rows v && !(hasB (rows.getD v 0) v)) && allB m (fun w => !(hasB (rows.getD v 0) w) || (rowIn m rows w && hasB (rows.getD w 0) v))) = (allB m (fun v => rowIn m rows v && !(hasB (rows.getD v 0) v)) && allB m (fun v => allB v (fun w => hasB (rows.getD v 0) w == hasB (rows.getD w 0) v))) := by
          rw [Bool.eq_iff_iff]
          simp only [Bool.and_eq_true, allB_iff, Bool.or_eq_true, Bool.not_eq_true', beq_iff_eq]
          constructor
          · intro h
            refine ⟨fun v hv => (h v hv).1, fun v hv w hw => ?_⟩
            have h1 := (h v hv).2 w (by omega)
            have h2 := (h w (by omega)).2 v hv
            cases ha : hasB (rows.getD v 0) w <;> cases hb : hasB (rows.getD w 0) v <;> simp_all
          · rintro ⟨ha, hb⟩ v hv
            refine ⟨ha v hv, fun w hw => ?_⟩
            rcases Nat.lt_trichotomy v w with h | h | h
            · have := hb w hw v h
              rw [this]
              cases hasB (rows.getD v 0) w
              · exact .inl rfl
              · exact .inr ⟨(ha w hw).1, rfl⟩
            · subst h
              exact .inl (ha v hv).2
            · have := hb v hv w h
              rw [← this]
              cases hasB (rows.getD v 0) w
              · exact .inl rfl
              · exact .inr ⟨(ha w hw).1, rfl⟩
        rw [key]
        simp only [Int.toNat_natCast, beq_self_eq_true, Bool.true_and]
        cases (allB m (fun v => rowIn m rows v && !(hasB (rows.getD v 0) v)) && allB m (fun v => allB v (fun w => hasB (rows.getD v 0) w == hasB (rows.getD w 0) v))) <;> simp [S_spec_IsGraph_j2]
      · intro v hv
        unfold S_spec_IsGraph_l3
        rw [if_pos (by simp; omega), idxL_getD (by omega), obind, e0]
        unfold S_spec_IsGraph_j5
        unfold rowIn inB
        cases h0 : decide (0 ≤ rows.getD v 0) with
        | false => simp
        | true =>
          rw [if_neg (by simp), obind, nnO_ok (by omega), obind, shL1 (by omega), e1]
          cases h2 : decide (rows.getD v 0 ≤ (2 : Int) ^ m - 1) with
          | false => simp
          | true =>
            rw [if_neg (by simp), obind, nnO_ok (by omega), obind, bit_eq (hr.at v) (by omega)]
            cases h3 : hasB (rows.getD v 0) v with
            | true => simp
            | false =>
              rw [if_neg (by simp)]
              rw [loop_allI (.inl ()) (.inr false) (fun w => !(hasB (rows.getD v 0) w) || (rowIn m rows w && hasB (rows.getD w 0) v)) m ?_ ?_ (by omega)]
              · rw [obind]
                unfold rowIn inB
                simp only [Bool.and_self, Bool.not_false, Bool.true_and]
                cases allB m (fun w => !(hasB (rows.getD v 0) w) || ((decide (0 ≤ rows.getD w 0) && decide (rows.getD w 0 ≤ (2 : Int) ^ m - 1)) && hasB (rows.getD w 0) v)) with
                | false => simp
                | true =>
                  simp only [if_true]
                  unfold S_spec_IsGraph_j4
                  rw [w64 (by omega) (by omega)]
                  simp
              · intro w hw
                unfold S_spec_IsGraph_l6
                rw [if_pos (by simp; omega), idxL_getD (by omega), obind, nnO_ok (by omega), obind, bit_eq (hr.at v) (by omega)]
                unfold S_spec_IsGraph_j7 rowIn inB
                cases h4 : hasB (rows.getD v 0) w with
                | false => simp; rw [w64 (by omega) (by omega)]
                | true =>
                  rw [if_pos rfl, idxL_getD (by omega), obind, e0]
                  cases h5 : decide (0 ≤ rows.getD w 0) with
                  | false => simp
                  | true =>
                    rw [if_neg (by simp), obind, nnO_ok (by omega), obind, shL1 (by omega), e1]
                    cases h6 : decide (rows.getD w 0 ≤ (2 : Int) ^ m - 1) with
                    | false => simp
                    | true =>
                      rw [if_neg (by simp), obind, nnO_ok (by omega), obind, bit_eq0 (hr.at w) (by omega), w64 (by omega) (by omega)]
                      cases h7 : hasB (rows.getD w 0) v <;> simp
              · unfold S_spec_IsGraph_l6
                simp
      · unfold S_spec_IsGraph_l3
        simp
    · rw [if_pos (by simpa using hl)]
      simp [hl]

end Go.Proofs.Ytblbimlobacciaa
