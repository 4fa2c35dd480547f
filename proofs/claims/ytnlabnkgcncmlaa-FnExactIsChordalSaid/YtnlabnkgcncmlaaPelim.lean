/- Proved here: simplicial vertices and eliminations: both programs compute the same. -/
import Derived.Test.YtnlabnkgcncmlaaPlater
namespace Go.Proofs.Ytnlabnkgcncmlaa
open Go Go.RowKit
set_option linter.unusedVariables false
set_option linter.unusedSimpArgs false

theorem cliq_rows {m : Nat} (R : Nat → Nat) (z : Nat) : cliq m (fun v => ((rowsOf m R).getD v 0).toNat) z = cliq m R z := by
  unfold cliq
  refine allB_congr fun v hv => ?_
  dsimp only
  rw [rowsOf_getD hv, Int.toNat_natCast]

theorem sClique (F : Nat) (hF : 8 ≤ F) {m : Nat} {R : Nat → Nat} (g : VG m R) {z : Nat} (hz : z < 2 ^ m) : S_spec_IsClique F (m : Int) (rowsOf m R) (z : Int) = some (cliq m R z) := by
  rw [sIsClique F hF _ _ g.row64, isS_intro g hz, Int.toNat_natCast, Int.toNat_natCast, cliq_rows]
  rfl

theorem sSimp (F : Nat) (hF : 8 ≤ F) {m : Nat} {R : Nat → Nat} (g : VG m R) {v z : Nat} (hv : v < m) (hz : z < 2 ^ m) : S_spec_l6Simplicial F (m : Int) (rowsOf m R) (v : Int) (z : Int) = some (cliq m R (R v &&& z)) := by
  unfold S_spec_l6Simplicial
  have hp := pow128 g.n7
  have hb := g.b128 hv
  rw [rowsOf_idx hv, obind, bAnd_nat _ _ (by omega) (by omega), sClique F hF g (Nat.lt_of_le_of_lt Nat.and_le_right hz), obind]

theorem kSimplicialOf (F : Nat) (hF : 2097152 ≤ F) (n : Int) (rows : List Int) (hr : Row64 rows) : ∃ r : List Int, r.length ≤ 7 ∧ S_spec_SimplicialOf F n rows = some r ∧ S_impl_SimplicialOf F n rows = some r := by
  cases hG : isG n rows with
  | false =>
    refine ⟨[], by simp, ?_, ?_⟩
    · unfold S_spec_SimplicialOf
      obtain ⟨q, rfl⟩ : ∃ q, F = q + 1 := ⟨F - 1, by omega⟩
      simp only [loopN]
      unfold S_spec_SimplicialOf_l2
      rw [sIsGraph (q + 1) (by omega) n rows hr, hG]
      by_cases h : (0 : Int) < n <;> simp [h, S_spec_SimplicialOf_j3, S_spec_SimplicialOf_j1]
    · unfold S_impl_SimplicialOf
      rw [iIsGraph F (by omega) n rows hr, obind, hG]
      rfl
  | true =>
    obtain ⟨m, R, rfl, rfl, g⟩ := isG_elim hG
    have h7 := g.n7
    have hp := pow128 h7
    have hpos : 0 < 2 ^ m := Nat.pow_pos (by decide)
    refine ⟨selN m (fun v => cliq m R (R v)), Nat.le_trans (selN_len _ _) h7, ?_, ?_⟩
    · unfold S_spec_SimplicialOf
      rw [show (([] : List Int), (0 : Int)) = (fun k : Nat => (selN k (fun v => cliq m R (R v)), (k : Int))) 0 from rfl]
      rw [loop_from0 (fun k : Nat => (selN k (fun v => cliq m R (R v)), (k : Int))) (selN m (fun v => cliq m R (R v))) m ?_ ?_ (by omega), obind]
      · rfl
      · intro k hk
        unfold S_spec_SimplicialOf_l2 S_spec_SimplicialOf_j3
        have hl := selN_len k (fun v => cliq m R (R v))
        have hfull : R k &&& (2 ^ m - 1) = R k := by
          rw [Nat.and_two_pow_sub_one_eq_mod, Nat.mod_eq_of_lt (g.lt k hk)]
        dsimp only
        rw [if_pos (by simp; omega), sIsGraph F (by omega) _ _ g.row64, obind, hG, if_pos rfl, nnO_ok (by omega), obind, shL1 (by omega)]
        rw [show IntKind.i64.wrap (((2 ^ m : Nat) : Int) - 1) = ((2 ^ m - 1 : Nat) : Int) by
          generalize 2 ^ m = q at *
          rw [w64 (by omega) (by omega)]; omega]
        rw [sSimp F (by omega) g hk (by omega), obind, hfull, selN_succ]
        unfold S_spec_SimplicialOf_j4
        rw [w64 (by omega) (by omega)]
        by_cases h : cliq m R (R k) = true
        · rw [if_pos h, if_pos h, catO_ok (by simp; omega), obind]
          simp
        · rw [if_neg h, if_neg h]
          simp
      · unfold S_spec_SimplicialOf_l2 S_spec_SimplicialOf_j3
        simp
    · unfold S_impl_SimplicialOf
      rw [iIsGraph F (by omega) _ _ hr, obind, hG, if_neg (by simp)]
      rw [show (([] : List Int), (0 : Int)) = (fun k : Nat => (selN k (fun v => cliq m R (R v)), (k : Int))) 0 from rfl]
      rw [loop_from0 (fun k : Nat => (selN k (fun v => cliq m R (R v)), (k : Int))) (selN m (fun v => cliq m R (R v))) m ?_ ?_ (by omega), obind]
      · rfl
      · intro k hk
        unfold S_impl_SimplicialOf_l2
        have hl := selN_len k (fun v => cliq m R (R v))
        dsimp only
        rw [if_pos (by simp [rowsOf_len]; omega), rowsOf_idx hk, obind, iClique F (by omega) g (g.lt k hk), obind, selN_succ]
        unfold S_impl_SimplicialOf_j3
        rw [w64 (by omega) (by omega)]
        by_cases h : cliq m R (R k) = true
        · rw [if_pos h, if_pos h, catO_ok (by simp; omega), obind]
          simp
        · rw [if_neg h, if_neg h]
          simp
      · unfold S_impl_SimplicialOf_l2
        simp [rowsOf_len]

theorem P_FnExactSimplicialOf (F : Nat) (hF : 2097152 ≤ F) (n : Int) (rows : List Int) (hn : I64 n) (hr : ∀ x, x ∈ rows → I64 x) (hm : rows.length ≤ maxLen) : S_laws_FnExactSimplicialOf F n rows = some true := by
  unfold S_laws_FnExactSimplicialOf
  rw [szGraph F n rows _ (by omega) (by omega) hm, obind]
  by_cases hl : (1048576 : Int) < (rows.length : Int)
  · simp [hl]
  · obtain ⟨r, hlen, h1, h2⟩ := kSimplicialOf F hF n rows hr
    have T := toGraph F n rows (by omega) (by omega)
    have E1 := eqInts F r r (by omega) (by omega)
    have E2 := eqGraph F n rows n rows (by omega) (by omega)
    have M1 := markGraph F n rows 1 (by omega) (by omega) (by omega)
    have M2 := markInts F r 1 (by omega) (by omega) (by omega)
    have H := heldInts F r.length 1 (by omega) (by omega) (by omega)
    rw [if_neg hl, if_neg (by simpa using sz_neg rows hl)]
    simp only [S_laws_FnExactSimplicialOf_j1, T, obind, h1, h2, E1, E2, M1, M2, H, decide_true, and_self, Bool.not_true, Bool.false_eq_true, if_false, bne_self_eq_false]
    simp [nlt1]

/-! ### orders of elimination -/

theorem later_lt {m : Nat} {R : Nat → Nat} (g : VG m R) {l : List Int} (hO : isO (m : Int) (rowsOf m R) l = true) {v : Nat} (hv : v < m) : R v &&& laterB l (v : Int) < 2 ^ m := Nat.lt_of_le_of_lt Nat.and_le_left (g.lt v hv)
def elimB (m : Nat) (R : Nat → Nat) (l : List Int) : Bool := allB m (fun v => cliq m R (R v &&& laterB l (v : Int)))

theorem kIsElimination (F : Nat) (hF : 2097152 ≤ F) (n : Int) (hn : I64 n) (rows : List Int) (hr : Row64 rows) (l : List Int) (hl : l.length ≤ 1048576) : ∃ r, S_spec_IsElimination F n rows l = some r ∧ S_impl_IsElimination F n rows l = some r := by
  unfold S_spec_IsElimination S_impl_IsElimination
  rw [sIsOrder F (by omega) n rows hr l (by omega) hl, iIsOrder F (by omega) n hn rows hr l (by omega) hl, obind, obind]
  cases hO : isO n rows l with
  | false => exact ⟨_, rfl, rfl⟩
  | true =>
    obtain ⟨m, R, rfl, rfl, g, hlen, hmem, hnd, ho, hb, hall⟩ := isO_elim hO
    have h7 := g.n7
    refine ⟨elimB m R l, ?_, ?_⟩
    · rw [if_neg (by simp)]
      unfold elimB
      rw [loop_allI (.inl ()) (.inr false) (fun v => cliq m R (R v &&& laterB l (v : Int))) m ?_ ?_ (by omega), obind]
      · cases allB m (fun v => cliq m R (R v &&& laterB l (v : Int))) <;> simp [S_spec_IsElimination_j1]
      · intro v hv
        unfold S_spec_IsElimination_l2
        rw [if_pos (by simp; omega), sLater F (by omega) g hO (by omega) hv, obind, sClique F (by omega) g (later_lt g hO hv), obind, w64 (by omega) (by omega)]
        cases cliq m R (R v &&& laterB l (v : Int)) <;> simp
      · unfold S_spec_IsElimination_l2
        simp
    · rw [if_neg (by simp)]
      unfold S_slices_ContainsFunc_int__IsEliminationc1 S_slices_IndexFunc_int__IsEliminationc1
      obtain ⟨r, hr2, hh⟩ := loop_scan (body := fun s => S_slices_IndexFunc_int__IsEliminationc1_l2 F l (m : Int) (rowsOf m R) l s) (fun k : Nat => (k : Int)) (.inl ()) (fun k => .inr (k : Int)) (fun k => cliq m R (R (l.getD k 0).toNat &&& laterB l (l.getD k 0))) l.length 0
        (fun k _ hk hq => by
          have hx := hmem _ (getD_mem (show k < l.length by omega))
          unfold S_slices_IndexFunc_int__IsEliminationc1_l2 S_impl_IsElimination_c1
          have e : l.getD k 0 = (((l.getD k 0).toNat : Nat) : Int) := by omega
          rw [if_pos (by simp; omega), idxL_getD (by omega), obind]
          rw [e] at hq ⊢
          rw [Int.toNat_natCast] at hq
          have hvm : (l.getD k 0).toNat < m := by omega
          rw [iLater F (by omega) g hO (by omega) hvm, obind, iClique F (by omega) g (later_lt g hO hvm), obind, hq, obind, w64 (by omega) (by omega)]
          simp)
        (fun k _ hk hq => by
          have hx := hmem _ (getD_mem (show k < l.length by omega))
          unfold S_slices_IndexFunc_int__IsEliminationc1_l2 S_impl_IsElimination_c1
          have e : l.getD k 0 = (((l.getD k 0).toNat : Nat) : Int) := by omega
          rw [if_pos (by simp; omega), idxL_getD (by omega), obind]
          rw [e] at hq ⊢
          rw [Int.toNat_natCast] at hq
          have hvm : (l.getD k 0).toNat < m := by omega
          rw [iLater F (by omega) g hO (by omega) hvm, obind, iClique F (by omega) g (later_lt g hO hvm), obind, hq, obind]
          rfl)
        (by unfold S_slices_IndexFunc_int__IsEliminationc1_l2; simp) F (by omega)
      rw [show (((0 : Nat) : Int)) = 0 from rfl] at hr2
      rw [hr2, obind]
      unfold elimB
      rcases hh with ⟨h1, rfl⟩ | ⟨k, _, hk, hq, _, rfl⟩
      · have : allB m (fun v => cliq m R (R v &&& laterB l (v : Int))) = true := by
          rw [allB_iff]
          intro v hv
          obtain ⟨i, hi, e⟩ := List.mem_iff_getElem.1 (hall (v : Int) (by omega) (by omega))
          have := h1 i (by omega) (by omega)
          have hg : l.getD i 0 = (v : Int) := by simp [hi, e]
          rw [hg, Int.toNat_natCast] at this
          exact this
        rw [this]
        rfl
      · have hx := hmem _ (getD_mem (show k < l.length by omega))
        have : allB m (fun v => cliq m R (R v &&& laterB l (v : Int))) = false := by
          rw [allB_false]
          refine ⟨(l.getD k 0).toNat, by omega, ?_⟩
          rw [show (((l.getD k 0).toNat : Nat) : Int) = l.getD k 0 by omega]
          exact hq
        rw [this]
        simp

theorem P_FnExactIsElimination (F : Nat) (hF : 2097152 ≤ F) (n : Int) (rows l : List Int) (hn : I64 n) (hr : ∀ x, x ∈ rows → I64 x) (hm : rows.length ≤ maxLen) (hr2 : ∀ x, x ∈ l → I64 x) (hm2 : l.length ≤ maxLen) : S_laws_FnExactIsElimination F n rows l = some true := by
  unfold S_laws_FnExactIsElimination
  by_cases hl2 : (1048576 : Int) < (l.length : Int)
  · simp [hl2]
  rw [if_neg (by simpa using hl2), szGraph F n rows _ (by omega) (by omega) hm, obind]
  by_cases hl : (1048576 : Int) < (rows.length : Int)
  · simp [hl]
  · obtain ⟨r, h1, h2⟩ := kIsElimination F hF n hn rows hr l (by omega)
    rw [if_neg hl, if_neg (by simpa using sz_neg rows hl), toGraph F n rows (by omega) (by omega), toInts F l (by omega) (by omega)]
    simp (disch := omega) only [obind, h1, h2, eqGraph, eqInts]
    simp

end Go.Proofs.Ytnlabnkgcncmlaa
