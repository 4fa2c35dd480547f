/- Proved here: edges put in and taken out, later neighbours, distances: both programs compute the same. -/
import Derived.Test.YtdalcpadcggklaaDoorPedge
namespace Go.Proofs.YtdalcpadcggklaaDoor
open Go Go.RowKit
set_option linter.unusedVariables false
set_option linter.unusedSimpArgs false

/-! ### one edge changed -/

def flipR (R : Nat → Nat) (v w u : Nat) : Nat := if u = v then R v ^^^ 2 ^ w else if u = w then R w ^^^ 2 ^ v else R u

theorem rowsOf_upd (m : Nat) (R : Nat → Nat) (v x : Nat) (hv : v < m) : (rowsOf m R).set v (x : Int) = rowsOf m (fun u => if u = v then x else R u) := by
  apply List.ext_getElem
  · simp [rowsOf_len]
  · intro i h1 h2
    rw [List.getElem_set]
    simp only [rowsOf, List.getElem_map, List.getElem_range]
    by_cases e : v = i
    · subst e; simp
    · have e2 : ¬ i = v := fun h => e h.symm
      simp [e, e2]

theorem rowsOf_flip {m : Nat} {R : Nat → Nat} {v w : Nat} (hv : v < m) (hw : w < m) (hne : v ≠ w) : ((rowsOf m R).set v ((R v ^^^ 2 ^ w : Nat) : Int)).set w ((R w ^^^ 2 ^ v : Nat) : Int) = rowsOf m (flipR R v w) := by
  rw [rowsOf_upd m R v _ hv, rowsOf_upd m _ w _ hw]
  congr 1
  funext u
  unfold flipR
  by_cases e1 : u = v
  · subst e1; simp [hne]
  · simp [e1]

theorem flip_add : ∀ r, r < 128 → ∀ w, w < 7 → r.testBit w = false → r + 2 ^ w = r ^^^ 2 ^ w := by decide +kernel
theorem flip_sub : ∀ r, r < 128 → ∀ w, w < 7 → r.testBit w = true → r - 2 ^ w = r ^^^ 2 ^ w := by decide +kernel

theorem flip_VG {m : Nat} {R : Nat → Nat} (g : VG m R) {v w : Nat} (hv : v < m) (hw : w < m) (hne : v ≠ w) : VG m (flipR R v w) := by
  have hp : ∀ x, x < m → (2 : Nat) ^ x < 2 ^ m := fun x hx => Nat.pow_lt_pow_right (by decide) hx
  refine ⟨g.n1, g.n7, fun u hu => ?_, fun u hu => ?_, fun a b ha hb => ?_⟩
  · unfold flipR
    split
    · exact Nat.xor_lt_two_pow (g.lt v hv) (hp w hw)
    · split
      · exact Nat.xor_lt_two_pow (g.lt w hw) (hp v hv)
      · exact g.lt u hu
  · unfold flipR
    split
    · subst_vars
      rw [Nat.testBit_xor, g.irr _ hv, Nat.testBit_two_pow]
      simp; omega
    · split
      · subst_vars
        rw [Nat.testBit_xor, g.irr _ hw, Nat.testBit_two_pow]
        simp; omega
      · exact g.irr u hu
  · have bitAt : ∀ a b, a < m → (flipR R v w a).testBit b = ((R a).testBit b ^^ (decide (a = v ∧ b = w) || decide (a = w ∧ b = v))) := by
      intro a b ha
      unfold flipR
      by_cases e1 : a = v
      · subst e1
        have : ¬ a = w := hne
        rw [if_pos rfl, Nat.testBit_xor, Nat.testBit_two_pow]
        simp only [true_and, this, false_and, decide_false, Bool.or_false]
        congr 1
        exact decide_eq_decide.2 ⟨fun h => h.symm, fun h => h.symm⟩
      · rw [if_neg e1]
        by_cases e2 : a = w
        · subst e2
          rw [if_pos rfl, Nat.testBit_xor, Nat.testBit_two_pow]
          simp only [true_and, e1, false_and, decide_false, Bool.false_or]
          congr 1
          exact decide_eq_decide.2 ⟨fun h => h.symm, fun h => h.symm⟩
        · rw [if_neg e2]
          simp [e1, e2]
    rw [bitAt a b ha, bitAt b a hb, g.sym a b ha hb]
    congr 1
    rw [Bool.eq_iff_iff]
    simp only [Bool.or_eq_true, decide_eq_true_eq]
    omega

theorem iFlip (F : Nat) {m : Nat} {R : Nat → Nat} (g : VG m R) {v w : Nat} (hv : v < m) (hw : w < m) (hne : v ≠ w) (n : Int) : S_impl_flip F n (rowsOf m R) (v : Int) (w : Int) = some (rowsOf m (flipR R v w)) := by
  unfold S_impl_flip
  have h7 := g.n7
  have b1 := g.b128 hv
  have b2 := g.b128 hw
  have p1 := pow_le64 v (by omega)
  have p2 := pow_le64 w (by omega)
  have hset : ∀ x : Int, idxL ((rowsOf m R).set v x) (w : Int) = some ((R w : Nat) : Int) := fun x => by
    have hl : w < ((rowsOf m R).set v x).length := by simpa [rowsOf_len] using hw
    rw [idxL_get hl, List.getElem_set_ne hne]
    simp [rowsOf]
  rw [rowsOf_idx hv, obind, nnO_ok (by omega), obind, obind, shL1 (by omega), bXor_nat _ _ (by omega) (by omega), Int.toNat_natCast, hset, obind, nnO_ok (by omega), obind, obind, shL1 (by omega), bXor_nat _ _ (by omega) (by omega), Int.toNat_natCast, rowsOf_flip hv hw hne]

theorem iVertex2 (F : Nat) (hF : 8 ≤ F) (n : Int) (hn : I64 n) (rows : List Int) (hr : Row64 rows) (v w : Int) : S_impl_isVertex F n rows [v, w] = some (isG n rows && (inB v 0 (n - 1) && inB w 0 (n - 1))) := by
  rw [iVertex F hF n hn rows hr _ (by simp; omega) (by simp)]
  simp only [List.all_cons, List.all_nil, Bool.and_true]

def pairB (n : Int) (rows : List Int) (v w : Int) : Bool := isG n rows && inB v 0 (n - 1) && inB w 0 (n - 1) && (v != w)
theorem pairB_elim {n : Int} {rows : List Int} {v w : Int} (h : pairB n rows v w = true) : ∃ (m : Nat) (R : Nat → Nat) (a b : Nat), n = (m : Int) ∧ rows = rowsOf m R ∧ v = (a : Int) ∧ w = (b : Int) ∧ VG m R ∧ a < m ∧ b < m ∧ a ≠ b := by
  simp only [pairB, Bool.and_eq_true, inB_iff, bne_iff_ne] at h
  obtain ⟨⟨⟨h1, h2⟩, h3⟩, h4⟩ := h
  obtain ⟨m, R, rfl, rfl, g⟩ := isG_elim h1
  exact ⟨m, R, v.toNat, w.toNat, rfl, rfl, by omega, by omega, g, by omega, by omega, by omega⟩

theorem sPair (F : Nat) (hF : 8 ≤ F) (n : Int) (rows : List Int) (hr : Row64 rows) (v w : Int) : S_spec_l2Pair F n rows v w = some (pairB n rows v w) := by
  unfold S_spec_l2Pair pairB
  rw [sIsGraph F hF n rows hr, obind]
  have e : ∀ x : Int, decide (x < n) = decide (x ≤ n - 1) := fun x => decide_eq_decide.2 ⟨fun h => by omega, fun h => by omega⟩
  rw [e, e]
  unfold inB S_spec_l2Pair_j1
  cases isG n rows <;> cases decide (0 ≤ v) <;> cases decide (0 ≤ w) <;> cases decide (v ≤ n - 1) <;> cases decide (w ≤ n - 1) <;> simp

theorem kAddEdge (F : Nat) (hF : 8 ≤ F) (n : Int) (hn : I64 n) (rows : List Int) (hr : Row64 rows) (hl : rows.length ≤ 1048576) (v w : Int) : ∃ r : Int × List Int × Bool, r.2.1.length = rows.length ∧ S_spec_AddEdge F n rows v w = some r ∧ S_impl_AddEdge F n rows v w = some r := by
  unfold S_spec_AddEdge S_impl_AddEdge S_spec_l2Copy S_impl_copyGraph
  rw [catO_ok (by simp; omega), obind, obind, sPair F hF n rows hr, obind, iVertex2 F hF n hn rows hr, obind, obind, List.nil_append]
  cases hP : pairB n rows v w with
  | true =>
    obtain ⟨m, R, a, b, rfl, rfl, rfl, rfl, g, ha, hb, hne⟩ := pairB_elim hP
    have h7 := g.n7
    have b1 := g.b128 ha
    have b2 := g.b128 hb
    have hv : (isG (m : Int) (rowsOf m R) && (inB (a : Int) 0 ((m : Int) - 1) && inB (b : Int) 0 ((m : Int) - 1))) = true := by
      rw [isG_intro g]
      simp only [Bool.true_and, Bool.and_eq_true, inB_iff]
      omega
    rw [hv, if_neg (by simp), if_neg (by simp), sEdge F g ha (by omega), obind, if_neg (by simp; omega), rowsOf_idx ha, obind, iHasN F (by omega) (by omega), obind]
    unfold S_spec_AddEdge_j1 S_impl_AddEdge_j1
    cases hab : (R a).testBit b with
    | true => exact ⟨_, rfl, rfl, rfl⟩
    | false =>
      have hba : (R b).testBit a = false := by rw [← g.sym a b ha hb]; exact hab
      have p1 := pow_le64 a (by omega)
      have p2 := pow_le64 b (by omega)
      have hset : ∀ x : Int, idxL ((rowsOf m R).set a x) (b : Int) = some ((R b : Nat) : Int) := fun x => by
        have hl : b < ((rowsOf m R).set a x).length := by simpa [rowsOf_len] using hb
        rw [idxL_get hl, List.getElem_set_ne hne]
        simp [rowsOf]
      have f1 := flip_add _ b1 b (by omega) hab
      have f2 := flip_add _ b2 a (by omega) hba
      refine ⟨((m : Int), rowsOf m (flipR R a b), true), by simp [rowsOf_len], ?_, ?_⟩
      · rw [if_neg (by simp), rowsOf_idx ha, obind, nnO_ok (by omega), obind, obind, shL1 (by omega), w64 (by omega) (by omega), Int.toNat_natCast, hset, obind, nnO_ok (by omega), obind, obind, shL1 (by omega), w64 (by omega) (by omega), Int.toNat_natCast, show ((R a : Nat) : Int) + ((2 ^ b : Nat) : Int) = ((R a ^^^ 2 ^ b : Nat) : Int) by rw [← f1]; simp, show ((R b : Nat) : Int) + ((2 ^ a : Nat) : Int) = ((R b ^^^ 2 ^ a : Nat) : Int) by rw [← f2]; simp, rowsOf_flip ha hb hne]
      · rw [if_neg (by simp), iFlip F g ha hb hne, obind]
  | false =>
    refine ⟨(n, rows, false), rfl, ?_, ?_⟩
    · rw [if_pos (by simp)]
      rfl
    · unfold S_impl_AddEdge_j1
      cases hv : (isG n rows && (inB v 0 (n - 1) && inB w 0 (n - 1))) with
      | true =>
        have : (v == w) = true := by
          unfold pairB at hP
          simp only [Bool.and_eq_true] at hv
          simp only [hv.1, hv.2.1, hv.2.2, Bool.true_and] at hP
          simpa using hP
        rw [if_neg (by simp), if_pos this, if_pos rfl]
      | false =>
        rw [if_pos (by simp), if_pos rfl]

theorem kRemoveEdge (F : Nat) (hF : 8 ≤ F) (n : Int) (hn : I64 n) (rows : List Int) (hr : Row64 rows) (hl : rows.length ≤ 1048576) (v w : Int) : ∃ r : Int × List Int × Bool, r.2.1.length = rows.length ∧ S_spec_RemoveEdge F n rows v w = some r ∧ S_impl_RemoveEdge F n rows v w = some r := by
  unfold S_spec_RemoveEdge S_impl_RemoveEdge S_spec_l2Copy S_impl_copyGraph
  rw [catO_ok (by simp; omega), obind, obind, sPair F hF n rows hr, obind, iHasEdge F hF n hn rows hr, obind, obind, List.nil_append]
  cases hP : pairB n rows v w with
  | true =>
    obtain ⟨m, R, a, b, rfl, rfl, rfl, rfl, g, ha, hb, hne⟩ := pairB_elim hP
    have h7 := g.n7
    have b1 := g.b128 ha
    have b2 := g.b128 hb
    have hv : hasE (m : Int) (rowsOf m R) (a : Int) (b : Int) = (R a).testBit b := by
      unfold hasE
      rw [isG_intro g, inB_iff.2 (show (0 : Int) ≤ (a : Int) ∧ (a : Int) ≤ (m : Int) - 1 by omega), inB_iff.2 (show (0 : Int) ≤ (b : Int) ∧ (b : Int) ≤ (m : Int) - 1 by omega), Int.toNat_natCast, Int.toNat_natCast, rowsOf_getD ha, hasB_nat]
      rfl
    rw [hv, if_neg (by simp), sEdge F g ha (by omega), obind]
    unfold S_spec_RemoveEdge_j1
    cases hab : (R a).testBit b with
    | false => exact ⟨_, rfl, rfl, rfl⟩
    | true =>
      have hba : (R b).testBit a = true := by rw [← g.sym a b ha hb]; exact hab
      have p1 := pow_le64 a (by omega)
      have p2 := pow_le64 b (by omega)
      have q1 := bit_le _ b1 b (by omega) hab
      have q2 := bit_le _ b2 a (by omega) hba
      have hset : ∀ x : Int, idxL ((rowsOf m R).set a x) (b : Int) = some ((R b : Nat) : Int) := fun x => by
        have hl : b < ((rowsOf m R).set a x).length := by simpa [rowsOf_len] using hb
        rw [idxL_get hl, List.getElem_set_ne hne]
        simp [rowsOf]
      have f1 := flip_sub _ b1 b (by omega) hab
      have f2 := flip_sub _ b2 a (by omega) hba
      have x1 : R a ^^^ 2 ^ b < 128 := xor_lt128 b1 (by omega)
      have x2 : R b ^^^ 2 ^ a < 128 := xor_lt128 b2 (by omega)
      have e1 : ((R a : Nat) : Int) - ((2 ^ b : Nat) : Int) = ((R a ^^^ 2 ^ b : Nat) : Int) := by
        rw [← f1]; generalize 2 ^ b = q at *; omega
      have e2 : ((R b : Nat) : Int) - ((2 ^ a : Nat) : Int) = ((R b ^^^ 2 ^ a : Nat) : Int) := by
        rw [← f2]; generalize 2 ^ a = q at *; omega
      refine ⟨((m : Int), rowsOf m (flipR R a b), true), by simp [rowsOf_len], ?_, ?_⟩
      · rw [if_neg (by simp), rowsOf_idx ha, obind, nnO_ok (by omega), obind, obind, shL1 (by omega), e1, w64 (by omega) (by omega), Int.toNat_natCast, hset, obind, nnO_ok (by omega), obind, obind, shL1 (by omega), e2, w64 (by omega) (by omega), Int.toNat_natCast, rowsOf_flip ha hb hne]
      · rw [if_neg (by simp), iFlip F g ha hb hne, obind]
  | false =>
    refine ⟨(n, rows, false), rfl, ?_, ?_⟩
    · rw [if_pos (by simp)]
      rfl
    · have : hasE n rows v w = false := by
        rw [← Bool.not_eq_true]
        intro h
        unfold pairB at hP
        unfold hasE at h
        simp only [Bool.and_eq_true] at h
        obtain ⟨⟨⟨h1, h2⟩, h3⟩, h4⟩ := h
        rw [h1, h2, h3] at hP
        simp only [Bool.true_and, bne_eq_false_iff_eq] at hP
        subst hP
        obtain ⟨m, R, rfl, rfl, g⟩ := isG_elim h1
        rw [inB_iff] at h2
        rw [rowsOf_getD (by omega), hasB_nat, g.irr _ (by omega)] at h4
        cases h4
      rw [this, if_pos (by simp)]

end Go.Proofs.YtdalcpadcggklaaDoor
