/- Proved here: lists of vertices joined just as a rule says: both programs compute the same. -/
import Derived.Test.YtilfniehellmmaaPord
namespace Go.Proofs.Ytilfniehellmmaa
open Go Go.RowKit
set_option linter.unusedVariables false
set_option linter.unusedSimpArgs false

/-- The edge between the numbers at two places of a list. -/
def edgeAt (R : Nat → Nat) (l : List Int) (i k : Nat) : Bool := (R (l.getD i 0).toNat).testBit (l.getD k 0).toNat
def joinedB (R : Nat → Nat) (l : List Int) (J : Nat → Nat → Bool) : Bool := allB l.length (fun k => allB k (fun i => edgeAt R l i k == J i k))

theorem edgeAt_sym {m : Nat} {R : Nat → Nat} (g : VG m R) {l : List Int} (h : ∀ x, x ∈ l → 0 ≤ x ∧ x < (m : Int)) {i k : Nat} (hi : i < l.length) (hk : k < l.length) : edgeAt R l i k = edgeAt R l k i := by
  have h1 := h _ (getD_mem hi)
  have h2 := h _ (getD_mem hk)
  exact g.sym _ _ (by omega) (by omega)

theorem eqStep (p q : Bool) (i : Nat) : (if (p != q) = true then some (Sum.inr (Sum.inr false)) else some (Sum.inl ((i : Int) + 1)) : Option (Int ⊕ (Unit ⊕ Bool))) = some (if (p == q) = true then Sum.inl ((i + 1 : Nat) : Int) else Sum.inr (Sum.inr false)) := by
  cases p <;> cases q <;> simp
def pcA (s : Nat) : Nat := s % 2 + s / 2 % 2 + s / 4 % 2 + s / 8 % 2 + s / 16 % 2 + s / 32 % 2 + s / 64 % 2
theorem pcA_add : ∀ s, s < 128 → ∀ v, v < 7 → s.testBit v = false → pcA (s ||| 2 ^ v) = pcA s + 1 := by decide +kernel
theorem pcA_le : ∀ s, s < 128 → pcA s ≤ 7 := by decide +kernel

theorem nodup_len {l : List Int} (h : okL l = true) : l.length ≤ 7 := by
  have h1 : ∀ k, k ≤ l.length → pcA (bitsOf (l.take k)) = k := by
    intro k
    induction k with
    | zero => intro _; simp [bitsOf, pcA]
    | succ k ih =>
      intro hk
      obtain ⟨v, hv, _, hf, _, ho⟩ := okAt_step (l := l) (k := k) (by omega) (allB_iff.1 h k (by omega))
      rw [ho, pcA_add _ (bitsOf_lt _) v hv hf, ih (by omega)]
  have h2 := h1 l.length (Nat.le_refl _)
  rw [List.take_length] at h2
  have h3 := pcA_le _ (bitsOf_lt l)
  omega

theorem sEdgeL (F : Nat) {m : Nat} {R : Nat → Nat} (g : VG m R) {l : List Int} (h : ∀ x, x ∈ l → 0 ≤ x ∧ x < (m : Int)) {i k : Nat} (hi : i < l.length) (hk : k < l.length) (n : Int) : S_spec_l2Edge F n (rowsOf m R) (l.getD i 0) (l.getD k 0) = some (edgeAt R l i k) := by
  have h1 := h _ (getD_mem hi)
  have h2 := h _ (getD_mem hk)
  have h7 := g.n7
  have := sEdge F g (v := (l.getD i 0).toNat) (w := (l.getD k 0).toNat) (by omega) (by omega) n
  rw [show (((l.getD i 0).toNat : Nat) : Int) = l.getD i 0 by omega, show (((l.getD k 0).toNat : Nat) : Int) = l.getD k 0 by omega] at this
  exact this

theorem iHasL (F : Nat) {m : Nat} {R : Nat → Nat} (g : VG m R) {l : List Int} (h : ∀ x, x ∈ l → 0 ≤ x ∧ x < (m : Int)) {i k : Nat} (hi : i < l.length) (hk : k < l.length) : (idxL (rowsOf m R) (l.getD i 0)).bind (fun x => S_impl_has F x (l.getD k 0)) = some (edgeAt R l i k) := by
  have h1 := h _ (getD_mem hi)
  have h2 := h _ (getD_mem hk)
  have h7 := g.n7
  have hb := g.b128 (show (l.getD i 0).toNat < m by omega)
  have e1 := rowsOf_idx (R := R) (show (l.getD i 0).toNat < m by omega)
  have e2 := iHasN F (a := R (l.getD i 0).toNat) (v := (l.getD k 0).toNat) (by omega) (by omega)
  rw [show (((l.getD i 0).toNat : Nat) : Int) = l.getD i 0 by omega] at e1
  rw [show (((l.getD k 0).toNat : Nat) : Int) = l.getD k 0 by omega] at e2
  rw [e1, obind, e2]
  rfl

theorem cl_IsClaw (F : Nat) (i k : Nat) (hk : k ≤ 1048576) (hik : i < k) : S_impl_IsClaw_c1 F (i : Int) (k : Int) = some (i == 0) := by
  unfold S_impl_IsClaw_c1
  congr 1
  rw [Bool.eq_iff_iff, beq_iff_eq, beq_iff_eq]
  omega

theorem j_IsClaw (F : Nat) (hF : 2097152 ≤ F) (n : Int) (hn : I64 n) (rows : List Int) (hr : Row64 rows) (l : List Int) (hl : l.length ≤ 1048576) :
    (isV n rows l = false ∧ S_impl_areJoined__IsClawc1 F n rows l = some false) ∨ (∃ (m : Nat) (R : Nat → Nat), n = (m : Int) ∧ rows = rowsOf m R ∧ VG m R ∧ (∀ x, x ∈ l → 0 ≤ x ∧ x < (m : Int)) ∧ isV n rows l = true ∧ l.length ≤ 7 ∧ S_impl_areJoined__IsClawc1 F n rows l = some (joinedB R l (fun i k => i == 0))) := by
  unfold S_impl_areJoined__IsClawc1
  rw [iVertices F (by omega) n hn rows hr l (by omega) hl, obind]
  cases hV : isV n rows l with
  | false => exact .inl ⟨rfl, rfl⟩
  | true =>
    obtain ⟨m, R, rfl, rfl, g, hmem, hnd, ho, hb⟩ := isV_elim hV
    have h7 := nodup_len ho
    refine .inr ⟨m, R, rfl, rfl, g, hmem, rfl, h7, ?_⟩
    rw [if_neg (by simp)]
    unfold joinedB
    rw [loop_allI (.inl ()) (.inr false) (fun k => allB k (fun i => edgeAt R l i k == (fun i k => i == 0) i k)) l.length ?_ ?_ (by omega)]
    · rw [obind]
      cases allB l.length (fun k => allB k (fun i => edgeAt R l i k == (fun i k => i == 0) i k)) <;> simp [S_impl_areJoined__IsClawc1_j1]
    · intro k hk
      unfold S_impl_areJoined__IsClawc1_l2
      rw [if_pos (by simpa using hk)]
      rw [loop_allI (.inl ()) (.inr false) (fun i => edgeAt R l i k == (fun i k => i == 0) i k) k ?_ ?_ (by omega)]
      · rw [obind]
        cases allB k (fun i => edgeAt R l i k == (fun i k => i == 0) i k) with
        | false => simp
        | true =>
          simp only [if_true]
          unfold S_impl_areJoined__IsClawc1_j3
          rw [w64 (by omega) (by omega)]
          simp
      · intro i hi
        unfold S_impl_areJoined__IsClawc1_l4
        have hil : i < l.length := by omega
        have hh := iHasL F g hmem hil hk
        rw [if_pos (by simpa using hi), idxL_getD hil, obind, idxL_getD hk]
        cases hx : idxL (rowsOf m R) (l.getD i 0) with
        | none => rw [hx] at hh; cases hh
        | some x =>
          rw [hx, obind] at hh
          rw [obind, obind, hh, obind, cl_IsClaw F i k (by omega) hi, obind, w64 (by omega) (by omega)]
          exact eqStep _ _ _
      · unfold S_impl_areJoined__IsClawc1_l4
        simp
    · unfold S_impl_areJoined__IsClawc1_l2
      simp

theorem cl_IsTwoEdges (F : Nat) (i k : Nat) (hk : k ≤ 1048576) (hik : i < k) : S_impl_IsTwoEdges_c1 F (i : Int) (k : Int) = some (i == 0 && k == 1 || i == 2 && k == 3) := by
  unfold S_impl_IsTwoEdges_c1 S_impl_IsTwoEdges_c1_j1
  rw [show ((i : Int) == 0) = (i == 0) by rw [Bool.eq_iff_iff, beq_iff_eq, beq_iff_eq]; omega, show ((k : Int) == 1) = (k == 1) by rw [Bool.eq_iff_iff, beq_iff_eq, beq_iff_eq]; omega, show ((i : Int) == 2) = (i == 2) by rw [Bool.eq_iff_iff, beq_iff_eq, beq_iff_eq]; omega, show ((k : Int) == 3) = (k == 3) by rw [Bool.eq_iff_iff, beq_iff_eq, beq_iff_eq]; omega]
  cases i == 0 <;> cases k == 1 <;> cases i == 2 <;> cases k == 3 <;> rfl

theorem j_IsTwoEdges (F : Nat) (hF : 2097152 ≤ F) (n : Int) (hn : I64 n) (rows : List Int) (hr : Row64 rows) (l : List Int) (hl : l.length ≤ 1048576) :
    (isV n rows l = false ∧ S_impl_areJoined__IsTwoEdgesc1 F n rows l = some false) ∨ (∃ (m : Nat) (R : Nat → Nat), n = (m : Int) ∧ rows = rowsOf m R ∧ VG m R ∧ (∀ x, x ∈ l → 0 ≤ x ∧ x < (m : Int)) ∧ isV n rows l = true ∧ l.length ≤ 7 ∧ S_impl_areJoined__IsTwoEdgesc1 F n rows l = some (joinedB R l (fun i k => i == 0 && k == 1 || i == 2 && k == 3))) := by
  unfold S_impl_areJoined__IsTwoEdgesc1
  rw [iVertices F (by omega) n hn rows hr l (by omega) hl, obind]
  cases hV : isV n rows l with
  | false => exact .inl ⟨rfl, rfl⟩
  | true =>
    obtain ⟨m, R, rfl, rfl, g, hmem, hnd, ho, hb⟩ := isV_elim hV
    have h7 := nodup_len ho
    refine .inr ⟨m, R, rfl, rfl, g, hmem, rfl, h7, ?_⟩
    rw [if_neg (by simp)]
    unfold joinedB
    rw [loop_allI (.inl ()) (.inr false) (fun k => allB k (fun i => edgeAt R l i k == (fun i k => i == 0 && k == 1 || i == 2 && k == 3) i k)) l.length ?_ ?_ (by omega)]
    · rw [obind]
      cases allB l.length (fun k => allB k (fun i => edgeAt R l i k == (fun i k => i == 0 && k == 1 || i == 2 && k == 3) i k)) <;> simp [S_impl_areJoined__IsTwoEdgesc1_j1]
    · intro k hk
      unfold S_impl_areJoined__IsTwoEdgesc1_l2
      rw [if_pos (by simpa using hk)]
      rw [loop_allI (.inl ()) (.inr false) (fun i => edgeAt R l i k == (fun i k => i == 0 && k == 1 || i == 2 && k == 3) i k) k ?_ ?_ (by omega)]
      · rw [obind]
        cases allB k (fun i => edgeAt R l i k == (fun i k => i == 0 && k == 1 || i == 2 && k == 3) i k) with
        | false => simp
        | true =>
          simp only [if_true]
          unfold S_impl_areJoined__IsTwoEdgesc1_j3
          rw [w64 (by omega) (by omega)]
          simp
      · intro i hi
        unfold S_impl_areJoined__IsTwoEdgesc1_l4
        have hil : i < l.length := by omega
        have hh := iHasL F g hmem hil hk
        rw [if_pos (by simpa using hi), idxL_getD hil, obind, idxL_getD hk]
        cases hx : idxL (rowsOf m R) (l.getD i 0) with
        | none => rw [hx] at hh; cases hh
        | some x =>
          rw [hx, obind] at hh
          rw [obind, obind, hh, obind, cl_IsTwoEdges F i k (by omega) hi, obind, w64 (by omega) (by omega)]
          exact eqStep _ _ _
      · unfold S_impl_areJoined__IsTwoEdgesc1_l4
        simp
    · unfold S_impl_areJoined__IsTwoEdgesc1_l2
      simp

theorem cl_IsInducedPath (F : Nat) (i k : Nat) (hk : k ≤ 1048576) (hik : i < k) : S_impl_IsInducedPath_c1 F (i : Int) (k : Int) = some (k == i + 1) := by
  unfold S_impl_IsInducedPath_c1
  rw [w64 (by omega) (by omega)]
  congr 1
  rw [Bool.eq_iff_iff, beq_iff_eq, beq_iff_eq]
  omega

theorem j_IsInducedPath (F : Nat) (hF : 2097152 ≤ F) (n : Int) (hn : I64 n) (rows : List Int) (hr : Row64 rows) (l : List Int) (hl : l.length ≤ 1048576) :
    (isV n rows l = false ∧ S_impl_areJoined__IsInducedPathc1 F n rows l = some false) ∨ (∃ (m : Nat) (R : Nat → Nat), n = (m : Int) ∧ rows = rowsOf m R ∧ VG m R ∧ (∀ x, x ∈ l → 0 ≤ x ∧ x < (m : Int)) ∧ isV n rows l = true ∧ l.length ≤ 7 ∧ S_impl_areJoined__IsInducedPathc1 F n rows l = some (joinedB R l (fun i k => k == i + 1))) := by
  unfold S_impl_areJoined__IsInducedPathc1
  rw [iVertices F (by omega) n hn rows hr l (by omega) hl, obind]
  cases hV : isV n rows l with
  | false => exact .inl ⟨rfl, rfl⟩
  | true =>
    obtain ⟨m, R, rfl, rfl, g, hmem, hnd, ho, hb⟩ := isV_elim hV
    have h7 := nodup_len ho
    refine .inr ⟨m, R, rfl, rfl, g, hmem, rfl, h7, ?_⟩
    rw [if_neg (by simp)]
    unfold joinedB
    rw [loop_allI (.inl ()) (.inr false) (fun k => allB k (fun i => edgeAt R l i k == (fun i k => k == i + 1) i k)) l.length ?_ ?_ (by omega)]
    · rw [obind]
      cases allB l.length (fun k => allB k (fun i => edgeAt R l i k == (fun i k => k == i + 1) i k)) <;> simp [S_impl_areJoined__IsInducedPathc1_j1]
    · intro k hk
      unfold S_impl_areJoined__IsInducedPathc1_l2
      rw [if_pos (by simpa using hk)]
      rw [loop_allI (.inl ()) (.inr false) (fun i => edgeAt R l i k == (fun i k => k == i + 1) i k) k ?_ ?_ (by omega)]
      · rw [obind]
        cases allB k (fun i => edgeAt R l i k == (fun i k => k == i + 1) i k) with
        | false => simp
        | true =>
          simp only [if_true]
          unfold S_impl_areJoined__IsInducedPathc1_j3
          rw [w64 (by omega) (by omega)]
          simp
      · intro i hi
        unfold S_impl_areJoined__IsInducedPathc1_l4
        have hil : i < l.length := by omega
        have hh := iHasL F g hmem hil hk
        rw [if_pos (by simpa using hi), idxL_getD hil, obind, idxL_getD hk]
        cases hx : idxL (rowsOf m R) (l.getD i 0) with
        | none => rw [hx] at hh; cases hh
        | some x =>
          rw [hx, obind] at hh
          rw [obind, obind, hh, obind, cl_IsInducedPath F i k (by omega) hi, obind, w64 (by omega) (by omega)]
          exact eqStep _ _ _
      · unfold S_impl_areJoined__IsInducedPathc1_l4
        simp
    · unfold S_impl_areJoined__IsInducedPathc1_l2
      simp

theorem cl_IsHole (F : Nat) (l : List Int) (hl : l.length ≤ 1048576) (i k : Nat) (hk : k < l.length) (hik : i < k) : S_impl_IsHole_c1 F (i : Int) (k : Int) l = some (k == i + 1 || i == 0 && k == l.length - 1) := by
  unfold S_impl_IsHole_c1 S_impl_IsHole_c1_j1
  rw [w64 (by omega) (by omega), w64 (by omega) (by omega)]
  rw [show ((k : Int) == (i : Int) + 1) = (k == i + 1) by rw [Bool.eq_iff_iff, beq_iff_eq, beq_iff_eq]; omega, show ((i : Int) == 0) = (i == 0) by rw [Bool.eq_iff_iff, beq_iff_eq, beq_iff_eq]; omega, show ((k : Int) == (l.length : Int) - 1) = (k == l.length - 1) by rw [Bool.eq_iff_iff, beq_iff_eq, beq_iff_eq]; omega]
  cases k == i + 1 <;> cases i == 0 <;> cases k == l.length - 1 <;> rfl

theorem j_IsHole (F : Nat) (hF : 2097152 ≤ F) (n : Int) (hn : I64 n) (rows : List Int) (hr : Row64 rows) (l : List Int) (hl : l.length ≤ 1048576) :
    (isV n rows l = false ∧ S_impl_areJoined__IsHolec1 F n rows l l = some false) ∨ (∃ (m : Nat) (R : Nat → Nat), n = (m : Int) ∧ rows = rowsOf m R ∧ VG m R ∧ (∀ x, x ∈ l → 0 ≤ x ∧ x < (m : Int)) ∧ isV n rows l = true ∧ l.length ≤ 7 ∧ S_impl_areJoined__IsHolec1 F n rows l l = some (joinedB R l (fun i k => k == i + 1 || i == 0 && k == l.length - 1))) := by
  unfold S_impl_areJoined__IsHolec1
  rw [iVertices F (by omega) n hn rows hr l (by omega) hl, obind]
  cases hV : isV n rows l with
  | false => exact .inl ⟨rfl, rfl⟩
  | true =>
    obtain ⟨m, R, rfl, rfl, g, hmem, hnd, ho, hb⟩ := isV_elim hV
    have h7 := nodup_len ho
    refine .inr ⟨m, R, rfl, rfl, g, hmem, rfl, h7, ?_⟩
    rw [if_neg (by simp)]
    unfold joinedB
    rw [loop_allI (.inl ()) (.inr false) (fun k => allB k (fun i => edgeAt R l i k == (fun i k => k == i + 1 || i == 0 && k == l.length - 1) i k)) l.length ?_ ?_ (by omega)]
    · rw [obind]
      cases allB l.length (fun k => allB k (fun i => edgeAt R l i k == (fun i k => k == i + 1 || i == 0 && k == l.length - 1) i k)) <;> simp [S_impl_areJoined__IsHolec1_j1]
    · intro k hk
      unfold S_impl_areJoined__IsHolec1_l2
      rw [if_pos (by simpa using hk)]
      rw [loop_allI (.inl ()) (.inr false) (fun i => edgeAt R l i k == (fun i k => k == i + 1 || i == 0 && k == l.length - 1) i k) k ?_ ?_ (by omega)]
      · rw [obind]
        cases allB k (fun i => edgeAt R l i k == (fun i k => k == i + 1 || i == 0 && k == l.length - 1) i k) with
        | false => simp
        | true =>
          simp only [if_true]
          unfold S_impl_areJoined__IsHolec1_j3
          rw [w64 (by omega) (by omega)]
          simp
      · intro i hi
        unfold S_impl_areJoined__IsHolec1_l4
        have hil : i < l.length := by omega
        have hh := iHasL F g hmem hil hk
        rw [if_pos (by simpa using hi), idxL_getD hil, obind, idxL_getD hk]
        cases hx : idxL (rowsOf m R) (l.getD i 0) with
        | none => rw [hx] at hh; cases hh
        | some x =>
          rw [hx, obind] at hh
          rw [obind, obind, hh, obind, cl_IsHole F l (by omega) i k hk hi, obind, w64 (by omega) (by omega)]
          exact eqStep _ _ _
      · unfold S_impl_areJoined__IsHolec1_l4
        simp
    · unfold S_impl_areJoined__IsHolec1_l2
      simp

theorem kIsInducedPath (F : Nat) (hF : 2097152 ≤ F) (n : Int) (hn : I64 n) (rows : List Int) (hr : Row64 rows) (l : List Int) (hl : l.length ≤ 1048576) : ∃ r, S_spec_IsInducedPath F n rows l = some r ∧ S_impl_IsInducedPath F n rows l = some r := by
  unfold S_spec_IsInducedPath S_impl_IsInducedPath
  rw [sDistinct F (by omega) n rows hr l (by omega) hl, obind]
  unfold S_impl_IsInducedPath_j1
  by_cases h0 : l.length = 0
  · refine ⟨false, ?_, by rw [if_neg (by simp [h0])]⟩
    unfold S_spec_IsInducedPath_j1
    cases isV n rows l with
    | false => rfl
    | true => rw [if_neg (by simp), if_pos (by simp [h0])]
  · rw [if_pos (show decide ((0 : Int) < (l.length : Int)) = true by simp; omega)]
    rcases j_IsInducedPath F hF n hn rows hr l hl with ⟨hv, e⟩ | ⟨m, R, rfl, rfl, g, hmem, hv, h7, e⟩
    · rw [hv, e]
      exact ⟨false, rfl, rfl⟩
    · rw [hv, e, obind, if_neg (by simp)]
      refine ⟨_, ?_, rfl⟩
      unfold S_spec_IsInducedPath_j1 joinedB
      rw [if_neg (by simpa using h0)]
      rw [loop_allI (.inl ()) (.inr false) (fun k => allB k (fun i => edgeAt R l i k == (k == i + 1))) l.length ?_ ?_ (by omega)]
      · rw [obind]
        cases allB l.length (fun k => allB k (fun i => edgeAt R l i k == (k == i + 1))) <;> simp [S_spec_IsInducedPath_j2]
      · intro k hk
        unfold S_spec_IsInducedPath_l3
        rw [if_pos (by simpa using hk)]
        rw [loop_allI (.inl ()) (.inr false) (fun i => edgeAt R l i k == (k == i + 1)) k ?_ ?_ (by omega)]
        · rw [obind]
          cases allB k (fun i => edgeAt R l i k == (k == i + 1)) with
          | false => simp
          | true =>
            simp only [if_true]
            unfold S_spec_IsInducedPath_j4
            rw [w64 (by omega) (by omega)]
            simp
        · intro i hi
          unfold S_spec_IsInducedPath_l5
          have hil : i < l.length := by omega
          rw [if_pos (by simpa using hi), idxL_getD hk, obind, idxL_getD hil, obind, sEdgeL F g hmem hk hil, obind, ← edgeAt_sym g hmem hil hk, w64 (by omega) (by omega), w64 (by omega) (by omega)]
          rw [show ((i : Int) == (k : Int) - 1) = (k == i + 1) by rw [Bool.eq_iff_iff, beq_iff_eq, beq_iff_eq]; omega]
          generalize edgeAt R l i k = p
          generalize (k == i + 1) = q
          cases p <;> cases q <;> simp
        · unfold S_spec_IsInducedPath_l5
          simp
      · unfold S_spec_IsInducedPath_l3
        simp

theorem kIsHole (F : Nat) (hF : 2097152 ≤ F) (n : Int) (hn : I64 n) (rows : List Int) (hr : Row64 rows) (l : List Int) (hl : l.length ≤ 1048576) : ∃ r, S_spec_IsHole F n rows l = some r ∧ S_impl_IsHole F n rows l = some r := by
  unfold S_spec_IsHole S_impl_IsHole
  rw [sDistinct F (by omega) n rows hr l (by omega) hl, obind]
  unfold S_impl_IsHole_j1
  by_cases h0 : l.length < 4
  · refine ⟨false, ?_, by rw [if_neg (by simp; omega)]⟩
    unfold S_spec_IsHole_j1
    cases isV n rows l with
    | false => rfl
    | true => rw [if_neg (by simp), if_pos (by simp; omega)]
  · rw [if_pos (show decide ((4 : Int) ≤ (l.length : Int)) = true by simp; omega)]
    rcases j_IsHole F hF n hn rows hr l hl with ⟨hv, e⟩ | ⟨m, R, rfl, rfl, g, hmem, hv, h7, e⟩
    · rw [hv, e]
      exact ⟨false, rfl, rfl⟩
    · rw [hv, e, obind, if_neg (by simp)]
      refine ⟨_, ?_, rfl⟩
      unfold S_spec_IsHole_j1 joinedB
      rw [if_neg (by simp; omega)]
      rw [loop_allI (.inl ()) (.inr false) (fun k => allB k (fun i => edgeAt R l i k == (k == i + 1 || i == 0 && k == l.length - 1))) l.length ?_ ?_ (by omega)]
      · rw [obind]
        cases allB l.length (fun k => allB k (fun i => edgeAt R l i k == (k == i + 1 || i == 0 && k == l.length - 1))) <;> simp [S_spec_IsHole_j2]
      · intro k hk
        unfold S_spec_IsHole_l3
        rw [if_pos (by simpa using hk)]
        rw [loop_allI (.inl ()) (.inr false) (fun i => edgeAt R l i k == (k == i + 1 || i == 0 && k == l.length - 1)) k ?_ ?_ (by omega)]
        · rw [obind]
          cases allB k (fun i => edgeAt R l i k == (k == i + 1 || i == 0 && k == l.length - 1)) with
          | false => simp
          | true =>
            simp only [if_true]
            unfold S_spec_IsHole_j4
            rw [w64 (by omega) (by omega)]
            simp
        · intro i hi
          unfold S_spec_IsHole_l5 S_spec_IsHole_j6
          have hil : i < l.length := by omega
          rw [if_pos (by simpa using hi), idxL_getD hk, obind, idxL_getD hil, obind, sEdgeL F g hmem hk hil, obind, ← edgeAt_sym g hmem hil hk]
          rw [w64 (n := (i : Int) + 1) (by omega) (by omega), w64 (n := (k : Int) - 1) (by omega) (by omega), w64 (n := (l.length : Int) - 1) (by omega) (by omega)]
          rw [show ((i : Int) == (k : Int) - 1) = (k == i + 1) by rw [Bool.eq_iff_iff, beq_iff_eq, beq_iff_eq]; omega, show ((i : Int) == 0) = (i == 0) by rw [Bool.eq_iff_iff, beq_iff_eq, beq_iff_eq]; omega, show ((k : Int) == (l.length : Int) - 1) = (k == l.length - 1) by rw [Bool.eq_iff_iff, beq_iff_eq, beq_iff_eq]; omega]
          generalize edgeAt R l i k = p
          generalize (k == i + 1) = q
          generalize (i == 0) = s
          generalize (k == l.length - 1) = t
          cases p <;> cases q <;> cases s <;> cases t <;> simp
        · unfold S_spec_IsHole_l5
          simp
      · unfold S_spec_IsHole_l3
        simp

theorem kIsClaw (F : Nat) (hF : 2097152 ≤ F) (n : Int) (hn : I64 n) (rows : List Int) (hr : Row64 rows) (l : List Int) (hl : l.length ≤ 1048576) : ∃ r, S_spec_IsClaw F n rows l = some r ∧ S_impl_IsClaw F n rows l = some r := by
  unfold S_spec_IsClaw S_impl_IsClaw S_spec_IsClaw_j1 S_impl_IsClaw_j1
  by_cases h4 : l.length = 4
  · rw [if_pos (by simp [h4]), if_pos (by simp [h4]), sDistinct F (by omega) n rows hr l (by omega) hl, obind]
    rcases j_IsClaw F hF n hn rows hr l hl with ⟨hv, e⟩ | ⟨m, R, rfl, rfl, g, hmem, hv, h7, e⟩
    · rw [hv, e]
      exact ⟨false, rfl, rfl⟩
    · rw [hv, e, obind, if_pos rfl]
      refine ⟨_, ?_, rfl⟩
      have i0 := idxL_getD (l := l) (k := 0) (by omega)
      have i1 := idxL_getD (l := l) (k := 1) (by omega)
      have i2 := idxL_getD (l := l) (k := 2) (by omega)
      have i3 := idxL_getD (l := l) (k := 3) (by omega)
      rw [show (((0 : Nat) : Int)) = 0 from rfl] at i0
      rw [show (((1 : Nat) : Int)) = 1 from rfl] at i1
      rw [show (((2 : Nat) : Int)) = 2 from rfl] at i2
      rw [show (((3 : Nat) : Int)) = 3 from rfl] at i3
      have ed : ∀ i k, i < 4 → k < 4 → S_spec_l2Edge F (m : Int) (rowsOf m R) (l.getD i 0) (l.getD k 0) = some (edgeAt R l i k) := fun i k hi hk => sEdgeL F g hmem (by omega) (by omega) _
      simp only [i0, i1, i2, i3, obind, ed 0 1 (by decide) (by decide), ed 0 2 (by decide) (by decide), ed 0 3 (by decide) (by decide), ed 1 2 (by decide) (by decide), ed 1 3 (by decide) (by decide), ed 2 3 (by decide) (by decide)]
      have hJ : joinedB R l (fun i k => i == 0) = ((edgeAt R l 0 1 == (fun i k => i == 0) 0 1) && ((edgeAt R l 0 2 == (fun i k => i == 0) 0 2) && (edgeAt R l 1 2 == (fun i k => i == 0) 1 2)) && ((edgeAt R l 0 3 == (fun i k => i == 0) 0 3) && (edgeAt R l 1 3 == (fun i k => i == 0) 1 3) && (edgeAt R l 2 3 == (fun i k => i == 0) 2 3))) := by
        unfold joinedB
        rw [h4]
        simp only [allB, List.range_succ, List.range_zero, List.nil_append, List.all_append, List.all_cons, List.all_nil, Bool.and_true, Bool.true_and, Bool.and_assoc]
      rw [hJ]
      generalize edgeAt R l 0 1 = a
      generalize edgeAt R l 0 2 = b
      generalize edgeAt R l 0 3 = c
      generalize edgeAt R l 1 2 = d
      generalize edgeAt R l 1 3 = e
      generalize edgeAt R l 2 3 = f
      cases a <;> cases b <;> cases c <;> cases d <;> cases e <;> cases f <;> rfl
  · rw [if_neg (by simp; omega), if_neg (by simp; omega)]
    exact ⟨false, rfl, rfl⟩

theorem kIsTwoEdges (F : Nat) (hF : 2097152 ≤ F) (n : Int) (hn : I64 n) (rows : List Int) (hr : Row64 rows) (l : List Int) (hl : l.length ≤ 1048576) : ∃ r, S_spec_IsTwoEdges F n rows l = some r ∧ S_impl_IsTwoEdges F n rows l = some r := by
  unfold S_spec_IsTwoEdges S_impl_IsTwoEdges S_spec_IsTwoEdges_j1 S_impl_IsTwoEdges_j1
  by_cases h4 : l.length = 4
  · rw [if_pos (by simp [h4]), if_pos (by simp [h4]), sDistinct F (by omega) n rows hr l (by omega) hl, obind]
    rcases j_IsTwoEdges F hF n hn rows hr l hl with ⟨hv, e⟩ | ⟨m, R, rfl, rfl, g, hmem, hv, h7, e⟩
    · rw [hv, e]
      exact ⟨false, rfl, rfl⟩
    · rw [hv, e, obind, if_pos rfl]
      refine ⟨_, ?_, rfl⟩
      have i0 := idxL_getD (l := l) (k := 0) (by omega)
      have i1 := idxL_getD (l := l) (k := 1) (by omega)
      have i2 := idxL_getD (l := l) (k := 2) (by omega)
      have i3 := idxL_getD (l := l) (k := 3) (by omega)
      rw [show (((0 : Nat) : Int)) = 0 from rfl] at i0
      rw [show (((1 : Nat) : Int)) = 1 from rfl] at i1
      rw [show (((2 : Nat) : Int)) = 2 from rfl] at i2
      rw [show (((3 : Nat) : Int)) = 3 from rfl] at i3
      have ed : ∀ i k, i < 4 → k < 4 → S_spec_l2Edge F (m : Int) (rowsOf m R) (l.getD i 0) (l.getD k 0) = some (edgeAt R l i k) := fun i k hi hk => sEdgeL F g hmem (by omega) (by omega) _
      simp only [i0, i1, i2, i3, obind, ed 0 1 (by decide) (by decide), ed 0 2 (by decide) (by decide), ed 0 3 (by decide) (by decide), ed 1 2 (by decide) (by decide), ed 1 3 (by decide) (by decide), ed 2 3 (by decide) (by decide)]
      have hJ : joinedB R l (fun i k => i == 0 && k == 1 || i == 2 && k == 3) = ((edgeAt R l 0 1 == (fun i k => i == 0 && k == 1 || i == 2 && k == 3) 0 1) && ((edgeAt R l 0 2 == (fun i k => i == 0 && k == 1 || i == 2 && k == 3) 0 2) && (edgeAt R l 1 2 == (fun i k => i == 0 && k == 1 || i == 2 && k == 3) 1 2)) && ((edgeAt R l 0 3 == (fun i k => i == 0 && k == 1 || i == 2 && k == 3) 0 3) && (edgeAt R l 1 3 == (fun i k => i == 0 && k == 1 || i == 2 && k == 3) 1 3) && (edgeAt R l 2 3 == (fun i k => i == 0 && k == 1 || i == 2 && k == 3) 2 3))) := by
        unfold joinedB
        rw [h4]
        simp only [allB, List.range_succ, List.range_zero, List.nil_append, List.all_append, List.all_cons, List.all_nil, Bool.and_true, Bool.true_and, Bool.and_assoc]
      rw [hJ]
      generalize edgeAt R l 0 1 = a
      generalize edgeAt R l 0 2 = b
      generalize edgeAt R l 0 3 = c
      generalize edgeAt R l 1 2 = d
      generalize edgeAt R l 1 3 = e
      generalize edgeAt R l 2 3 = f
      cases a <;> cases b <;> cases c <;> cases d <;> cases e <;> cases f <;> rfl
  · rw [if_neg (by simp; omega), if_neg (by simp; omega)]
    exact ⟨false, rfl, rfl⟩

end Go.Proofs.Ytilfniehellmmaa
