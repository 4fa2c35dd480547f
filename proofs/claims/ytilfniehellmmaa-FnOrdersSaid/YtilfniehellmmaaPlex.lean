/- Proved here: labels, lexicographic orders and orders by cardinality: both programs compute the same. -/
import Derived.Test.YtilfniehellmmaaPlater
namespace Go.Proofs.Ytilfniehellmmaa
open Go Go.RowKit
set_option linter.unusedVariables false
set_option linter.unusedSimpArgs false

/-- A scan that begins at k0. -/
theorem loop_allO {β : Type} {body : Int → Option (Int ⊕ β)} (bn be : β) (p : Nat → Bool) (k0 n : Nat) (hk : k0 ≤ n) (h : ∀ k : Nat, k0 ≤ k → k < n → body (k : Int) = some (if p k = true then .inl ((k + 1 : Nat) : Int) else .inr be)) (he : body (n : Int) = some (.inr bn)) {F : Nat} (hF : n < F) :
    loopN body F (k0 : Int) = some (if allB (n - k0) (fun j => p (k0 + j)) = true then bn else be) := by
  have := loop_all (body := body) (fun j : Nat => ((k0 + j : Nat) : Int)) bn be (fun j => p (k0 + j)) (n - k0) (fun j hj => by rw [h (k0 + j) (by omega) (by omega)]; rfl) (by
    rw [show k0 + (n - k0) = n by omega]; exact he) (F := F) (by omega)
  exact this

def lab (R : Nat → Nat) (l : List Int) (v : Nat) : Nat := l.foldl (fun a (w : Int) => 2 * a + (if (R v).testBit w.toNat = true then 1 else 0)) 0
theorem lab_snoc (R : Nat → Nat) (l : List Int) (w : Int) (v : Nat) : lab R (l ++ [w]) v = 2 * lab R l v + (if (R v).testBit w.toNat = true then 1 else 0) := by simp [lab]
theorem lab_lt (R : Nat → Nat) (v : Nat) : ∀ (k : Nat) (l : List Int), l.length = k → lab R l v < 2 ^ k
  | 0, l, h => by
    have : l = [] := List.eq_nil_of_length_eq_zero h
    subst this; simp [lab]
  | k + 1, l, h => by
    have hne : l ≠ [] := by intro e; subst e; simp at h
    obtain ⟨q, w, rfl⟩ : ∃ q w, l = q ++ [w] := ⟨l.dropLast, l.getLast hne, (List.dropLast_concat_getLast hne).symm⟩
    have ih := lab_lt R v k q (by simpa using h)
    rw [lab_snoc, Nat.pow_succ]
    split <;> omega
theorem lab_lt128 (R : Nat → Nat) (v : Nat) {l : List Int} (h : l.length ≤ 7) : lab R l v < 128 := Nat.lt_of_lt_of_le (lab_lt R v _ l rfl) (pow128 h)

theorem iLabel (F : Nat) (hF : 8 ≤ F) {m : Nat} {R : Nat → Nat} (g : VG m R) {l : List Int} (hmem : ∀ x, x ∈ l → 0 ≤ x ∧ x < (m : Int)) (h7 : l.length ≤ 7) {v : Nat} (hv : v < m) (n : Int) : S_impl_label F n (rowsOf m R) (v : Int) l = some ((lab R l v : Nat) : Int) := by
  unfold S_impl_label
  have hm := g.n7
  rw [show ((0 : Int), (0 : Int)) = (fun k : Nat => (((lab R (l.take k) v : Nat) : Int), (k : Int))) 0 from rfl]
  rw [loop_from0 (fun k : Nat => (((lab R (l.take k) v : Nat) : Int), (k : Int))) ((lab R l v : Nat) : Int) l.length ?_ ?_ (by omega), obind]
  · rfl
  · intro k hk
    unfold S_impl_label_l2
    dsimp only
    have hx := hmem _ (getD_mem hk)
    have hb := g.b128 hv
    have hlt := lab_lt128 R v (l := l.take k) (by simp; omega)
    obtain ⟨w, hw⟩ : ∃ w : Nat, l.getD k 0 = (w : Int) := ⟨(l.getD k 0).toNat, by omega⟩
    have hbit := bit_nat (a := R v) (v := w) (by omega) (by omega)
    have hbit0 := bit_nat0 (a := R v) (v := w) (by omega) (by omega)
    rw [if_pos (by simpa using hk), idxL_getD hk, obind, rowsOf_idx hv, obind, hw, nnO_ok (by omega), obind, take_snocD l k hk, lab_snoc, hw, Int.toNat_natCast]
    cases ht : (R v).testBit w with
    | true =>
      rw [ht, beq_iff_eq] at hbit
      rw [hbit, w64 (n := 2 * ((lab R (l.take k) v : Nat) : Int)) (by omega) (by omega), w64 (by omega) (by omega), w64 (by omega) (by omega)]
      simp
    | false =>
      rw [ht] at hbit0
      simp only [Bool.not_false, beq_iff_eq] at hbit0
      rw [hbit0, w64 (n := 2 * ((lab R (l.take k) v : Nat) : Int)) (by omega) (by omega), w64 (by omega) (by omega), w64 (by omega) (by omega)]
      simp
  · unfold S_impl_label_l2
    simp

theorem sLabel (F : Nat) (hF : 8 ≤ F) {m : Nat} {R : Nat → Nat} (g : VG m R) {l : List Int} (hmem : ∀ x, x ∈ l → 0 ≤ x ∧ x < (m : Int)) (h7 : l.length ≤ 7) {v : Nat} (hv : v < m) (n : Int) : S_spec_l5Label F n (rowsOf m R) l (v : Int) = some ((lab R l v * 2 ^ (7 - l.length) : Nat) : Int) := by
  unfold S_spec_l5Label
  have hm := g.n7
  have bnd : ∀ k, k ≤ 7 → lab R (l.take k) v * 2 ^ (k - l.length) < 128 := fun k hk => by
    have h1 := lab_lt R v _ (l.take k) rfl
    have hp : 0 < 2 ^ (k - l.length) := Nat.pow_pos (by decide)
    have h2 : lab R (l.take k) v * 2 ^ (k - l.length) < 2 ^ (l.take k).length * 2 ^ (k - l.length) := Nat.mul_lt_mul_of_pos_right h1 hp
    rw [← Nat.pow_add] at h2
    exact Nat.lt_of_lt_of_le h2 (pow128 (by simp; omega))
  rw [show ((0 : Int), (0 : Int)) = (fun k : Nat => (((lab R (l.take k) v * 2 ^ (k - l.length) : Nat) : Int), (k : Int))) 0 by simp [lab]]
  rw [loop_from0 (fun k : Nat => (((lab R (l.take k) v * 2 ^ (k - l.length) : Nat) : Int), (k : Int))) ((lab R l v * 2 ^ (7 - l.length) : Nat) : Int) 7 ?_ ?_ (by omega), obind]
  · rfl
  · intro k hk
    unfold S_spec_l5Label_l2
    dsimp only
    have hb1 := bnd k (by omega)
    rw [if_pos (by simp; omega)]
    unfold S_spec_l5Label_j4 S_spec_l5Label_j3
    by_cases hkl : k < l.length
    · have hx := hmem _ (getD_mem hkl)
      obtain ⟨w, hw⟩ : ∃ w : Nat, l.getD k 0 = (w : Int) := ⟨(l.getD k 0).toNat, by omega⟩
      rw [if_pos (by simpa using hkl), idxL_getD hkl, obind, hw, sEdge F g (by omega) (by omega), obind, take_snocD l k hkl, lab_snoc, hw, Int.toNat_natCast]
      rw [g.sym w v (by omega) hv, show k - l.length = 0 by omega, show k + 1 - l.length = 0 by omega] at *
      simp only [Nat.pow_zero, Nat.mul_one] at hb1 ⊢
      rw [w64 (n := ((lab R (l.take k) v : Nat) : Int) * 2) (by omega) (by omega), w64 (n := (k : Int) + 1) (by omega) (by omega)]
      cases (R v).testBit w with
      | true =>
        rw [if_pos rfl, if_pos rfl, w64 (by omega) (by omega)]
        congr 3
        omega
      | false =>
        rw [if_neg (by simp), if_neg (by simp)]
        congr 3
        omega
    · rw [if_neg (by simpa using hkl), if_neg (by simp)]
      have t1 : l.take k = l := List.take_of_length_le (by omega)
      have t2 : l.take (k + 1) = l := List.take_of_length_le (by omega)
      rw [t1] at hb1
      rw [t1, t2, show k + 1 - l.length = (k - l.length) + 1 by omega, Nat.pow_succ, ← Nat.mul_assoc]
      generalize lab R l v * 2 ^ (k - l.length) = y at *
      rw [w64 (by omega) (by omega), w64 (by omega) (by omega)]
      simp
  · unfold S_spec_l5Label_l2
    dsimp only
    rw [if_neg (by simp), List.take_of_length_le (by omega)]

theorem scale_lt (a b d : Nat) : decide (((a * 2 ^ d : Nat) : Int) < ((b * 2 ^ d : Nat) : Int)) = decide (a < b) := by
  have hp : 0 < 2 ^ d := Nat.pow_pos (by decide)
  refine decide_eq_decide.2 ⟨fun h => ?_, fun h => ?_⟩
  · have : a * 2 ^ d < b * 2 ^ d := by omega
    exact Nat.lt_of_mul_lt_mul_right this
  · have : a * 2 ^ d < b * 2 ^ d := Nat.mul_lt_mul_of_pos_right h hp
    omega
theorem cast_lt (a b : Nat) : decide ((a : Int) < (b : Int)) = decide (a < b) := decide_eq_decide.2 ⟨fun h => by omega, fun h => by omega⟩

/-! ### lexicographic orders -/

def lexAt (R : Nat → Nat) (l : List Int) (i : Nat) : Bool := allB (l.length - (i + 1)) (fun j => !(decide (lab R (l.take i) (l.getD i 0).toNat < lab R (l.take i) (l.getD (i + 1 + j) 0).toNat)))

theorem kIsLexOrder (F : Nat) (hF : 2097152 ≤ F) (n : Int) (hn : I64 n) (rows : List Int) (hr : Row64 rows) (l : List Int) (hl : l.length ≤ 1048576) : ∃ r, S_spec_IsLexOrder F n rows l = some r ∧ S_impl_IsLexOrder F n rows l = some r := by
  unfold S_spec_IsLexOrder S_impl_IsLexOrder
  rw [sIsOrder F (by omega) n rows hr l (by omega) hl, iIsOrder F (by omega) n hn rows hr l (by omega) hl, obind, obind]
  cases hO : isO n rows l with
  | false => exact ⟨_, rfl, rfl⟩
  | true =>
    obtain ⟨m, R, rfl, rfl, g, hlen, hmem, hnd, ho, hb, hall⟩ := isO_elim hO
    have h7 := g.n7
    have h1 := g.n1
    have tmem : ∀ i x, x ∈ l.take i → 0 ≤ x ∧ x < (m : Int) := fun i x hx => hmem x (List.mem_of_mem_take hx)
    have elt : ∀ i, i < l.length → ∃ v : Nat, l.getD i 0 = (v : Int) ∧ v < m := fun i hi => by
      have := hmem _ (getD_mem hi)
      exact ⟨(l.getD i 0).toNat, by omega, by omega⟩
    refine ⟨allB (l.length - 1) (fun j => lexAt R l (1 + j)), ?_, ?_⟩
    · rw [if_neg (by simp)]
      rw [show (1 : Int) = ((1 : Nat) : Int) from rfl]
      rw [loop_allO (.inl ()) (.inr false) (lexAt R l) 1 l.length (by omega) ?_ ?_ (by omega), obind]
      · cases allB (l.length - 1) (fun j => lexAt R l (1 + j)) <;> simp [S_spec_IsLexOrder_j1]
      · intro i hi0 hi
        unfold S_spec_IsLexOrder_l2
        rw [if_pos (by simpa using hi)]
        rw [show IntKind.i64.wrap ((i : Int) + 1) = ((i + 1 : Nat) : Int) by rw [w64 (by omega) (by omega)]; simp]
        obtain ⟨a, ha, ham⟩ := elt i hi
        rw [loop_allO (.inl ()) (.inr false) (fun k => !(decide (lab R (l.take i) (l.getD i 0).toNat < lab R (l.take i) (l.getD k 0).toNat))) (i + 1) l.length (by omega) ?_ ?_ (by omega), obind]
        · unfold lexAt
          cases allB (l.length - (i + 1)) (fun j => !(decide (lab R (l.take i) (l.getD i 0).toNat < lab R (l.take i) (l.getD (i + 1 + j) 0).toNat))) with
          | false => simp
          | true =>
            simp only [if_true]
            unfold S_spec_IsLexOrder_j3
            rw [w64 (by omega) (by omega)]
            simp
        · intro k hk0 hk
          unfold S_spec_IsLexOrder_l4
          obtain ⟨b, hb2, hbm⟩ := elt k hk
          rw [if_pos (by simpa using hk), slO_ok (by omega) (by omega), obind, idxL_getD hk, obind, obind, idxL_getD hi, obind, ha, hb2, Int.toNat_natCast, sLabel F (by omega) g (tmem i) (by simp; omega) hbm, obind, sLabel F (by omega) g (tmem i) (by simp; omega) ham, obind, scale_lt, w64 (by omega) (by omega), Int.toNat_natCast, Int.toNat_natCast]
          cases decide (lab R (l.take i) a < lab R (l.take i) b) <;> simp
        · unfold S_spec_IsLexOrder_l4
          simp
      · unfold S_spec_IsLexOrder_l2
        simp
    · rw [if_neg (by simp)]
      rw [show (1 : Int) = ((1 : Nat) : Int) from rfl]
      rw [loop_allO (.inl ()) (.inr false) (lexAt R l) 1 l.length (by omega) ?_ ?_ (by omega), obind]
      · cases allB (l.length - 1) (fun j => lexAt R l (1 + j)) <;> simp [S_impl_IsLexOrder_j1]
      · intro i hi0 hi
        unfold S_impl_IsLexOrder_l2
        rw [if_pos (by simpa using hi)]
        rw [show IntKind.i64.wrap ((i : Int) + 1) = ((i + 1 : Nat) : Int) by rw [w64 (by omega) (by omega)]; simp]
        obtain ⟨a, ha, ham⟩ := elt i hi
        rw [slO_ok (by omega) (by omega), obind]
        rw [loop_allI (.inl ()) (.inr false) (fun j => !(decide (lab R (l.take i) (l.getD i 0).toNat < lab R (l.take i) (l.getD (i + 1 + j) 0).toNat))) (l.length - (i + 1)) ?_ ?_ (by omega), obind]
        · unfold lexAt
          cases allB (l.length - (i + 1)) (fun j => !(decide (lab R (l.take i) (l.getD i 0).toNat < lab R (l.take i) (l.getD (i + 1 + j) 0).toNat))) with
          | false => simp
          | true =>
            simp only [if_true]
            unfold S_impl_IsLexOrder_j3
            rw [w64 (by omega) (by omega)]
            simp
        · intro j hj
          unfold S_impl_IsLexOrder_l4
          have hjl : i + 1 + j < l.length := by omega
          obtain ⟨b, hb2, hbm⟩ := elt (i + 1 + j) hjl
          have hd : idxL (l.drop (((i + 1 : Nat) : Int)).toNat) (j : Int) = some (b : Int) := by
            rw [Int.toNat_natCast, idxL_get (by simp; omega), List.getElem_drop]
            have : l.getD (i + 1 + j) 0 = l[i + 1 + j] := by simp [hjl]
            rw [← this, hb2]
          have ip : IntKind.i64.wrap ((i : Int) + 1) = ((i + 1 : Nat) : Int) := by rw [w64 (by omega) (by omega)]; simp
          rw [ip, if_pos (by simp; omega), hd, obind, slO_ok (by omega) (by omega), obind, idxL_getD hi, obind, obind, ha, hb2, Int.toNat_natCast, iLabel F (by omega) g (tmem i) (by simp; omega) hbm, obind, iLabel F (by omega) g (tmem i) (by simp; omega) ham, obind, cast_lt, w64 (by omega) (by omega), Int.toNat_natCast, Int.toNat_natCast]
          cases decide (lab R (l.take i) a < lab R (l.take i) b) <;> simp
        · unfold S_impl_IsLexOrder_l4
          have ip : IntKind.i64.wrap ((i : Int) + 1) = ((i + 1 : Nat) : Int) := by rw [w64 (by omega) (by omega)]; simp
          rw [ip, if_neg (by simp)]
      · unfold S_impl_IsLexOrder_l2
        simp

end Go.Proofs.Ytilfniehellmmaa
