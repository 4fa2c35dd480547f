/- Proved here: lists of vertices and orders, sets of lists, equal graphs: both programs compute the same. -/
import Derived.Test.YtblbimlobacciaaPcl
namespace Go.Proofs.Ytblbimlobacciaa
open Go Go.RowKit
set_option linter.unusedVariables false
set_option linter.unusedSimpArgs false

theorem getD_mem {l : List Int} {k : Nat} (h : k < l.length) : l.getD k 0 ∈ l := by
  simp only [List.getD_eq_getElem?_getD, List.getElem?_eq_getElem h, Option.getD_some]
  exact List.getElem_mem h

theorem take_snocD (l : List Int) (k : Nat) (h : k < l.length) : l.take (k + 1) = l.take k ++ [l.getD k 0] := by
  rw [snoc_take l k h]; simp [h]

/-! ### the place in a list -/

def posOf (l : List Int) (v : Int) : Int := if l.contains v = true then (l.idxOf v : Int) else -1

theorem idxI_ (F : Nat) (l : List Int) (v : Int) (hl : l.length < F) (hl2 : l.length ≤ 1048576) : S_slices_Index_int F l v = some (posOf l v) := by
  unfold S_slices_Index_int
  obtain ⟨r, hr, hh⟩ := loop_scan (body := fun s => S_slices_Index_int_l2 F l v s) (fun k : Nat => (k : Int)) (.inl ()) (fun k => .inr (k : Int)) (fun k => !(v == l.getD k 0)) l.length 0
    (fun k _ hk hp => by
      unfold S_slices_Index_int_l2
      rw [if_pos (by simp; omega), idxL_getD (by omega), obind, w64 (by omega) (by omega), if_neg (by simpa using hp)]
      simp)
    (fun k _ hk hp => by
      unfold S_slices_Index_int_l2
      rw [if_pos (by simp; omega), idxL_getD (by omega), obind, if_pos (by simpa using hp)])
    (by unfold S_slices_Index_int_l2; simp) F hl
  rw [show (((0 : Nat) : Int)) = 0 from rfl] at hr
  rw [hr, obind]
  unfold posOf
  rcases hh with ⟨h, rfl⟩ | ⟨k, _, hk, hp, hb, rfl⟩
  · have : l.contains v = false := by
      rw [← Bool.not_eq_true, List.contains_iff_mem]
      intro hm
      obtain ⟨i, hi, rfl⟩ := List.mem_iff_getElem.1 hm
      have := h i (by omega) (by omega)
      simp [hi] at this
    rw [if_neg (by simpa using this)]
    rfl
  · have hk2 : k < l.length := by omega
    have hv : l[k] = v := by
      simp [hk2] at hp
      exact hp.symm
    rw [if_pos (by rw [List.contains_iff_mem, ← hv]; exact List.getElem_mem hk2)]
    have : l.idxOf v = k := by
      apply Nat.le_antisymm
      · apply Nat.le_of_not_lt
        intro hlt
        have := List.not_of_lt_findIdx (xs := l) (p := fun x => x == v) hlt
        simp [hv] at this
      · apply Nat.le_of_not_lt
        intro hlt
        have h1 := hb _ (Nat.zero_le _) hlt
        have hm : l.idxOf v < l.length := by omega
        have := List.getElem_idxOf hm
        simp [hm, this] at h1
    rw [this]

theorem idxContains (F : Nat) (l : List Int) (v : Int) (hl : l.length < F) (hl2 : l.length ≤ 1048576) : S_slices_Contains_int F l v = some (l.contains v) := by
  unfold S_slices_Contains_int
  rw [idxI_ F l v hl hl2, obind]
  unfold posOf
  cases l.contains v <;> simp

/-! ### sets of lists -/

theorem okAt_step {l : List Int} {k : Nat} (hk : k < l.length) (h : okAt l k = true) : ∃ v : Nat, v < 7 ∧ l.getD k 0 = (v : Int) ∧ (bitsOf (l.take k)).testBit v = false ∧ bitsOf (l.take (k + 1)) = bitsOf (l.take k) + 2 ^ v ∧ bitsOf (l.take (k + 1)) = bitsOf (l.take k) ||| 2 ^ v := by
  simp only [okAt, Bool.and_eq_true, inB_iff, Bool.not_eq_true'] at h
  obtain ⟨⟨h0, h6⟩, hb⟩ := h
  refine ⟨(l.getD k 0).toNat, by omega, by omega, hb, ?_, ?_⟩
  · rw [take_snocD l k hk, bitsOf_snoc, add_bit _ (bitsOf_lt _) _ (by omega) hb, Nat.mod_eq_of_lt (by omega)]
  · rw [take_snocD l k hk, bitsOf_snoc, Nat.mod_eq_of_lt (by omega)]

def setOf (l : List Int) : Int × Bool := if okL l = true then ((bitsOf l : Int), true) else (0, false)

theorem sSetOf (F : Nat) (l : List Int) (hl : l.length < F) (hl2 : l.length ≤ 1048576) : S_spec_SetOf F l = some (setOf l) := by
  unfold S_spec_SetOf setOf okL
  rw [show ((0 : Int), (0 : Int)) = (fun k : Nat => ((bitsOf (l.take k) : Int), (k : Int))) 0 from rfl]
  rw [loop_all (fun k : Nat => ((bitsOf (l.take k) : Int), (k : Int))) (.inl (bitsOf l : Int)) (.inr (0, false)) (okAt l) l.length ?_ ?_ hl]
  · rw [obind]
    cases allB l.length (okAt l) <;> simp [S_spec_SetOf_j1]
  · intro k hk
    unfold S_spec_SetOf_l2
    dsimp only
    have hb := bitsOf_lt (l.take k)
    rw [if_pos (by simpa using hk), idxL_getD hk, obind, sIn, obind]
    unfold S_spec_SetOf_j3
    cases h : okAt l k with
    | true =>
      obtain ⟨v, hv, e, hf, ha, _⟩ := okAt_step hk h
      have hp := pow_le64 v hv
      rw [show inB (l.getD k 0) 0 6 = true by rw [e, inB_iff]; omega, if_neg (by simp), obind, e, nnO_ok (by omega), obind, bit_nat (by omega) (by omega), hf, if_neg (by simp), idxL_getD hk, obind, e, nnO_ok (by omega), obind, shL1 (by omega), w64 (by omega) (by omega), w64 (by omega) (by omega), ha]
      simp
    | false =>
      unfold okAt at h
      cases h1 : inB (l.getD k 0) 0 6 with
      | false => simp
      | true =>
        rw [h1] at h
        rw [inB_iff] at h1
        obtain ⟨v, e⟩ : ∃ v : Nat, l.getD k 0 = (v : Int) := ⟨(l.getD k 0).toNat, by omega⟩
        rw [e] at h h1
        simp only [Bool.true_and, Bool.not_eq_false', Int.toNat_natCast] at h
        rw [if_neg (by simp), obind, e, nnO_ok (by omega), obind, bit_nat (by omega) (by omega), h]
        simp
  · unfold S_spec_SetOf_l2
    simp

theorem iSetOf (F : Nat) (l : List Int) (hl : l.length < F) (hl2 : l.length ≤ 1048576) : S_impl_SetOf F l = some (setOf l) := by
  unfold S_impl_SetOf setOf okL
  rw [show ((0 : Int), (0 : Int)) = (fun k : Nat => ((bitsOf (l.take k) : Int), (k : Int))) 0 from rfl]
  rw [loop_all (fun k : Nat => ((bitsOf (l.take k) : Int), (k : Int))) (.inl (bitsOf l : Int)) (.inr (0, false)) (okAt l) l.length ?_ ?_ hl]
  · rw [obind]
    cases allB l.length (okAt l) <;> simp [S_impl_SetOf_j1]
  · intro k hk
    unfold S_impl_SetOf_l2
    dsimp only
    have hb := bitsOf_lt (l.take k)
    rw [if_pos (by simpa using hk), idxL_getD hk, obind, iIn, obind]
    unfold S_impl_SetOf_j3
    cases h : okAt l k with
    | true =>
      obtain ⟨v, hv, e, hf, _, ha⟩ := okAt_step hk h
      have hp := pow_le64 v hv
      rw [show inB (l.getD k 0) 0 6 = true by rw [e, inB_iff]; omega, if_neg (by simp), e, iHasN F (by omega) (by omega), obind, hf, nnO_ok (by omega), obind, shL1 (by omega), bOr_nat _ _ (by omega) (by omega), w64 (by omega) (by omega), ha]
      simp
    | false =>
      unfold okAt at h
      cases h1 : inB (l.getD k 0) 0 6 with
      | false => simp
      | true =>
        rw [h1] at h
        rw [inB_iff] at h1
        obtain ⟨v, e⟩ : ∃ v : Nat, l.getD k 0 = (v : Int) := ⟨(l.getD k 0).toNat, by omega⟩
        rw [e] at h h1
        simp only [Bool.true_and, Bool.not_eq_false', Int.toNat_natCast] at h
        rw [if_neg (by simp), e, iHasN F (by omega) (by omega), obind, h]
        simp
  · unfold S_impl_SetOf_l2
    simp

theorem bitsOf_pow {l : List Int} {n : Nat} (h : okL l = true) : bitsOf l < 2 ^ n ↔ ∀ x, x ∈ l → x < (n : Int) := by
  have h6 : ∀ x, x ∈ l → 0 ≤ x ∧ x ≤ 6 := by
    rw [okL_eq, Bool.and_eq_true, List.all_eq_true] at h
    exact fun x hx => inB_iff.1 (h.1 x hx)
  constructor
  · intro hb x hx
    have := h6 x hx
    have hc := bit_mem h6 this.1 this.2
    rw [List.contains_iff_mem.2 hx] at hc
    have := bit_lt hb hc
    omega
  · intro g
    apply Nat.lt_of_not_le
    intro hle
    obtain ⟨i, hi, hb⟩ := Nat.exists_ge_and_testBit_of_ge_two_pow hle
    rw [bitsOf_bit, List.any_eq_true] at hb
    obtain ⟨x, hx, hxi⟩ := hb
    have := h6 x hx
    have := g x hx
    simp only [beq_iff_eq] at hxi
    omega

theorem isV_elim {n : Int} {rows l : List Int} (h : isV n rows l = true) : ∃ (m : Nat) (R : Nat → Nat), n = (m : Int) ∧ rows = rowsOf m R ∧ VG m R ∧ (∀ x, x ∈ l → 0 ≤ x ∧ x < (m : Int)) ∧ nodupB l = true ∧ okL l = true ∧ bitsOf l < 2 ^ m := by
  simp only [isV, Bool.and_eq_true, List.all_eq_true, inB_iff] at h
  obtain ⟨⟨h1, h2⟩, h3⟩ := h
  obtain ⟨m, R, rfl, rfl, g⟩ := isG_elim h1
  have h7 := g.n7
  have ho : okL l = true := by
    rw [okL_eq, h3, Bool.and_true, List.all_eq_true]
    intro x hx
    rw [inB_iff]
    have := h2 x hx
    omega
  exact ⟨m, R, rfl, rfl, g, fun x hx => by have := h2 x hx; omega, h3, ho, (bitsOf_pow ho).2 fun x hx => by have := h2 x hx; omega⟩

theorem isV_eq (n : Int) (rows l : List Int) : isV n rows l = (isG n rows && (okL l && isS n rows (bitsOf l : Int))) := by
  unfold isV
  cases hG : isG n rows with
  | false => rfl
  | true =>
    obtain ⟨m, R, rfl, rfl, g⟩ := isG_elim hG
    have h7 := g.n7
    rw [isS_nat g, Bool.true_and, Bool.true_and, Bool.eq_iff_iff]
    constructor
    · intro h
      rw [Bool.and_eq_true, List.all_eq_true] at h
      have ho : okL l = true := by
        rw [okL_eq, h.2, Bool.and_true, List.all_eq_true]
        intro x hx
        have := inB_iff.1 (h.1 x hx)
        rw [inB_iff]; omega
      rw [ho, Bool.true_and, decide_eq_true_eq, bitsOf_pow ho]
      intro x hx
      have := inB_iff.1 (h.1 x hx)
      omega
    · intro h
      rw [Bool.and_eq_true, decide_eq_true_eq] at h
      obtain ⟨ho, hb⟩ := h
      have hlt := (bitsOf_pow ho).1 hb
      rw [okL_eq, Bool.and_eq_true, List.all_eq_true] at ho
      rw [ho.2, Bool.and_true, List.all_eq_true]
      intro x hx
      have := inB_iff.1 (ho.1 x hx)
      have := hlt x hx
      rw [inB_iff]; omega

theorem sDistinct (F : Nat) (hF : 8 ≤ F) (n : Int) (rows : List Int) (hr : Row64 rows) (l : List Int) (hl : l.length < F) (hl2 : l.length ≤ 1048576) : S_spec_l4Distinct F n rows l = some (isV n rows l) := by
  unfold S_spec_l4Distinct
  rw [sSetOf F l hl hl2, obind, sIsGraph F hF n rows hr, obind, isV_eq]
  unfold setOf
  cases hG : isG n rows with
  | false => simp [S_spec_l4Distinct_j1]
  | true =>
    cases ho : okL l with
    | false => simp [S_spec_l4Distinct_j1]
    | true =>
      simp only [if_true, Bool.true_and]
      rw [sIsSet F hF n rows hr, obind]
      rfl

theorem iVertices (F : Nat) (hF : 8 ≤ F) (n : Int) (hn : I64 n) (rows : List Int) (hr : Row64 rows) (l : List Int) (hl : l.length < F) (hl2 : l.length ≤ 1048576) : S_impl_areVertices F n rows l = some (isV n rows l) := by
  unfold S_impl_areVertices
  rw [loop_allI (.inl ()) (.inr false) (fun k => inB (l.getD k 0) 0 (IntKind.i64.wrap (n - 1)) && !((l.take k).contains (l.getD k 0))) l.length ?_ ?_ hl]
  · rw [obind]
    have e : allB l.length (fun k => inB (l.getD k 0) 0 (IntKind.i64.wrap (n - 1)) && !((l.take k).contains (l.getD k 0))) = (l.all (fun v => inB v 0 (IntKind.i64.wrap (n - 1))) && nodupB l) := by
      rw [← allB_list l 0 (fun v => inB v 0 (IntKind.i64.wrap (n - 1)))]
      unfold nodupB
      rw [Bool.eq_iff_iff, Bool.and_eq_true, allB_iff, allB_iff, allB_iff]
      simp only [Bool.and_eq_true]
      exact ⟨fun h => ⟨fun k hk => (h k hk).1, fun k hk => (h k hk).2⟩, fun h k hk => ⟨h.1 k hk, h.2 k hk⟩⟩
    rw [e]
    unfold isV
    cases hG : isG n rows with
    | false => cases (l.all (fun v => inB v 0 (IntKind.i64.wrap (n - 1))) && nodupB l) <;> simp [S_impl_areVertices_j1, iIsGraph F hF n rows hr, hG]
    | true =>
      have h1 : IntKind.i64.wrap (n - 1) = n - 1 := by
        obtain ⟨m, R, rfl, rfl, g⟩ := isG_elim hG
        have := g.n1; have := g.n7
        rw [w64 (by omega) (by omega)]
      rw [h1, Bool.true_and]
      cases (l.all (fun v => inB v 0 (n - 1)) && nodupB l) <;> simp [S_impl_areVertices_j1, iIsGraph F hF n rows hr, hG]
  · intro k hk
    unfold S_impl_areVertices_l2
    rw [if_pos (by simpa using hk), idxL_getD hk, obind, iIn, obind]
    unfold S_impl_areVertices_j3
    cases inB (l.getD k 0) 0 (IntKind.i64.wrap (n - 1)) with
    | false => simp
    | true =>
      rw [if_neg (by simp), slO_ok (by omega) (by omega), obind, Int.toNat_natCast, idxContains F _ _ (by simp; omega) (by simp; omega), obind, w64 (by omega) (by omega)]
      cases (l.take k).contains (l.getD k 0) <;> simp
  · unfold S_impl_areVertices_l2
    simp

def isO (n : Int) (rows l : List Int) : Bool := isV n rows l && ((l.length : Int) == n)

theorem sIsOrder (F : Nat) (hF : 8 ≤ F) (n : Int) (rows : List Int) (hr : Row64 rows) (l : List Int) (hl : l.length < F) (hl2 : l.length ≤ 1048576) : S_spec_IsOrder F n rows l = some (isO n rows l) := by
  unfold S_spec_IsOrder isO
  rw [sDistinct F hF n rows hr l hl hl2, obind]
  cases isV n rows l <;> simp [S_spec_IsOrder_j1]

theorem iIsOrder (F : Nat) (hF : 8 ≤ F) (n : Int) (hn : I64 n) (rows : List Int) (hr : Row64 rows) (l : List Int) (hl : l.length < F) (hl2 : l.length ≤ 1048576) : S_impl_IsOrder F n rows l = some (isO n rows l) := by
  unfold S_impl_IsOrder isO
  rw [iVertices F hF n hn rows hr l hl hl2, obind]
  cases isV n rows l <;> simp [S_impl_IsOrder_j1]

end Go.Proofs.Ytblbimlobacciaa
