/- Proved here: lists of vertices and orders, sets of lists, equal graphs: both programs compute the same. -/
import Derived.Test.YtdalcpadcggklaaDoorPcl
namespace Go.Proofs.YtdalcpadcggklaaDoor
open Go Go.RowKit
set_option linter.unusedVariables false
set_option linter.unusedSimpArgs false

theorem getD_mem {l : List Int} {k : Nat} (h : k < l.length) : l.getD k 0 ∈ l := by
  simp only [List.getD_eq_getElem?_getD, List.getElem?_eq_getElem h, Option.getD_some]
  exact List.getElem_mem h

theorem take_snocD (l : List Int) (k : Nat) (h : k < l.length) : l.take (k + 1) = l.take k ++ [l.getD k 0] := by
  rw [snoc_take l k h]; simp [h]

/-! ### sets of lists -/

theorem okAt_step {l : List Int} {k : Nat} (hk : k < l.length) (h : okAt l k = true) : ∃ v : Nat, v < 7 ∧ l.getD k 0 = (v : Int) ∧ (bitsOf (l.take k)).testBit v = false ∧ bitsOf (l.take (k + 1)) = bitsOf (l.take k) + 2 ^ v ∧ bitsOf (l.take (k + 1)) = bitsOf (l.take k) ||| 2 ^ v := by
  simp only [okAt, Bool.and_eq_true, inB_iff, Bool.not_eq_true'] at h
  obtain ⟨⟨h0, h6⟩, hb⟩ := h
  refine ⟨(l.getD k 0).toNat, by omega, by omega, hb, ?_, ?_⟩
  · rw [take_snocD l k hk, bitsOf_snoc, add_bit _ (bitsOf_lt _) _ (by omega) hb, Nat.mod_eq_of_lt (by omega)]
  · rw [take_snocD l k hk, bitsOf_snoc, Nat.mod_eq_of_lt (by omega)]

def setOf (l : List Int) : Int × Bool := if okL l = true then ((bitsOf l : Int), true) else (0, false)

theorem bitsOf_pow {l : List Int} {n : Nat} (h : okL l = true) : bitsOf l < 2 ^ n ↔ ∀ x, x ∈ l → x < (n : Int) := by
  have h6 : ∀ x, x ∈ l → 0 ≤ x ∧ x ≤ 6 := by
    rw [okL_eq, Bool.and_eq_true, List.all_eq_true] at h
    exact fun x hx => inB_iff.1 (h.1 x hx)
  constructor
  · intro hb x hx
    have := h6 x hx
    have hc := bit_mem h6 this.1 this.2
    rw [List.contains_iff_mem.2 hx] at hc
    have := bit_lt hb hc
    omega
  · intro g
    apply Nat.lt_of_not_le
    intro hle
    obtain ⟨i, hi, hb⟩ := Nat.exists_ge_and_testBit_of_ge_two_pow hle
    rw [bitsOf_bit, List.any_eq_true] at hb
    obtain ⟨x, hx, hxi⟩ := hb
    have := h6 x hx
    have := g x hx
    simp only [beq_iff_eq] at hxi
    omega

theorem isV_elim {n : Int} {rows l : List Int} (h : isV n rows l = true) : ∃ (m : Nat) (R : Nat → Nat), n = (m : Int) ∧ rows = rowsOf m R ∧ VG m R ∧ (∀ x, x ∈ l → 0 ≤ x ∧ x < (m : Int)) ∧ nodupB l = true ∧ okL l = true ∧ bitsOf l < 2 ^ m := by
  simp only [isV, Bool.and_eq_true, List.all_eq_true, inB_iff] at h
  obtain ⟨⟨h1, h2⟩, h3⟩ := h
  obtain ⟨m, R, rfl, rfl, g⟩ := isG_elim h1
  have h7 := g.n7
  have ho : okL l = true := by
    rw [okL_eq, h3, Bool.and_true, List.all_eq_true]
    intro x hx
    rw [inB_iff]
    have := h2 x hx
    omega
  exact ⟨m, R, rfl, rfl, g, fun x hx => by have := h2 x hx; omega, h3, ho, (bitsOf_pow ho).2 fun x hx => by have := h2 x hx; omega⟩

theorem isV_eq (n : Int) (rows l : List Int) : isV n rows l = (isG n rows && (okL l && isS n rows (bitsOf l : Int))) := by
  unfold isV
  cases hG : isG n rows with
  | false => rfl
  | true =>
    obtain ⟨m, R, rfl, rfl, g⟩ := isG_elim hG
    have h7 := g.n7
    rw [isS_nat g, Bool.true_and, Bool.true_and, Bool.eq_iff_iff]
    constructor
    · intro h
      rw [Bool.and_eq_true, List.all_eq_true] at h
      have ho : okL l = true := by
        rw [okL_eq, h.2, Bool.and_true, List.all_eq_true]
        intro x hx
        have := inB_iff.1 (h.1 x hx)
        rw [inB_iff]; omega
      rw [ho, Bool.true_and, decide_eq_true_eq, bitsOf_pow ho]
      intro x hx
      have := inB_iff.1 (h.1 x hx)
      omega
    · intro h
      rw [Bool.and_eq_true, decide_eq_true_eq] at h
      obtain ⟨ho, hb⟩ := h
      have hlt := (bitsOf_pow ho).1 hb
      rw [okL_eq, Bool.and_eq_true, List.all_eq_true] at ho
      rw [ho.2, Bool.and_true, List.all_eq_true]
      intro x hx
      have := inB_iff.1 (ho.1 x hx)
      have := hlt x hx
      rw [inB_iff]; omega

def isO (n : Int) (rows l : List Int) : Bool := isV n rows l && ((l.length : Int) == n)

theorem sEqualGraphs (F : Nat) (n : Int) (a : List Int) (m : Int) (b : List Int) (hl : a.length < F) (hl2 : a.length ≤ 1048576) : S_spec_EqualGraphs F n a m b = some (decide (n = m ∧ a = b)) := by
  unfold S_spec_EqualGraphs
  by_cases h : n = m
  · rw [if_neg (by simpa using h)]
    unfold S_spec_EqualGraphs_j1
    by_cases hab : a.length = b.length
    · rw [if_neg (by simp [hab]), eq_loop F a b hab hl (by omega) (fun x => S_spec_EqualGraphs_l3 F a b x) (fun x => rfl), obind]
      by_cases e : a = b
      · simp [e, h, S_spec_EqualGraphs_j2]
      · simp [e]
    · rw [if_pos (by simp; omega)]
      have : a ≠ b := fun e => hab (by rw [e])
      simp [this]
  · rw [if_pos (by simpa using h)]
    simp [h, S_spec_EqualGraphs_j1]

theorem iEqualGraphs (F : Nat) (n : Int) (a : List Int) (m : Int) (b : List Int) (hl : a.length < F) (hl2 : a.length ≤ 1048576) : S_impl_EqualGraphs F n a m b = some (decide (n = m ∧ a = b)) := by
  unfold S_impl_EqualGraphs
  by_cases h : n = m
  · rw [if_pos (by simpa using h), equalInts F a b hl hl2, obind]
    simp [h, S_impl_EqualGraphs_j1]
  · rw [if_neg (by simpa using h)]
    simp [h, S_impl_EqualGraphs_j1]

end Go.Proofs.YtdalcpadcggklaaDoor
