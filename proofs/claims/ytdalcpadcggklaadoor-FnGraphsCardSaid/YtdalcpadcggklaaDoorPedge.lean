/- Proved here: neighbours of sets, complements, edges put in and taken out: both programs compute the same. -/
import Derived.Test.YtdalcpadcggklaaDoorPord
namespace Go.Proofs.YtdalcpadcggklaaDoor
open Go Go.RowKit
set_option linter.unusedVariables false
set_option linter.unusedSimpArgs false

/-! ### counting the members of a set -/

def pcn (s : Nat) : Nat := s % 2 + s / 2 % 2 + s / 4 % 2 + s / 8 % 2 + s / 16 % 2 + s / 32 % 2 + s / 64 % 2
theorem pc_lt : ∀ s, s < 128 → ∀ t, t < 128 → s &&& t = s → s ≠ t → pcn s < pcn t := by decide +kernel
theorem pc_le : ∀ n, n ≤ 7 → ∀ s, s < 2 ^ n → pcn s ≤ n := by decide +kernel
theorem pc_full : ∀ n, n ≤ 7 → ∀ s, s < 2 ^ n → pcn s = n → s = 2 ^ n - 1 := by decide +kernel
theorem pc_add : ∀ s, s < 128 → ∀ v, v < 7 → s.testBit v = false → pcn (s ||| 2 ^ v) = pcn s + 1 := by decide +kernel
theorem pc_pos : ∀ s, s < 128 → s ≠ 0 → 0 < pcn s := by decide +kernel

/-! ### a set and its neighbours -/

def arnd (R : Nat → Nat) (s : Nat) : Nat := s ||| nbr R s
theorem arnd_bit {R : Nat → Nat} {s n : Nat} (h : s < 2 ^ n) (hn : n ≤ 7) (i : Nat) : (arnd R s).testBit i = true ↔ s.testBit i = true ∨ ∃ v, v < n ∧ s.testBit v = true ∧ (R v).testBit i = true := by
  unfold arnd
  rw [Nat.testBit_or, Bool.or_eq_true, nbr_bit h hn]
theorem arnd_lt {n s : Nat} {R : Nat → Nat} (g : VG n R) (h : s < 2 ^ n) : arnd R s < 2 ^ n := Nat.or_lt_two_pow h (nbr_lt g h)
theorem arnd_sub (R : Nat → Nat) (s : Nat) : s &&& arnd R s = s := by
  apply Nat.eq_of_testBit_eq
  intro i
  unfold arnd
  rw [Nat.testBit_and, Nat.testBit_or]
  cases s.testBit i <;> simp

def arndTo (R : Nat → Nat) (s k : Nat) : Nat := ((List.range k).filter s.testBit).foldl (fun a v => a ||| R v) s
theorem arndTo_succ (R : Nat → Nat) (s k : Nat) : arndTo R s (k + 1) = if s.testBit k = true then arndTo R s k ||| R k else arndTo R s k := by
  unfold arndTo
  rw [List.range_succ, List.filter_append]
  by_cases h : s.testBit k = true <;> simp [h]
theorem foldl_or_bitN (R : Nat → Nat) (l : List Nat) (a i : Nat) : (l.foldl (fun a v => a ||| R v) a).testBit i = (a.testBit i || l.any fun v => (R v).testBit i) := by
  induction l generalizing a with
  | nil => simp
  | cons x r ih => simp [ih, Nat.testBit_or, Bool.or_assoc]
theorem arndTo_eq {n s : Nat} {R : Nat → Nat} (h : s < 2 ^ n) (hn : n ≤ 7) : arndTo R s n = arnd R s := by
  apply Nat.eq_of_testBit_eq
  intro i
  rw [Bool.eq_iff_iff, arnd_bit h hn]
  unfold arndTo
  rw [foldl_or_bitN]
  simp only [Bool.or_eq_true, List.any_eq_true, List.mem_filter, List.mem_range]
  constructor
  · rintro (h1 | ⟨v, ⟨h1, h2⟩, h3⟩)
    · exact .inl h1
    · exact .inr ⟨v, h1, h2, h3⟩
  · rintro (h1 | ⟨v, h1, h2, h3⟩)
    · exact .inl h1
    · exact .inr ⟨v, ⟨h1, h2⟩, h3⟩
theorem arndTo_lt {n s : Nat} {R : Nat → Nat} (g : VG n R) (h : s < 2 ^ n) (k : Nat) (hk : k ≤ n) : arndTo R s k < 128 := by
  have h7 := pow128 g.n7
  induction k with
  | zero => simp [arndTo]; omega
  | succ k ih =>
    rw [arndTo_succ]
    have := ih (by omega)
    have := g.b128 (show k < n by omega)
    split
    · exact or_lt128 (by assumption) (by assumption)
    · assumption

/-! ### complements -/

theorem comp_eq : ∀ n, n ≤ 7 → ∀ r, r < 2 ^ n → ∀ v, v < n → r.testBit v = false → 2 ^ n - 1 - r - 2 ^ v = ndiff (ndiff (2 ^ n - 1) r) (2 ^ v) ∧ r + 2 ^ v ≤ 2 ^ n - 1 := by decide +kernel
def compR (n : Nat) (R : Nat → Nat) (v : Nat) : Nat := 2 ^ n - 1 - R v - 2 ^ v
theorem rowsOf_succ (k : Nat) (R : Nat → Nat) : rowsOf (k + 1) R = rowsOf k R ++ [((R k : Nat) : Int)] := by simp [rowsOf, List.range_succ]
theorem rowsOf_set (k : Nat) (C : Nat → Nat) (l : List Int) (hk : k < l.length) : (rowsOf k C ++ l.drop k).set k ((C k : Nat) : Int) = rowsOf (k + 1) C ++ l.drop (k + 1) := by
  rw [List.set_append]
  simp only [rowsOf_len, Nat.lt_irrefl, if_false, Nat.sub_self]
  rw [List.drop_eq_getElem_cons hk, List.set_cons_zero, rowsOf_succ]
  simp
theorem int3 {n r v : Nat} (h : r + v ≤ n - 1) (hn : 0 < n) : (n : Int) - 1 - (r : Int) - (v : Int) = ((n - 1 - r - v : Nat) : Int) := by omega

theorem sComplement (F : Nat) (hF : 8 ≤ F) {m : Nat} {R : Nat → Nat} (g : VG m R) : S_spec_ComplementOf F (m : Int) (rowsOf m R) = some ((m : Int), rowsOf m (compR m R), true) := by
  unfold S_spec_ComplementOf
  have h7 := g.n7
  have hp := pow128 h7
  rw [sIsGraph F hF _ _ g.row64, obind, isG_intro g, if_neg (by simp)]
  rw [show (([] : List Int), (0 : Int)) = (fun k : Nat => (rowsOf k (compR m R), (k : Int))) 0 from rfl]
  rw [loop_from0 (fun k : Nat => (rowsOf k (compR m R), (k : Int))) (rowsOf m (compR m R)) m ?_ ?_ (by omega), obind]
  · rfl
  · intro k hk
    unfold S_spec_ComplementOf_l2
    dsimp only
    have hb := g.b128 hk
    obtain ⟨_, hc⟩ := comp_eq m h7 (R k) (g.lt k hk) k hk (g.irr k hk)
    rw [if_pos (by simp; omega), nnO_ok (by omega), obind, rowsOf_idx hk, obind, nnO_ok (by omega), obind, catO_ok (by simp [rowsOf_len]; omega), obind, shL1 (by omega), shL1 (by omega), rowsOf_succ]
    unfold S_spec_ComplementOf_j3 compR
    have hpos : 0 < 2 ^ m := Nat.pow_pos (by decide)
    generalize 2 ^ m = p at *
    generalize 2 ^ k = q at *
    rw [w64 (n := (p : Int) - 1) (by omega) (by omega), w64 (n := (p : Int) - 1 - ((R k : Nat) : Int)) (by omega) (by omega), int3 hc hpos, w64 (by omega) (by omega), w64 (by omega) (by omega)]
    simp
  · unfold S_spec_ComplementOf_l2
    simp

theorem iComplement (F : Nat) (hF : 8 ≤ F) {m : Nat} {R : Nat → Nat} (g : VG m R) : S_impl_ComplementOf F (m : Int) (rowsOf m R) = some ((m : Int), rowsOf m (compR m R), true) := by
  unfold S_impl_ComplementOf S_impl_copyGraph
  have h7 := g.n7
  have hp := pow128 h7
  rw [iIsGraph F hF _ _ g.row64, obind, isG_intro g, if_neg (by simp), catO_ok (by simp [rowsOf_len]; omega), obind, obind]
  dsimp only
  rw [show (([] : List Int) ++ rowsOf m R, (0 : Int)) = (fun k : Nat => (rowsOf k (compR m R) ++ (rowsOf m R).drop k, (k : Int))) 0 from rfl]
  rw [loop_from0 (fun k : Nat => (rowsOf k (compR m R) ++ (rowsOf m R).drop k, (k : Int))) (rowsOf m (compR m R)) m ?_ ?_ (by omega), obind]
  · rfl
  · intro k hk
    unfold S_impl_ComplementOf_l2
    dsimp only
    have hb := g.b128 hk
    obtain ⟨he, hc⟩ := comp_eq m h7 (R k) (g.lt k hk) k hk (g.irr k hk)
    have hkl : k < (rowsOf m R).length := by rw [rowsOf_len]; exact hk
    have h2 : k < (rowsOf k (compR m R) ++ (rowsOf m R).drop k).length := by simp [rowsOf_len]; omega
    have hpm : 2 ^ k ≤ 64 := pow_le64 k (by omega)
    have hnd : ndiff (2 ^ m - 1) (R k) < 2 ^ 63 := ndiff_lt (by omega)
    have e : bAndNot (bAndNot (((2 ^ m - 1 : Nat)) : Int) ((R k : Nat) : Int)) (shL 1 (k : Int)) = ((compR m R k : Nat) : Int) := by
      rw [bAndNot_nat _ _ (by omega) (by omega), shL1 (by omega), bAndNot_nat _ _ hnd (by omega), ← he]
      rfl
    rw [if_pos (by simp [rowsOf_len]; omega), rowsOf_idx hk, obind, nnO_ok (by omega), obind, iAll F h7, obind, idxL_get h2, obind, e, Int.toNat_natCast, rowsOf_set k _ _ hkl, w64 (by omega) (by omega)]
    simp
  · unfold S_impl_ComplementOf_l2
    simp [rowsOf_len]

theorem kComplementOf (F : Nat) (hF : 8 ≤ F) (n : Int) (rows : List Int) (hr : Row64 rows) : ∃ r : Int × List Int × Bool, r.2.1.length ≤ 7 ∧ S_spec_ComplementOf F n rows = some r ∧ S_impl_ComplementOf F n rows = some r := by
  cases hG : isG n rows with
  | true =>
    obtain ⟨m, R, rfl, rfl, g⟩ := isG_elim hG
    exact ⟨_, by simpa [rowsOf_len] using g.n7, sComplement F hF g, iComplement F hF g⟩
  | false =>
    refine ⟨(0, [], false), by simp, ?_, ?_⟩
    · unfold S_spec_ComplementOf
      rw [sIsGraph F hF n rows hr, obind, hG]
      rfl
    · unfold S_impl_ComplementOf
      rw [iIsGraph F hF n rows hr, obind, hG]
      rfl

end Go.Proofs.YtdalcpadcggklaaDoor
