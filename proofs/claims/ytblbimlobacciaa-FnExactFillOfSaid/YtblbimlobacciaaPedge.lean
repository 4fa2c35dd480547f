/- Proved here: neighbours of sets, complements, edges put in and taken out: both programs compute the same. -/
import Derived.Test.YtblbimlobacciaaPord
namespace Go.Proofs.Ytblbimlobacciaa
open Go Go.RowKit
set_option linter.unusedVariables false
set_option linter.unusedSimpArgs false

/-! ### counting the members of a set -/

def pcn (s : Nat) : Nat := s % 2 + s / 2 % 2 + s / 4 % 2 + s / 8 % 2 + s / 16 % 2 + s / 32 % 2 + s / 64 % 2
theorem pc_lt : ∀ s, s < 128 → ∀ t, t < 128 → s &&& t = s → s ≠ t → pcn s < pcn t := by decide +kernel
theorem pc_le : ∀ n, n ≤ 7 → ∀ s, s < 2 ^ n → pcn s ≤ n := by decide +kernel
theorem pc_full : ∀ n, n ≤ 7 → ∀ s, s < 2 ^ n → pcn s = n → s = 2 ^ n - 1 := by decide +kernel
theorem pc_add : ∀ s, s < 128 → ∀ v, v < 7 → s.testBit v = false → pcn (s ||| 2 ^ v) = pcn s + 1 := by decide +kernel
theorem pc_pos : ∀ s, s < 128 → s ≠ 0 → 0 < pcn s := by decide +kernel

/-! ### a set and its neighbours -/

def arnd (R : Nat → Nat) (s : Nat) : Nat := s ||| nbr R s
theorem arnd_bit {R : Nat → Nat} {s n : Nat} (h : s < 2 ^ n) (hn : n ≤ 7) (i : Nat) : (arnd R s).testBit i = true ↔ s.testBit i = true ∨ ∃ v, v < n ∧ s.testBit v = true ∧ (R v).testBit i = true := by
  unfold arnd
  rw [Nat.testBit_or, Bool.or_eq_true, nbr_bit h hn]
theorem arnd_lt {n s : Nat} {R : Nat → Nat} (g : VG n R) (h : s < 2 ^ n) : arnd R s < 2 ^ n := Nat.or_lt_two_pow h (nbr_lt g h)
theorem arnd_sub (R : Nat → Nat) (s : Nat) : s &&& arnd R s = s := by
  apply Nat.eq_of_testBit_eq
  intro i
  unfold arnd
  rw [Nat.testBit_and, Nat.testBit_or]
  cases s.testBit i <;> simp

def arndTo (R : Nat → Nat) (s k : Nat) : Nat := ((List.range k).filter s.testBit).foldl (fun a v => a ||| R v) s
theorem arndTo_succ (R : Nat → Nat) (s k : Nat) : arndTo R s (k + 1) = if s.testBit k = true then arndTo R s k ||| R k else arndTo R s k := by
  unfold arndTo
  rw [List.range_succ, List.filter_append]
  by_cases h : s.testBit k = true <;> simp [h]
theorem foldl_or_bitN (R : Nat → Nat) (l : List Nat) (a i : Nat) : (l.foldl (fun a v => a ||| R v) a).testBit i = (a.testBit i || l.any fun v => (R v).testBit i) := by
  induction l generalizing a with
  | nil => simp
  | cons x r ih => simp [ih, Nat.testBit_or, Bool.or_assoc]
theorem arndTo_eq {n s : Nat} {R : Nat → Nat} (h : s < 2 ^ n) (hn : n ≤ 7) : arndTo R s n = arnd R s := by
  apply Nat.eq_of_testBit_eq
  intro i
  rw [Bool.eq_iff_iff, arnd_bit h hn]
  unfold arndTo
  rw [foldl_or_bitN]
  simp only [Bool.or_eq_true, List.any_eq_true, List.mem_filter, List.mem_range]
  constructor
  · rintro (h1 | ⟨v, ⟨h1, h2⟩, h3⟩)
    · exact .inl h1
    · exact .inr ⟨v, h1, h2, h3⟩
  · rintro (h1 | ⟨v, h1, h2, h3⟩)
    · exact .inl h1
    · exact .inr ⟨v, ⟨h1, h2⟩, h3⟩
theorem arndTo_lt {n s : Nat} {R : Nat → Nat} (g : VG n R) (h : s < 2 ^ n) (k : Nat) (hk : k ≤ n) : arndTo R s k < 128 := by
  have h7 := pow128 g.n7
  induction k with
  | zero => simp [arndTo]; omega
  | succ k ih =>
    rw [arndTo_succ]
    have := ih (by omega)
    have := g.b128 (show k < n by omega)
    split
    · exact or_lt128 (by assumption) (by assumption)
    · assumption

/-! ### marks on graphs -/

theorem markGraph (F : Nat) (n : Int) (l : List Int) (c : Int) (hF : l.length < F) (hc : 0 ≤ c) (hl : c + (l.length : Int) < 4611686018427387904) : S_laws_markGraph F n l c = some (c + (l.length : Int), marks l.length c) := by
  unfold S_laws_markGraph
  rw [markInts F l c hF hc hl, obind]

/-! ### complements -/

theorem comp_eq : ∀ n, n ≤ 7 → ∀ r, r < 2 ^ n → ∀ v, v < n → r.testBit v = false → 2 ^ n - 1 - r - 2 ^ v = ndiff (ndiff (2 ^ n - 1) r) (2 ^ v) ∧ r + 2 ^ v ≤ 2 ^ n - 1 := by decide +kernel
def compR (n : Nat) (R : Nat → Nat) (v : Nat) : Nat := 2 ^ n - 1 - R v - 2 ^ v
theorem rowsOf_succ (k : Nat) (R : Nat → Nat) : rowsOf (k + 1) R = rowsOf k R ++ [((R k : Nat) : Int)] := by simp [rowsOf, List.range_succ]
theorem rowsOf_set (k : Nat) (C : Nat → Nat) (l : List Int) (hk : k < l.length) : (rowsOf k C ++ l.drop k).set k ((C k : Nat) : Int) = rowsOf (k + 1) C ++ l.drop (k + 1) := by
  rw [List.set_append]
  simp only [rowsOf_len, Nat.lt_irrefl, if_false, Nat.sub_self]
  rw [List.drop_eq_getElem_cons hk, List.set_cons_zero, rowsOf_succ]
  simp
theorem int3 {n r v : Nat} (h : r + v ≤ n - 1) (hn : 0 < n) : (n : Int) - 1 - (r : Int) - (v : Int) = ((n - 1 - r - v : Nat) : Int) := by omega

end Go.Proofs.Ytblbimlobacciaa
