/- Proved here: named graphs: both programs make the same. -/
import Derived.Test.YtdalcpadcggklaaDoorPadd
namespace Go.Proofs.YtdalcpadcggklaaDoor
open Go Go.RowKit
set_option linter.unusedVariables false
set_option linter.unusedSimpArgs false

def sixN : List (List UInt8) := [[112, 97, 116, 104], [99, 121, 99, 108, 101], [99, 111, 109, 112, 108, 101, 116, 101], [115, 116, 97, 114], [119, 104, 101, 101, 108], [101, 109, 112, 116, 121]]

theorem flip_bit {R : Nat → Nat} {v w : Nat} (hne : v ≠ w) (a b : Nat) (h : ¬ (a = v ∧ b = w)) (h2 : ¬ (a = w ∧ b = v)) : (flipR R v w a).testBit b = (R a).testBit b := by
  unfold flipR
  by_cases e1 : a = v
  · subst e1
    have : ¬ w = b := fun e => h ⟨rfl, e.symm⟩
    rw [if_pos rfl, Nat.testBit_xor, Nat.testBit_two_pow]
    simp [this]
  · rw [if_neg e1]
    by_cases e2 : a = w
    · subst e2
      have : ¬ v = b := fun e => h2 ⟨rfl, e.symm⟩
      rw [if_pos rfl, Nat.testBit_xor, Nat.testBit_two_pow]
      simp [this]
    · rw [if_neg e2]

def nmE (s : List UInt8) (n v w : Nat) : Bool :=
  if (s == [112, 97, 116, 104]) = true then w == v + 1 else if (s == [99, 121, 99, 108, 101]) = true then (w == v + 1 || (v == 0 && w == n - 1)) else if (s == [99, 111, 109, 112, 108, 101, 116, 101]) = true then true
  else if (s == [115, 116, 97, 114]) = true then v == 0 else if (s == [119, 104, 101, 101, 108]) = true then (v == 0 || (w == v + 1 || (v == 1 && w == n - 1))) else false
theorem castB (a b : Nat) : ((a : Int) == (b : Int)) = (a == b) := by
  rw [Bool.eq_iff_iff, beq_iff_eq, beq_iff_eq]; omega

theorem sNamed (F : Nat) (s : List UInt8) (hs : sixN.contains s = true) {n v w : Nat} (hn : n ≤ 7) (h1 : 1 ≤ n) (hv : v < n) (hw : w < n) (x : Int) (l : List Int) : S_spec_NamedGraph_l5 F s (n : Int) (v : Int) x l (w : Int) = S_spec_NamedGraph_j7 F (v : Int) x l (w : Int) (nmE s n v w) := by
  unfold S_spec_NamedGraph_l5 nmE
  rw [if_pos (by simp; omega)]
  rw [w64 (n := (v : Int) + 1) (by omega) (by omega), w64 (n := (n : Int) - 1) (by omega) (by omega)]
  rw [show (v : Int) + 1 = ((v + 1 : Nat) : Int) by omega, show (n : Int) - 1 = ((n - 1 : Nat) : Int) by omega, castB, castB]
  rw [show ((v : Int) == 0) = (v == 0) from castB v 0, show ((v : Int) == 1) = (v == 1) from castB v 1]
  generalize (w == v + 1) = p
  generalize (v == 0) = q
  generalize (v == 1) = r
  generalize (w == n - 1) = u
  cases c1 : (s == [112, 97, 116, 104])
  · cases c2 : (s == [99, 121, 99, 108, 101])
    · cases c3 : (s == [99, 111, 109, 112, 108, 101, 116, 101])
      · cases c4 : (s == [115, 116, 97, 114])
        · cases c5 : (s == [119, 104, 101, 101, 108])
          · have c6 : (s == [101, 109, 112, 116, 121]) = true := by
              rw [List.contains_iff_mem] at hs
              simp only [sixN, List.mem_cons, List.not_mem_nil, or_false] at hs
              rw [beq_eq_false_iff_ne] at c1 c2 c3 c4 c5
              rw [beq_iff_eq]
              rcases hs with h | h | h | h | h | h
              · exact absurd h c1
              · exact absurd h c2
              · exact absurd h c3
              · exact absurd h c4
              · exact absurd h c5
              · exact h
            rw [c6]
            rfl
          · cases p <;> cases q <;> cases r <;> cases u <;> rfl
        · rfl
      · rfl
    · cases p <;> cases q <;> cases u <;> rfl
  · rfl

theorem VG_zero {n : Nat} (h1 : 1 ≤ n) (h7 : n ≤ 7) : VG n (fun _ => 0) := ⟨h1, h7, fun v hv => Nat.pow_pos (by decide), fun v hv => by simp, fun v w hv hw => by simp⟩
theorem rowsOf_zero (n : Nat) : rowsOf n (fun _ => 0) = List.replicate n 0 := by
  apply List.ext_getElem
  · simp [rowsOf]
  · intro i h1 h2; simp [rowsOf]

end Go.Proofs.YtdalcpadcggklaaDoor
