/- Proved here: graphs written: both programs write the same. -/
import Derived.Test.YtdalcpadcggklaaDoorPfmt
import Derived.Test.YtdalcpadcggklaaDoorProws
namespace Go.Proofs.YtdalcpadcggklaaDoor
open Go Go.RowKit
set_option linter.unusedVariables false
set_option linter.unusedSimpArgs false

/-- The edges' text: a blank and two numerals each. -/
def fmtE : List (List Int) → List UInt8
  | [] => []
  | e :: l => 32 :: (Lib.itoa (e.getD 0 0) ++ Lib.itoa (e.getD 1 0)) ++ fmtE l
theorem fmtE_snoc : ∀ (l : List (List Int)) (e : List Int), fmtE (l ++ [e]) = fmtE l ++ (32 :: (Lib.itoa (e.getD 0 0) ++ Lib.itoa (e.getD 1 0)))
  | [], e => by simp [fmtE]
  | x :: l, e => by simp [fmtE, fmtE_snoc l e]

/-- Pairs of vertices. -/
def Prs (m : Nat) (l : List (List Int)) : Prop := ∀ e, e ∈ l → ∃ v w : Nat, e = [(v : Int), (w : Int)] ∧ v < w ∧ w < m

theorem fmtE_len {m : Nat} (hm : m ≤ 7) : ∀ (l : List (List Int)), Prs m l → (fmtE l).length ≤ 43 * l.length
  | [], _ => by simp [fmtE]
  | e :: l, h => by
    obtain ⟨v, w, rfl, h1, h2⟩ := h e (by simp)
    have a1 := Lib.itoa_length_le (v : Int) (by omega) (by omega)
    have a2 := Lib.itoa_length_le (w : Int) (by omega) (by omega)
    have h3 := fmtE_len hm l fun x hx => h x (by simp [hx])
    simp only [fmtE, List.length_append, List.length_cons, List.getD_cons_zero, List.getD_cons_succ]
    omega

theorem eIn_prs (m : Nat) (R : Nat → Nat) (v a k : Nat) (h1 : v < a) (h2 : a + k ≤ m) : Prs m (eIn R v a k) := by
  intro e he
  unfold eIn at he
  rw [List.mem_flatMap] at he
  obtain ⟨w, hw, he⟩ := he
  rw [List.mem_range'] at hw
  obtain ⟨i, hi, rfl⟩ := hw
  split at he
  · simp only [List.mem_singleton] at he
    exact ⟨v, a + 1 * i, he, by omega, by omega⟩
  · simp at he
theorem eOut_prs (m : Nat) (R : Nat → Nat) : Prs m (eOut m R m) := by
  intro e he
  unfold eOut at he
  rw [List.mem_flatMap] at he
  obtain ⟨v, hv, he⟩ := he
  rw [List.mem_range] at hv
  exact eIn_prs m R v (v + 1) (m - (v + 1)) (by omega) (by omega) e he

def fmtG (m : Nat) (R : Nat → Nat) : List UInt8 := Lib.itoa (m : Int) ++ [58] ++ fmtE (eOut m R m)

end Go.Proofs.YtdalcpadcggklaaDoor
