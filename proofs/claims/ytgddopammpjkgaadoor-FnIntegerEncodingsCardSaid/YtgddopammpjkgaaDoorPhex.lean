/- Proved here: the readings of hexadecimal numbers and of varints: both programs compute the same. -/
import Derived.Test.YtgddopammpjkgaaDoorPbit
namespace Go.Proofs.YtgddopammpjkgaaDoor
open Go Go.RowKit
set_option linter.unusedVariables false
set_option linter.unusedSimpArgs false

def hexVal (b : Nat) : Int := if 48 ≤ b ∧ b ≤ 57 then (b : Int) - 48 else if 97 ≤ b ∧ b ≤ 102 then (b : Int) - 87 else -1
theorem hexVal_in (b : Nat) : -1 ≤ hexVal b ∧ hexVal b ≤ 15 := by
  unfold hexVal
  split
  · omega
  · split <;> omega

theorem iHexValue (F : Nat) (b : Nat) (hb : b < 256) : S_impl_hexValue F (b : Int) = some (hexVal b) := by
  unfold S_impl_hexValue S_impl_hexValue_j1 S_impl_hexValue_j2 hexVal
  by_cases h1 : 48 ≤ b
  · by_cases h2 : b ≤ 57
    · rw [if_pos (by simp; omega), if_pos (by simp; omega), if_pos ⟨h1, h2⟩, w8, w64 (by omega) (by omega)]
      congr 1; omega
    · rw [if_pos (by simp; omega), if_neg (by simp; omega)]
      by_cases h3 : 97 ≤ b
      · rw [if_pos (by simp; omega)]
        by_cases h4 : b ≤ 102
        · rw [if_pos (by simp; omega), if_neg (by omega), if_pos ⟨h3, h4⟩, w8, w64 (n := ((b : Int) - 97) % 256) (by omega) (by omega), w64 (by omega) (by omega)]
          congr 1; omega
        · rw [if_neg (by simp; omega), if_neg (by omega), if_neg (by omega)]
      · rw [if_neg (by simp; omega), if_neg (by simp), if_neg (by omega), if_neg (by omega)]
  · rw [if_neg (by simp; omega), if_neg (by simp), if_neg (by simp; omega), if_neg (by simp), if_neg (by omega), if_neg (by omega)]

def hexTab : List UInt8 := [48, 49, 50, 51, 52, 53, 54, 55, 56, 57, 97, 98, 99, 100, 101, 102]
theorem hexTab_val : ∀ b : Nat, b < 256 → ((List.range 16).find? (fun k => (hexTab.getD k 0).toNat == b)).elim (-1 : Int) (fun k => (k : Int)) = hexVal b := by decide +kernel

theorem scan_find {β : Type} {body : Int → Option (Int ⊕ β)} (bn : β) (be : Nat → β) (q : Nat → Bool) (n : Nat) (h : ∀ k : Nat, k < n → body (k : Int) = some (if q k = true then .inr (be k) else .inl ((k + 1 : Nat) : Int))) (he : body (n : Int) = some (.inr bn)) {F : Nat} (hF : n < F) :
    loopN body F 0 = some (((List.range n).find? q).elim bn be) := by
  obtain ⟨r, hr, hh⟩ := loop_scan (body := body) (fun k : Nat => (k : Int)) bn be (fun k => !(q k)) n 0
    (fun k _ hk hp => by rw [h k (by omega), if_neg (by simpa using hp)])
    (fun k _ hk hp => by rw [h k (by omega), if_pos (by simpa using hp)]) (by simpa using he) F hF
  rw [show (((0 : Nat) : Int)) = 0 from rfl] at hr
  rw [hr]
  rcases hh with ⟨h1, rfl⟩ | ⟨k, _, h2, h3, h4, rfl⟩
  · rw [List.find?_eq_none.2 (fun k hk => by
      have := h1 k (by omega) (by simpa using hk)
      simpa using this)]
    rfl
  · have : (List.range n).find? q = some k := by
      rw [List.find?_range_eq_some]
      refine ⟨by simpa using h3, by simp; omega, fun j hj => ?_⟩
      exact h4 j (by omega) hj
    rw [this]
    rfl

end Go.Proofs.YtgddopammpjkgaaDoor
