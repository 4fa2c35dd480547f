/- Proved here: the readings of hexadecimal numbers and of varints: both programs compute the same. -/
import Derived.Test.YtpafmmdilnbaeaaPbit
namespace Go.Proofs.Ytpafmmdilnbaeaa
open Go Go.RowKit
set_option linter.unusedVariables false
set_option linter.unusedSimpArgs false

def hexVal (b : Nat) : Int := if 48 ≤ b ∧ b ≤ 57 then (b : Int) - 48 else if 97 ≤ b ∧ b ≤ 102 then (b : Int) - 87 else -1
theorem hexVal_in (b : Nat) : -1 ≤ hexVal b ∧ hexVal b ≤ 15 := by
  unfold hexVal
  split
  · omega
  · split <;> omega

theorem iHexValue (F : Nat) (b : Nat) (hb : b < 256) : S_impl_hexValue F (b : Int) = some (hexVal b) := by
  unfold S_impl_hexValue S_impl_hexValue_j1 S_impl_hexValue_j2 hexVal
  by_cases h1 : 48 ≤ b
  · by_cases h2 : b ≤ 57
    · rw [if_pos (by simp; omega), if_pos (by simp; omega), if_pos ⟨h1, h2⟩, w8, w64 (by omega) (by omega)]
      congr 1; omega
    · rw [if_pos (by simp; omega), if_neg (by simp; omega)]
      by_cases h3 : 97 ≤ b
      · rw [if_pos (by simp; omega)]
        by_cases h4 : b ≤ 102
        · rw [if_pos (by simp; omega), if_neg (by omega), if_pos ⟨h3, h4⟩, w8, w64 (n := ((b : Int) - 97) % 256) (by omega) (by omega), w64 (by omega) (by omega)]
          congr 1; omega
        · rw [if_neg (by simp; omega), if_neg (by omega), if_neg (by omega)]
      · rw [if_neg (by simp; omega), if_neg (by simp), if_neg (by omega), if_neg (by omega)]
  · rw [if_neg (by simp; omega), if_neg (by simp), if_neg (by simp; omega), if_neg (by simp), if_neg (by omega), if_neg (by omega)]

def hexTab : List UInt8 := [48, 49, 50, 51, 52, 53, 54, 55, 56, 57, 97, 98, 99, 100, 101, 102]
theorem hexTab_val : ∀ b : Nat, b < 256 → ((List.range 16).find? (fun k => (hexTab.getD k 0).toNat == b)).elim (-1 : Int) (fun k => (k : Int)) = hexVal b := by decide +kernel

theorem scan_find {β : Type} {body : Int → Option (Int ⊕ β)} (bn : β) (be : Nat → β) (q : Nat → Bool) (n : Nat) (h : ∀ k : Nat, k < n → body (k : Int) = some (if q k = true then .inr (be k) else .inl ((k + 1 : Nat) : Int))) (he : body (n : Int) = some (.inr bn)) {F : Nat} (hF : n < F) :
    loopN body F 0 = some (((List.range n).find? q).elim bn be) := by
  obtain ⟨r, hr, hh⟩ := loop_scan (body := body) (fun k : Nat => (k : Int)) bn be (fun k => !(q k)) n 0
    (fun k _ hk hp => by rw [h k (by omega), if_neg (by simpa using hp)])
    (fun k _ hk hp => by rw [h k (by omega), if_pos (by simpa using hp)]) (by simpa using he) F hF
  rw [show (((0 : Nat) : Int)) = 0 from rfl] at hr
  rw [hr]
  rcases hh with ⟨h1, rfl⟩ | ⟨k, _, h2, h3, h4, rfl⟩
  · rw [List.find?_eq_none.2 (fun k hk => by
      have := h1 k (by omega) (by simpa using hk)
      simpa using this)]
    rfl
  · have : (List.range n).find? q = some k := by
      rw [List.find?_range_eq_some]
      refine ⟨by simpa using h3, by simp; omega, fun j hj => ?_⟩
      exact h4 j (by omega) hj
    rw [this]
    rfl

theorem sFromHex (F : Nat) (hF : 20 ≤ F) (b : Nat) (hb : b < 256) : S_spec_l1FromHex F (b : Int) = some (hexVal b) := by
  unfold S_spec_l1FromHex
  rw [scan_find (.inl ()) (fun k => .inr (k : Int)) (fun k => (hexTab.getD k 0).toNat == b) 16 ?_ ?_ (by omega)]
  · rw [obind, ← hexTab_val b hb]
    cases (List.range 16).find? (fun k => (hexTab.getD k 0).toNat == b) <;> simp [S_spec_l1FromHex_j1]
  · intro k hk
    unfold S_spec_l1FromHex_l2 S_spec_l1Digit
    have hl : k < hexTab.length := hk
    rw [if_pos (by simp; omega), show ([48, 49, 50, 51, 52, 53, 54, 55, 56, 57, 97, 98, 99, 100, 101, 102] : List UInt8) = hexTab from rfl, idxL_get hl, obind, obind, w64 (by omega) (by omega)]
    have e : hexTab.getD k 0 = hexTab[k] := by simp [hl]
    rw [e]
    generalize hexTab[k] = x
    by_cases h : x.toNat = b
    · simp [h]
    · have h2 : ¬ ((x.toNat : Int) = (b : Int)) := by omega
      simp [h, h2]
  · unfold S_spec_l1FromHex_l2
    simp

theorem kDecodeHex (F : Nat) (hF : 2097152 ≤ F) (s : List UInt8) (hs : s.length ≤ 1048576) : ∃ r, S_spec_DecodeHex F s = some r ∧ S_impl_DecodeHex F s = some r := by
  unfold S_spec_DecodeHex S_impl_DecodeHex
  rw [tm_nn (by omega)]
  by_cases hodd : (s.length : Int) % 2 = 1
  · rw [if_pos (by simpa using hodd), if_pos (by simp; omega)]
    exact ⟨_, rfl, rfl⟩
  rw [if_neg (by simpa using hodd), if_neg (by simp; omega)]
  obtain ⟨r, q, e1, e2, ho⟩ := loop_sim (b1 := fun s_1 : List Int × Int => S_spec_DecodeHex_l2 F s s_1.1 s_1.2) (b2 := fun s_1 : List Int × Int => S_impl_DecodeHex_l2 F s s_1.1 s_1.2)
    (fun a b => a = b ∧ ∃ k : Nat, a.2 = 2 * (k : Int) ∧ 2 * k ≤ s.length ∧ a.1.length = k) (fun a => s.length - a.2.toNat) (fun a b => a = b)
    (by
      rintro ⟨l, x⟩ t ⟨rfl, k, hx, hk, hlen⟩
      dsimp only at hx hlen ⊢
      subst hx
      unfold S_spec_DecodeHex_l2 S_impl_DecodeHex_l2
      by_cases hlt : 2 * k < s.length
      · have hlt2 : 2 * k + 1 < s.length := by omega
        have i1 : idxL s (2 * (k : Int)) = some s[2 * k] := by
          have := idxL_get hlt
          rwa [show ((2 * k : Nat) : Int) = 2 * (k : Int) by omega] at this
        have i2 : idxL s (IntKind.i64.wrap (2 * (k : Int) + 1)) = some s[2 * k + 1] := by
          have := idxL_get hlt2
          rw [w64 (by omega) (by omega)]
          rwa [show ((2 * k + 1 : Nat) : Int) = 2 * (k : Int) + 1 by omega] at this
        have b1 := s[2 * k].toNat_lt
        have b2 := s[2 * k + 1].toNat_lt
        rw [if_pos (by simp; omega), if_pos (by simp; omega), i1, i2]
        simp only [obind, sFromHex F (by omega) _ b1, sFromHex F (by omega) _ b2, iHexValue F _ b1, iHexValue F _ b2]
        have v1 := hexVal_in s[2 * k].toNat
        have v2 := hexVal_in s[2 * k + 1].toNat
        generalize hexVal s[2 * k].toNat = p at *
        generalize hexVal s[2 * k + 1].toNat = q at *
        unfold S_spec_DecodeHex_j3 S_impl_DecodeHex_j3
        by_cases hp : p < 0
        · right
          simp [hp]
        by_cases hq : q < 0
        · right
          simp [hp, hq]
        · left
          rw [if_neg (by simpa using hp), if_neg (by simpa using hq), catO_ok (by simp; omega), obind, w64 (n := 2 * (k : Int) + 2) (by omega) (by omega)]
          exact ⟨_, _, rfl, rfl, ⟨rfl, k + 1, by dsimp only; omega, by omega, by simp [hlen]⟩, by dsimp only; omega⟩
      · right
        rw [if_neg (by simp; omega), if_neg (by simp; omega)]
        exact ⟨_, _, rfl, rfl, rfl⟩)
    F ([], 0) ([], 0) ⟨rfl, 0, rfl, by omega, rfl⟩ (by dsimp only; omega)
  subst ho
  rw [e1, e2, obind, obind]
  cases r with
  | inl o => exact ⟨_, rfl, rfl⟩
  | inr o => exact ⟨_, rfl, rfl⟩

theorem P_FnExactDecodeHex (F : Nat) (hF : 2097152 ≤ F) (s : List UInt8) : S_laws_FnExactDecodeHex F s = some true := by
  unfold S_laws_FnExactDecodeHex
  by_cases h : (1048576 : Int) < (s.length : Int)
  · simp [h]
  · obtain ⟨r, h1, h2⟩ := kDecodeHex F hF s (by omega)
    rw [if_neg (by simpa using h), h1, h2, obind, obind]
    simp [S_laws_FnExactDecodeHex_j1]

end Go.Proofs.Ytpafmmdilnbaeaa
