/- Proved here: bits of sets, and what the small functions on sets and bounds compute. -/
import Derived.Test.YtblbimlobacciaaPlaw
namespace Go.Proofs.Ytblbimlobacciaa
open Go Go.RowKit
set_option linter.unusedVariables false
set_option linter.unusedSimpArgs false

def inB (n lo hi : Int) : Bool := decide (lo ≤ n) && decide (n ≤ hi)
theorem inB_iff {n lo hi : Int} : inB n lo hi = true ↔ lo ≤ n ∧ n ≤ hi := by simp [inB]

theorem bAnd1 {n : Int} (h : I64 n) : bAnd n 1 = n % 2 := by
  unfold bAnd
  unfold I64 at h
  have e : (BitVec.ofInt 64 n &&& BitVec.ofInt 64 1).toNat = (n % 2).toNat := by
    rw [show BitVec.ofInt 64 1 = 1#64 from rfl]
    simp only [BitVec.toNat_and, BitVec.toNat_ofInt, BitVec.toNat_ofNat]
    rw [show (1 % 2 ^ 64 : Nat) = 1 from rfl, Nat.and_one_is_mod]
    omega
  rw [e, w64 (by omega) (by omega)]
  omega

def hasB (s : Int) (v : Nat) : Bool := s / 2 ^ v % 2 == 1

theorem shR_i64 {s : Int} (hs : I64 s) (v : Nat) : I64 (s / 2 ^ v) := by
  unfold I64 at *
  have hp : (0 : Int) < 2 ^ v := Int.pow_pos (by decide)
  have hp1 : (1 : Int) ≤ 2 ^ v := hp
  constructor
  · have := Int.le_ediv_of_mul_le hp (a := -9223372036854775808) (b := s) (by
      have h2 : (9223372036854775808 : Int) * 1 ≤ 9223372036854775808 * 2 ^ v := Int.mul_le_mul_of_nonneg_left hp1 (by decide)
      generalize (2 : Int) ^ v = q at *
      omega)
    exact this
  · have : s / 2 ^ v < 9223372036854775808 := Int.ediv_lt_of_lt_mul hp (by
      have h2 : (9223372036854775808 : Int) * 1 ≤ 9223372036854775808 * 2 ^ v := Int.mul_le_mul_of_nonneg_left hp1 (by decide)
      generalize (2 : Int) ^ v = q at *
      omega)
    omega

theorem bit_eq {s : Int} (hs : I64 s) {v : Nat} (hv : v ≤ 64) : (bAnd (shR s (v : Int)) 1 == 1) = hasB s v := by
  rw [shR_nn s v hv, bAnd1 (shR_i64 hs v)]; rfl

theorem bit_eq0 {s : Int} (hs : I64 s) {v : Nat} (hv : v ≤ 64) : (bAnd (shR s (v : Int)) 1 == 0) = !(hasB s v) := by
  rw [shR_nn s v hv, bAnd1 (shR_i64 hs v)]
  unfold hasB
  rcases Int.emod_two_eq (s / 2 ^ v) with h | h <;> simp [h]

theorem hasB_nat (a v : Nat) : hasB (a : Int) v = a.testBit v := by
  unfold hasB
  have e : (a : Int) / 2 ^ v % 2 = ((a / 2 ^ v % 2 : Nat) : Int) := by simp
  rw [e, Nat.testBit_eq_decide_div_mod_eq, Bool.eq_iff_iff]
  simp
  omega

theorem bit_nat {a v : Nat} (ha : a < 9223372036854775808) (hv : v ≤ 64) : (bAnd (shR (a : Int) (v : Int)) 1 == 1) = a.testBit v := by
  rw [bit_eq (by unfold I64; omega) hv, hasB_nat]
theorem bit_nat0 {a v : Nat} (ha : a < 9223372036854775808) (hv : v ≤ 64) : (bAnd (shR (a : Int) (v : Int)) 1 == 0) = !(a.testBit v) := by
  rw [bit_eq0 (by unfold I64; omega) hv, hasB_nat]

theorem shL1 {v : Nat} (hv : v ≤ 62) : shL 1 (v : Int) = ((2 ^ v : Nat) : Int) := by
  rw [shL_nn 1 v (by omega)]
  have h1 : (2 : Nat) ^ v ≤ 2 ^ 62 := Nat.pow_le_pow_right (by decide) hv
  have e : (1 : Int) * 2 ^ v = ((2 ^ v : Nat) : Int) := by simp
  rw [e]
  generalize (2 : Nat) ^ v = q at *
  rw [w64 (by omega) (by omega)]

def selN (n : Nat) (p : Nat → Bool) : List Int := ((List.range n).filter p).map fun (i : Nat) => (i : Int)
theorem selN_succ (n : Nat) (p : Nat → Bool) : selN (n + 1) p = if p n = true then selN n p ++ [(n : Int)] else selN n p := by
  unfold selN
  rw [List.range_succ, List.filter_append]
  by_cases h : p n = true <;> simp [h]
theorem selN_len (n : Nat) (p : Nat → Bool) : (selN n p).length ≤ n := by
  unfold selN
  rw [List.length_map]
  exact Nat.le_trans (List.length_filter_le _ _) (by simp)
theorem selN_congr {n : Nat} {p q : Nat → Bool} (h : ∀ k, k < n → p k = q k) : selN n p = selN n q := by
  unfold selN
  congr 1
  exact List.filter_congr fun x hx => h x (by simpa using hx)
theorem mem_selN {n : Nat} {p : Nat → Bool} {x : Int} : x ∈ selN n p ↔ ∃ k : Nat, k < n ∧ p k = true ∧ x = (k : Int) := by
  unfold selN
  simp only [List.mem_map, List.mem_filter, List.mem_range]
  constructor
  · rintro ⟨k, ⟨h1, h2⟩, rfl⟩; exact ⟨k, h1, h2, rfl⟩
  · rintro ⟨k, h1, h2, rfl⟩; exact ⟨k, ⟨h1, h2⟩, rfl⟩

/-- The vertices of a set. -/
def listN (s : Int) : List Int := if inB s 0 127 = true then selN 7 (hasB s) else []
theorem listN_len (s : Int) : (listN s).length ≤ 7 := by
  unfold listN
  split
  · exact selN_len _ _
  · simp

theorem sIn (F : Nat) (n lo hi : Int) : S_spec_l1In F n lo hi = some (inB n lo hi) := by
  unfold S_spec_l1In inB
  by_cases h : lo ≤ n <;> simp [h, S_spec_l1In_j1]

theorem iIn (F : Nat) (n lo hi : Int) : S_impl_within F n lo hi = some (inB n lo hi) := by
  unfold S_impl_within inB
  by_cases h : lo ≤ n <;> simp [h, S_impl_within_j1]

theorem sFine (F : Nat) (n : Int) : S_spec_l3Fine F n = some (inB n 0 127) := by
  unfold S_spec_l3Fine
  rw [sIn, obind]

theorem iHas (F : Nat) {s : Int} (hs : I64 s) {v : Nat} (hv : v ≤ 64) : S_impl_has F s (v : Int) = some (hasB s v) := by
  unfold S_impl_has
  rw [nnO_ok (by omega), obind, bit_eq hs hv]
theorem iHasN (F : Nat) {a v : Nat} (ha : a < 9223372036854775808) (hv : v ≤ 64) : S_impl_has F (a : Int) (v : Int) = some (a.testBit v) := by
  rw [iHas F (by unfold I64; omega) hv, hasB_nat]

theorem sListOf (F : Nat) (hF : 8 ≤ F) (s : Int) (hs : I64 s) : S_spec_ListOf F s = some (listN s) := by
  unfold S_spec_ListOf listN
  cases hb : inB s 0 127 with
  | false =>
    obtain ⟨m, rfl⟩ : ∃ m, F = m + 1 := ⟨F - 1, by omega⟩
    simp [loopN, S_spec_ListOf_l2, sFine, hb, S_spec_ListOf_j3, S_spec_ListOf_j1]
  | true =>
    rw [show (([] : List Int), (0 : Int)) = (fun k : Nat => (selN k (hasB s), (k : Int))) 0 from rfl]
    rw [loop_from0 (fun k : Nat => (selN k (hasB s), (k : Int))) (selN 7 (hasB s)) 7 ?_ ?_ (by omega)]
    · rfl
    · intro k hk
      unfold S_spec_ListOf_l2
      have hl := selN_len k (hasB s)
      dsimp only
      rw [if_pos (by simp; omega), sFine, obind, hb]
      unfold S_spec_ListOf_j3
      rw [if_pos rfl, nnO_ok (by omega), obind, bit_eq hs (by omega), selN_succ]
      unfold S_spec_ListOf_j4
      by_cases h : hasB s k = true
      · rw [if_pos h, if_pos h, catO_ok (by simp; omega), obind, w64 (by omega) (by omega)]
        simp
      · rw [if_neg h, if_neg h, w64 (by omega) (by omega)]
        simp
    · unfold S_spec_ListOf_l2
      dsimp only
      rw [if_neg (by simp)]
      rfl

theorem iListOf (F : Nat) (hF : 8 ≤ F) (s : Int) (hs : I64 s) : S_impl_ListOf F s = some (listN s) := by
  unfold S_impl_ListOf listN
  rw [iIn, obind]
  cases hb : inB s 0 127 with
  | false => simp
  | true =>
    rw [if_neg (by simp), if_pos rfl]
    rw [show (([] : List Int), (0 : Int)) = (fun k : Nat => (selN k (hasB s), (k : Int))) 0 from rfl]
    rw [loop_from0 (fun k : Nat => (selN k (hasB s), (k : Int))) (selN 7 (hasB s)) 7 ?_ ?_ (by omega)]
    · rfl
    · intro k hk
      unfold S_impl_ListOf_l2
      have hl := selN_len k (hasB s)
      dsimp only
      rw [if_pos (by simp; omega), iHas F hs (by omega), obind, selN_succ]
      unfold S_impl_ListOf_j3
      by_cases h : hasB s k = true
      · rw [if_pos h, if_pos h, catO_ok (by simp; omega), obind, w64 (by omega) (by omega)]
        simp
      · rw [if_neg h, if_neg h, w64 (by omega) (by omega)]
        simp
    · unfold S_impl_ListOf_l2
      dsimp only
      rw [if_neg (by simp)]

end Go.Proofs.Ytblbimlobacciaa
