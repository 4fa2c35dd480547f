/- Proved here: the draws give something, within bounds. -/
import Derived.Test.YtdalcpadcggklaaDoorPbit
namespace Go.Proofs.YtdalcpadcggklaaDoor
open Go Go.RowKit
set_option linter.unusedVariables false
set_option linter.unusedSimpArgs false

theorem wrapI (n : Int) : I64 (IntKind.i64.wrap n) := by
  have e : IntKind.i64.wrap n = (if 9223372036854775808 ≤ n % 18446744073709551616 then n % 18446744073709551616 - 18446744073709551616 else n % 18446744073709551616) := by
    simp [IntKind.wrap, IntKind.signed, IntKind.bits]
  rw [e]
  unfold I64
  split <;> omega

theorem bAnd_m (x : Int) (k : Nat) (hk : k ≤ 62) : 0 ≤ bAnd x (((2 ^ k - 1 : Nat)) : Int) ∧ bAnd x (((2 ^ k - 1 : Nat)) : Int) ≤ ((2 ^ k - 1 : Nat) : Int) := by
  have hp : (2 : Nat) ^ k ≤ 2 ^ 62 := Nat.pow_le_pow_right (by decide) hk
  have hp2 : (2 : Nat) ^ 62 = 4611686018427387904 := by decide
  unfold bAnd
  rw [bv_nat _ (show 2 ^ k - 1 < 2 ^ 63 by omega)]
  have h1 : (BitVec.ofInt 64 x &&& BitVec.ofNat 64 (2 ^ k - 1)).toNat ≤ 2 ^ k - 1 := by
    rw [BitVec.toNat_and, BitVec.toNat_ofNat]
    refine Nat.le_trans Nat.and_le_right ?_
    exact Nat.mod_le _ _
  generalize (BitVec.ofInt 64 x &&& BitVec.ofNat 64 (2 ^ k - 1)).toNat = q at *
  generalize 2 ^ k = p at *
  rw [w64 (by omega) (by omega)]
  omega
theorem bAnd255 (x : Int) : 0 ≤ bAnd x 255 ∧ bAnd x 255 ≤ 255 := bAnd_m x 8 (by decide)

/-- The cursor's place. -/
def Cu (code : List Int) (i : Int) : Prop := 0 ≤ i ∧ i ≤ (code.length : Int)

theorem d_New (F : Nat) (hF : 5000 ≤ F) (code : List Int) (hC : code.length ≤ 1048576) : ∃ r, S_spec_l1New F code = some r ∧ Cu code r.1 := by
  unfold S_spec_l1New
  obtain ⟨b, e, _⟩ := loop_meas (body := fun s : Int × Int => S_spec_l1New_l2 F code s.1 s.2) (fun s => 0 ≤ s.2 ∧ s.2 ≤ 4000) (fun s => 4000 - s.2.toNat) (fun _ => True) (by
    rintro ⟨x, i⟩ ⟨h0, h1⟩
    dsimp only at h0 h1 ⊢
    unfold S_spec_l1New_l2 S_spec_l1New_j3
    obtain ⟨k, rfl⟩ : ∃ k : Nat, i = (k : Int) := ⟨i.toNat, by omega⟩
    by_cases hl : (k : Int) < (code.length : Int)
    · rw [if_pos (by simpa using hl)]
      by_cases h4 : (k : Int) < 4000
      · left
        rw [if_pos (by simpa using h4), idxL_get (by omega), obind, w64 (n := (k : Int) + 1) (by omega) (by omega)]
        exact ⟨_, rfl, ⟨by dsimp only; omega, by dsimp only; omega⟩, by dsimp only; omega⟩
      · right
        rw [if_neg (by simpa using h4)]
        exact ⟨_, rfl, trivial⟩
    · right
      rw [if_neg (by simpa using hl), if_neg (by simp)]
      exact ⟨_, rfl, trivial⟩) F (IntKind.i64.wrap (10101 + (code.length : Int)), 0) ⟨by simp, by simp⟩ (by simp; omega)
  rw [e, obind]
  unfold S_spec_l1New_j1
  exact ⟨_, rfl, by unfold Cu; dsimp only; omega⟩

theorem d_Byte (F : Nat) (code : List Int) (hC : code.length ≤ 1048576) (i h : Int) (hi : Cu code i) : ∃ r, S_spec_l1Byte F code i h = some r ∧ Cu code r.2.1 ∧ 0 ≤ r.1 ∧ r.1 ≤ 255 := by
  unfold S_spec_l1Byte S_spec_l1Byte_j1
  obtain ⟨h0, h1⟩ := hi
  obtain ⟨k, rfl⟩ : ∃ k : Nat, i = (k : Int) := ⟨i.toNat, by omega⟩
  by_cases hl : (k : Int) < (code.length : Int)
  · rw [if_pos (by simpa using hl), idxL_get (by omega), obind, w64 (n := (k : Int) + 1) (by omega) (by omega)]
    exact ⟨_, rfl, ⟨by dsimp only; omega, by dsimp only; omega⟩, (bAnd255 _).1, (bAnd255 _).2⟩
  · rw [if_neg (by simpa using hl)]
    exact ⟨_, rfl, ⟨by dsimp only; omega, by dsimp only; omega⟩, (bAnd255 _).1, (bAnd255 _).2⟩

theorem d_Below (F : Nat) (code : List Int) (hC : code.length ≤ 1048576) (i h : Int) (hi : Cu code i) (n : Int) : ∃ r, S_spec_l1Below F code i h n = some r ∧ Cu code r.2.1 ∧ 0 ≤ r.1 ∧ (0 < n → r.1 < n) ∧ (n ≤ 0 → r.1 = 0) := by
  unfold S_spec_l1Below
  by_cases hn : n ≤ 0
  · rw [if_pos (by simpa using hn)]
    exact ⟨_, rfl, hi, by simp, fun h => by omega, fun _ => rfl⟩
  · rw [if_neg (by simpa using hn)]
    by_cases h256 : n ≤ 256
    · rw [if_pos (by simpa using h256)]
      obtain ⟨r, e, hc, h0, h1⟩ := d_Byte F code hC i h hi
      rw [e, obind, nzO_ok (by omega), obind, tm_nn h0]
      exact ⟨_, rfl, hc, Int.emod_nonneg _ (by omega), fun hp => Int.emod_lt_of_pos _ hp, fun h => absurd h hn⟩
    · rw [if_neg (by simpa using h256)]
      obtain ⟨r, e, hc, a0, a1⟩ := d_Byte F code hC i h hi
      rw [e, obind]
      obtain ⟨r2, e2, hc2, b0, b1⟩ := d_Byte F code hC r.2.1 r.2.2 hc
      rw [e2, obind]
      obtain ⟨r3, e3, hc3, c0, c1⟩ := d_Byte F code hC r2.2.1 r2.2.2 hc2
      rw [e3, obind]
      obtain ⟨r4, e4, hc4, d0, d1⟩ := d_Byte F code hC r3.2.1 r3.2.2 hc3
      rw [e4, obind, nzO_ok (by omega), obind]
      rw [w64 (n := r.1 * 16777216) (by omega) (by omega), w64 (n := r2.1 * 65536) (by omega) (by omega), w64 (n := r.1 * 16777216 + r2.1 * 65536) (by omega) (by omega), w64 (n := r3.1 * 256) (by omega) (by omega), w64 (n := r.1 * 16777216 + r2.1 * 65536 + r3.1 * 256) (by omega) (by omega), w64 (by omega) (by omega), tm_nn (by omega)]
      exact ⟨_, rfl, hc4, Int.emod_nonneg _ (by omega), fun hp => Int.emod_lt_of_pos _ hp, fun h => absurd h hn⟩

theorem d_Once (F : Nat) (code : List Int) (hC : code.length ≤ 1048576) (i h : Int) (hi : Cu code i) (n : Int) : ∃ r, S_spec_l1Once F code i h n = some r ∧ Cu code r.2.1 := by
  unfold S_spec_l1Once
  obtain ⟨r, e, hc, _⟩ := d_Below F code hC i h hi n
  rw [e, obind]
  exact ⟨_, rfl, hc⟩

theorem d_PickInt (F : Nat) (code : List Int) (hC : code.length ≤ 1048576) (i h : Int) (hi : Cu code i) (l : List Int) (hl : 0 < l.length) : ∃ r, S_spec_l1PickInt F code i h l = some r ∧ Cu code r.2.1 ∧ r.1 ∈ l := by
  unfold S_spec_l1PickInt
  obtain ⟨r, e, hc, h0, h1, _⟩ := d_Below F code hC i h hi (l.length : Int)
  have h1 := h1 (by omega)
  rw [e, obind]
  obtain ⟨k, hk⟩ : ∃ k : Nat, r.1 = (k : Int) := ⟨r.1.toNat, by omega⟩
  rw [hk, idxL_get (by omega), obind]
  exact ⟨_, rfl, hc, List.getElem_mem _⟩

theorem d_Pick (F : Nat) (code : List Int) (hC : code.length ≤ 1048576) (i h : Int) (hi : Cu code i) (l : List (List UInt8)) (hl : 0 < l.length) : ∃ r, S_spec_l1Pick F code i h l = some r ∧ Cu code r.2.1 ∧ r.1 ∈ l := by
  unfold S_spec_l1Pick
  obtain ⟨r, e, hc, h0, h1, _⟩ := d_Below F code hC i h hi (l.length : Int)
  have h1 := h1 (by omega)
  rw [e, obind]
  obtain ⟨k, hk⟩ : ∃ k : Nat, r.1 = (k : Int) := ⟨r.1.toNat, by omega⟩
  rw [hk, idxL_get (by omega), obind]
  exact ⟨_, rfl, hc, List.getElem_mem _⟩

theorem d_Text (F : Nat) (hF : 2000 ≤ F) (code : List Int) (hC : code.length ≤ 1048576) (i h : Int) (hi : Cu code i) (most : Int) (h0 : 0 ≤ most) (h1 : most ≤ 1000) : ∃ r, S_spec_l1Text F code i h most = some r ∧ Cu code r.2.1 ∧ (r.1.length : Int) ≤ most := by
  unfold S_spec_l1Text
  obtain ⟨r, e, hc, _⟩ := d_Below F code hC i h hi 4
  rw [e, obind, w64 (by omega) (by omega)]
  obtain ⟨q, e2, hc2, g0, g1, _⟩ := d_Below F code hC r.2.1 r.2.2 hc (most + 1)
  have g1 := g1 (by omega)
  rw [e2, obind]
  obtain ⟨b, e3, hb1, hb2⟩ := loop_meas (body := fun s : Int × Int × (List Int) × Int => S_spec_l1Text_l2 F code r s.1 s.2.1 s.2.2.1 s.2.2.2) (fun s => Cu code s.1 ∧ 0 ≤ s.2.2.2 ∧ (s.2.2.1.length : Int) + s.2.2.2 ≤ most) (fun s => s.2.2.2.toNat) (fun b => Cu code b.2.1 ∧ (b.1.length : Int) ≤ most) (by
    rintro ⟨i, h, l, x⟩ ⟨a1, a2, a3⟩
    dsimp only at a1 a2 a3 ⊢
    unfold S_spec_l1Text_l2
    by_cases hx : 0 < x
    · left
      rw [if_pos (by simpa using hx)]
      obtain ⟨y, e4, hc4, _⟩ := d_Byte F code hC i h a1
      rw [e4, obind]
      have hj4 : ∀ z, ∃ t, S_spec_l1Text_j4 F l x y z = some (.inl t) ∧ (Cu code t.1 ∧ 0 ≤ t.2.2.2 ∧ (t.2.2.1.length : Int) + t.2.2.2 ≤ most) ∧ t.2.2.2.toNat < x.toNat := by
        intro z
        unfold S_spec_l1Text_j4
        rw [catO_ok (by simp; omega), obind, w64 (n := x - 1) (by omega) (by omega)]
        exact ⟨_, rfl, ⟨hc4, by dsimp only; omega, by dsimp only; simp; omega⟩, by dsimp only; omega⟩
      have hj3 : ∀ z, ∃ t, S_spec_l1Text_j3 F r l x y z = some (.inl t) ∧ (Cu code t.1 ∧ 0 ≤ t.2.2.2 ∧ (t.2.2.1.length : Int) + t.2.2.2 ≤ most) ∧ t.2.2.2.toNat < x.toNat := by
        intro z
        unfold S_spec_l1Text_j3
        split <;> exact hj4 _
      split <;> exact hj3 _
    · right
      rw [if_neg (by simpa using hx)]
      exact ⟨_, rfl, a1, by dsimp only; omega⟩) F (q.2.1, q.2.2, [], q.1) ⟨hc2, g0, by simp; omega⟩ (by dsimp only; omega)
  rw [e3, obind]
  unfold S_spec_l1Text_j1
  exact ⟨_, rfl, hb1, by simp [u8s]; exact hb2⟩

theorem bigL (F : Nat) (code : List Int) : S_laws_big F code = some (decide ((1048576 : Int) < (code.length : Int))) := rfl

end Go.Proofs.YtdalcpadcggklaaDoor
