/- Proved here: numerals: both programs write and read the same. -/
import Derived.Test.YtdalcpadcggklaaDoorPbit
import Derived.Test.YtdalcpadcggklaaDoorKS
import Derived.Lib.ItoaLen
namespace Go.Proofs.YtdalcpadcggklaaDoor
open Go Go.RowKit
set_option linter.unusedVariables false
set_option linter.unusedSimpArgs false

/-- The digits, none for 0. -/
def dz (u : Nat) : List UInt8 := if u = 0 then [] else Lib.decDigits u

theorem dz_step (u : Nat) (h : u ≠ 0) : dz u = dz (u / 10) ++ [UInt8.ofNat (48 + u % 10)] := by
  unfold dz
  rw [if_neg h]
  by_cases h10 : u < 10
  · rw [Lib.decDigits, dif_pos h10, if_pos (by omega), Nat.mod_eq_of_lt h10]
    rfl
  · rw [Lib.decDigits, dif_neg h10, if_neg (by omega)]

theorem dz_len : ∀ (k u : Nat), u < 10 ^ k → (dz u).length ≤ k
  | 0, u, h => by
    have : u = 0 := by simpa using h
    simp [dz, this]
  | k + 1, u, h => by
    by_cases h0 : u = 0
    · simp [dz, h0]
    · rw [dz_step u h0]
      have hp : 10 ^ (k + 1) = 10 ^ k * 10 := Nat.pow_succ ..
      have := dz_len k (u / 10) (by generalize 10 ^ k = q at *; omega)
      simp; omega

theorem digW (d : Nat) (h : d < 10) : u8s ([IntKind.u8.wrap (IntKind.i64.wrap (48 + (d : Int)))] : List Int) = [UInt8.ofNat (48 + d)] := by
  rw [w64 (by omega) (by omega), w8]
  have e : (48 + (d : Int)) % 256 = ((48 + d : Nat) : Int) := by omega
  rw [e]
  show [UInt8.ofNat ((48 + d : Nat) : Int).toNat] = _
  rw [Int.toNat_natCast]

theorem fmt_loop (F : Nat) (sg : Bool) : ∀ (k u : Nat) (s : List UInt8) (G : Nat), u < 10 ^ k → u ≤ 9223372036854775808 → (sg = false → u ≤ 9223372036854775807) → s.length + k ≤ 100 → k < G → loopN (σ := (Int × (List UInt8))) (β := (((List UInt8)))) (fun s => S_spec_FormatInt_l2 F s.1 s.2) G ((if sg = true then -(u : Int) else (u : Int)), s) = some (dz u ++ s)
  | 0, u, s, G, h, _, _, _, hG => by
    obtain ⟨G, rfl⟩ : ∃ H, G = H + 1 := ⟨G - 1, by omega⟩
    have : u = 0 := by simpa using h
    subst this
    have e : S_spec_FormatInt_l2 F (if sg = true then -((0 : Nat) : Int) else ((0 : Nat) : Int)) s = some (.inr s) := by
      unfold S_spec_FormatInt_l2
      cases sg <;> simp
    simp only [loopN]
    rw [e]
    simp [dz]
  | k + 1, u, s, G, h, hu, hu2, hs, hG => by
    obtain ⟨G, rfl⟩ : ∃ H, G = H + 1 := ⟨G - 1, by omega⟩
    by_cases h0 : u = 0
    · subst h0
      have e : S_spec_FormatInt_l2 F (if sg = true then -((0 : Nat) : Int) else ((0 : Nat) : Int)) s = some (.inr s) := by
        unfold S_spec_FormatInt_l2
        cases sg <;> simp
      simp only [loopN]
      rw [e]
      simp [dz]
    · have hp : 10 ^ (k + 1) = 10 ^ k * 10 := Nat.pow_succ ..
      have hq : u / 10 < 10 ^ k := by generalize 10 ^ k = q at *; omega
      have ih := fmt_loop F sg k (u / 10) ([UInt8.ofNat (48 + u % 10)] ++ s) G hq (by omega) (by omega) (by simp; omega) (by omega)
      have hm : u % 10 < 10 := Nat.mod_lt _ (by decide)
      have hj : ∀ x : Int, IntKind.i64.wrap (x.tdiv 10) = (if sg = true then -((u / 10 : Nat) : Int) else ((u / 10 : Nat) : Int)) → S_spec_FormatInt_j3 F x s ((u % 10 : Nat) : Int) = some (.inl ((if sg = true then -((u / 10 : Nat) : Int) else ((u / 10 : Nat) : Int)), [UInt8.ofNat (48 + u % 10)] ++ s)) := by
        intro x hx
        unfold S_spec_FormatInt_j3
        rw [digW _ hm, hx, catO_ok (by simp; omega), obind]
      have e : S_spec_FormatInt_l2 F (if sg = true then -(u : Int) else (u : Int)) s = some (.inl ((if sg = true then -((u / 10 : Nat) : Int) else ((u / 10 : Nat) : Int)), [UInt8.ofNat (48 + u % 10)] ++ s)) := by
        unfold S_spec_FormatInt_l2
        cases sg with
        | false =>
          simp only [Bool.false_eq_true, if_false] at hj ⊢
          have e1 : (u : Int).tmod 10 = ((u % 10 : Nat) : Int) := (Int.ofNat_tmod u 10).symm
          have e2 : (u : Int).tdiv 10 = ((u / 10 : Nat) : Int) := (Int.ofNat_tdiv u 10).symm
          rw [if_pos (show ((u : Int) != 0) = true by simpa using h0), e1, if_neg (by simp only [decide_eq_true_eq]; omega)]
          exact hj _ (by rw [e2, w64 (by omega) (by omega)])
        | true =>
          simp only [if_true] at hj ⊢
          have e1 : (-(u : Int)).tmod 10 = -((u % 10 : Nat) : Int) := by rw [Int.neg_tmod]; exact congrArg Neg.neg (Int.ofNat_tmod u 10).symm
          have e2 : (-(u : Int)).tdiv 10 = -((u / 10 : Nat) : Int) := by rw [Int.neg_tdiv]; exact congrArg Neg.neg (Int.ofNat_tdiv u 10).symm
          have hx : IntKind.i64.wrap ((-(u : Int)).tdiv 10) = -((u / 10 : Nat) : Int) := by rw [e2, w64 (by omega) (by omega)]
          rw [if_pos (show (-(u : Int) != 0) = true by simpa using h0), e1]
          by_cases hz : u % 10 = 0
          · rw [if_neg (by simp [hz])]
            have e3 : -((u % 10 : Nat) : Int) = ((u % 10 : Nat) : Int) := by omega
            rw [e3]
            exact hj _ hx
          · rw [if_pos (by simp; omega)]
            have e3 : IntKind.i64.wrap (0 - -((u % 10 : Nat) : Int)) = ((u % 10 : Nat) : Int) := by rw [w64 (by omega) (by omega)]; omega
            rw [e3]
            exact hj _ hx
      simp only [loopN]
      rw [e]
      dsimp only
      rw [ih, dz_step u h0]
      simp

theorem sFormatInt (F : Nat) (hF : 64 ≤ F) (n : Int) (h : I64 n) : S_spec_FormatInt F n = some (Lib.itoa n) := by
  obtain ⟨h1, h2⟩ := h
  unfold S_spec_FormatInt
  by_cases h0 : n = 0
  · subst h0
    rw [if_pos (by simp)]
    unfold Lib.itoa
    rw [if_neg (by omega), Lib.decDigits, dif_pos (by decide)]
    rfl
  · rw [if_neg (by simpa using h0)]
    have hp : n.natAbs < 10 ^ 20 := by
      have : (10 : Nat) ^ 20 = 100000000000000000000 := by decide
      omega
    have hl := dz_len 20 n.natAbs hp
    have hd : dz n.natAbs = Lib.decDigits n.natAbs := by unfold dz; rw [if_neg (by omega)]
    by_cases hn : n < 0
    · have := fmt_loop F true 20 n.natAbs [] F hp (by omega) (by simp) (by simp) (by omega)
      simp only [if_true] at this
      rw [show -((n.natAbs : Nat) : Int) = n by omega] at this
      rw [this, obind]
      unfold S_spec_FormatInt_j1 Lib.itoa
      rw [if_pos (by simpa using hn), if_pos hn, List.append_nil, catO_ok (by simp; omega), obind, hd]
      rfl
    · have := fmt_loop F false 20 n.natAbs [] F hp (by omega) (fun _ => by omega) (by simp) (by omega)
      simp only [Bool.false_eq_true, if_false] at this
      rw [show ((n.natAbs : Nat) : Int) = n by omega] at this
      rw [this, obind]
      unfold S_spec_FormatInt_j1 Lib.itoa
      rw [if_neg (by simpa using hn), if_neg hn, List.append_nil, hd, show n.natAbs = n.toNat by omega]

theorem iFormatInt (F : Nat) (n : Int) (h : I64 n) : S_impl_FormatInt F n = some (Lib.itoa n) := by
  unfold S_impl_FormatInt S_strconv_Itoa
  rw [if_pos (show -9223372036854775808 ≤ n ∧ n ≤ 9223372036854775807 from h)]
  rfl

/-- The numerals of a list, one behind the other. -/
def fmtL : List Int → List UInt8
  | [] => []
  | x :: l => Lib.itoa x ++ fmtL l
theorem fmtL_snoc : ∀ (l : List Int) (x : Int), fmtL (l ++ [x]) = fmtL l ++ Lib.itoa x
  | [], x => by simp [fmtL]
  | y :: l, x => by simp [fmtL, fmtL_snoc l x]
theorem fmtL_len : ∀ (l : List Int), (∀ x, x ∈ l → I64 x) → (fmtL l).length ≤ 21 * l.length
  | [], _ => by simp [fmtL]
  | x :: l, h => by
    have h1 := Lib.itoa_length_le x (h x (by simp)).1 (h x (by simp)).2
    have h2 := fmtL_len l fun y hy => h y (by simp [hy])
    simp only [fmtL, List.length_append, List.length_cons]
    omega
theorem itoa_ne (n : Int) : Lib.itoa n ≠ [] := by
  unfold Lib.itoa
  split
  · simp
  · intro h
    have := Lib.decDigits_length n.toNat
    rw [h] at this
    have h2 : 1 ≤ Lib.nDigits n.toNat := by
      rw [Lib.nDigits]
      split <;> omega
    simp at this
    omega

theorem listN_mem {s : Int} {x : Int} (h : x ∈ listN s) : 0 ≤ x ∧ x < 7 := by
  unfold listN at h
  split at h
  · obtain ⟨k, hk, _, rfl⟩ := mem_selN.1 h
    omega
  · simp at h
theorem listN_nil {s : Int} (h : inB s 0 127 = true) (h0 : listN s = []) : s = 0 := by
  obtain ⟨h1, h2⟩ := inB_iff.1 h
  obtain ⟨k, rfl⟩ : ∃ k : Nat, s = (k : Int) := ⟨s.toNat, by omega⟩
  unfold listN at h0
  rw [if_pos h] at h0
  have hb : ∀ i, i < 7 → k.testBit i = false := by
    intro i hi
    cases hx : k.testBit i with
    | false => rfl
    | true =>
      have : ((i : Nat) : Int) ∈ selN 7 (hasB (k : Int)) := mem_selN.2 ⟨i, hi, by rw [hasB_nat]; exact hx, rfl⟩
      rw [h0] at this
      simp at this
  have hk : k = 0 := by
    apply Nat.eq_of_testBit_eq
    intro i
    rw [Nat.zero_testBit]
    by_cases hi : i < 7
    · exact hb i hi
    · exact Nat.testBit_lt_two_pow (Nat.lt_of_lt_of_le (show k < 2 ^ 7 by omega) (Nat.pow_le_pow_right (by decide) (by omega)))
  omega
theorem fmtL_nil : ∀ {l : List Int}, fmtL l = [] → l = []
  | [], _ => rfl
  | x :: l, h => by
    simp only [fmtL, List.append_eq_nil_iff] at h
    exact absurd h.1 (itoa_ne x)

end Go.Proofs.YtdalcpadcggklaaDoor
