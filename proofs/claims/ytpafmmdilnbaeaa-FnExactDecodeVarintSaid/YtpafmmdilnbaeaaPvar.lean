/- Proved here: varints are read alike by both programs. -/
import Derived.Test.YtpafmmdilnbaeaaPhex
namespace Go.Proofs.Ytpafmmdilnbaeaa
open Go Go.RowKit
set_option linter.unusedVariables false
set_option linter.unusedSimpArgs false

/-- The bytes of a number, the low seven bits first. -/
def vb : Nat → Nat → List Nat
  | 0, n => [n]
  | f + 1, n => if n < 128 then [n] else (128 + n % 128) :: vb f (n / 128)
def lv : List Nat → Nat
  | [] => 0
  | b :: r => b % 128 + 128 * lv r
/-- A list that is the bytes of a number. -/
def good : List Nat → Bool
  | [] => false
  | [b] => decide (b < 128)
  | b :: c :: r => decide (128 ≤ b) && good (c :: r) && ((c :: r).getLast (by simp) != 0)

theorem lv_zero_last : ∀ (t : List Nat) (h : t ≠ []), good t = true → t.getLast h ≠ 0 → lv t ≠ 0
  | [], h, _, _ => absurd rfl h
  | [b], h, hg, hl => by
    simp only [good, decide_eq_true_eq] at hg
    simp at hl
    simp only [lv]
    omega
  | b :: c :: r, h, hg, hl => by
    simp only [good, Bool.and_eq_true] at hg
    have := lv_zero_last (c :: r) (by simp) hg.1.2 (by simpa using hl)
    simp only [lv] at this ⊢
    omega

theorem vb_good : ∀ (f : Nat) (t : List Nat), t ≠ [] → t.length ≤ f + 1 → (∀ b, b ∈ t → b < 256) → (vb f (lv t) = t ↔ good t = true)
  | f, [b], _, _, hb => by
    have hb2 := hb b (by simp)
    have hm : b % 128 < 128 := Nat.mod_lt _ (by decide)
    have e : vb f (lv [b]) = [b % 128] := by
      cases f <;> simp [vb, lv]
      omega
    rw [e]
    simp only [good, decide_eq_true_eq, List.cons.injEq, and_true]
    omega
  | 0, b :: c :: r, _, hl, _ => by simp at hl
  | f + 1, b :: c :: r, _, hl, hb => by
    have hb2 := hb b (by simp)
    have ih := vb_good f (c :: r) (by simp) (by simpa using hl) (fun x hx => hb x (by simp [hx]))
    have elv : lv (b :: c :: r) = b % 128 + 128 * lv (c :: r) := rfl
    rw [elv]
    by_cases h0 : lv (c :: r) = 0
    · have e : vb (f + 1) (b % 128 + 128 * lv (c :: r)) = [b % 128] := by
        rw [h0]; simp only [vb]; rw [if_pos (by omega)]; simp
      rw [e]
      constructor
      · intro h; simp at h
      · intro h
        simp only [good, Bool.and_eq_true, bne_iff_ne] at h
        exact absurd h0 (lv_zero_last (c :: r) (by simp) h.1.2 h.2)
    · have e : vb (f + 1) (b % 128 + 128 * lv (c :: r)) = (128 + b % 128) :: vb f (lv (c :: r)) := by
        simp only [vb]
        rw [if_neg (by omega), show (b % 128 + 128 * lv (c :: r)) % 128 = b % 128 by omega, show (b % 128 + 128 * lv (c :: r)) / 128 = lv (c :: r) by omega]
      rw [e, List.cons.injEq, ih]
      simp only [good, Bool.and_eq_true, decide_eq_true_eq, bne_iff_ne]
      constructor
      · rintro ⟨h1, h2⟩
        refine ⟨⟨by omega, h2⟩, fun hlast => h0 ?_⟩
        cases r with
        | nil =>
          simp at hlast
          subst hlast
          rfl
        | cons d r2 =>
          simp only [good, Bool.and_eq_true, bne_iff_ne] at h2
          exact absurd (by simpa using hlast) h2.2
      · rintro ⟨⟨h1, h2⟩, _⟩
        exact ⟨by omega, h2⟩

theorem lv_lt : ∀ (t : List Nat), lv t < 128 ^ t.length
  | [] => by simp [lv]
  | b :: r => by
    have := lv_lt r
    simp only [lv, List.length_cons, Nat.pow_succ]
    omega
theorem lv_snoc (t : List Nat) (b : Nat) : lv (t ++ [b]) = lv t + (b % 128) * 128 ^ t.length := by
  induction t with
  | nil => simp [lv]
  | cons a r ih =>
    simp only [List.cons_append, lv, ih, List.length_cons, Nat.pow_succ, Nat.mul_add]
    rw [show 128 * (b % 128 * 128 ^ r.length) = b % 128 * (128 ^ r.length * 128) by rw [Nat.mul_comm 128, Nat.mul_assoc]]
    omega

theorem vb_len : ∀ (f n : Nat), (vb f n).length ≤ f + 1
  | 0, n => by simp [vb]
  | f + 1, n => by
    simp only [vb]
    split
    · simp
    · have := vb_len f (n / 128)
      simp; omega
theorem vb_lt : ∀ (f n : Nat), n < 128 ^ (f + 1) → ∀ b, b ∈ vb f n → b < 256
  | 0, n, h, b, hb => by
    simp [vb] at hb
    simp at h
    omega
  | f + 1, n, h, b, hb => by
    simp only [vb] at hb
    split at hb
    · simp at hb; omega
    · rcases List.mem_cons.1 hb with rfl | hb
      · omega
      · refine vb_lt f (n / 128) ?_ b hb
        rw [Nat.pow_succ] at h
        omega
def byN (l : List Nat) : List Int := l.map fun b => ((b : Nat) : Int)

theorem sEnc_loop (F0 : Nat) : ∀ (f n : Nat) (l : List Int) (F : Nat), n < 128 ^ (f + 1) → l.length + f ≤ 8 → f ≤ 6 → f < F →
    ∃ (x : Nat) (l2 : List Int), loopN (σ := Int × List Int) (β := Int × List Int) (fun s => S_spec_EncodeVarint_l2 F0 s.1 s.2) F ((n : Int), l) = some ((x : Int), l2) ∧ l2 ++ [(x : Int)] = l ++ byN (vb f n) ∧ x < 128 ∧ l2.length ≤ 8
  | f, n, l, F, hn, hl, hf6, hF => by
    obtain ⟨q, rfl⟩ : ∃ q, F = q + 1 := ⟨F - 1, by omega⟩
    simp only [loopN]
    unfold S_spec_EncodeVarint_l2
    by_cases h : n < 128
    · rw [if_neg (by simp; omega)]
      refine ⟨n, l, rfl, ?_, h, by omega⟩
      cases f with
      | zero => simp [vb, byN]
      | succ f => simp [vb, byN, h]
    · cases f with
      | zero => simp at hn; omega
      | succ f =>
        have hdiv : n / 128 < 128 ^ (f + 1) := by
          rw [Nat.pow_succ] at hn
          omega
        have hbig : n < 128 ^ 7 := Nat.lt_of_lt_of_le hn (Nat.pow_le_pow_right (by decide) (by omega))
        simp only [Nat.reducePow] at hbig
        have e1 : IntKind.i64.wrap ((n : Int).tdiv 128) = ((n / 128 : Nat) : Int) := by
          rw [td_nn (by omega), w64 (by omega) (by omega)]; omega
        have e2 : IntKind.u8.wrap (IntKind.i64.wrap (128 + (n : Int).tmod 128)) = ((128 + n % 128 : Nat) : Int) := by
          rw [tm_nn (by omega), w64 (by omega) (by omega), w8]; omega
        rw [if_pos (by simp; omega), catO_ok (by simp; omega), obind, e1, e2]
        obtain ⟨x, l2, i1, i2, i3, i4⟩ := sEnc_loop F0 f (n / 128) (l ++ [((128 + n % 128 : Nat) : Int)]) q hdiv (by simp; omega) (by omega) (by omega)
        refine ⟨x, l2, i1, ?_, i3, i4⟩
        rw [i2]
        simp only [vb, if_neg h, byN, List.map_cons, List.append_assoc, List.singleton_append]

theorem sEnc (F : Nat) (hF : 20 ≤ F) (n : Nat) (hn : n ≤ 562949953421311) : S_spec_EncodeVarint F (n : Int) = some (u8s (byN (vb 6 n))) := by
  unfold S_spec_EncodeVarint
  rw [sIn, obind, inB_iff.2 (show (0 : Int) ≤ (n : Int) ∧ (n : Int) ≤ 562949953421311 by omega), if_neg (by simp)]
  obtain ⟨x, l2, i1, i2, i3, i4⟩ := sEnc_loop F 6 n [] F (by simp only [Nat.reducePow, Nat.reduceAdd]; omega) (by simp) (by omega) (by omega)
  rw [i1, obind]
  unfold S_spec_EncodeVarint_j1
  have e : IntKind.u8.wrap (x : Int) = (x : Int) := by rw [w8]; omega
  rw [catO_ok (by simp; omega), obind, e, i2]
  simp

theorem good_iff : ∀ (t : List Nat), t ≠ [] → (good t = true ↔ (∀ i, i + 1 < t.length → 128 ≤ t.getD i 0) ∧ t.getD (t.length - 1) 0 < 128 ∧ (t.length = 1 ∨ t.getD (t.length - 1) 0 ≠ 0))
  | [b], _ => by simp [good]
  | b :: c :: r, _ => by
    have ih := good_iff (c :: r) (by simp)
    have hlast : (c :: r).getLast (by simp) = (c :: r).getD ((c :: r).length - 1) 0 := by
      rw [List.getLast_eq_getElem]
      simp
    simp only [good, Bool.and_eq_true, decide_eq_true_eq, bne_iff_ne, ih, hlast]
    have e : (b :: c :: r).getD ((b :: c :: r).length - 1) 0 = (c :: r).getD ((c :: r).length - 1) 0 := by
      simp
    rw [e]
    generalize (c :: r).getD ((c :: r).length - 1) 0 = z
    constructor
    · rintro ⟨⟨h1, h2, h3, _⟩, h5⟩
      refine ⟨fun i hi => ?_, h3, .inr h5⟩
      cases i with
      | zero => simpa using h1
      | succ i =>
        have := h2 i (by simp only [List.length_cons] at hi ⊢; omega)
        simpa using this
    · rintro ⟨h1, h3, h4⟩
      have hz : z ≠ 0 := by
        rcases h4 with h4 | h4
        · simp at h4
        · exact h4
      refine ⟨⟨by simpa using h1 0 (by simp), fun i hi => ?_, h3, .inr hz⟩, hz⟩
      have := h1 (i + 1) (by simp only [List.length_cons] at hi ⊢; omega)
      simpa using this

def tN (s : List UInt8) (k : Nat) : List Nat := (s.take k).map UInt8.toNat
theorem tN_len {s : List UInt8} {k : Nat} (h : k ≤ s.length) : (tN s k).length = k := by simp [tN]; omega
theorem tN_getD {s : List UInt8} {k i : Nat} (h : i < k) (hk : k ≤ s.length) : (tN s k).getD i 0 = (s[i]'(by omega)).toNat := by
  have hi : i < (tN s k).length := by rw [tN_len hk]; exact h
  rw [List.getD_eq_getElem?_getD, List.getElem?_eq_getElem hi, Option.getD_some]
  simp [tN]
theorem tN_snoc {s : List UInt8} {k : Nat} (h : k < s.length) : tN s (k + 1) = tN s k ++ [(s[k]).toNat] := by
  unfold tN
  rw [snoc_take s k h, List.map_append]; rfl
theorem tN_lt (s : List UInt8) (k : Nat) : ∀ b, b ∈ tN s k → b < 256 := by
  intro b hb
  simp only [tN, List.mem_map] at hb
  obtain ⟨x, _, rfl⟩ := hb
  exact x.toNat_lt
theorem u8s_byN {L : List Nat} (h : ∀ b, b ∈ L → b < 256) (t : List UInt8) : u8s (byN L) = t ↔ L = t.map UInt8.toNat := by
  have e : (u8s (byN L)).map UInt8.toNat = L := by
    unfold u8s byN
    rw [List.map_map, List.map_map]
    conv => rhs; rw [← List.map_id L]
    refine List.map_congr_left fun b hb => ?_
    have := h b hb
    simp [Function.comp]
    omega
  constructor
  · intro g; rw [← g, e]
  · intro g
    have inj : ∀ (a b : List UInt8), a.map UInt8.toNat = b.map UInt8.toNat → a = b := by
      intro a
      induction a with
      | nil => intro b hab; cases b with
        | nil => rfl
        | cons y r => simp at hab
      | cons x q ih => intro b hab; cases b with
        | nil => simp at hab
        | cons y r =>
          simp only [List.map_cons, List.cons.injEq] at hab
          rw [UInt8.toNat_inj.1 hab.1, ih r hab.2]
    exact inj _ _ (by rw [e, g])

theorem sVal (F : Nat) (hF : 20 ≤ F) (s : List UInt8) {k : Nat} (hk : k ≤ s.length) (h7 : k ≤ 7) : loopN (σ := Int × Int) (β := Int) (fun x => S_spec_DecodeVarint_l5 F s x.1 x.2) F (0, (k : Int) - 1) = some ((lv (tN s k) : Nat) : Int) := by
  have bnd : ∀ j, lv ((tN s k).drop j) < 562949953421312 := fun j => by
    have h1 := lv_lt ((tN s k).drop j)
    have h2 : ((tN s k).drop j).length ≤ 7 := by rw [List.length_drop, tN_len hk]; omega
    have h3 := Nat.pow_le_pow_right (show 0 < 128 by decide) h2
    have h4 : 128 ^ 7 = 562949953421312 := by decide
    omega
  have hlen := tN_len hk
  rw [show ((0 : Int), (k : Int) - 1) = (fun j : Nat => (((lv ((tN s k).drop (k - j)) : Nat) : Int), (k : Int) - 1 - (j : Int))) 0 by
    have : (tN s k).drop k = [] := List.drop_eq_nil_of_le (by omega)
    simp [this, lv]]
  rw [loop_from0 (fun j : Nat => (((lv ((tN s k).drop (k - j)) : Nat) : Int), (k : Int) - 1 - (j : Int))) ((lv (tN s k) : Nat) : Int) k ?_ ?_ (by omega)]
  · intro j hj
    unfold S_spec_DecodeVarint_l5
    dsimp only
    obtain ⟨i, hi⟩ : ∃ i : Nat, i = k - 1 - j := ⟨_, rfl⟩
    have e : (k : Int) - 1 - (j : Int) = (i : Int) := by omega
    have his : i < s.length := by omega
    have hil : i < (tN s k).length := by omega
    have hb := bnd (k - j)
    have hg : (tN s k)[i] = (s[i]).toNat := by
      have := tN_getD (s := s) (k := k) (i := i) (by omega) hk
      simpa [hil] using this
    have hx := s[i].toNat_lt
    rw [e, if_pos (by simp), idxL_get his, obind, show k - (j + 1) = i by omega, List.drop_eq_getElem_cons hil, hg, show i + 1 = k - j by omega]
    simp only [lv]
    generalize lv ((tN s k).drop (k - j)) = y at *
    rw [w64 (n := (y : Int) * 128) (by omega) (by omega), w64 (n := ((s[i]).toNat : Int)) (by omega) (by omega), tm_nn (by omega), w64 (by omega) (by omega), w64 (by omega) (by omega)]
    congr 3
    · omega
    · omega
  · unfold S_spec_DecodeVarint_l5
    dsimp only
    rw [if_neg (by simp; omega), show k - k = 0 by omega, List.drop_zero]

theorem sDec (F : Nat) (hF : 2097152 ≤ F) (s : List UInt8) (hs : s.length ≤ 1048576) : ∃ r, S_spec_DecodeVarint F s = some r ∧
    (((∀ j, j < min 7 s.length → good (tN s (j + 1)) = false) ∧ r = (0, 0)) ∨ ∃ j, j < min 7 s.length ∧ good (tN s (j + 1)) = true ∧ (∀ i, i < j → good (tN s (i + 1)) = false) ∧ r = (((lv (tN s (j + 1)) : Nat) : Int), ((j + 1 : Nat) : Int))) := by
  unfold S_spec_DecodeVarint
  have step : ∀ j, j < min 7 s.length → S_spec_DecodeVarint_l2 F s ((j + 1 : Nat) : Int) = some (if good (tN s (j + 1)) = true then .inr (.inr (((lv (tN s (j + 1)) : Nat) : Int), ((j + 1 : Nat) : Int))) else .inl ((j + 1 + 1 : Nat) : Int)) := fun j hj => by
    have hk : j + 1 ≤ s.length := by omega
    have h7 : j + 1 ≤ 7 := by omega
    have hne : tN s (j + 1) ≠ [] := by
      intro e
      have := tN_len hk
      rw [e] at this
      simp at this
    have hl := lv_lt (tN s (j + 1))
    rw [tN_len hk] at hl
    have h3 := Nat.pow_le_pow_right (show 0 < 128 by decide) h7
    have h4 : 128 ^ 7 = 562949953421312 := by decide
    have hv := vb_good 6 (tN s (j + 1)) hne (by rw [tN_len hk]; omega) (tN_lt s (j + 1))
    have hbl := vb_lt 6 (lv (tN s (j + 1))) (by omega)
    have hu := u8s_byN hbl (s.take (j + 1))
    unfold S_spec_DecodeVarint_l2 S_spec_DecodeVarint_j3
    rw [if_pos (by simp; omega), if_pos (by simp; omega)]
    rw [show IntKind.i64.wrap (((j + 1 : Nat) : Int) - 1) = ((j + 1 : Nat) : Int) - 1 by rw [w64 (by omega) (by omega)], sVal F (by omega) s hk h7, obind]
    unfold S_spec_DecodeVarint_j4
    rw [sl2O_ok (by omega) (by omega) (by omega), obind, sEnc F (by omega) _ (by omega), obind]
    rw [show ((s.drop (0 : Int).toNat).take ((((j + 1 : Nat) : Int)).toNat - (0 : Int).toNat)) = s.take (j + 1) by simp, w64 (by omega) (by omega)]
    cases hg : good (tN s (j + 1)) with
    | true =>
      rw [if_pos (by rw [beq_iff_eq, hu]; exact hv.2 hg)]
      simp
    | false =>
      rw [if_neg (by
        rw [beq_iff_eq, hu]
        intro e
        have := hv.1 e
        rw [hg] at this; cases this)]
      simp
  obtain ⟨r, hr, hh⟩ := loop_scan (body := fun x => S_spec_DecodeVarint_l2 F s x) (fun j : Nat => ((j + 1 : Nat) : Int)) (.inl ()) (fun j => .inr (((lv (tN s (j + 1)) : Nat) : Int), ((j + 1 : Nat) : Int))) (fun j => !(good (tN s (j + 1)))) (min 7 s.length) 0
    (fun j _ hj hq => by rw [step j (by omega), if_neg (by simpa using hq)])
    (fun j _ hj hq => by rw [step j (by omega), if_pos (by simpa using hq)])
    (by
      unfold S_spec_DecodeVarint_l2 S_spec_DecodeVarint_j3
      by_cases h : s.length < 7
      · rw [if_pos (by simp; omega), if_neg (by simp; omega)]
      · rw [if_neg (by simp; omega), if_neg (by simp)]) F (by omega)
  rw [show (((0 + 1 : Nat) : Int)) = 1 from rfl] at hr
  rw [hr, obind]
  rcases hh with ⟨h1, rfl⟩ | ⟨j, _, hj, hq, hb, rfl⟩
  · exact ⟨_, rfl, .inl ⟨fun j hj => by simpa using h1 j (by omega) (by omega), rfl⟩⟩
  · exact ⟨_, rfl, .inr ⟨j, by omega, by simpa using hq, fun i hi => by simpa using hb i (by omega) hi, rfl⟩⟩

theorem or_lv (a b k : Nat) (ha : a < 128 ^ k) : a ||| b * 128 ^ k = a + b * 128 ^ k := by
  have e : (128 : Nat) ^ k = 2 ^ (7 * k) := by rw [Nat.pow_mul]
  rw [e] at ha ⊢
  have := Nat.two_pow_add_eq_or_of_lt (i := 7 * k) (b := a) ha b
  rw [Nat.or_comm, Nat.mul_comm b, ← this]
  omega

theorem iDec (F : Nat) (hF : 2097152 ≤ F) (s : List UInt8) (hs : s.length ≤ 1048576) : ∃ r, S_impl_DecodeVarint F s = some r ∧
    (((∀ i (hi : i < min 7 s.length), 128 ≤ (s[i]'(by omega)).toNat) ∧ r = (0, 0)) ∨ ∃ i, ∃ hi : i < min 7 s.length, (s[i]'(by omega)).toNat < 128 ∧ (∀ j (hj : j < i), 128 ≤ (s[j]'(by omega)).toNat) ∧ r = if 0 < i ∧ (s[i]'(by omega)).toNat = 0 then (0, 0) else (((lv (tN s (i + 1)) : Nat) : Int), ((i + 1 : Nat) : Int))) := by
  unfold S_impl_DecodeVarint
  have step : ∀ i (hi : i < min 7 s.length), S_impl_DecodeVarint_l2 F s ((lv (tN s i) : Nat) : Int) (i : Int) = some (if (128 ≤ (s[i]'(by omega)).toNat) then .inl (((lv (tN s (i + 1)) : Nat) : Int), ((i + 1 : Nat) : Int)) else .inr (.inr (if 0 < i ∧ (s[i]'(by omega)).toNat = 0 then (0, 0) else (((lv (tN s (i + 1)) : Nat) : Int), ((i + 1 : Nat) : Int))))) := fun i hi => by
    have his : i < s.length := by omega
    have hx := s[i].toNat_lt
    have hl := lv_lt (tN s i)
    rw [tN_len (by omega)] at hl
    have hp : 128 ^ i ≤ 128 ^ 6 := Nat.pow_le_pow_right (by decide) (by omega)
    have hp6 : 128 ^ 6 = 4398046511104 := by decide
    unfold S_impl_DecodeVarint_l2 S_impl_DecodeVarint_j3
    rw [if_pos (by simp; omega), if_pos (by simp; omega), idxL_get his, obind, w64 (n := 7 * (i : Int)) (by omega) (by omega), nnO_ok (by omega), obind, obind]
    have hm : (s[i].toNat : Int).tmod 128 = ((s[i].toNat % 128 : Nat) : Int) := by rw [tm_nn (by omega)]; omega
    have hm2 : s[i].toNat % 128 < 128 := Nat.mod_lt _ (by decide)
    have hmul : s[i].toNat % 128 * 128 ^ i ≤ 127 * 128 ^ i := Nat.mul_le_mul_right _ (by omega)
    have hsh : shL (IntKind.i64.wrap ((s[i].toNat : Int).tmod 128)) (7 * (i : Int)) = ((s[i].toNat % 128 * 128 ^ i : Nat) : Int) := by
      rw [hm, w64 (n := ((s[i].toNat % 128 : Nat) : Int)) (by omega) (by omega), show 7 * (i : Int) = ((7 * i : Nat) : Int) by omega, shL_nn _ (7 * i) (by omega)]
      have e2 : ((s[i].toNat % 128 : Nat) : Int) * 2 ^ (7 * i) = ((s[i].toNat % 128 * 128 ^ i : Nat) : Int) := by
        rw [Int.pow_mul]; simp
      rw [e2, w64 (by omega) (by omega)]
    have hor : bOr ((lv (tN s i) : Nat) : Int) (shL (IntKind.i64.wrap ((s[i].toNat : Int).tmod 128)) (7 * (i : Int))) = ((lv (tN s (i + 1)) : Nat) : Int) := by
      rw [hsh, bOr_nat _ _ (by omega) (by omega), or_lv _ _ _ hl, tN_snoc his, lv_snoc, tN_len (by omega)]
    rw [hor]
    unfold S_impl_DecodeVarint_j4
    rw [w64 (n := (i : Int) + 1) (by omega) (by omega), w64 (n := 7 * (i : Int)) (by omega) (by omega), hor]
    by_cases hb : s[i].toNat < 128
    · rw [if_pos (by simp; omega), if_neg (show ¬ 128 ≤ s[i].toNat by omega)]
      by_cases h0 : 0 < i
      · rw [if_pos (by simpa using h0), obind]
        by_cases hz : s[i].toNat = 0
        · rw [if_pos (by simp [hz]), if_pos ⟨h0, hz⟩]
        · rw [if_neg (by simp; omega), if_neg (fun h => hz h.2)]
          simp
      · rw [if_neg (by simpa using h0), if_neg (show ¬ (false = true) by simp), if_neg (fun h => h0 h.1)]
        simp
    · rw [if_neg (by simp; omega), if_pos (show 128 ≤ s[i].toNat by omega)]
      simp
  have hB : ∀ i (h : i < s.length), (s.getD i 0) = s[i] := fun i h => by simp [h]
  obtain ⟨r, hr, hh⟩ := loop_scan (body := fun x : Int × Int => S_impl_DecodeVarint_l2 F s x.1 x.2) (fun i : Nat => (((lv (tN s i) : Nat) : Int), (i : Int))) (.inl ()) (fun i => .inr (if 0 < i ∧ (s.getD i 0).toNat = 0 then (0, 0) else (((lv (tN s (i + 1)) : Nat) : Int), ((i + 1 : Nat) : Int)))) (fun i => decide (128 ≤ (s.getD i 0).toNat)) (min 7 s.length) 0
    (fun i _ hi hq => by
      have his : i < s.length := by omega
      dsimp only
      rw [decide_eq_true_eq, hB i his] at hq
      rw [step i (by omega), if_pos hq])
    (fun i _ hi hq => by
      have his : i < s.length := by omega
      dsimp only
      rw [decide_eq_false_iff_not, hB i his] at hq
      rw [step i (by omega), if_neg hq, hB i his])
    (by
      unfold S_impl_DecodeVarint_l2 S_impl_DecodeVarint_j3
      dsimp only
      by_cases h : s.length ≤ 7
      · rw [if_neg (by simp; omega), if_neg (by simp)]
      · rw [if_pos (by simp; omega), if_neg (by simp; omega)]) F (by omega)
  rw [show lv (tN s 0) = 0 from rfl, show (((0 : Nat) : Int)) = 0 from rfl] at hr
  rw [hr, obind]
  rcases hh with ⟨h1, rfl⟩ | ⟨i, _, hi, hq, hb, rfl⟩
  · refine ⟨_, rfl, .inl ⟨fun i hi => ?_, rfl⟩⟩
    have := h1 i (by omega) (by omega)
    rw [decide_eq_true_eq, hB i (by omega)] at this
    exact this
  · refine ⟨_, rfl, .inr ⟨i, by omega, ?_, fun j hj => ?_, ?_⟩⟩
    · rw [decide_eq_false_iff_not, hB i (by omega)] at hq
      omega
    · have := hb j (by omega) hj
      rw [decide_eq_true_eq, hB j (by omega)] at this
      exact this
    · rw [hB i (by omega)]

theorem kDecodeVarint (F : Nat) (hF : 2097152 ≤ F) (s : List UInt8) (hs : s.length ≤ 1048576) : ∃ r, S_spec_DecodeVarint F s = some r ∧ S_impl_DecodeVarint F s = some r := by
  obtain ⟨r, e1, h1⟩ := sDec F hF s hs
  obtain ⟨q, e2, h2⟩ := iDec F hF s hs
  have gi : ∀ j (hj : j < min 7 s.length), good (tN s (j + 1)) = true ↔ (∀ i (hi : i < j), 128 ≤ (s[i]'(by omega)).toNat) ∧ (s[j]'(by omega)).toNat < 128 ∧ (j = 0 ∨ (s[j]'(by omega)).toNat ≠ 0) := fun j hj => by
    have hk : j + 1 ≤ s.length := by omega
    have hne : tN s (j + 1) ≠ [] := by
      intro e
      have := tN_len hk
      rw [e] at this
      simp at this
    rw [good_iff _ hne, tN_len hk, show j + 1 - 1 = j by omega, tN_getD (by omega) hk]
    constructor
    · rintro ⟨a, b, c⟩
      refine ⟨fun i hi => ?_, b, by omega⟩
      have := a i (by omega)
      rwa [tN_getD (by omega) hk] at this
    · rintro ⟨a, b, c⟩
      refine ⟨fun i hi => ?_, b, by omega⟩
      rw [tN_getD (by omega) hk]
      exact a i (by omega)
  have hrq : r = q := by
    rcases h2 with ⟨a2, rfl⟩ | ⟨i, hi, b2, c2, rfl⟩
    · rcases h1 with ⟨_, rfl⟩ | ⟨j, hj, a1, _, rfl⟩
      · rfl
      · have := ((gi j hj).1 a1).2.1
        have := a2 j hj
        omega
    · have only : ∀ j (hj : j < min 7 s.length), good (tN s (j + 1)) = true → j = i := fun j hj hg => by
        obtain ⟨x1, x2, x3⟩ := (gi j hj).1 hg
        rcases Nat.lt_trichotomy j i with h | h | h
        · have := c2 j h
          omega
        · exact h
        · have := x1 i h
          omega
      by_cases hz : 0 < i ∧ (s[i]'(by omega)).toNat = 0
      · rw [if_pos hz]
        rcases h1 with ⟨_, rfl⟩ | ⟨j, hj, a1, _, rfl⟩
        · rfl
        · exfalso
          have hji := only j hj a1
          subst hji
          have := ((gi j hj).1 a1).2.2
          omega
      · rw [if_neg hz]
        have hgi : good (tN s (i + 1)) = true := (gi i hi).2 ⟨c2, b2, by omega⟩
        rcases h1 with ⟨a1, _⟩ | ⟨j, hj, a1, _, rfl⟩
        · have := a1 i hi
          rw [hgi] at this; cases this
        · have hji := only j hj a1
          subst hji
          rfl
  subst hrq
  exact ⟨r, e1, e2⟩

theorem P_FnExactDecodeVarint (F : Nat) (hF : 2097152 ≤ F) (s : List UInt8) : S_laws_FnExactDecodeVarint F s = some true := by
  unfold S_laws_FnExactDecodeVarint
  by_cases h : (1048576 : Int) < (s.length : Int)
  · simp [h]
  · obtain ⟨r, h1, h2⟩ := kDecodeVarint F hF s (by omega)
    rw [if_neg (by simpa using h), h1, h2, obind, obind]
    simp [S_laws_FnExactDecodeVarint_j1]

end Go.Proofs.Ytpafmmdilnbaeaa
