/- Proved here: varints are read alike by both programs. -/
import Derived.Test.YtgddopammpjkgaaDoorPhex
namespace Go.Proofs.YtgddopammpjkgaaDoor
open Go Go.RowKit
set_option linter.unusedVariables false
set_option linter.unusedSimpArgs false

/-- The bytes of a number, the low seven bits first. -/
def vb : Nat → Nat → List Nat
  | 0, n => [n]
  | f + 1, n => if n < 128 then [n] else (128 + n % 128) :: vb f (n / 128)
def lv : List Nat → Nat
  | [] => 0
  | b :: r => b % 128 + 128 * lv r
/-- A list that is the bytes of a number. -/
def good : List Nat → Bool
  | [] => false
  | [b] => decide (b < 128)
  | b :: c :: r => decide (128 ≤ b) && good (c :: r) && ((c :: r).getLast (by simp) != 0)

theorem lv_zero_last : ∀ (t : List Nat) (h : t ≠ []), good t = true → t.getLast h ≠ 0 → lv t ≠ 0
  | [], h, _, _ => absurd rfl h
  | [b], h, hg, hl => by
    simp only [good, decide_eq_true_eq] at hg
    simp at hl
    simp only [lv]
    omega
  | b :: c :: r, h, hg, hl => by
    simp only [good, Bool.and_eq_true] at hg
    have := lv_zero_last (c :: r) (by simp) hg.1.2 (by simpa using hl)
    simp only [lv] at this ⊢
    omega

theorem vb_good : ∀ (f : Nat) (t : List Nat), t ≠ [] → t.length ≤ f + 1 → (∀ b, b ∈ t → b < 256) → (vb f (lv t) = t ↔ good t = true)
  | f, [b], _, _, hb => by
    have hb2 := hb b (by simp)
    have hm : b % 128 < 128 := Nat.mod_lt _ (by decide)
    have e : vb f (lv [b]) = [b % 128] := by
      cases f <;> simp [vb, lv]
      omega
    rw [e]
    simp only [good, decide_eq_true_eq, List.cons.injEq, and_true]
    omega
  | 0, b :: c :: r, _, hl, _ => by simp at hl
  | f + 1, b :: c :: r, _, hl, hb => by
    have hb2 := hb b (by simp)
    have ih := vb_good f (c :: r) (by simp) (by simpa using hl) (fun x hx => hb x (by simp [hx]))
    have elv : lv (b :: c :: r) = b % 128 + 128 * lv (c :: r) := rfl
    rw [elv]
    by_cases h0 : lv (c :: r) = 0
    · have e : vb (f + 1) (b % 128 + 128 * lv (c :: r)) = [b % 128] := by
        rw [h0]; simp only [vb]; rw [if_pos (by omega)]; simp
      rw [e]
      constructor
      · intro h; simp at h
      · intro h
        simp only [good, Bool.and_eq_true, bne_iff_ne] at h
        exact absurd h0 (lv_zero_last (c :: r) (by simp) h.1.2 h.2)
    · have e : vb (f + 1) (b % 128 + 128 * lv (c :: r)) = (128 + b % 128) :: vb f (lv (c :: r)) := by
        simp only [vb]
        rw [if_neg (by omega), show (b % 128 + 128 * lv (c :: r)) % 128 = b % 128 by omega, show (b % 128 + 128 * lv (c :: r)) / 128 = lv (c :: r) by omega]
      rw [e, List.cons.injEq, ih]
      simp only [good, Bool.and_eq_true, decide_eq_true_eq, bne_iff_ne]
      constructor
      · rintro ⟨h1, h2⟩
        refine ⟨⟨by omega, h2⟩, fun hlast => h0 ?_⟩
        cases r with
        | nil =>
          simp at hlast
          subst hlast
          rfl
        | cons d r2 =>
          simp only [good, Bool.and_eq_true, bne_iff_ne] at h2
          exact absurd (by simpa using hlast) h2.2
      · rintro ⟨⟨h1, h2⟩, _⟩
        exact ⟨by omega, h2⟩

theorem lv_lt : ∀ (t : List Nat), lv t < 128 ^ t.length
  | [] => by simp [lv]
  | b :: r => by
    have := lv_lt r
    simp only [lv, List.length_cons, Nat.pow_succ]
    omega
theorem lv_snoc (t : List Nat) (b : Nat) : lv (t ++ [b]) = lv t + (b % 128) * 128 ^ t.length := by
  induction t with
  | nil => simp [lv]
  | cons a r ih =>
    simp only [List.cons_append, lv, ih, List.length_cons, Nat.pow_succ, Nat.mul_add]
    rw [show 128 * (b % 128 * 128 ^ r.length) = b % 128 * (128 ^ r.length * 128) by rw [Nat.mul_comm 128, Nat.mul_assoc]]
    omega

theorem vb_len : ∀ (f n : Nat), (vb f n).length ≤ f + 1
  | 0, n => by simp [vb]
  | f + 1, n => by
    simp only [vb]
    split
    · simp
    · have := vb_len f (n / 128)
      simp; omega
theorem vb_lt : ∀ (f n : Nat), n < 128 ^ (f + 1) → ∀ b, b ∈ vb f n → b < 256
  | 0, n, h, b, hb => by
    simp [vb] at hb
    simp at h
    omega
  | f + 1, n, h, b, hb => by
    simp only [vb] at hb
    split at hb
    · simp at hb; omega
    · rcases List.mem_cons.1 hb with rfl | hb
      · omega
      · refine vb_lt f (n / 128) ?_ b hb
        rw [Nat.pow_succ] at h
        omega
def byN (l : List Nat) : List Int := l.map fun b => ((b : Nat) : Int)

theorem good_iff : ∀ (t : List Nat), t ≠ [] → (good t = true ↔ (∀ i, i + 1 < t.length → 128 ≤ t.getD i 0) ∧ t.getD (t.length - 1) 0 < 128 ∧ (t.length = 1 ∨ t.getD (t.length - 1) 0 ≠ 0))
  | [b], _ => by simp [good]
  | b :: c :: r, _ => by
    have ih := good_iff (c :: r) (by simp)
    have hlast : (c :: r).getLast (by simp) = (c :: r).getD ((c :: r).length - 1) 0 := by
      rw [List.getLast_eq_getElem]
      simp
    simp only [good, Bool.and_eq_true, decide_eq_true_eq, bne_iff_ne, ih, hlast]
    have e : (b :: c :: r).getD ((b :: c :: r).length - 1) 0 = (c :: r).getD ((c :: r).length - 1) 0 := by
      simp
    rw [e]
    generalize (c :: r).getD ((c :: r).length - 1) 0 = z
    constructor
    · rintro ⟨⟨h1, h2, h3, _⟩, h5⟩
      refine ⟨fun i hi => ?_, h3, .inr h5⟩
      cases i with
      | zero => simpa using h1
      | succ i =>
        have := h2 i (by simp only [List.length_cons] at hi ⊢; omega)
        simpa using this
    · rintro ⟨h1, h3, h4⟩
      have hz : z ≠ 0 := by
        rcases h4 with h4 | h4
        · simp at h4
        · exact h4
      refine ⟨⟨by simpa using h1 0 (by simp), fun i hi => ?_, h3, .inr hz⟩, hz⟩
      have := h1 (i + 1) (by simp only [List.length_cons] at hi ⊢; omega)
      simpa using this

def tN (s : List UInt8) (k : Nat) : List Nat := (s.take k).map UInt8.toNat
theorem tN_len {s : List UInt8} {k : Nat} (h : k ≤ s.length) : (tN s k).length = k := by simp [tN]; omega
theorem tN_getD {s : List UInt8} {k i : Nat} (h : i < k) (hk : k ≤ s.length) : (tN s k).getD i 0 = (s[i]'(by omega)).toNat := by
  have hi : i < (tN s k).length := by rw [tN_len hk]; exact h
  rw [List.getD_eq_getElem?_getD, List.getElem?_eq_getElem hi, Option.getD_some]
  simp [tN]
theorem tN_snoc {s : List UInt8} {k : Nat} (h : k < s.length) : tN s (k + 1) = tN s k ++ [(s[k]).toNat] := by
  unfold tN
  rw [snoc_take s k h, List.map_append]; rfl
theorem tN_lt (s : List UInt8) (k : Nat) : ∀ b, b ∈ tN s k → b < 256 := by
  intro b hb
  simp only [tN, List.mem_map] at hb
  obtain ⟨x, _, rfl⟩ := hb
  exact x.toNat_lt
theorem u8s_byN {L : List Nat} (h : ∀ b, b ∈ L → b < 256) (t : List UInt8) : u8s (byN L) = t ↔ L = t.map UInt8.toNat := by
  have e : (u8s (byN L)).map UInt8.toNat = L := by
    unfold u8s byN
    rw [List.map_map, List.map_map]
    conv => rhs; rw [← List.map_id L]
    refine List.map_congr_left fun b hb => ?_
    have := h b hb
    simp [Function.comp]
    omega
  constructor
  · intro g; rw [← g, e]
  · intro g
    have inj : ∀ (a b : List UInt8), a.map UInt8.toNat = b.map UInt8.toNat → a = b := by
      intro a
      induction a with
      | nil => intro b hab; cases b with
        | nil => rfl
        | cons y r => simp at hab
      | cons x q ih => intro b hab; cases b with
        | nil => simp at hab
        | cons y r =>
          simp only [List.map_cons, List.cons.injEq] at hab
          rw [UInt8.toNat_inj.1 hab.1, ih r hab.2]
    exact inj _ _ (by rw [e, g])

theorem or_lv (a b k : Nat) (ha : a < 128 ^ k) : a ||| b * 128 ^ k = a + b * 128 ^ k := by
  have e : (128 : Nat) ^ k = 2 ^ (7 * k) := by rw [Nat.pow_mul]
  rw [e] at ha ⊢
  have := Nat.two_pow_add_eq_or_of_lt (i := 7 * k) (b := a) ha b
  rw [Nat.or_comm, Nat.mul_comm b, ← this]
  omega

theorem iDec (F : Nat) (hF : 2097152 ≤ F) (s : List UInt8) (hs : s.length ≤ 1048576) : ∃ r, S_impl_DecodeVarint F s = some r ∧
    (((∀ i (hi : i < min 7 s.length), 128 ≤ (s[i]'(by omega)).toNat) ∧ r = (0, 0)) ∨ ∃ i, ∃ hi : i < min 7 s.length, (s[i]'(by omega)).toNat < 128 ∧ (∀ j (hj : j < i), 128 ≤ (s[j]'(by omega)).toNat) ∧ r = if 0 < i ∧ (s[i]'(by omega)).toNat = 0 then (0, 0) else (((lv (tN s (i + 1)) : Nat) : Int), ((i + 1 : Nat) : Int))) := by
  unfold S_impl_DecodeVarint
  have step : ∀ i (hi : i < min 7 s.length), S_impl_DecodeVarint_l2 F s ((lv (tN s i) : Nat) : Int) (i : Int) = some (if (128 ≤ (s[i]'(by omega)).toNat) then .inl (((lv (tN s (i + 1)) : Nat) : Int), ((i + 1 : Nat) : Int)) else .inr (.inr (if 0 < i ∧ (s[i]'(by omega)).toNat = 0 then (0, 0) else (((lv (tN s (i + 1)) : Nat) : Int), ((i + 1 : Nat) : Int))))) := fun i hi => by
    have his : i < s.length := by omega
    have hx := s[i].toNat_lt
    have hl := lv_lt (tN s i)
    rw [tN_len (by omega)] at hl
    have hp : 128 ^ i ≤ 128 ^ 6 := Nat.pow_le_pow_right (by decide) (by omega)
    have hp6 : 128 ^ 6 = 4398046511104 := by decide
    unfold S_impl_DecodeVarint_l2 S_impl_DecodeVarint_j3
    rw [if_pos (by simp; omega), if_pos (by simp; omega), idxL_get his, obind, w64 (n := 7 * (i : Int)) (by omega) (by omega), nnO_ok (by omega), obind, obind]
    have hm : (s[i].toNat : Int).tmod 128 = ((s[i].toNat % 128 : Nat) : Int) := by rw [tm_nn (by omega)]; omega
    have hm2 : s[i].toNat % 128 < 128 := Nat.mod_lt _ (by decide)
    have hmul : s[i].toNat % 128 * 128 ^ i ≤ 127 * 128 ^ i := Nat.mul_le_mul_right _ (by omega)
    have hsh : shL (IntKind.i64.wrap ((s[i].toNat : Int).tmod 128)) (7 * (i : Int)) = ((s[i].toNat % 128 * 128 ^ i : Nat) : Int) := by
      rw [hm, w64 (n := ((s[i].toNat % 128 : Nat) : Int)) (by omega) (by omega), show 7 * (i : Int) = ((7 * i : Nat) : Int) by omega, shL_nn _ (7 * i) (by omega)]
      have e2 : ((s[i].toNat % 128 : Nat) : Int) * 2 ^ (7 * i) = ((s[i].toNat % 128 * 128 ^ i : Nat) : Int) := by
        rw [Int.pow_mul]; simp
      rw [e2, w64 (by omega) (by omega)]
    have hor : bOr ((lv (tN s i) : Nat) : Int) (shL (IntKind.i64.wrap ((s[i].toNat : Int).tmod 128)) (7 * (i : Int))) = ((lv (tN s (i + 1)) : Nat) : Int) := by
      rw [hsh, bOr_nat _ _ (by omega) (by omega), or_lv _ _ _ hl, tN_snoc his, lv_snoc, tN_len (by omega)]
    rw [hor]
    unfold S_impl_DecodeVarint_j4
    rw [w64 (n := (i : Int) + 1) (by omega) (by omega), w64 (n := 7 * (i : Int)) (by omega) (by omega), hor]
    by_cases hb : s[i].toNat < 128
    · rw [if_pos (by simp; omega), if_neg (show ¬ 128 ≤ s[i].toNat by omega)]
      by_cases h0 : 0 < i
      · rw [if_pos (by simpa using h0), obind]
        by_cases hz : s[i].toNat = 0
        · rw [if_pos (by simp [hz]), if_pos ⟨h0, hz⟩]
        · rw [if_neg (by simp; omega), if_neg (fun h => hz h.2)]
          simp
      · rw [if_neg (by simpa using h0), if_neg (show ¬ (false = true) by simp), if_neg (fun h => h0 h.1)]
        simp
    · rw [if_neg (by simp; omega), if_pos (show 128 ≤ s[i].toNat by omega)]
      simp
  have hB : ∀ i (h : i < s.length), (s.getD i 0) = s[i] := fun i h => by simp [h]
  obtain ⟨r, hr, hh⟩ := loop_scan (body := fun x : Int × Int => S_impl_DecodeVarint_l2 F s x.1 x.2) (fun i : Nat => (((lv (tN s i) : Nat) : Int), (i : Int))) (.inl ()) (fun i => .inr (if 0 < i ∧ (s.getD i 0).toNat = 0 then (0, 0) else (((lv (tN s (i + 1)) : Nat) : Int), ((i + 1 : Nat) : Int)))) (fun i => decide (128 ≤ (s.getD i 0).toNat)) (min 7 s.length) 0
    (fun i _ hi hq => by
      have his : i < s.length := by omega
      dsimp only
      rw [decide_eq_true_eq, hB i his] at hq
      rw [step i (by omega), if_pos hq])
    (fun i _ hi hq => by
      have his : i < s.length := by omega
      dsimp only
      rw [decide_eq_false_iff_not, hB i his] at hq
      rw [step i (by omega), if_neg hq, hB i his])
    (by
      unfold S_impl_DecodeVarint_l2 S_impl_DecodeVarint_j3
      dsimp only
      by_cases h : s.length ≤ 7
      · rw [if_neg (by simp; omega), if_neg (by simp)]
      · rw [if_pos (by simp; omega), if_neg (by simp; omega)]) F (by omega)
  rw [show lv (tN s 0) = 0 from rfl, show (((0 : Nat) : Int)) = 0 from rfl] at hr
  rw [hr, obind]
  rcases hh with ⟨h1, rfl⟩ | ⟨i, _, hi, hq, hb, rfl⟩
  · refine ⟨_, rfl, .inl ⟨fun i hi => ?_, rfl⟩⟩
    have := h1 i (by omega) (by omega)
    rw [decide_eq_true_eq, hB i (by omega)] at this
    exact this
  · refine ⟨_, rfl, .inr ⟨i, by omega, ?_, fun j hj => ?_, ?_⟩⟩
    · rw [decide_eq_false_iff_not, hB i (by omega)] at hq
      omega
    · have := hb j (by omega) hj
      rw [decide_eq_true_eq, hB j (by omega)] at this
      exact this
    · rw [hB i (by omega)]

end Go.Proofs.YtgddopammpjkgaaDoor
