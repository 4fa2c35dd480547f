/- Proved here: the plain laws on the encodings of numbers: what the program's shallow functions compute is what the reference's compute. -/
import Derived.Test.YtmlgjhgicoggdaaPbase
import Derived.Test.YtmlgjhgicoggdaaSh
namespace Go.Proofs.Ytmlgjhgicoggdaa
open Go Go.RowKit
set_option linter.unusedVariables false
set_option linter.unusedSimpArgs false

theorem P_FnExactConstants (F : Nat) (hF : 2097152 ≤ F) : S_laws_FnExactConstants F = some true := rfl

/-! ### hexadecimal -/

def hexTab : List UInt8 := [48, 49, 50, 51, 52, 53, 54, 55, 56, 57, 97, 98, 99, 100, 101, 102]
def hexAt (n : Nat) : Int := ((hexTab.getD n 0).toNat : Int)
def hexOf (l : List UInt8) : List Int := l.flatMap fun x => [hexAt (x.toNat / 16), hexAt (x.toNat % 16)]

theorem hexTab_idx (n : Nat) (h : n < 16) : (idxL hexTab (n : Int)).bind (fun x => some (x.toNat : Int)) = some (hexAt n) := by
  have hl : n < hexTab.length := h
  rw [idxL_get hl]
  simp [hexAt, hl]

theorem hexOf_len (l : List UInt8) : (hexOf l).length = 2 * l.length := by
  induction l with
  | nil => rfl
  | cons x r ih =>
    have : hexOf (x :: r) = [hexAt (x.toNat / 16), hexAt (x.toNat % 16)] ++ hexOf r := rfl
    rw [this, List.length_append, ih]; simp; omega

theorem hexOf_snoc (l : List UInt8) (x : UInt8) : hexOf (l ++ [x]) = hexOf l ++ [hexAt (x.toNat / 16), hexAt (x.toNat % 16)] := by
  simp [hexOf]

theorem sEncodeHex (F : Nat) (hF : 2097152 ≤ F) (s : List UInt8) (hs : s.length ≤ 1048576) : S_spec_EncodeHex F s = some (u8s (hexOf s)) := by
  unfold S_spec_EncodeHex
  rw [show (([] : List Int), (0 : Int)) = (fun k : Nat => (hexOf (s.take k), (k : Int))) 0 by simp [hexOf]]
  rw [loop_from0 (fun k : Nat => (hexOf (s.take k), (k : Int))) (hexOf s) s.length ?_ ?_ (by omega)]
  · rfl
  · intro k hk
    have hb := s[k].toNat_lt
    unfold S_spec_EncodeHex_l2
    have e1 : IntKind.i64.wrap ((IntKind.i64.wrap (s[k].toNat : Int)).tdiv 16) = ((s[k].toNat / 16 : Nat) : Int) := by
      rw [w64 (n := (s[k].toNat : Int)) (by omega) (by omega), td_nn (by omega), w64 (by omega) (by omega)]; omega
    have e2 : (IntKind.i64.wrap (s[k].toNat : Int)).tmod 16 = ((s[k].toNat % 16 : Nat) : Int) := by
      rw [w64 (by omega) (by omega), tm_nn (by omega)]; omega
    have hd : ∀ n : Nat, n < 16 → S_spec_l1Digit F (n : Int) = some (hexAt n) := fun n hn => hexTab_idx n hn
    simp only [show decide ((k : Int) < (s.length : Int)) = true by simpa using hk, if_true, idxL_get hk, Option.bind_some, e1, e2, hd _ (show s[k].toNat / 16 < 16 by omega), hd _ (show s[k].toNat % 16 < 16 by omega)]
    rw [catO_ok (by rw [hexOf_len]; simp; omega)]
    simp only [Option.bind_some]
    rw [snoc_take s k hk, hexOf_snoc, w64 (by omega) (by omega)]
    simp
  · unfold S_spec_EncodeHex_l2
    simp

theorem iEncodeHex (F : Nat) (hF : 2097152 ≤ F) (s : List UInt8) (hs : s.length ≤ 1048576) : S_impl_EncodeHex F s = some (u8s (hexOf s)) := by
  unfold S_impl_EncodeHex
  rw [show (([] : List Int), (0 : Int)) = (fun k : Nat => (hexOf (s.take k), (k : Int))) 0 by simp [hexOf]]
  rw [loop_from0 (fun k : Nat => (hexOf (s.take k), (k : Int))) (hexOf s) s.length ?_ ?_ (by omega)]
  · rfl
  · intro k hk
    have hb := s[k].toNat_lt
    unfold S_impl_EncodeHex_l2
    have e1 : IntKind.u8.wrap ((s[k].toNat : Int).tdiv 16) = ((s[k].toNat / 16 : Nat) : Int) := by
      rw [w8, td_nn (by omega)]; omega
    have e2 : (s[k].toNat : Int).tmod 16 = ((s[k].toNat % 16 : Nat) : Int) := by
      rw [tm_nn (by omega)]; omega
    have hg : ∀ n : Nat, ∀ hn : n < 16, idxL hexTab (n : Int) = some hexTab[n] := fun n hn => idxL_get (l := hexTab) hn
    have ht : ∀ n : Nat, ∀ hn : n < 16, (hexTab[n].toNat : Int) = hexAt n := fun n hn => by
      have hl : n < hexTab.length := hn
      simp [hexAt, hl]
      rfl
    have f1 : s[k].toNat / 16 < 16 := by omega
    have f2 : s[k].toNat % 16 < 16 := by omega
    rw [if_pos (by simpa using hk)]
    rw [idxL_get hk, obind, e1]
    rw [show ([48, 49, 50, 51, 52, 53, 54, 55, 56, 57, 97, 98, 99, 100, 101, 102] : List UInt8) = hexTab from rfl]
    rw [hg _ f1, obind, obind, e2, hg _ f2, obind, ht _ f1, ht _ f2]
    rw [catO_ok (by rw [hexOf_len]; simp; omega), obind]
    rw [snoc_take s k hk, hexOf_snoc, w64 (by omega) (by omega)]
    simp
  · unfold S_impl_EncodeHex_l2
    simp

theorem P_FnExactEncodeHex (F : Nat) (hF : 2097152 ≤ F) (s : List UInt8) : S_laws_FnExactEncodeHex F s = some true := by
  unfold S_laws_FnExactEncodeHex
  by_cases h : (1048576 : Int) < (s.length : Int)
  · simp [h]
  · rw [if_neg (by simpa using h), sEncodeHex F hF s (by omega), obind, iEncodeHex F hF s (by omega), obind]
    simp

/-! ### within bounds -/

def inB (n lo hi : Int) : Bool := decide (lo ≤ n) && decide (n ≤ hi)
theorem sIn (F : Nat) (n lo hi : Int) : S_spec_l1In F n lo hi = some (inB n lo hi) := by
  unfold S_spec_l1In inB
  by_cases h : lo ≤ n <;> simp [h, S_spec_l1In_j1]
theorem iIn (F : Nat) (n lo hi : Int) : S_impl_within F n lo hi = some (inB n lo hi) := by
  unfold S_impl_within inB
  by_cases h : lo ≤ n <;> simp [h, S_impl_within_j1]

/-! ### numbers of fixed width, read -/

def decN (l : List UInt8) : Nat := l.foldl (fun n b => n * 256 + b.toNat) 0
theorem decN_snoc (l : List UInt8) (b : UInt8) : decN (l ++ [b]) = decN l * 256 + b.toNat := by simp [decN]

theorem decN_lt : ∀ (k : Nat) (l : List UInt8), l.length = k → decN l < 256 ^ k
  | 0, l, h => by
    have : l = [] := List.eq_nil_of_length_eq_zero h
    subst this; simp [decN]
  | k + 1, l, h => by
    have hne : l ≠ [] := by intro e; subst e; simp at h
    obtain ⟨m, b, rfl⟩ : ∃ m b, l = m ++ [b] := ⟨l.dropLast, l.getLast hne, (List.dropLast_concat_getLast hne).symm⟩
    have ih := decN_lt k m (by simpa using h)
    have hb := b.toNat_lt
    rw [decN_snoc, Nat.pow_succ]
    omega

theorem decN_take (s : List UInt8) (k : Nat) (hk : k ≤ 7) : decN (s.take k) < 72057594037927936 := by
  have h := decN_lt _ (s.take k) rfl
  have hl : (s.take k).length ≤ 7 := by simp; omega
  have := Nat.pow_le_pow_right (show 0 < 256 by decide) hl
  have e : 256 ^ 7 = 72057594037927936 := by decide
  omega

theorem decN_take6 (s : List UInt8) (k : Nat) (hk : k ≤ 6) : decN (s.take k) < 281474976710656 := by
  have h := decN_lt _ (s.take k) rfl
  have hl : (s.take k).length ≤ 6 := by simp; omega
  have := Nat.pow_le_pow_right (show 0 < 256 by decide) hl
  have e : 256 ^ 6 = 281474976710656 := by decide
  omega

theorem sDecodeFixed_loop (F : Nat) (hF : 8 ≤ F) (s : List UInt8) (w : Nat) (h7 : w ≤ 7) (hw : w ≤ s.length) :
    loopN (fun s_1 : Int × Int => S_spec_DecodeFixed_l3 F s w s_1.1 s_1.2) F (0, 0) = some ((decN (s.take w) : Nat) : Int) := by
  rw [show ((0 : Int), (0 : Int)) = (fun k : Nat => (((decN (s.take k) : Nat) : Int), (k : Int))) 0 by simp [decN]]
  rw [loop_from0 (fun k : Nat => (((decN (s.take k) : Nat) : Int), (k : Int))) ((decN (s.take w) : Nat) : Int) w ?_ ?_ (by omega)]
  · intro k hk
    unfold S_spec_DecodeFixed_l3
    have hks : k < s.length := by omega
    have hb := s[k].toNat_lt
    have hd := decN_take6 s k (by omega)
    rw [if_pos (by simpa using hk), idxL_get hks, obind, snoc_take s k hks, decN_snoc]
    rw [w64 (n := (decN (List.take k s) : Int) * 256) (by omega) (by omega), w64 (n := (s[k].toNat : Int)) (by omega) (by omega), w64 (by omega) (by omega), w64 (by omega) (by omega)]
    simp
  · unfold S_spec_DecodeFixed_l3
    simp

theorem or256 (a b : Nat) (hb : b < 256) : a * 256 ||| b = a * 256 + b := by
  have := Nat.two_pow_add_eq_or_of_lt (i := 8) (b := b) (by simpa using hb) a
  rw [Nat.mul_comm a 256]
  exact this.symm

theorem iDecodeFixed_loop (F : Nat) (hF : 8 ≤ F) (s : List UInt8) (w : Nat) (h7 : w ≤ 7) (hw : w ≤ s.length) :
    loopN (fun s_1 : Int × Int => S_impl_DecodeFixed_l3 F s w s_1.1 s_1.2) F (0, 0) = some ((decN (s.take w) : Nat) : Int) := by
  rw [show ((0 : Int), (0 : Int)) = (fun k : Nat => (((decN (s.take k) : Nat) : Int), (k : Int))) 0 by simp [decN]]
  rw [loop_from0 (fun k : Nat => (((decN (s.take k) : Nat) : Int), (k : Int))) ((decN (s.take w) : Nat) : Int) w ?_ ?_ (by omega)]
  · intro k hk
    unfold S_impl_DecodeFixed_l3
    have hks : k < s.length := by omega
    have hb := s[k].toNat_lt
    have hd := decN_take6 s k (by omega)
    rw [if_pos (by simpa using hk), idxL_get hks, obind, snoc_take s k hks, decN_snoc]
    rw [show (8 : Int) = ((8 : Nat) : Int) from rfl, shL_nn _ 8 (by decide), w64 (n := (s[k].toNat : Int)) (by omega) (by omega), w64 (n := (k : Int) + 1) (by omega) (by omega)]
    rw [w64 (by omega) (by omega)]
    have e : ((decN (List.take k s) : Nat) : Int) * 2 ^ 8 = ((decN (List.take k s) * 256 : Nat) : Int) := by omega
    rw [e, bOr_nat _ _ (by omega) (by omega), or256 _ _ (by omega)]
    simp
  · unfold S_impl_DecodeFixed_l3
    simp

theorem P_FnExactDecodeFixed (F : Nat) (hF : 2097152 ≤ F) (s : List UInt8) (w : Int) (hw : I64 w) : S_laws_FnExactDecodeFixed F s w = some true := by
  unfold S_laws_FnExactDecodeFixed
  by_cases h : (1048576 : Int) < (s.length : Int)
  · simp [h]
  rw [if_neg (by simpa using h)]
  have key : S_spec_DecodeFixed F s w = S_impl_DecodeFixed F s w ∧ ∃ r, S_spec_DecodeFixed F s w = some r := by
    unfold S_spec_DecodeFixed S_impl_DecodeFixed
    rw [sIn, iIn, obind, obind]
    cases hb : inB w 1 7 with
    | false => simp [S_spec_DecodeFixed_j1, S_impl_DecodeFixed_j1]
    | true =>
      simp only [Bool.not_true, Bool.false_eq_true, if_false]
      unfold S_spec_DecodeFixed_j1 S_impl_DecodeFixed_j1
      by_cases hl : (s.length : Int) < w
      · simp [hl]
      · simp only [hl, decide_false, Bool.false_eq_true, if_false]
        simp only [inB, Bool.and_eq_true, decide_eq_true_eq] at hb
        obtain ⟨m, rfl⟩ : ∃ m : Nat, w = m := ⟨w.toNat, by omega⟩
        rw [sDecodeFixed_loop F (by omega) s m (by omega) (by omega), iDecodeFixed_loop F (by omega) s m (by omega) (by omega), obind, obind]
        exact ⟨rfl, _, rfl⟩
  obtain ⟨h1, r, h2⟩ := key
  rw [← h1, h2, obind, obind]
  simp [S_laws_FnExactDecodeFixed_j1]

/-! ### varints, written -/

theorem enc_body (F : Nat) (x : Int) (l : List Int) : S_spec_EncodeVarint_l2 F x l = S_impl_EncodeVarint_l2 F x l := by
  unfold S_spec_EncodeVarint_l2 S_impl_EncodeVarint_l2
  rw [Int.add_comm 128 (x.tmod 128)]

theorem enc_some (F : Nat) (hF : 2097152 ≤ F) (n : Int) (h0 : 0 ≤ n) (h1 : n ≤ 562949953421311) : ∃ r, S_spec_EncodeVarint F n = some r := by
  unfold S_spec_EncodeVarint
  rw [sIn, obind]
  have hb : inB n 0 562949953421311 = true := by simp [inB, h0, h1]
  rw [hb]
  simp only [Bool.not_true, Bool.false_eq_true, if_false]
  obtain ⟨b, hb1, hb2⟩ := loop_meas (body := fun s : Int × List Int => S_spec_EncodeVarint_l2 F s.1 s.2) (fun s => 0 ≤ s.1 ∧ s.2.length ≤ 8 ∧ s.1 < 128 ^ (8 - s.2.length)) (fun s => 8 - s.2.length) (fun b => b.2.length ≤ 8) (by
    rintro ⟨x, l⟩ ⟨g0, g1, g2⟩
    dsimp only at g0 g1 g2 ⊢
    unfold S_spec_EncodeVarint_l2
    by_cases hx : 128 ≤ x
    · left
      rw [if_pos (by simpa using hx), catO_ok (by simp; omega), obind]
      have hlen : l.length < 7 := by
        rcases Nat.lt_or_ge l.length 7 with h | h
        · exact h
        · have : (128 : Int) ^ (8 - l.length) ≤ 128 ^ 1 := by
            have := Nat.pow_le_pow_right (show 0 < 128 by decide) (show 8 - l.length ≤ 1 by omega)
            exact_mod_cast this
          simp at this; omega
      refine ⟨_, rfl, ⟨?_, ?_, ?_⟩, ?_⟩
      · rw [td_nn (by omega), w64 (by omega) (by
          have : (128 : Int) ^ (8 - l.length) ≤ 128 ^ 8 := by
            have := Nat.pow_le_pow_right (show 0 < 128 by decide) (show 8 - l.length ≤ 8 by omega)
            exact_mod_cast this
          simp at this; omega)]
        omega
      · simp; omega
      · dsimp only
        have hp : (128 : Int) ^ (8 - l.length) = 128 * 128 ^ (8 - (l ++ [IntKind.u8.wrap (IntKind.i64.wrap (128 + x.tmod 128))]).length) := by
          rw [show 8 - l.length = (8 - (l ++ [IntKind.u8.wrap (IntKind.i64.wrap (128 + x.tmod 128))]).length) + 1 by simp; omega, Int.pow_succ, Int.mul_comm]
        have hq : (128 : Int) ^ (8 - l.length) ≤ 128 ^ 8 := by
          have := Nat.pow_le_pow_right (show 0 < 128 by decide) (show 8 - l.length ≤ 8 by omega)
          exact_mod_cast this
        simp at hq
        rw [td_nn (by omega), w64 (by omega) (by omega)]
        rw [hp] at g2
        omega
      · simp; omega
    · right
      rw [if_neg (by simpa using hx)]
      exact ⟨_, rfl, g1⟩) F (n, []) ⟨h0, by simp, by simp; omega⟩ (by simp; omega)
  rw [hb1, obind]
  unfold S_spec_EncodeVarint_j1
  rw [catO_ok (by simp; omega), obind]
  exact ⟨_, rfl⟩

theorem enc_eq (F : Nat) (n : Int) : S_spec_EncodeVarint F n = S_impl_EncodeVarint F n := by
  unfold S_spec_EncodeVarint S_impl_EncodeVarint
  rw [sIn, iIn, obind, obind]
  cases inB n 0 562949953421311 with
  | false => rfl
  | true =>
    simp only [Bool.not_true, Bool.false_eq_true, if_false]
    rw [loop_congr (fun s => enc_body F s.1 s.2)]
    rfl

theorem P_FnExactEncodeVarint (F : Nat) (hF : 2097152 ≤ F) (n : Int) (hn : I64 n) : S_laws_FnExactEncodeVarint F n = some true := by
  unfold S_laws_FnExactEncodeVarint
  have : ∃ r, S_spec_EncodeVarint F n = some r := by
    by_cases h : 0 ≤ n ∧ n ≤ 562949953421311
    · exact enc_some F hF n h.1 h.2
    · unfold S_spec_EncodeVarint
      rw [sIn, obind]
      have hb : inB n 0 562949953421311 = false := by
        simp only [inB, Bool.and_eq_false_iff, decide_eq_false_iff_not]
        omega
      rw [hb]; exact ⟨_, rfl⟩
  obtain ⟨r, hr⟩ := this
  rw [← enc_eq, hr, obind, obind]
  simp

/-! ### numbers of fixed width, written -/

def beK : Nat → Nat → List Int
  | 0, _ => []
  | k + 1, n => (((n / 256 ^ k) % 256 : Nat) : Int) :: beK k n

theorem beK_len : ∀ (k n : Nat), (beK k n).length = k
  | 0, _ => rfl
  | k + 1, n => by simp [beK, beK_len k n]

theorem div256 (n k : Nat) : n / 256 ^ k / 256 = n / 256 ^ (k + 1) := by
  rw [Nat.div_div_eq_div_mul, Nat.pow_succ]

theorem sEncodeFixed_loop (F : Nat) (hF : 8 ≤ F) (n w : Nat) (hn : n ≤ 9223372036854775807) (h7 : w ≤ 7) :
    loopN (fun s : Int × List UInt8 × Int => S_spec_EncodeFixed_l3 F w s.1 s.2.1 s.2.2) F ((n : Int), [], 0) = some (((n / 256 ^ w : Nat) : Int), u8s (beK w n)) := by
  rw [show ((n : Int), ([] : List UInt8), (0 : Int)) = (fun k : Nat => (((n / 256 ^ k : Nat) : Int), u8s (beK k n), (k : Int))) 0 by simp [beK, u8s]]
  rw [loop_from0 (fun k : Nat => (((n / 256 ^ k : Nat) : Int), u8s (beK k n), (k : Int))) (((n / 256 ^ w : Nat) : Int), u8s (beK w n)) w ?_ ?_ (by omega)]
  · intro k hk
    unfold S_spec_EncodeFixed_l3
    have hle : n / 256 ^ k ≤ n := Nat.div_le_self _ _
    have hlen : (u8s (beK k n)).length = k := by simp [u8s, beK_len]
    dsimp only
    rw [← div256]
    simp only [beK]
    generalize n / 256 ^ k = q at *
    rw [if_pos (by simpa using hk), catO_ok (by rw [hlen]; simp [u8s]; omega), obind]
    rw [td_nn (by omega), tm_nn (by omega), w64 (by omega) (by omega), w64 (by omega) (by omega)]
    rw [w8]
    simp only [u8s, List.map_cons, List.map_nil, List.singleton_append]
    have e : (q : Int) % 256 % 256 = ((q % 256 : Nat) : Int) := by omega
    rw [e]
    simp
  · unfold S_spec_EncodeFixed_l3
    simp

theorem rep_set (m : Nat) (v : Int) (l : List Int) : ((List.replicate (m + 1) (0 : Int)) ++ l).set m v = List.replicate m 0 ++ v :: l := by
  rw [List.replicate_succ', List.append_assoc, List.set_append]
  simp

theorem iEncodeFixed_loop (F : Nat) (hF : 8 ≤ F) (n w : Nat) (hn : n ≤ 9223372036854775807) (h7 : w ≤ 7) :
    loopN (fun s : Int × List Int × Int => S_impl_EncodeFixed_l3 F s.1 s.2.1 s.2.2) F ((n : Int), List.replicate w 0, (w : Int) - 1) = some (beK w n) := by
  rw [show ((n : Int), List.replicate w (0 : Int), (w : Int) - 1) = (fun k : Nat => (((n / 256 ^ k : Nat) : Int), List.replicate (w - k) 0 ++ beK k n, (w : Int) - 1 - k)) 0 by simp [beK]]
  rw [loop_from0 (fun k : Nat => (((n / 256 ^ k : Nat) : Int), List.replicate (w - k) 0 ++ beK k n, (w : Int) - 1 - k)) (beK w n) w ?_ ?_ (by omega)]
  · intro k hk
    unfold S_impl_EncodeFixed_l3
    have hle : n / 256 ^ k ≤ n := Nat.div_le_self _ _
    obtain ⟨m, hm⟩ : ∃ m, w - k = m + 1 := ⟨w - k - 1, by omega⟩
    have em : (w : Int) - 1 - k = ((m : Nat) : Int) := by omega
    have hl : m < (List.replicate (w - k) (0 : Int) ++ beK k n).length := by simp [beK_len]; omega
    dsimp only
    rw [← div256, show w - (k + 1) = m by omega]
    simp only [beK]
    rw [em, if_pos (by simp), idxL_get hl, obind, Int.toNat_natCast, hm, rep_set, w8]
    generalize n / 256 ^ k = q at *
    rw [show (8 : Int) = ((8 : Nat) : Int) from rfl, shR_nn _ 8 (by decide), w64 (by omega) (by omega)]
    have e2 : (q : Int) % 256 = ((q % 256 : Nat) : Int) := by omega
    have e3 : (q : Int) / 2 ^ 8 = ((q / 256 : Nat) : Int) := by omega
    have e4 : (m : Int) - 1 = (w : Int) - 1 - ((k + 1 : Nat) : Int) := by omega
    rw [e2, e3, e4]
  · unfold S_impl_EncodeFixed_l3
    dsimp only
    rw [if_neg (by simp; omega)]
    simp

theorem P_FnExactEncodeFixed (F : Nat) (hF : 2097152 ≤ F) (n w : Int) (hn : I64 n) (hw : I64 w) : S_laws_FnExactEncodeFixed F n w = some true := by
  unfold S_laws_FnExactEncodeFixed
  have key : S_spec_EncodeFixed F n w = S_impl_EncodeFixed F n w ∧ ∃ r, S_spec_EncodeFixed F n w = some r := by
    unfold S_spec_EncodeFixed S_impl_EncodeFixed
    rw [sIn, iIn, obind, obind]
    cases hb : inB w 1 7 with
    | false => simp [S_spec_EncodeFixed_j1, S_impl_EncodeFixed_j1]
    | true =>
      simp only [Bool.not_true, Bool.false_eq_true, if_false]
      by_cases h0 : n < 0
      · simp [h0, S_spec_EncodeFixed_j1, S_impl_EncodeFixed_j1]
      · simp only [inB, Bool.and_eq_true, decide_eq_true_eq] at hb
        unfold I64 at hn
        obtain ⟨m, rfl⟩ : ∃ m : Nat, w = m := ⟨w.toNat, by omega⟩
        obtain ⟨q, rfl⟩ : ∃ q : Nat, n = q := ⟨n.toNat, by omega⟩
        rw [if_neg (by simp), w64 (by omega) (by omega), nnO_ok (by omega), obind]
        rw [show (8 : Int) * (m : Int) = ((8 * m : Nat) : Int) by omega, shR_nn _ (8 * m) (by omega)]
        have e256 : (2 : Nat) ^ (8 * m) = 256 ^ m := by rw [Nat.pow_mul]
        have ed : ((q : Nat) : Int) / 2 ^ (8 * m) = ((q / 256 ^ m : Nat) : Int) := by
          rw [← e256]; simp
        rw [ed]
        unfold S_spec_EncodeFixed_j1 S_impl_EncodeFixed_j1
        simp only [show decide ((q : Int) < 0) = false by simp, Bool.false_eq_true, if_false]
        rw [sEncodeFixed_loop F (by omega) q m (by omega) (by omega), obind]
        unfold S_spec_EncodeFixed_j2
        have hil := iEncodeFixed_loop F (by omega) q m (by omega) (by omega)
        generalize q / 256 ^ m = z at *
        by_cases hz : z = 0
        · simp only [hz]
          rw [if_neg (by simp), if_neg (by simp), mkO_ok (by omega) (by omega), obind]
          rw [show ((m : Nat) : Int).toNat = m by simp, w64 (by omega) (by omega), hil, obind]
          exact ⟨rfl, _, rfl⟩
        · rw [if_pos (by simp; omega), if_pos (by simp; omega)]
          exact ⟨rfl, _, rfl⟩
  obtain ⟨h1, r, h2⟩ := key
  rw [← h1, h2, obind, obind]
  simp

end Go.Proofs.Ytmlgjhgicoggdaa
