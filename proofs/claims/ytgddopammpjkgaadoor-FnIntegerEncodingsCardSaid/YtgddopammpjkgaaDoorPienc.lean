/- Proved here: what is written as hexadecimal, at a width, as a varint, is read again. -/
import Derived.Test.YtgddopammpjkgaaDoorPvar
import Derived.Test.YtgddopammpjkgaaDoorPbit
namespace Go.Proofs.YtgddopammpjkgaaDoor
open Go Go.RowKit
set_option linter.unusedVariables false
set_option linter.unusedSimpArgs false

def hexAt (n : Nat) : Int := ((hexTab.getD n 0).toNat : Int)
def hexOf (l : List UInt8) : List Int := l.flatMap fun x => [hexAt (x.toNat / 16), hexAt (x.toNat % 16)]

theorem hexTab_idx (n : Nat) (h : n < 16) : (idxL hexTab (n : Int)).bind (fun x => some (x.toNat : Int)) = some (hexAt n) := by
  have hl : n < hexTab.length := h
  rw [idxL_get hl]
  simp [hexAt, hl]

theorem hexOf_len (l : List UInt8) : (hexOf l).length = 2 * l.length := by
  induction l with
  | nil => rfl
  | cons x r ih =>
    have : hexOf (x :: r) = [hexAt (x.toNat / 16), hexAt (x.toNat % 16)] ++ hexOf r := rfl
    rw [this, List.length_append, ih]; simp; omega

theorem hexOf_snoc (l : List UInt8) (x : UInt8) : hexOf (l ++ [x]) = hexOf l ++ [hexAt (x.toNat / 16), hexAt (x.toNat % 16)] := by
  simp [hexOf]


theorem iEncodeHex (F : Nat) (hF : 2097152 ≤ F) (s : List UInt8) (hs : s.length ≤ 1048576) : S_impl_EncodeHex F s = some (u8s (hexOf s)) := by
  unfold S_impl_EncodeHex
  rw [show (([] : List Int), (0 : Int)) = (fun k : Nat => (hexOf (s.take k), (k : Int))) 0 by simp [hexOf]]
  rw [loop_from0 (fun k : Nat => (hexOf (s.take k), (k : Int))) (hexOf s) s.length ?_ ?_ (by omega)]
  · rfl
  · intro k hk
    have hb := s[k].toNat_lt
    unfold S_impl_EncodeHex_l2
    have e1 : IntKind.u8.wrap ((s[k].toNat : Int).tdiv 16) = ((s[k].toNat / 16 : Nat) : Int) := by
      rw [w8, td_nn (by omega)]; omega
    have e2 : (s[k].toNat : Int).tmod 16 = ((s[k].toNat % 16 : Nat) : Int) := by
      rw [tm_nn (by omega)]; omega
    have hg : ∀ n : Nat, ∀ hn : n < 16, idxL hexTab (n : Int) = some hexTab[n] := fun n hn => idxL_get (l := hexTab) hn
    have ht : ∀ n : Nat, ∀ hn : n < 16, (hexTab[n].toNat : Int) = hexAt n := fun n hn => by
      have hl : n < hexTab.length := hn
      simp [hexAt, hl]
      rfl
    have f1 : s[k].toNat / 16 < 16 := by omega
    have f2 : s[k].toNat % 16 < 16 := by omega
    rw [if_pos (by simpa using hk)]
    rw [idxL_get hk, obind, e1]
    rw [show ([48, 49, 50, 51, 52, 53, 54, 55, 56, 57, 97, 98, 99, 100, 101, 102] : List UInt8) = hexTab from rfl]
    rw [hg _ f1, obind, obind, e2, hg _ f2, obind, ht _ f1, ht _ f2]
    rw [catO_ok (by rw [hexOf_len]; simp; omega), obind]
    rw [snoc_take s k hk, hexOf_snoc, w64 (by omega) (by omega)]
    simp
  · unfold S_impl_EncodeHex_l2
    simp


def decN (l : List UInt8) : Nat := l.foldl (fun n b => n * 256 + b.toNat) 0
theorem decN_snoc (l : List UInt8) (b : UInt8) : decN (l ++ [b]) = decN l * 256 + b.toNat := by simp [decN]

theorem decN_lt : ∀ (k : Nat) (l : List UInt8), l.length = k → decN l < 256 ^ k
  | 0, l, h => by
    have : l = [] := List.eq_nil_of_length_eq_zero h
    subst this; simp [decN]
  | k + 1, l, h => by
    have hne : l ≠ [] := by intro e; subst e; simp at h
    obtain ⟨m, b, rfl⟩ : ∃ m b, l = m ++ [b] := ⟨l.dropLast, l.getLast hne, (List.dropLast_concat_getLast hne).symm⟩
    have ih := decN_lt k m (by simpa using h)
    have hb := b.toNat_lt
    rw [decN_snoc, Nat.pow_succ]
    omega

theorem decN_take (s : List UInt8) (k : Nat) (hk : k ≤ 7) : decN (s.take k) < 72057594037927936 := by
  have h := decN_lt _ (s.take k) rfl
  have hl : (s.take k).length ≤ 7 := by simp; omega
  have := Nat.pow_le_pow_right (show 0 < 256 by decide) hl
  have e : 256 ^ 7 = 72057594037927936 := by decide
  omega

theorem decN_take6 (s : List UInt8) (k : Nat) (hk : k ≤ 6) : decN (s.take k) < 281474976710656 := by
  have h := decN_lt _ (s.take k) rfl
  have hl : (s.take k).length ≤ 6 := by simp; omega
  have := Nat.pow_le_pow_right (show 0 < 256 by decide) hl
  have e : 256 ^ 6 = 281474976710656 := by decide
  omega


theorem or256 (a b : Nat) (hb : b < 256) : a * 256 ||| b = a * 256 + b := by
  have := Nat.two_pow_add_eq_or_of_lt (i := 8) (b := b) (by simpa using hb) a
  rw [Nat.mul_comm a 256]
  exact this.symm


theorem iDecodeFixed_loop (F : Nat) (hF : 8 ≤ F) (s : List UInt8) (w : Nat) (h7 : w ≤ 7) (hw : w ≤ s.length) :
    loopN (fun s_1 : Int × Int => S_impl_DecodeFixed_l3 F s w s_1.1 s_1.2) F (0, 0) = some ((decN (s.take w) : Nat) : Int) := by
  rw [show ((0 : Int), (0 : Int)) = (fun k : Nat => (((decN (s.take k) : Nat) : Int), (k : Int))) 0 by simp [decN]]
  rw [loop_from0 (fun k : Nat => (((decN (s.take k) : Nat) : Int), (k : Int))) ((decN (s.take w) : Nat) : Int) w ?_ ?_ (by omega)]
  · intro k hk
    unfold S_impl_DecodeFixed_l3
    have hks : k < s.length := by omega
    have hb := s[k].toNat_lt
    have hd := decN_take6 s k (by omega)
    rw [if_pos (by simpa using hk), idxL_get hks, obind, snoc_take s k hks, decN_snoc]
    rw [show (8 : Int) = ((8 : Nat) : Int) from rfl, shL_nn _ 8 (by decide), w64 (n := (s[k].toNat : Int)) (by omega) (by omega), w64 (n := (k : Int) + 1) (by omega) (by omega)]
    rw [w64 (by omega) (by omega)]
    have e : ((decN (List.take k s) : Nat) : Int) * 2 ^ 8 = ((decN (List.take k s) * 256 : Nat) : Int) := by omega
    rw [e, bOr_nat _ _ (by omega) (by omega), or256 _ _ (by omega)]
    simp
  · unfold S_impl_DecodeFixed_l3
    simp


def beK : Nat → Nat → List Int
  | 0, _ => []
  | k + 1, n => (((n / 256 ^ k) % 256 : Nat) : Int) :: beK k n

theorem beK_len : ∀ (k n : Nat), (beK k n).length = k
  | 0, _ => rfl
  | k + 1, n => by simp [beK, beK_len k n]

theorem div256 (n k : Nat) : n / 256 ^ k / 256 = n / 256 ^ (k + 1) := by
  rw [Nat.div_div_eq_div_mul, Nat.pow_succ]


theorem sEncodeFixed_loop (F : Nat) (hF : 8 ≤ F) (n w : Nat) (hn : n ≤ 9223372036854775807) (h7 : w ≤ 7) :
    loopN (fun s : Int × List UInt8 × Int => S_spec_EncodeFixed_l3 F w s.1 s.2.1 s.2.2) F ((n : Int), [], 0) = some (((n / 256 ^ w : Nat) : Int), u8s (beK w n)) := by
  rw [show ((n : Int), ([] : List UInt8), (0 : Int)) = (fun k : Nat => (((n / 256 ^ k : Nat) : Int), u8s (beK k n), (k : Int))) 0 by simp [beK, u8s]]
  rw [loop_from0 (fun k : Nat => (((n / 256 ^ k : Nat) : Int), u8s (beK k n), (k : Int))) (((n / 256 ^ w : Nat) : Int), u8s (beK w n)) w ?_ ?_ (by omega)]
  · intro k hk
    unfold S_spec_EncodeFixed_l3
    have hle : n / 256 ^ k ≤ n := Nat.div_le_self _ _
    have hlen : (u8s (beK k n)).length = k := by simp [u8s, beK_len]
    dsimp only
    rw [← div256]
    simp only [beK]
    generalize n / 256 ^ k = q at *
    rw [if_pos (by simpa using hk), catO_ok (by rw [hlen]; simp [u8s]; omega), obind]
    rw [td_nn (by omega), tm_nn (by omega), w64 (by omega) (by omega), w64 (by omega) (by omega)]
    rw [w8]
    simp only [u8s, List.map_cons, List.map_nil, List.singleton_append]
    have e : (q : Int) % 256 % 256 = ((q % 256 : Nat) : Int) := by omega
    rw [e]
    simp
  · unfold S_spec_EncodeFixed_l3
    simp


theorem rep_set (m : Nat) (v : Int) (l : List Int) : ((List.replicate (m + 1) (0 : Int)) ++ l).set m v = List.replicate m 0 ++ v :: l := by
  rw [List.replicate_succ', List.append_assoc, List.set_append]
  simp


theorem iEncodeFixed_loop (F : Nat) (hF : 8 ≤ F) (n w : Nat) (hn : n ≤ 9223372036854775807) (h7 : w ≤ 7) :
    loopN (fun s : Int × List Int × Int => S_impl_EncodeFixed_l3 F s.1 s.2.1 s.2.2) F ((n : Int), List.replicate w 0, (w : Int) - 1) = some (beK w n) := by
  rw [show ((n : Int), List.replicate w (0 : Int), (w : Int) - 1) = (fun k : Nat => (((n / 256 ^ k : Nat) : Int), List.replicate (w - k) 0 ++ beK k n, (w : Int) - 1 - k)) 0 by simp [beK]]
  rw [loop_from0 (fun k : Nat => (((n / 256 ^ k : Nat) : Int), List.replicate (w - k) 0 ++ beK k n, (w : Int) - 1 - k)) (beK w n) w ?_ ?_ (by omega)]
  · intro k hk
    unfold S_impl_EncodeFixed_l3
    have hle : n / 256 ^ k ≤ n := Nat.div_le_self _ _
    obtain ⟨m, hm⟩ : ∃ m, w - k = m + 1 := ⟨w - k - 1, by omega⟩
    have em : (w : Int) - 1 - k = ((m : Nat) : Int) := by omega
    have hl : m < (List.replicate (w - k) (0 : Int) ++ beK k n).length := by simp [beK_len]; omega
    dsimp only
    rw [← div256, show w - (k + 1) = m by omega]
    simp only [beK]
    rw [em, if_pos (by simp), idxL_get hl, obind, Int.toNat_natCast, hm, rep_set, w8]
    generalize n / 256 ^ k = q at *
    rw [show (8 : Int) = ((8 : Nat) : Int) from rfl, shR_nn _ 8 (by decide), w64 (by omega) (by omega)]
    have e2 : (q : Int) % 256 = ((q % 256 : Nat) : Int) := by omega
    have e3 : (q : Int) / 2 ^ 8 = ((q / 256 : Nat) : Int) := by omega
    have e4 : (m : Int) - 1 = (w : Int) - 1 - ((k + 1 : Nat) : Int) := by omega
    rw [e2, e3, e4]
  · unfold S_impl_EncodeFixed_l3
    dsimp only
    rw [if_neg (by simp; omega)]
    simp

/-! ### what is written is read again -/

theorem hexAt_val : ∀ n, n < 16 → hexVal (hexAt n).toNat = (n : Int) ∧ 0 ≤ hexAt n ∧ hexAt n < 256 := by decide +kernel
theorem u8s_len (l : List Int) : (u8s l).length = l.length := by simp [u8s]
theorem u8s_get (l : List Int) (k : Nat) (h : k < l.length) (h2 : k < (u8s l).length) (h0 : 0 ≤ l[k] ∧ l[k] < 256) : ((u8s l)[k]).toNat = l[k].toNat := by
  simp only [u8s, List.getElem_map, UInt8.toNat_ofNat']
  omega
theorem hexOf_get : ∀ (t : List UInt8) (k : Nat) (h : k < t.length), (hexOf t)[2 * k]? = some (hexAt (t[k].toNat / 16)) ∧ (hexOf t)[2 * k + 1]? = some (hexAt (t[k].toNat % 16))
  | x :: r, 0, _ => by
    have : hexOf (x :: r) = [hexAt (x.toNat / 16), hexAt (x.toNat % 16)] ++ hexOf r := rfl
    rw [this]
    simp
  | x :: r, k + 1, h => by
    have e : hexOf (x :: r) = [hexAt (x.toNat / 16), hexAt (x.toNat % 16)] ++ hexOf r := rfl
    have ih := hexOf_get r k (by simpa using h)
    rw [e, show 2 * (k + 1) = 2 * k + 2 by omega]
    simpa using ih

theorem iDecHex (F : Nat) (hF : 2097152 ≤ F) (t : List UInt8) (ht : t.length ≤ 100000) : S_impl_DecodeHex F (u8s (hexOf t)) = some (t, true) := by
  have hL : (u8s (hexOf t)).length = 2 * t.length := by rw [u8s_len, hexOf_len]
  unfold S_impl_DecodeHex
  rw [hL, tm_nn (by omega), if_neg (by simp only [bne_iff_ne, ne_eq, Decidable.not_not]; omega)]
  have e0 : (([] : List Int), (0 : Int)) = (fun k : Nat => ((t.take k).map (fun b : UInt8 => ((b.toNat : Nat) : Int)), ((2 * k : Nat) : Int))) 0 := by simp
  rw [e0, loop_from0 (fun k : Nat => ((t.take k).map (fun b : UInt8 => ((b.toNat : Nat) : Int)), ((2 * k : Nat) : Int))) (.inl (t.map (fun b : UInt8 => ((b.toNat : Nat) : Int)))) t.length ?_ ?_ (by omega), obind]
  · unfold S_impl_DecodeHex_j1
    dsimp only
    congr 2
    simp only [u8s, List.map_map]
    conv => rhs; rw [← List.map_id t]
    apply List.map_congr_left
    intro b _
    simp
  · intro k hk
    unfold S_impl_DecodeHex_l2
    have hb := t[k].toNat_lt
    obtain ⟨g1, g2⟩ := hexOf_get t k hk
    obtain ⟨a1, b1, c1⟩ := hexAt_val (t[k].toNat / 16) (by omega)
    obtain ⟨a2, b2, c2⟩ := hexAt_val (t[k].toNat % 16) (by omega)
    have gg : ∀ (j n : Nat), n < 16 → (hexOf t)[j]? = some (hexAt n) → ∃ x : UInt8, idxL (u8s (hexOf t)) (j : Int) = some x ∧ hexVal x.toNat = (n : Int) := by
      intro j n hn hj
      obtain ⟨a, b, c⟩ := hexAt_val n hn
      have hjl := (List.getElem?_eq_some_iff.1 hj).1
      have hje := (List.getElem?_eq_some_iff.1 hj).2
      have hj2 : j < (u8s (hexOf t)).length := by rw [u8s_len]; exact hjl
      refine ⟨_, idxL_get hj2, ?_⟩
      rw [u8s_get _ _ hjl hj2 (by rw [hje]; exact ⟨b, c⟩), hje, a]
    obtain ⟨x1, i1, v1⟩ := gg (2 * k) _ (by omega) g1
    obtain ⟨x2, i2, v2⟩ := gg (2 * k + 1) _ (by omega) g2
    have l1 := x1.toNat_lt
    have l2 := x2.toNat_lt
    dsimp only
    rw [if_pos (by rw [hL]; simp; omega), i1, w64 (n := ((2 * k : Nat) : Int) + 1) (by omega) (by omega), show ((2 * k : Nat) : Int) + 1 = ((2 * k + 1 : Nat) : Int) by simp, i2]
    simp only [obind, iHexValue F _ l1, iHexValue F _ l2, v1, v2]
    unfold S_impl_DecodeHex_j3
    rw [if_neg (by simp only [decide_eq_true_eq]; omega), if_neg (by simp only [decide_eq_true_eq]; omega), catO_ok (by simp; omega), obind, w64 (n := ((2 * k : Nat) : Int) + 2) (by omega) (by omega), snoc_take t k hk]
    have e : IntKind.u8.wrap (IntKind.i64.wrap (IntKind.i64.wrap (16 * ((t[k].toNat / 16 : Nat) : Int)) + ((t[k].toNat % 16 : Nat) : Int))) = ((t[k].toNat : Nat) : Int) := by
      rw [w64 (n := 16 * ((t[k].toNat / 16 : Nat) : Int)) (by omega) (by omega), w64 (by omega) (by omega), w8]
      omega
    rw [e, List.map_append, show ((2 * k : Nat) : Int) + 2 = ((2 * (k + 1) : Nat) : Int) by omega]
    rfl
  · unfold S_impl_DecodeHex_l2
    dsimp only
    rw [if_neg (by rw [hL]; simp), List.take_length]

theorem decN_beK : ∀ (k n : Nat), n < 256 ^ k → decN (u8s (beK k n)) = n
  | 0, n, h => by
    have : n = 0 := by simpa using h
    subst this
    rfl
  | k + 1, n, h => by
    have hf : ∀ (l : List UInt8) (a : Nat), l.foldl (fun n b => n * 256 + b.toNat) a = a * 256 ^ l.length + decN l := by
      intro l
      induction l with
      | nil => intro a; simp [decN]
      | cons b l ih =>
        intro a
        simp only [List.foldl_cons, List.length_cons, decN]
        rw [ih, ih (0 * 256 + b.toNat), Nat.pow_succ, Nat.zero_mul, Nat.zero_add]
        have : (a * 256 + b.toNat) * 256 ^ l.length = a * (256 ^ l.length * 256) + b.toNat * 256 ^ l.length := by rw [Nat.add_mul, Nat.mul_assoc, Nat.mul_comm 256]
        rw [this, Nat.add_assoc]
    have hm : decN (u8s (beK k n)) = n % 256 ^ k := by
      have hb : ∀ (k n : Nat), beK k n = beK k (n % 256 ^ k) := by
        intro k
        induction k with
        | zero => intro n; rfl
        | succ k ih =>
          intro n
          simp only [beK]
          rw [ih n, ih (n % 256 ^ (k + 1))]
          congr 1
          · congr 1
            rw [Nat.pow_succ]
            have e1 : n % (256 ^ k * 256) / 256 ^ k = n / 256 ^ k % 256 := Nat.mod_mul_right_div_self ..
            rw [e1, Nat.mod_mod]
          · rw [Nat.mod_mod_of_dvd _ (Nat.pow_dvd_pow 256 (by omega))]
      rw [hb, decN_beK k _ (Nat.mod_lt _ (Nat.pow_pos (by decide)))]
    have e : u8s (beK (k + 1) n) = UInt8.ofNat ((((n / 256 ^ k) % 256 : Nat) : Int)).toNat :: u8s (beK k n) := rfl
    rw [e]
    have hlt : n / 256 ^ k < 256 := by
      rw [Nat.div_lt_iff_lt_mul (Nat.pow_pos (by decide)), Nat.mul_comm, ← Nat.pow_succ]; exact h
    have hfold : decN (UInt8.ofNat ((((n / 256 ^ k) % 256 : Nat) : Int)).toNat :: u8s (beK k n)) = (n / 256 ^ k) * 256 ^ k + n % 256 ^ k := by
      have := hf (u8s (beK k n)) (UInt8.ofNat ((((n / 256 ^ k) % 256 : Nat) : Int)).toNat).toNat
      simp only [decN, List.foldl_cons, Nat.zero_mul, Nat.zero_add] at this ⊢
      rw [this, u8s_len, beK_len]
      have hm' : (u8s (beK k n)).foldl (fun n b => n * 256 + b.toNat) 0 = n % 256 ^ k := hm
      rw [hm', UInt8.toNat_ofNat', Int.toNat_natCast]
      rw [show (2 : Nat) ^ 8 = 256 from rfl, Nat.mod_mod, Nat.mod_eq_of_lt hlt]
    rw [hfold, Nat.mul_comm]
    exact Nat.div_add_mod n (256 ^ k)

/-- What is written at a width, and that both write the same. -/
theorem kEncodeFixed (F : Nat) (hF : 2097152 ≤ F) (n w : Int) (hn : I64 n) (hw : I64 w) : ∃ r, S_spec_EncodeFixed F n w = some r ∧ S_impl_EncodeFixed F n w = some r ∧ (r ≠ [] → ∃ k q : Nat, w = (k : Int) ∧ n = (q : Int) ∧ 1 ≤ k ∧ k ≤ 7 ∧ r = u8s (beK k q) ∧ q < 256 ^ k) ∧ r.length ≤ 7 := by
  unfold S_spec_EncodeFixed S_impl_EncodeFixed
  rw [sIn, iIn, obind, obind]
  cases hb : inB w 1 7 with
  | false => exact ⟨[], by simp [S_spec_EncodeFixed_j1], by simp [S_impl_EncodeFixed_j1], by simp, by simp⟩
  | true =>
    simp only [Bool.not_true, Bool.false_eq_true, if_false]
    by_cases h0 : n < 0
    · exact ⟨[], by simp [h0, S_spec_EncodeFixed_j1], by simp [h0, S_impl_EncodeFixed_j1], by simp, by simp⟩
    · simp only [inB, Bool.and_eq_true, decide_eq_true_eq] at hb
      unfold I64 at hn
      obtain ⟨m, rfl⟩ : ∃ m : Nat, w = m := ⟨w.toNat, by omega⟩
      obtain ⟨q, rfl⟩ : ∃ q : Nat, n = q := ⟨n.toNat, by omega⟩
      rw [if_neg (by simp), w64 (by omega) (by omega), nnO_ok (by omega), obind]
      rw [show (8 : Int) * (m : Int) = ((8 * m : Nat) : Int) by omega, shR_nn _ (8 * m) (by omega)]
      have e256 : (2 : Nat) ^ (8 * m) = 256 ^ m := by rw [Nat.pow_mul]
      have ed : ((q : Nat) : Int) / 2 ^ (8 * m) = ((q / 256 ^ m : Nat) : Int) := by
        rw [← e256]; simp
      rw [ed]
      unfold S_spec_EncodeFixed_j1 S_impl_EncodeFixed_j1
      simp only [show decide ((q : Int) < 0) = false by simp, Bool.false_eq_true, if_false]
      rw [sEncodeFixed_loop F (by omega) q m (by omega) (by omega), obind]
      unfold S_spec_EncodeFixed_j2
      have hil := iEncodeFixed_loop F (by omega) q m (by omega) (by omega)
      by_cases hz : q / 256 ^ m = 0
      · have hq : q < 256 ^ m := by
          rcases Nat.lt_or_ge q (256 ^ m) with h | h
          · exact h
          · have := Nat.div_pos h (Nat.pow_pos (by decide)); omega
        rw [hz]
        rw [if_neg (by simp), if_neg (by simp), mkO_ok (by omega) (by omega), obind]
        rw [show ((m : Nat) : Int).toNat = m by simp, w64 (by omega) (by omega), hil, obind]
        exact ⟨_, rfl, rfl, fun _ => ⟨m, q, rfl, rfl, by omega, by omega, rfl, hq⟩, by rw [u8s_len, beK_len]; omega⟩
      · generalize q / 256 ^ m = z at *
        rw [if_pos (by simp; omega), if_pos (by simp; omega)]
        exact ⟨[], rfl, rfl, by simp, by simp⟩

theorem iDecFixed (F : Nat) (hF : 8 ≤ F) (s : List UInt8) (w : Int) (hw : I64 w) : ∃ r, S_impl_DecodeFixed F s w = some r ∧ ∀ k : Nat, w = (k : Int) → 1 ≤ k → k ≤ 7 → k ≤ s.length → r = (((decN (s.take k) : Nat) : Int), true) := by
  unfold S_impl_DecodeFixed S_impl_DecodeFixed_j1
  rw [iIn, obind]
  cases hb : inB w 1 7 with
  | false =>
    refine ⟨(0, false), by simp, ?_⟩
    rintro k rfl h1 h2 _
    simp only [inB, Bool.and_eq_false_iff, decide_eq_false_iff_not] at hb
    omega
  | true =>
    obtain ⟨h1, h7⟩ := inB_iff.1 hb
    obtain ⟨k, rfl⟩ : ∃ k : Nat, w = (k : Int) := ⟨w.toNat, by omega⟩
    rw [if_neg (by simp)]
    by_cases hl : (s.length : Int) < (k : Int)
    · rw [if_pos (by simpa using hl)]
      refine ⟨(0, false), rfl, ?_⟩
      intro j hj _ _ hjs
      omega
    · rw [if_neg (by simpa using hl), iDecodeFixed_loop F hF s k (by omega) (by omega), obind]
      refine ⟨_, rfl, ?_⟩
      intro j hj _ _ _
      have : j = k := by omega
      subst this
      rfl

theorem lv_vb : ∀ (f n : Nat), n < 128 ^ (f + 1) → lv (vb f n) = n
  | 0, n, h => by
    simp only [vb, lv]
    rw [Nat.mod_eq_of_lt (by simpa using h)]
    omega
  | f + 1, n, h => by
    simp only [vb]
    by_cases h1 : n < 128
    · rw [if_pos h1]
      simp only [lv]
      omega
    · rw [if_neg h1]
      simp only [lv]
      rw [lv_vb f (n / 128) (by rw [Nat.pow_succ] at h; omega)]
      omega
theorem vb_ne (f n : Nat) : vb f n ≠ [] := by
  cases f with
  | zero => simp [vb]
  | succ f => simp only [vb]; split <;> simp

theorem iEnc_loop (F0 : Nat) : ∀ (f n : Nat) (l : List Int) (F : Nat), n < 128 ^ (f + 1) → l.length + f ≤ 8 → f ≤ 6 → f < F →
    ∃ (x : Nat) (l2 : List Int), loopN (σ := Int × List Int) (β := Int × List Int) (fun s => S_impl_EncodeVarint_l2 F0 s.1 s.2) F ((n : Int), l) = some ((x : Int), l2) ∧ l2 ++ [(x : Int)] = l ++ byN (vb f n) ∧ x < 128 ∧ l2.length ≤ 8
  | f, n, l, F, hn, hl, hf6, hF => by
    obtain ⟨q, rfl⟩ : ∃ q, F = q + 1 := ⟨F - 1, by omega⟩
    simp only [loopN]
    unfold S_impl_EncodeVarint_l2
    by_cases h : n < 128
    · rw [if_neg (by simp; omega)]
      refine ⟨n, l, rfl, ?_, h, by omega⟩
      cases f with
      | zero => simp [vb, byN]
      | succ f => simp [vb, byN, h]
    · cases f with
      | zero => simp at hn; omega
      | succ f =>
        have hdiv : n / 128 < 128 ^ (f + 1) := by
          rw [Nat.pow_succ] at hn
          omega
        have hbig : n < 128 ^ 7 := Nat.lt_of_lt_of_le hn (Nat.pow_le_pow_right (by decide) (by omega))
        simp only [Nat.reducePow] at hbig
        have e1 : IntKind.i64.wrap ((n : Int).tdiv 128) = ((n / 128 : Nat) : Int) := by
          rw [td_nn (by omega), w64 (by omega) (by omega)]; omega
        have e2 : IntKind.u8.wrap (IntKind.i64.wrap ((n : Int).tmod 128 + 128)) = ((128 + n % 128 : Nat) : Int) := by
          rw [tm_nn (by omega), w64 (by omega) (by omega), w8]; omega
        rw [if_pos (by simp; omega), catO_ok (by simp; omega), obind, e1, e2]
        obtain ⟨x, l2, i1, i2, i3, i4⟩ := iEnc_loop F0 f (n / 128) (l ++ [((128 + n % 128 : Nat) : Int)]) q hdiv (by simp; omega) (by omega) (by omega)
        refine ⟨x, l2, i1, ?_, i3, i4⟩
        rw [i2]
        simp only [vb, if_neg h, byN, List.map_cons, List.append_assoc, List.singleton_append]

theorem iEnc (F : Nat) (hF : 20 ≤ F) (n : Nat) (hn : n ≤ 562949953421311) : S_impl_EncodeVarint F (n : Int) = some (u8s (byN (vb 6 n))) := by
  unfold S_impl_EncodeVarint
  rw [iIn, obind, inB_iff.2 (show (0 : Int) ≤ (n : Int) ∧ (n : Int) ≤ 562949953421311 by omega), if_neg (by simp)]
  obtain ⟨x, l2, i1, i2, i3, i4⟩ := iEnc_loop F 6 n [] F (by simp only [Nat.reducePow, Nat.reduceAdd]; omega) (by simp) (by omega) (by omega)
  rw [i1, obind]
  unfold S_impl_EncodeVarint_j1
  have e : IntKind.u8.wrap (x : Int) = (x : Int) := by rw [w8]; omega
  rw [catO_ok (by simp; omega), obind, e, i2]
  simp

theorem iEncVar (F : Nat) (hF : 2097152 ≤ F) (n : Int) (hn : I64 n) : ∃ r : List UInt8, S_impl_EncodeVarint F n = some r ∧ r.length ≤ 7 ∧ ((0 ≤ n ∧ n ≤ 562949953421311) → ∃ q : Nat, n = (q : Int) ∧ q < 128 ^ 7 ∧ r.map UInt8.toNat = vb 6 q) ∧ (¬ (0 ≤ n ∧ n ≤ 562949953421311) → r = []) := by
  by_cases h : 0 ≤ n ∧ n ≤ 562949953421311
  · obtain ⟨q, rfl⟩ : ∃ q : Nat, n = (q : Int) := ⟨n.toNat, by omega⟩
    have hq : q < 128 ^ 7 := by
      have : (128 : Nat) ^ 7 = 562949953421312 := by decide
      omega
    have hlt := vb_lt 6 q hq
    have hm := (u8s_byN hlt (u8s (byN (vb 6 q)))).1 rfl
    refine ⟨_, iEnc F (by omega) q (by omega), ?_, fun _ => ⟨q, rfl, hq, hm.symm⟩, fun h' => absurd h h'⟩
    have := vb_len 6 q
    rw [hm] at this
    simpa using this
  · refine ⟨[], ?_, by simp, fun h' => absurd h' h, fun _ => rfl⟩
    unfold S_impl_EncodeVarint
    rw [iIn, obind]
    have hb : inB n 0 562949953421311 = false := by
      cases hx : inB n 0 562949953421311 with
      | false => rfl
      | true => exact absurd (inB_iff.1 hx) h
    rw [hb]
    rfl

theorem dec_enc (F : Nat) (hF : 2097152 ≤ F) (r t : List UInt8) (q : Nat) (hq : q < 128 ^ 7) (hr : r.map UInt8.toNat = vb 6 q) (ht : t.length ≤ 1000) : S_impl_DecodeVarint F (r ++ t) = some ((q : Int), (r.length : Int)) := by
  have hrl : r.length = (vb 6 q).length := by rw [← hr]; simp
  have hlen := vb_len 6 q
  have hne : r ≠ [] := by
    rintro rfl
    exact vb_ne 6 q (by simpa using hr.symm)
  have hr1 : 1 ≤ r.length := List.length_pos_iff.2 hne
  have hs : (r ++ t).length ≤ 1048576 := by simp; omega
  obtain ⟨x, e1, h1⟩ := iDec F hF (r ++ t) hs
  have hgood : good (vb 6 q) = true := (vb_good 6 (vb 6 q) (vb_ne 6 q) hlen (vb_lt 6 q hq)).1 (by rw [lv_vb 6 q hq])
  obtain ⟨g1, g2, g3⟩ := (good_iff (vb 6 q) (vb_ne 6 q)).1 hgood
  have hb : ∀ (i : Nat) (hi : i < r.length) (h2 : i < (r ++ t).length), ((r ++ t)[i]).toNat = (vb 6 q).getD i 0 := by
    intro i hi h2
    rw [List.getElem_append_left hi, ← hr]
    simp [List.getD_eq_getElem?_getD, hi]
  have hT : tN (r ++ t) r.length = vb 6 q := by
    unfold tN
    rw [List.take_left, hr]
  have hmin : r.length - 1 < min 7 (r ++ t).length := by simp; omega
  rcases h1 with ⟨a, _⟩ | ⟨i, hi, b, c, rfl⟩
  · have := a (r.length - 1) hmin
    rw [hb _ (by omega)] at this
    rw [hrl] at this
    omega
  · have hir : i = r.length - 1 := by
      rcases Nat.lt_trichotomy i (r.length - 1) with h | h | h
      · exfalso
        rw [hb i (by omega)] at b
        have := g1 i (by omega)
        omega
      · exact h
      · exfalso
        have := c (r.length - 1) h
        rw [hb _ (by omega), hrl] at this
        omega
    subst hir
    have hz : ¬ (0 < r.length - 1 ∧ ((r ++ t)[r.length - 1]'(by omega)).toNat = 0) := by
      rintro ⟨z1, z2⟩
      rw [hb _ (by omega), hrl] at z2
      omega
    rw [if_neg hz] at e1
    rw [e1, show r.length - 1 + 1 = r.length by omega, hT, lv_vb 6 q hq]

end Go.Proofs.YtgddopammpjkgaaDoor
