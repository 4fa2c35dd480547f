/- Proved here: numerals read: both programs read the same. -/
import Derived.Test.YtgddopammpjkgaaDoorPfmt
import Derived.Lib.AtoiBound
namespace Go.Proofs.YtgddopammpjkgaaDoor
open Go Go.RowKit
set_option linter.unusedVariables false
set_option linter.unusedSimpArgs false

/-- The number that the digits of a text make, behind n, and how many there are. -/
def stp (p : Nat × Nat) (b : UInt8) : Nat × Nat := if 48 ≤ b.toNat ∧ b.toNat ≤ 57 then (p.1 * 10 + (b.toNat - 48), p.2 + 1) else p
def rdn (s : List UInt8) : Nat × Nat := s.foldl stp (0, 0)

theorem rdn_snoc (s : List UInt8) (b : UInt8) : rdn (s ++ [b]) = stp (rdn s) b := by simp [rdn]

theorem rdn_bound (s : List UInt8) : (rdn s).1 < 10 ^ (rdn s).2 ∧ (rdn s).2 ≤ s.length := by
  have h : ∀ (s : List UInt8) (p : Nat × Nat), p.1 < 10 ^ p.2 → (s.foldl stp p).1 < 10 ^ (s.foldl stp p).2 ∧ (s.foldl stp p).2 ≤ p.2 + s.length := by
    intro s
    induction s with
    | nil => intro p hp; simpa using hp
    | cons b s ih =>
      intro p hp
      simp only [List.foldl_cons, List.length_cons]
      have h1 : (stp p b).1 < 10 ^ (stp p b).2 ∧ (stp p b).2 ≤ p.2 + 1 := by
        unfold stp
        split
        · refine ⟨?_, by simp⟩
          dsimp only
          rw [Nat.pow_succ]
          generalize 10 ^ p.2 = q at *
          omega
        · exact ⟨hp, by omega⟩
      obtain ⟨h2, h3⟩ := ih _ h1.1
      exact ⟨h2, by omega⟩
  have := h s (0, 0) (by simp)
  simpa [rdn] using this

theorem dig_val (d : Nat) (h : d < 10) : (UInt8.ofNat (48 + d)).toNat = 48 + d := by
  rw [UInt8.toNat_ofNat']
  omega

theorem rdn_dec (u : Nat) : rdn (Lib.decDigits u) = (u, Lib.nDigits u) := by
  induction u using Nat.strongRecOn with
  | _ u ih =>
    by_cases h : u < 10
    · rw [Lib.decDigits, dif_pos h, Lib.nDigits, dif_pos h]
      simp only [rdn, List.foldl_cons, List.foldl_nil, stp, dig_val u h]
      rw [if_pos (by omega)]
      simp
    · rw [Lib.decDigits, dif_neg h, rdn_snoc, ih (u / 10) (by omega)]
      have e : Lib.nDigits u = Lib.nDigits (u / 10) + 1 := by rw [Lib.nDigits, dif_neg h]
      rw [e]
      simp only [stp, dig_val (u % 10) (Nat.mod_lt _ (by decide))]
      rw [if_pos (by omega)]
      refine Prod.ext ?_ rfl
      dsimp only
      omega

theorem rdn_itoa (n : Int) : rdn (Lib.itoa n) = (n.natAbs, Lib.nDigits n.natAbs) := by
  unfold Lib.itoa
  split
  · have : rdn (45 :: Lib.decDigits n.natAbs) = rdn (Lib.decDigits n.natAbs) := by
      simp only [rdn, List.foldl_cons]
      rfl
    rw [this, rdn_dec]
  · rw [rdn_dec, show n.toNat = n.natAbs by omega]

theorem nDig_le {u k : Nat} (h1 : 1 ≤ k) (h : u < 10 ^ k) : Lib.nDigits u ≤ k := by
  induction k generalizing u with
  | zero => omega
  | succ k ih =>
    by_cases h10 : u < 10
    · rw [Lib.nDigits, dif_pos h10]; omega
    · rw [Lib.nDigits, dif_neg h10]
      rw [Nat.pow_succ] at h
      have hk : 1 ≤ k := by
        rcases Nat.eq_zero_or_pos k with rfl | hk
        · simp at h; omega
        · exact hk
      have := ih hk (u := u / 10) (by generalize 10 ^ k = q at *; omega)
      omega

theorem head_itoa (n : Int) : (Lib.itoa n).head? = some 45 ↔ n < 0 := by
  unfold Lib.itoa
  split
  · simpa using (by assumption)
  · rename_i h
    constructor
    · intro he
      exfalso
      have h2 : ∀ u : Nat, (Lib.decDigits u).head? ≠ some 45 := by
        intro u
        induction u using Nat.strongRecOn with
        | _ u ih =>
          by_cases h : u < 10
          · rw [Lib.decDigits, dif_pos h]
            intro e
            have e1 : UInt8.ofNat (48 + u) = 45 := by simpa using e
            have e2 := congrArg UInt8.toNat e1
            rw [dig_val u h] at e2
            have : (45 : UInt8).toNat = 45 := rfl
            omega
          · rw [Lib.decDigits, dif_neg h]
            intro e
            cases hd : Lib.decDigits (u / 10) with
            | nil =>
              have := Lib.decDigits_length (u / 10)
              rw [hd, Lib.nDigits] at this
              split at this <;> simp at this
            | cons b r =>
              rw [hd] at e
              exact ih (u / 10) (by omega) (by rw [hd]; simpa using e)
      exact h2 _ he
    · intro he; exact absurd he h

/-- A text is the numeral of a number of at most nine digits, or not. -/
def isNum (s : List UInt8) (n : Int) : Prop := -999999999 ≤ n ∧ n ≤ 999999999 ∧ Lib.itoa n = s

theorem isNum_read {s : List UInt8} {n : Int} (h : isNum s n) : (rdn s).1 = n.natAbs ∧ (rdn s).2 ≤ 9 ∧ s.length ≤ 10 ∧ (s.head? = some 45 ↔ n < 0) := by
  obtain ⟨h1, h2, rfl⟩ := h
  have hp : (10 : Nat) ^ 9 = 1000000000 := by decide
  have hd := nDig_le (u := n.natAbs) (k := 9) (by decide) (by omega)
  rw [rdn_itoa]
  refine ⟨rfl, hd, ?_, head_itoa n⟩
  unfold Lib.itoa
  split
  · simp only [List.length_cons, Lib.decDigits_length]; omega
  · rw [Lib.decDigits_length, show n.toNat = n.natAbs by omega]; omega

theorem pint_loop (F : Nat) (hF : 64 ≤ F) (s : List UInt8) (hs : s.length ≤ 1048576) : loopN (σ := (Int × Int × Int)) (β := ((Int × Int))) (fun x => S_spec_ParseInt_l5 F s x.1 x.2.1 x.2.2) F (0, 0, 0) = some (((rdn (s.take 11)).1 : Int), ((rdn (s.take 11)).2 : Int)) := by
  rw [show ((0 : Int), (0 : Int), (0 : Int)) = (fun k : Nat => (((rdn (s.take k)).1 : Int), ((rdn (s.take k)).2 : Int), (k : Int))) 0 by simp [rdn]]
  have hm : s.take 11 = s.take (min s.length 11) := by
    rcases Nat.le_total s.length 11 with h | h
    · rw [Nat.min_eq_left h, List.take_of_length_le h, List.take_of_length_le (Nat.le_refl _)]
    · rw [Nat.min_eq_right h]
  rw [hm]
  refine loop_from0 (fun k : Nat => (((rdn (s.take k)).1 : Int), ((rdn (s.take k)).2 : Int), (k : Int))) _ (min s.length 11) ?_ ?_ (by omega)
  · intro k hk
    have hk1 : k < s.length := by omega
    obtain ⟨b1, b2⟩ := rdn_bound (s.take k)
    have b3 : (s.take k).length ≤ 10 := by simp; omega
    have b4 : (10 : Nat) ^ (rdn (s.take k)).2 ≤ 10 ^ 10 := Nat.pow_le_pow_right (by decide) (by omega)
    have b5 : (10 : Nat) ^ 10 = 10000000000 := by decide
    have hb := s[k].toNat_lt
    unfold S_spec_ParseInt_l5 S_spec_ParseInt_j6
    dsimp only
    rw [if_pos (show decide ((k : Int) < (s.length : Int)) = true by simp; omega), if_pos (show decide ((k : Int) < 11) = true by simp; omega), idxL_get hk1, obind, snoc_take s k hk1, rdn_snoc]
    generalize rdn (s.take k) = p at *
    unfold stp
    have hj7 : ∀ n c : Int, S_spec_ParseInt_j7 F (k : Int) n c = some (.inl (n, c, ((k + 1 : Nat) : Int))) := by
      intro n c
      unfold S_spec_ParseInt_j7
      rw [w64 (by omega) (by omega)]
      rfl
    by_cases h1 : 48 ≤ s[k].toNat
    · rw [if_pos (show decide ((48 : Int) ≤ (s[k].toNat : Int)) = true by simp; omega), obind]
      unfold S_spec_ParseInt_j8
      by_cases h2 : s[k].toNat ≤ 57
      · rw [if_pos (show decide ((s[k].toNat : Int) ≤ 57) = true by simp; omega), idxL_get hk1, obind, if_pos ⟨h1, h2⟩, hj7]
        have e1 : IntKind.u8.wrap ((s[k].toNat : Int) - 48) = ((s[k].toNat - 48 : Nat) : Int) := by rw [w8]; omega
        rw [e1, w64 (n := ((s[k].toNat - 48 : Nat) : Int)) (by omega) (by omega), w64 (n := (p.1 : Int) * 10) (by omega) (by omega), w64 (by omega) (by omega), w64 (by omega) (by omega)]
        simp
      · rw [if_neg (show ¬ decide ((s[k].toNat : Int) ≤ 57) = true by simp; omega), if_neg (by omega), hj7]
    · rw [if_neg (show ¬ decide ((48 : Int) ≤ (s[k].toNat : Int)) = true by simp; omega), if_neg (by omega)]
      unfold S_spec_ParseInt_j8
      rw [if_neg (by simp), hj7]
  · unfold S_spec_ParseInt_l5 S_spec_ParseInt_j6
    dsimp only
    by_cases h : s.length ≤ 11
    · rw [Nat.min_eq_left h, if_neg (show ¬ decide ((s.length : Int) < (s.length : Int)) = true by simp), if_neg (by simp)]
    · rw [Nat.min_eq_right (by omega), if_pos (show decide (((11 : Nat) : Int) < (s.length : Int)) = true by simp; omega), if_neg (by simp)]

theorem sParseInt (F : Nat) (hF : 64 ≤ F) (s : List UInt8) (hs : s.length ≤ 1048576) : (∀ n, isNum s n → S_spec_ParseInt F s = some (n, true)) ∧ ((∀ n, ¬ isNum s n) → S_spec_ParseInt F s = some (0, false)) := by
  obtain ⟨b1, b2⟩ := rdn_bound (s.take 11)
  have b3 : (s.take 11).length ≤ 11 := by simp; omega
  have b4 : (10 : Nat) ^ (rdn (s.take 11)).2 ≤ 10 ^ 11 := Nat.pow_le_pow_right (by decide) (by omega)
  have b5 : (10 : Nat) ^ 11 = 100000000000 := by decide
  have hsign : ∃ sg : Bool, (sg = true ↔ s.head? = some 45) ∧ S_spec_ParseInt F s = S_spec_ParseInt_j4 F s ((rdn (s.take 11)).1 : Int) ((rdn (s.take 11)).2 : Int) sg := by
    unfold S_spec_ParseInt
    rw [pint_loop F hF s hs, obind]
    unfold S_spec_ParseInt_j1
    cases s with
    | nil => exact ⟨false, by simp, by simp⟩
    | cons b r =>
      refine ⟨((b.toNat : Int) == 45), ?_, ?_⟩
      · simp only [beq_iff_eq, List.head?_cons, Option.some.injEq]
        constructor
        · intro h
          apply UInt8.toNat_inj.1
          show b.toNat = 45
          omega
        · rintro rfl; rfl
      · rw [if_pos (by simp), show (0 : Int) = ((0 : Nat) : Int) from rfl, idxL_get (by simp), obind]
        rfl
  obtain ⟨sg, hsg, hE⟩ := hsign
  rw [hE]
  have hv : ∃ v : Int, v = (if sg = true then -((rdn (s.take 11)).1 : Int) else ((rdn (s.take 11)).1 : Int)) ∧ S_spec_ParseInt_j4 F s ((rdn (s.take 11)).1 : Int) ((rdn (s.take 11)).2 : Int) sg = S_spec_ParseInt_j2 F s ((rdn (s.take 11)).2 : Int) v := by
    unfold S_spec_ParseInt_j4
    cases sg with
    | true =>
      refine ⟨_, rfl, ?_⟩
      rw [if_pos rfl, if_pos rfl, w64 (by omega) (by omega), Int.zero_sub]
    | false =>
      refine ⟨_, rfl, ?_⟩
      rw [if_neg (by simp), if_neg (by simp)]
  obtain ⟨v, hv, hE2⟩ := hv
  rw [hE2]
  have hvI : I64 v := by unfold I64; rw [hv]; split <;> omega
  unfold S_spec_ParseInt_j2 S_spec_ParseInt_j3
  constructor
  · intro n hn
    have hn' := isNum_read hn
    have h10 : s.take 11 = s := List.take_of_length_le (by omega)
    rw [h10] at hv ⊢
    obtain ⟨r1, r2, r3, r4⟩ := hn'
    have hvn : v = n := by
      rw [hv, r1]
      by_cases hneg : n < 0
      · rw [if_pos (hsg.2 (r4.2 hneg))]; omega
      · rw [if_neg (fun h => hneg (r4.1 (hsg.1 h)))]; omega
    rw [hvn] at hvI ⊢
    rw [if_neg (by simp; omega), if_neg (by simp; omega), sFormatInt F hF n hvI, obind, hn.2.2]
    simp
  · intro hno
    by_cases h9 : (9 : Int) < ((rdn (s.take 11)).2 : Int)
    · rw [if_pos (by simpa using h9), if_pos rfl]
    · rw [if_neg (by simpa using h9)]
      by_cases h10 : (10 : Int) < (s.length : Int)
      · rw [if_pos (by simpa using h10), if_pos rfl]
      · rw [if_neg (by simpa using h10), sFormatInt F hF v hvI, obind]
        have hne : Lib.itoa v ≠ s := by
          intro e
          apply hno v
          have b6 : (10 : Nat) ^ (rdn (s.take 11)).2 ≤ 10 ^ 9 := Nat.pow_le_pow_right (by decide) (by omega)
          have b7 : (10 : Nat) ^ 9 = 1000000000 := by decide
          refine ⟨?_, ?_, e⟩
          · rw [hv]; split <;> omega
          · rw [hv]; split <;> omega
        rw [if_pos (by simpa using hne)]

theorem dec_from : ∀ (u : Nat) (acc : Nat), Lib.decFrom acc (Lib.decDigits u) = some (acc * 10 ^ Lib.nDigits u + u) := by
  intro u
  induction u using Nat.strongRecOn with
  | _ u ih =>
    intro acc
    have happ : ∀ (a b : List UInt8) (acc : Nat), Lib.decFrom acc (a ++ b) = (Lib.decFrom acc a).bind fun x => Lib.decFrom x b := by
      intro a
      induction a with
      | nil => intro b acc; rfl
      | cons x a ih2 =>
        intro b acc
        simp only [List.cons_append, Lib.decFrom]
        cases Lib.digitVal x with
        | none => rfl
        | some d => exact ih2 b _
    have hdv : ∀ d, d < 10 → Lib.digitVal (UInt8.ofNat (48 + d)) = some d := by
      intro d hd
      unfold Lib.digitVal
      rw [dig_val d hd, if_pos (by omega)]
      congr 1
      omega
    by_cases h : u < 10
    · rw [Lib.decDigits, dif_pos h, Lib.nDigits, dif_pos h]
      simp only [Lib.decFrom, hdv u h, Nat.pow_one]
    · have e : Lib.nDigits u = Lib.nDigits (u / 10) + 1 := by rw [Lib.nDigits, dif_neg h]
      rw [Lib.decDigits, dif_neg h, happ, ih (u / 10) (by omega) acc, Option.bind_some, e]
      simp only [Lib.decFrom, hdv (u % 10) (Nat.mod_lt _ (by decide))]
      rw [Nat.pow_succ, ← Nat.mul_assoc]
      generalize acc * 10 ^ Lib.nDigits (u / 10) = q
      congr 1
      omega

theorem dec_ne (u : Nat) : Lib.decDigits u ≠ [] := by
  intro h
  have := Lib.decDigits_length u
  rw [h, Lib.nDigits] at this
  split at this <;> simp at this

theorem dec_head (u : Nat) : ∃ b r, Lib.decDigits u = b :: r ∧ 48 ≤ b.toNat ∧ b.toNat ≤ 57 := by
  induction u using Nat.strongRecOn with
  | _ u ih =>
    by_cases h : u < 10
    · exact ⟨UInt8.ofNat (48 + u), [], by rw [Lib.decDigits, dif_pos h], by rw [dig_val u h]; omega, by rw [dig_val u h]; omega⟩
    · obtain ⟨b, r, e, h1, h2⟩ := ih (u / 10) (by omega)
      exact ⟨b, r ++ [UInt8.ofNat (48 + u % 10)], by rw [Lib.decDigits, dif_neg h, e]; rfl, h1, h2⟩

theorem atoi_itoa (n : Int) : Lib.atoi (Lib.itoa n) = some n := by
  unfold Lib.itoa
  have hnat : ∀ u, Lib.decNat (Lib.decDigits u) = some u := by
    intro u
    unfold Lib.decNat
    rw [if_neg (by simpa using dec_ne u), dec_from]
    simp
  split
  · rename_i h
    simp only [Lib.atoi]
    rw [if_pos (by decide), hnat]
    simp
    omega
  · rename_i h
    obtain ⟨b, r, e, h1, h2⟩ := dec_head n.toNat
    have hn := hnat n.toNat
    rw [e] at hn ⊢
    simp only [Lib.atoi]
    have hb1 : ¬ (b == 45) = true := by
      intro hb
      have : b = 45 := by simpa using hb
      subst this
      exact absurd h1 (by decide)
    have hb2 : ¬ (b == 43) = true := by
      intro hb
      have : b = 43 := by simpa using hb
      subst this
      exact absurd h1 (by decide)
    rw [if_neg hb1, if_neg hb2, hn]
    simp
    omega

theorem iParseInt (F : Nat) (s : List UInt8) : (∀ n, isNum s n → S_impl_ParseInt F s = some (n, true)) ∧ ((∀ n, ¬ isNum s n) → S_impl_ParseInt F s = some (0, false)) := by
  unfold S_impl_ParseInt S_impl_ParseInt_j1
  constructor
  · intro n hn
    have hn' := isNum_read hn
    obtain ⟨h1, h2, h3⟩ := hn
    have ha : Lib.atoi s = some n := by rw [← h3]; exact atoi_itoa n
    have hA : S_strconv_Atoi F s = some (n, true) := by
      unfold S_strconv_Atoi
      rw [if_pos (by omega), ha]
    have hI : S_strconv_Itoa F n = some s := by
      unfold S_strconv_Itoa
      rw [if_pos (by omega), h3]
    rw [if_neg (by simp; omega), hA, obind]
    dsimp only
    rw [if_neg (by simp), hI, obind, if_neg (by simp), iIn, obind, inB_iff.2 ⟨h1, h2⟩]
    simp
  · intro hno
    by_cases h10 : (10 : Int) < (s.length : Int)
    · rw [if_pos (by simpa using h10)]
    · rw [if_neg (by simpa using h10)]
      cases ha : Lib.atoi s with
      | none =>
        have hA : S_strconv_Atoi F s = some (0, false) := by
          unfold S_strconv_Atoi
          rw [if_pos (by omega), ha]
        rw [hA, obind]
        rfl
      | some n =>
        have hA : S_strconv_Atoi F s = some (n, true) := by
          unfold S_strconv_Atoi
          rw [if_pos (by omega), ha]
        obtain ⟨c1, c2⟩ := Lib.atoi_bound ha (by omega)
        have hI : S_strconv_Itoa F n = some (Lib.itoa n) := by
          unfold S_strconv_Itoa
          rw [if_pos (by omega)]
        rw [hA, obind]
        dsimp only
        rw [if_neg (by simp), hI, obind]
        by_cases he : Lib.itoa n = s
        · rw [if_neg (by simpa using he), iIn, obind]
          cases hb : inB n (-999999999) 999999999 with
          | true =>
            obtain ⟨d1, d2⟩ := inB_iff.1 hb
            exact absurd ⟨d1, d2, he⟩ (hno n)
          | false => rfl
        · rw [if_pos (by simpa using he)]
          rfl

theorem kParseInt (F : Nat) (hF : 64 ≤ F) (s : List UInt8) (hs : s.length ≤ 1048576) : ∃ r, S_spec_ParseInt F s = some r ∧ S_impl_ParseInt F s = some r := by
  by_cases h : ∃ n, isNum s n
  · obtain ⟨n, hn⟩ := h
    exact ⟨_, (sParseInt F hF s hs).1 n hn, (iParseInt F s).1 n hn⟩
  · have h' : ∀ n, ¬ isNum s n := fun n hn => h ⟨n, hn⟩
    exact ⟨_, (sParseInt F hF s hs).2 h', (iParseInt F s).2 h'⟩

theorem P_FnExactParseInt (F : Nat) (hF : 2097152 ≤ F) (s : List UInt8) : S_laws_FnExactParseInt F s = some true := by
  unfold S_laws_FnExactParseInt
  by_cases hl : (1048576 : Int) < (s.length : Int)
  · rw [if_pos (by simpa using hl)]
  · obtain ⟨r, h1, h2⟩ := kParseInt F (by omega) s (by omega)
    rw [if_neg (by simpa using hl), h1, obind, h2, obind]
    simp [S_laws_FnExactParseInt_j1]

end Go.Proofs.YtgddopammpjkgaaDoor
