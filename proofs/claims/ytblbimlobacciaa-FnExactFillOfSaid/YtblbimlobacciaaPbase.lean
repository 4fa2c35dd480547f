/- Proved here: plain lemmas on wrapped numbers and on loops with fuel, with no program in sight. -/
import Derived.Test.YtblbimlobacciaaK9
namespace Go.Proofs.Ytblbimlobacciaa
open Go Go.RowKit
set_option linter.unusedVariables false
set_option linter.unusedSimpArgs false

/-! ### numbers -/

theorem w64 {n : Int} (h1 : -9223372036854775808 ≤ n) (h2 : n ≤ 9223372036854775807) : IntKind.i64.wrap n = n := by
  rw [IntKind.wrap_i64]; omega

theorem w8 (n : Int) : IntKind.u8.wrap n = n % 256 := by
  simp [IntKind.wrap, IntKind.signed, IntKind.bits]

theorem td_nn {n m : Int} (h : 0 ≤ n) : n.tdiv m = n / m := Int.tdiv_eq_ediv_of_nonneg h
theorem tm_nn {n m : Int} (h : 0 ≤ n) : n.tmod m = n % m := Int.tmod_eq_emod_of_nonneg h

theorem shR_nn (n : Int) (k : Nat) (hk : k ≤ 64) : shR n (k : Int) = n / 2 ^ k := by
  unfold shR
  rw [show min ((k : Int).toNat) 64 = k by simp; omega]
  exact Int.fdiv_eq_ediv_of_nonneg _ (Int.pow_nonneg (by decide))

theorem shL_nn (n : Int) (k : Nat) (hk : k ≤ 64) : shL n (k : Int) = IntKind.i64.wrap (n * 2 ^ k) := by
  unfold shL
  rw [show min ((k : Int).toNat) 64 = k by simp; omega]

theorem bv_nat (n : Nat) (h : n < 2 ^ 63) : BitVec.ofInt 64 (n : Int) = BitVec.ofNat 64 n := by
  apply BitVec.eq_of_toNat_eq
  simp only [BitVec.toNat_ofInt, BitVec.toNat_ofNat]
  omega

theorem bAnd_nat (a b : Nat) (ha : a < 2 ^ 63) (hb : b < 2 ^ 63) : bAnd (a : Int) (b : Int) = ((a &&& b : Nat) : Int) := by
  unfold bAnd
  rw [bv_nat a ha, bv_nat b hb]
  have h : (BitVec.ofNat 64 a &&& BitVec.ofNat 64 b).toNat = a &&& b := by
    simp only [BitVec.toNat_and, BitVec.toNat_ofNat]
    rw [Nat.mod_eq_of_lt (by omega), Nat.mod_eq_of_lt (by omega)]
  rw [h]
  have : a &&& b ≤ a := Nat.and_le_left
  exact w64 (by omega) (by omega)

theorem bOr_nat (a b : Nat) (ha : a < 2 ^ 63) (hb : b < 2 ^ 63) : bOr (a : Int) (b : Int) = ((a ||| b : Nat) : Int) := by
  unfold bOr
  rw [bv_nat a ha, bv_nat b hb]
  have h : (BitVec.ofNat 64 a ||| BitVec.ofNat 64 b).toNat = a ||| b := by
    simp only [BitVec.toNat_or, BitVec.toNat_ofNat]
    rw [Nat.mod_eq_of_lt (by omega), Nat.mod_eq_of_lt (by omega)]
  rw [h]
  have : a ||| b < 2 ^ 63 := Nat.or_lt_two_pow ha hb
  exact w64 (by omega) (by omega)

theorem bXor_nat (a b : Nat) (ha : a < 2 ^ 63) (hb : b < 2 ^ 63) : bXor (a : Int) (b : Int) = ((a ^^^ b : Nat) : Int) := by
  unfold bXor
  rw [bv_nat a ha, bv_nat b hb]
  have h : (BitVec.ofNat 64 a ^^^ BitVec.ofNat 64 b).toNat = a ^^^ b := by
    simp only [BitVec.toNat_xor, BitVec.toNat_ofNat]
    rw [Nat.mod_eq_of_lt (by omega), Nat.mod_eq_of_lt (by omega)]
  rw [h]
  have : a ^^^ b < 2 ^ 63 := Nat.xor_lt_two_pow ha hb
  exact w64 (by omega) (by omega)

/-! ### loops -/

section
variable {σ β : Type} {body : σ → Option (σ ⊕ β)}

/-- n rounds, then an end: the state at round k is g k. -/
theorem loop_count (g : Nat → σ) (b : β) : ∀ (n : Nat) (k0 : Nat), (∀ k, k0 ≤ k → k < k0 + n → body (g k) = some (.inl (g (k + 1)))) → body (g (k0 + n)) = some (.inr b) → ∀ F, n < F → loopN body F (g k0) = some b
  | 0, k0, _, he, F, hF => by
    obtain ⟨m, rfl⟩ : ∃ m, F = m + 1 := ⟨F - 1, by omega⟩
    simp only [Nat.add_zero] at he
    simp [loopN, he]
  | n + 1, k0, hs, he, F, hF => by
    obtain ⟨m, rfl⟩ : ∃ m, F = m + 1 := ⟨F - 1, by omega⟩
    have h0 := hs k0 (Nat.le_refl _) (by omega)
    simp only [loopN, h0]
    exact loop_count g b n (k0 + 1) (fun k h1 h2 => hs k (by omega) (by omega)) (by rw [show k0 + 1 + n = k0 + (n + 1) by omega]; exact he) m (by omega)

theorem loop_from0 (g : Nat → σ) (b : β) (n : Nat) (hs : ∀ k, k < n → body (g k) = some (.inl (g (k + 1)))) (he : body (g n) = some (.inr b)) {F : Nat} (hF : n < F) : loopN body F (g 0) = some b :=
  loop_count g b n 0 (fun k _ h => hs k (by omega)) (by simpa using he) F hF

/-- A scan that ends early where p fails. -/
theorem loop_scan (g : Nat → σ) (bn : β) (be : Nat → β) (p : Nat → Bool) : ∀ (n : Nat) (k0 : Nat), (∀ k, k0 ≤ k → k < k0 + n → p k = true → body (g k) = some (.inl (g (k + 1)))) → (∀ k, k0 ≤ k → k < k0 + n → p k = false → body (g k) = some (.inr (be k))) →
    body (g (k0 + n)) = some (.inr bn) → ∀ F, n < F → ∃ r, loopN body F (g k0) = some r ∧ (((∀ k, k0 ≤ k → k < k0 + n → p k = true) ∧ r = bn) ∨ (∃ k, k0 ≤ k ∧ k < k0 + n ∧ p k = false ∧ (∀ j, k0 ≤ j → j < k → p j = true) ∧ r = be k))
  | 0, k0, _, _, he, F, hF => by
    obtain ⟨m, rfl⟩ : ∃ m, F = m + 1 := ⟨F - 1, by omega⟩
    simp only [Nat.add_zero] at he
    exact ⟨bn, by simp [loopN, he], .inl ⟨fun k h1 h2 => by omega, rfl⟩⟩
  | n + 1, k0, hs, hx, he, F, hF => by
    obtain ⟨m, rfl⟩ : ∃ m, F = m + 1 := ⟨F - 1, by omega⟩
    cases hp : p k0 with
    | false =>
      have h0 := hx k0 (Nat.le_refl _) (by omega) hp
      exact ⟨be k0, by simp [loopN, h0], .inr ⟨k0, Nat.le_refl _, by omega, hp, fun j h1 h2 => by omega, rfl⟩⟩
    | true =>
      have h0 := hs k0 (Nat.le_refl _) (by omega) hp
      obtain ⟨r, hr, hh⟩ := loop_scan g bn be p n (k0 + 1) (fun k h1 h2 => hs k (by omega) (by omega)) (fun k h1 h2 => hx k (by omega) (by omega)) (by rw [show k0 + 1 + n = k0 + (n + 1) by omega]; exact he) m (by omega)
      refine ⟨r, by simp only [loopN, h0]; exact hr, ?_⟩
      rcases hh with ⟨h1, h2⟩ | ⟨k, h1, h2, h3, h4, h5⟩
      · refine .inl ⟨fun k hk1 hk2 => ?_, h2⟩
        by_cases e : k = k0
        · rw [e]; exact hp
        · exact h1 k (by omega) (by omega)
      · refine .inr ⟨k, by omega, by omega, h3, fun j hj1 hj2 => ?_, h5⟩
        by_cases e : j = k0
        · rw [e]; exact hp
        · exact h4 j (by omega) hj2

/-- Any loop, by a measure. -/
theorem loop_meas (I : σ → Prop) (M : σ → Nat) (R : β → Prop) (step : ∀ s, I s → (∃ t, body s = some (.inl t) ∧ I t ∧ M t < M s) ∨ (∃ b, body s = some (.inr b) ∧ R b)) : ∀ (F : Nat) (s : σ), I s → M s < F → ∃ b, loopN body F s = some b ∧ R b
  | 0, s, _, h => by omega
  | F + 1, s, hI, h => by
    rcases step s hI with ⟨t, ht, hIt, hm⟩ | ⟨b, hb, hR⟩
    · obtain ⟨b, hb, hR⟩ := loop_meas I M R step F t hIt (by omega)
      exact ⟨b, by simp only [loopN, ht]; exact hb, hR⟩
    · exact ⟨b, by simp [loopN, hb], hR⟩

theorem loop_congr {body2 : σ → Option (σ ⊕ β)} (h : ∀ s, body s = body2 s) (F : Nat) (s : σ) : loopN body F s = loopN body2 F s := by
  rw [show body = body2 from funext h]

end

theorem idxL_get {α : Type} {l : List α} {k : Nat} (h : k < l.length) : idxL l (k : Int) = some l[k] := by
  simp [idxL, h]
theorem idxL_nat {α : Type} (l : List α) (k : Nat) : idxL l (k : Int) = l[k]? := by simp [idxL]
theorem catO_ok {a b : Nat} (h : a + b < 1099511627776) : catO a b = some () := by simp [catO, h]
theorem mkO_ok {n : Int} (h0 : 0 ≤ n) (h : n < 1099511627776) : mkO n = some () := by simp [mkO, h, h0]
theorem nnO_ok {n : Int} (h0 : 0 ≤ n) : nnO n = some () := by simp [nnO]; omega
theorem nzO_ok {n : Int} (h0 : n ≠ 0) : nzO n = some () := by simp [nzO, h0]
theorem slO_ok {n : Nat} {j : Int} (h0 : 0 ≤ j) (h1 : j ≤ n) : slO n j = some () := by simp [slO, h0, h1]
theorem sl2O_ok {n : Nat} {i j : Int} (h0 : 0 ≤ i) (h1 : i ≤ j) (h2 : j ≤ n) : sl2O n i j = some () := by simp [sl2O, h0, h1, h2]
theorem obind {α β : Type} (x : α) (f : α → Option β) : (some x).bind f = f x := rfl
theorem snoc_take {α : Type} (l : List α) (k : Nat) (h : k < l.length) : l.take (k + 1) = l.take k ++ [l[k]] := List.take_succ_eq_append_getElem h

/-! ### scans -/

def allB (n : Nat) (p : Nat → Bool) : Bool := (List.range n).all p

theorem allB_iff {n : Nat} {p : Nat → Bool} : allB n p = true ↔ ∀ k, k < n → p k = true := by
  simp [allB, List.all_eq_true]

theorem allB_congr {n : Nat} {p q : Nat → Bool} (h : ∀ k, k < n → p k = q k) : allB n p = allB n q := by
  rw [Bool.eq_iff_iff, allB_iff, allB_iff]
  exact ⟨fun g k hk => by rw [← h k hk]; exact g k hk, fun g k hk => by rw [h k hk]; exact g k hk⟩

theorem allB_false {n : Nat} {p : Nat → Bool} : allB n p = false ↔ ∃ k, k < n ∧ p k = false := by
  rw [← Bool.not_eq_true, allB_iff]
  constructor
  · intro h
    refine Classical.byContradiction fun g => h fun k hk => ?_
    cases hp : p k with
    | true => rfl
    | false => exact absurd ⟨k, hk, hp⟩ g
  · rintro ⟨k, hk, hp⟩ h
    rw [h k hk] at hp; cases hp

theorem loop_all {σ β : Type} {body : σ → Option (σ ⊕ β)} (g : Nat → σ) (bn be : β) (p : Nat → Bool) (n : Nat) (h : ∀ k, k < n → body (g k) = some (if p k = true then .inl (g (k + 1)) else .inr be)) (he : body (g n) = some (.inr bn)) {F : Nat} (hF : n < F) :
    loopN body F (g 0) = some (if allB n p = true then bn else be) := by
  obtain ⟨r, hr, hh⟩ := loop_scan (body := body) g bn (fun _ => be) p n 0 (fun k _ hk hp => by rw [h k (by omega), if_pos hp]) (fun k _ hk hp => by rw [h k (by omega), if_neg (by simp [hp])]) (by simpa using he) F hF
  rw [hr]
  rcases hh with ⟨h1, rfl⟩ | ⟨k, _, h2, h3, _, rfl⟩
  · rw [if_pos (allB_iff.2 fun k hk => h1 k (by omega) (by omega))]
  · rw [if_neg (by rw [Bool.not_eq_true, allB_false]; exact ⟨k, by omega, h3⟩)]

/-- The same, where the state is the index alone. -/
theorem loop_allI {β : Type} {body : Int → Option (Int ⊕ β)} (bn be : β) (p : Nat → Bool) (n : Nat) (h : ∀ k : Nat, k < n → body (k : Int) = some (if p k = true then .inl ((k + 1 : Nat) : Int) else .inr be)) (he : body (n : Int) = some (.inr bn)) {F : Nat} (hF : n < F) :
    loopN body F 0 = some (if allB n p = true then bn else be) :=
  loop_all (fun k : Nat => (k : Int)) bn be p n h he hF

/-- Two loops in step. -/
theorem loop_sim {σ τ β γ : Type} {b1 : σ → Option (σ ⊕ β)} {b2 : τ → Option (τ ⊕ γ)} (Rel : σ → τ → Prop) (M : σ → Nat) (Out : β → γ → Prop)
    (h : ∀ s t, Rel s t → (∃ s' t', b1 s = some (.inl s') ∧ b2 t = some (.inl t') ∧ Rel s' t' ∧ M s' < M s) ∨ (∃ r q, b1 s = some (.inr r) ∧ b2 t = some (.inr q) ∧ Out r q)) :
    ∀ (F : Nat) (s : σ) (t : τ), Rel s t → M s < F → ∃ r q, loopN b1 F s = some r ∧ loopN b2 F t = some q ∧ Out r q
  | 0, s, t, _, hm => by omega
  | F + 1, s, t, hr, hm => by
    rcases h s t hr with ⟨s', t', e1, e2, hr', hlt⟩ | ⟨r, q, e1, e2, ho⟩
    · obtain ⟨r, q, g1, g2, ho⟩ := loop_sim Rel M Out h F s' t' hr' (by omega)
      exact ⟨r, q, by simp only [loopN, e1]; exact g1, by simp only [loopN, e2]; exact g2, ho⟩
    · exact ⟨r, q, by simp [loopN, e1], by simp [loopN, e2], ho⟩

end Go.Proofs.Ytblbimlobacciaa
