/- Proved here: the parts of a set: both programs find the same. -/
import Derived.Test.YtdalcpadcggklaaDoorPedge
namespace Go.Proofs.YtdalcpadcggklaaDoor
open Go Go.RowKit
set_option linter.unusedVariables false
set_option linter.unusedSimpArgs false

def stp (R : Nat → Nat) (S s : Nat) : Nat := arnd R s &&& S
def itr (R : Nat → Nat) (S s : Nat) : Nat → Nat
  | 0 => s
  | k + 1 => stp R S (itr R S s k)
theorem sub_bit_iff {a b : Nat} : a &&& b = a ↔ ∀ i, a.testBit i = true → b.testBit i = true := by
  constructor
  · intro h i hi
    have := congrArg (fun z => Nat.testBit z i) h
    simp only [Nat.testBit_and, hi, Bool.true_and] at this
    exact this
  · intro h
    apply Nat.eq_of_testBit_eq
    intro i
    rw [Nat.testBit_and]
    cases hi : a.testBit i with
    | false => rfl
    | true => rw [h i hi]; rfl
theorem stp_lt {m S : Nat} (R : Nat → Nat) (hS : S < 2 ^ m) (s : Nat) : stp R S s < 2 ^ m := Nat.lt_of_le_of_lt Nat.and_le_right hS
theorem stp_sub (R : Nat → Nat) (S s : Nat) : stp R S s &&& S = stp R S s := by
  unfold stp
  rw [Nat.and_assoc, Nat.and_self]
theorem stp_sup {R : Nat → Nat} {S s : Nat} (h : s &&& S = s) : s &&& stp R S s = s := by
  rw [sub_bit_iff] at h ⊢
  intro i hi
  have := arnd_sub R s
  rw [sub_bit_iff] at this
  unfold stp
  rw [Nat.testBit_and, this i hi, h i hi]; rfl
theorem itr_sub {R : Nat → Nat} {S s : Nat} (h : s &&& S = s) : ∀ k, itr R S s k &&& S = itr R S s k
  | 0 => h
  | k + 1 => stp_sub R S _
theorem itr_lt {m : Nat} {R : Nat → Nat} {S s : Nat} (hS : S < 2 ^ m) (h : s &&& S = s) (k : Nat) : itr R S s k < 2 ^ m := by
  rw [← itr_sub h k]
  exact Nat.lt_of_le_of_lt Nat.and_le_right hS
theorem itr_fix {R : Nat → Nat} {S s k : Nat} (h : itr R S s (k + 1) = itr R S s k) : ∀ j, itr R S s (k + j) = itr R S s k
  | 0 => rfl
  | j + 1 => by
    have := itr_fix h j
    show stp R S (itr R S s (k + j)) = itr R S s k
    rw [this]; exact h
theorem itr_pc {m : Nat} {R : Nat → Nat} {S s : Nat} (hm : m ≤ 7) (hS : S < 2 ^ m) (h : s &&& S = s) : ∀ k, (∀ j, j < k → itr R S s (j + 1) ≠ itr R S s j) → pc s + k ≤ pc (itr R S s k)
  | 0, _ => Nat.le_refl _
  | k + 1, hk => by
    have h1 := itr_pc hm hS h k fun j hj => hk j (by omega)
    have hp := pow128 hm
    have a := itr_lt (R := R) hS h k
    have b := itr_lt (R := R) hS h (k + 1)
    have := pc_lt _ (show itr R S s k < 128 by omega) _ (show itr R S s (k + 1) < 128 by omega) (stp_sup (itr_sub h k)) fun e => hk k (by omega) e.symm
    omega
theorem itr_k {m k : Nat} {R : Nat → Nat} {S s : Nat} (hm : m ≤ 7) (hS : S < 2 ^ m) (h : s &&& S = s) (h0 : s ≠ 0) (hk : ∀ j, j < k → itr R S s (j + 1) ≠ itr R S s j) : k < m := by
  have hp := pow128 hm
  have hlt : s < 2 ^ m := by rw [← h]; exact Nat.lt_of_le_of_lt Nat.and_le_right hS
  have h1 := itr_pc hm hS h k hk
  have h2 := pc_le m hm _ (itr_lt (R := R) hS h k)
  have h3 := pc_pos s (by omega) h0
  omega
theorem itr_end {m : Nat} {R : Nat → Nat} {S s : Nat} (hm : m ≤ 7) (hS : S < 2 ^ m) (h : s &&& S = s) (h0 : s ≠ 0) : itr R S s (m + 1) = itr R S s m := by
  have hst : ∃ j, j < m ∧ itr R S s (j + 1) = itr R S s j := by
    refine Classical.byContradiction fun hno => ?_
    have := itr_k (k := m) hm hS h h0 fun j hj e => hno ⟨j, hj, e⟩
    omega
  obtain ⟨j, hj, e⟩ := hst
  have a := itr_fix e (m - j)
  have b := itr_fix e (m + 1 - j)
  rw [show j + (m - j) = m by omega] at a
  rw [show j + (m + 1 - j) = m + 1 by omega] at b
  rw [a, b]
theorem itr_from {m k : Nat} {R : Nat → Nat} {S s : Nat} (hk : k ≤ m) (e : itr R S s (k + 1) = itr R S s k) : itr R S s k = itr R S s m := by
  have a := itr_fix e (m - k)
  rw [show k + (m - k) = m by omega] at a
  exact a.symm

/-- T is cut off from the rest of S. -/
def Cut (n : Nat) (R : Nat → Nat) (S T : Nat) : Prop := T &&& S = T ∧ ∀ a b, a < n → b < n → T.testBit a = true → S.testBit b = true → (R a).testBit b = true → T.testBit b = true
theorem stp_cut {n : Nat} {R : Nat → Nat} {S T s : Nat} (hn : n ≤ 7) (hS : S < 2 ^ n) (hc : Cut n R S T) (h : s &&& T = s) : stp R S s = stp R T s := by
  have hT : T < 2 ^ n := by rw [← hc.1]; exact Nat.lt_of_le_of_lt Nat.and_le_right hS
  have hs : s < 2 ^ n := by rw [← h]; exact Nat.lt_of_le_of_lt Nat.and_le_right hT
  rw [sub_bit_iff] at h
  have hTS := sub_bit_iff.1 hc.1
  apply Nat.eq_of_testBit_eq
  intro i
  unfold stp
  rw [Nat.testBit_and, Nat.testBit_and, Bool.eq_iff_iff, Bool.and_eq_true, Bool.and_eq_true]
  constructor
  · rintro ⟨h1, h2⟩
    refine ⟨h1, ?_⟩
    rcases (arnd_bit hs hn i).1 h1 with h3 | ⟨v, hv, h3, h4⟩
    · exact h i h3
    · exact hc.2 v i hv (bit_lt hS h2) (h v h3) h2 h4
  · rintro ⟨h1, h2⟩
    exact ⟨h1, hTS i h2⟩
theorem itr_cut {n : Nat} {R : Nat → Nat} {S T s : Nat} (hn : n ≤ 7) (hS : S < 2 ^ n) (hc : Cut n R S T) (h : s &&& T = s) : ∀ k, itr R S s k = itr R T s k
  | 0 => rfl
  | k + 1 => by
    show stp R S (itr R S s k) = stp R T (itr R T s k)
    rw [itr_cut hn hS hc h k]
    exact stp_cut hn hS hc (itr_sub h k)

theorem ndiff_sub_eq : ∀ z, z < 128 → ∀ c, c < 128 → c &&& z = c → z - c = ndiff z c ∧ c ≤ z ∧ ndiff z c &&& z = ndiff z c := by decide +kernel
theorem ndiff_ne : ∀ z, z < 128 → ∀ c, c < 128 → c &&& z = c → c ≠ 0 → ndiff z c ≠ z := by decide +kernel

def lowV (x : Nat) : Nat := ((selN 7 x.testBit).getD 0 0).toNat
theorem low_all : ∀ x, x < 128 → x ≠ 0 → bAnd ((x : Nat) : Int) (IntKind.i64.wrap (0 - ((x : Nat) : Int))) = ((2 ^ lowV x : Nat) : Int) ∧ 0 < (selN 7 x.testBit).length ∧ (selN 7 x.testBit).getD 0 0 = ((lowV x : Nat) : Int) ∧ lowV x < 7 ∧ 2 ^ lowV x &&& x = 2 ^ lowV x := by decide +kernel

theorem cut_next {n : Nat} {R : Nat → Nat} {S T C : Nat} (g : VG n R) (hS : S < 2 ^ n) (hc : Cut n R S T) (hC : C < 2 ^ n) (hCT : C &&& T = C) (hcl : stp R S C = C) : Cut n R S (ndiff T C) := by
  have hTS := sub_bit_iff.1 hc.1
  refine ⟨sub_bit_iff.2 fun i hi => ?_, fun a b ha hb h1 h2 h3 => ?_⟩
  · rw [ndiff_bit, Bool.and_eq_true] at hi
    exact hTS i hi.1
  · rw [ndiff_bit, Bool.and_eq_true] at h1 ⊢
    refine ⟨hc.2 a b ha hb h1.1 h2 h3, ?_⟩
    cases hbC : C.testBit b with
    | false => rfl
    | true =>
      exfalso
      have : C.testBit a = true := by
        rw [← hcl]
        unfold stp
        rw [Nat.testBit_and, (arnd_bit hC g.n7 a).2 (.inr ⟨b, hb, hbC, by rw [← g.sym a b ha hb]; exact h3⟩), hTS a h1.1]
        rfl
      rw [this] at h1
      exact absurd h1.2 (by simp)

theorem sGrow (F : Nat) (hF : 9 ≤ F) {m : Nat} {R : Nat → Nat} (g : VG m R) {S s : Nat} (hS : S < 2 ^ m) (h : s &&& S = s) : S_spec_l3Grow F (m : Int) (rowsOf m R) (s : Int) (S : Int) = some ((itr R S s m : Nat) : Int) := by
  unfold S_spec_l3Grow
  have h7 := g.n7
  have hp := pow128 h7
  rw [show (((s : Nat) : Int), (0 : Int)) = (fun k : Nat => (((itr R S s k : Nat) : Int), (k : Int))) 0 from rfl]
  rw [loop_from0 (fun k : Nat => (((itr R S s k : Nat) : Int), (k : Int))) ((itr R S s m : Nat) : Int) m ?_ ?_ (by omega), obind]
  · rfl
  · intro k hk
    unfold S_spec_l3Grow_l2
    dsimp only
    have hg := itr_lt (R := R) hS h k
    have ha := arnd_lt g hg
    rw [if_pos (by simp; omega), sAround F (by omega) g hg, obind, bAnd_nat _ _ (by omega) (by omega), w64 (by omega) (by omega)]
    rfl
  · unfold S_spec_l3Grow_l2
    simp

theorem iPartOf (F : Nat) (hF : 200 ≤ F) {m : Nat} {R : Nat → Nat} (g : VG m R) {S s : Nat} (hS : S < 2 ^ m) (h : s &&& S = s) (h0 : s ≠ 0) : S_impl_partOf F (m : Int) (rowsOf m R) (S : Int) (s : Int) = some ((itr R S s m : Nat) : Int) := by
  unfold S_impl_partOf
  have h7 := g.n7
  have hp := pow128 h7
  obtain ⟨b, hb, hh⟩ := loop_meas (body := fun x : Int => S_impl_partOf_l1 F (m : Int) (rowsOf m R) (S : Int) x) (fun x => ∃ k : Nat, k < m ∧ x = ((itr R S s k : Nat) : Int) ∧ ∀ j, j < k → itr R S s (j + 1) ≠ itr R S s j) (fun x => 128 - x.toNat) (fun b => b = ((itr R S s m : Nat) : Int))
    (by
      rintro _ ⟨k, hkm, rfl, hk⟩
      have hg := itr_lt (R := R) hS h k
      have hg2 := itr_lt (R := R) hS h (k + 1)
      have hn := nbr_lt g hg
      unfold S_impl_partOf_l1
      have hor : itr R S s k ||| nbr R (itr R S s k) < 128 := or_lt128 (by omega) (by omega)
      rw [iNeighbors F (by omega) g hg, obind, bOr_nat _ _ (by omega) (by omega), bAnd_nat _ _ (by omega) (by omega)]
      rw [show (itr R S s k ||| nbr R (itr R S s k)) &&& S = itr R S s (k + 1) from rfl]
      by_cases e : itr R S s (k + 1) = itr R S s k
      · right
        rw [if_pos (by rw [e]; simp)]
        exact ⟨_, rfl, by rw [itr_from (m := m) (by omega) e]⟩
      · left
        rw [if_neg (by simp only [beq_iff_eq]; omega)]
        have hk' : ∀ j, j < k + 1 → itr R S s (j + 1) ≠ itr R S s j := fun j hj => by
          by_cases ej : j = k
          · rw [ej]; exact e
          · exact hk j (by omega)
        have hsup := stp_sup (R := R) (itr_sub (R := R) h k)
        have hle : itr R S s k ≤ itr R S s (k + 1) := by
          have : itr R S s k &&& itr R S s (k + 1) = itr R S s k := hsup
          rw [← this]; exact Nat.and_le_right
        refine ⟨_, rfl, ⟨k + 1, itr_k h7 hS h h0 hk', rfl, hk'⟩, ?_⟩
        have : itr R S s (k + 1) < 128 := by omega
        omega)
    F ((s : Nat) : Int) ⟨0, by have := g.n1; omega, rfl, fun j hj => by omega⟩ (by omega)
  rw [hb, hh]
  rfl

theorem kParts (F : Nat) (hF : 2097152 ≤ F) {m : Nat} {R : Nat → Nat} (g : VG m R) {S : Nat} (hS : S < 2 ^ m) : ∃ r : List Int, r.length ≤ 7 ∧ S_spec_PartsOf F (m : Int) (rowsOf m R) (S : Int) = some r ∧ S_impl_parts F (m : Int) (rowsOf m R) (S : Int) = some r := by
  unfold S_spec_PartsOf S_impl_parts
  have h7 := g.n7
  have hp := pow128 h7
  obtain ⟨r, q, e1, e2, rfl, hlen⟩ := loop_sim (b1 := fun s : List Int × Int => S_spec_PartsOf_l2 F (m : Int) (rowsOf m R) (S : Int) s.1 s.2) (b2 := fun s : Int × List Int => S_impl_parts_l2 F (m : Int) (rowsOf m R) s.1 s.2)
    (fun a b => ∃ (l : List Int) (z : Nat), a = (l, (z : Int)) ∧ b = ((z : Int), l) ∧ Cut m R S z ∧ l.length + pc z ≤ 7) (fun a => a.2.toNat) (fun a b => a = b ∧ a.length ≤ 7)
    (by
      rintro _ _ ⟨l, z, rfl, rfl, hc, hlen⟩
      have hz : z < 2 ^ m := by rw [← hc.1]; exact Nat.lt_of_le_of_lt Nat.and_le_right hS
      unfold S_spec_PartsOf_l2 S_impl_parts_l2 S_spec_PartsOf_j3
      dsimp only
      by_cases h0 : z = 0
      · right
        subst h0
        rw [if_neg (by simp), if_neg (by simp), if_neg (by simp)]
        exact ⟨_, _, rfl, rfl, rfl, by omega⟩
      · left
        obtain ⟨w1, w2, w3, w4, w5⟩ := low_all z (by omega) h0
        have hv64 := pow_le64 _ w4
        have hvS : 2 ^ lowV z &&& S = 2 ^ lowV z := by
          rw [sub_bit_iff] at w5 ⊢
          exact fun i hi => sub_bit_iff.1 hc.1 i (w5 i hi)
        have hne : (2 : Nat) ^ lowV z ≠ 0 := Nat.pos_iff_ne_zero.1 (Nat.pow_pos (by decide))
        have hC := itr_lt (R := R) hS hvS m
        have hcl : stp R S (itr R S (2 ^ lowV z) m) = itr R S (2 ^ lowV z) m := itr_end h7 hS hvS hne
        have hcut := itr_cut h7 hS hc w5 m
        have hCz : itr R S (2 ^ lowV z) m &&& z = itr R S (2 ^ lowV z) m := by
          rw [hcut]; exact itr_sub w5 m
        have hne0 : itr R S (2 ^ lowV z) m ≠ 0 := by
          intro e
          have hle : ∀ k, 2 ^ lowV z &&& itr R S (2 ^ lowV z) k = 2 ^ lowV z := by
            intro k
            induction k with
            | zero => exact Nat.and_self _
            | succ k ih =>
              rw [sub_bit_iff] at ih ⊢
              intro i hi
              exact sub_bit_iff.1 (stp_sup (R := R) (itr_sub (R := R) hvS k)) i (ih i hi)
          have := hle m
          rw [e, Nat.and_zero] at this
          exact hne this.symm
        obtain ⟨d1, d2, d3⟩ := ndiff_sub_eq z (by omega) _ (show itr R S (2 ^ lowV z) m < 128 by omega) hCz
        have hcn := cut_next g hS hc hC hCz hcl
        have hnd : ndiff z (itr R S (2 ^ lowV z) m) < 2 ^ m := ndiff_lt hz
        have hpc : pc (ndiff z (itr R S (2 ^ lowV z) m)) < pc z := pc_lt _ (by omega) _ (by omega) d3 (ndiff_ne z (by omega) _ (by omega) hCz hne0)
        have hi0 := idxL_getD w2
        rw [show (((0 : Nat) : Int)) = 0 from rfl, w3] at hi0
        rw [if_pos (by simp; omega), sIsSet F (by omega) _ _ g.row64, obind, isS_intro g hS, if_pos rfl, if_pos (by simp; omega), sListOf F (by omega) _ (by unfold I64; omega), obind, listN_nat hz h7, hi0, obind, nnO_ok (by omega), obind, shL1 (by omega), sGrow F (by omega) g hS hvS, obind, catO_ok (by simp; omega), obind]
        rw [w1, iPartOf F (by omega) g hz w5 hne, obind, ← hcut, catO_ok (by simp; omega), obind, bAndNot_nat _ _ (by omega) (by omega)]
        generalize itr R S (2 ^ lowV z) m = C at *
        rw [w64 (by omega) (by omega)]
        refine ⟨_, _, rfl, rfl, ⟨l ++ [(C : Int)], ndiff z C, ?_, rfl, hcn, ?_⟩, ?_⟩
        · rw [← d1]
          congr 1
          omega
        · simp; omega
        · dsimp only; omega)
    F ([], (S : Int)) ((S : Int), []) ⟨[], S, rfl, rfl, ⟨Nat.and_self _, fun a b _ _ _ h _ => h⟩, by
      have := pc_le m h7 S hS
      simp; omega⟩ (by dsimp only; omega)
  rw [e1, e2, obind, obind]
  exact ⟨r, hlen, rfl, rfl⟩

theorem kPartsOf (F : Nat) (hF : 2097152 ≤ F) (n : Int) (rows : List Int) (hr : Row64 rows) (s : Int) : ∃ r : List Int, r.length ≤ 7 ∧ S_spec_PartsOf F n rows s = some r ∧ S_impl_PartsOf F n rows s = some r := by
  unfold S_impl_PartsOf
  rw [iIsSet F (by omega) n rows hr, obind]
  cases hG : isS n rows s with
  | true =>
    obtain ⟨m, R, z, rfl, rfl, rfl, g, hz⟩ := isS_elim hG
    obtain ⟨r, hl, h1, h2⟩ := kParts F hF g hz
    exact ⟨r, hl, h1, by rw [if_neg (by simp), h2, obind]⟩
  | false =>
    refine ⟨[], by simp, ?_, rfl⟩
    unfold S_spec_PartsOf
    obtain ⟨q, rfl⟩ : ∃ q, F = q + 1 := ⟨F - 1, by omega⟩
    simp only [loopN]
    unfold S_spec_PartsOf_l2 S_spec_PartsOf_j3
    rw [sIsSet (q + 1) (by omega) n rows hr, hG]
    by_cases h : (0 : Int) < s <;> simp [h, S_spec_PartsOf_j1]

end Go.Proofs.YtdalcpadcggklaaDoor
