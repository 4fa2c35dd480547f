/- Proved here: the functions on sets agree on drawn sets, and belong together as they should. -/
import Derived.Test.YtdalcpadcggklaaDoorPdrg
import Derived.Test.YtdalcpadcggklaaDoorPpart
import Derived.Test.YtdalcpadcggklaaDoorPind
import Derived.Test.YtdalcpadcggklaaDoorPjoin
import Derived.Test.YtdalcpadcggklaaDoorPfgr
import Derived.Test.YtdalcpadcggklaaDoorPfmt
namespace Go.Proofs.YtdalcpadcggklaaDoor
open Go Go.RowKit
set_option linter.unusedVariables false
set_option linter.unusedSimpArgs false

theorem kParts2 (F : Nat) (hF : 2097152 ≤ F) {m : Nat} {R : Nat → Nat} (g : VG m R) {S : Nat} (hS : S < 2 ^ m) : ∃ r : List Int, r.length ≤ 7 ∧ S_spec_PartsOf F (m : Int) (rowsOf m R) (S : Int) = some r ∧ S_impl_parts F (m : Int) (rowsOf m R) (S : Int) = some r ∧ (∀ x, x ∈ r → ∃ c : Nat, x = (c : Int) ∧ c < 2 ^ m ∧ stp R S c = c) ∧ r.sum = (S : Int) := by
  unfold S_spec_PartsOf S_impl_parts
  have h7 := g.n7
  have hp := pow128 h7
  obtain ⟨r, q, e1, e2, rfl, hlen, hgd, hsum⟩ := loop_sim (b1 := fun s : List Int × Int => S_spec_PartsOf_l2 F (m : Int) (rowsOf m R) (S : Int) s.1 s.2) (b2 := fun s : Int × List Int => S_impl_parts_l2 F (m : Int) (rowsOf m R) s.1 s.2)
    (fun a b => ∃ (l : List Int) (z : Nat), a = (l, (z : Int)) ∧ b = ((z : Int), l) ∧ Cut m R S z ∧ l.length + pc z ≤ 7 ∧ (∀ x, x ∈ l → ∃ c : Nat, x = (c : Int) ∧ c < 2 ^ m ∧ stp R S c = c) ∧ l.sum + (z : Int) = (S : Int)) (fun a => a.2.toNat) (fun a b => a = b ∧ a.length ≤ 7 ∧ (∀ x, x ∈ a → ∃ c : Nat, x = (c : Int) ∧ c < 2 ^ m ∧ stp R S c = c) ∧ a.sum = (S : Int))
    (by
      rintro _ _ ⟨l, z, rfl, rfl, hc, hlen, hgd, hsum⟩
      have hz : z < 2 ^ m := by rw [← hc.1]; exact Nat.lt_of_le_of_lt Nat.and_le_right hS
      unfold S_spec_PartsOf_l2 S_impl_parts_l2 S_spec_PartsOf_j3
      dsimp only
      by_cases h0 : z = 0
      · right
        subst h0
        rw [if_neg (by simp), if_neg (by simp), if_neg (by simp)]
        exact ⟨_, _, rfl, rfl, rfl, by omega, hgd, by clear hgd; omega⟩
      · left
        obtain ⟨w1, w2, w3, w4, w5⟩ := low_all z (by omega) h0
        have hv64 := pow_le64 _ w4
        have hvS : 2 ^ lowV z &&& S = 2 ^ lowV z := by
          rw [sub_bit_iff] at w5 ⊢
          exact fun i hi => sub_bit_iff.1 hc.1 i (w5 i hi)
        have hne : (2 : Nat) ^ lowV z ≠ 0 := Nat.pos_iff_ne_zero.1 (Nat.pow_pos (by decide))
        have hC := itr_lt (R := R) hS hvS m
        have hcl : stp R S (itr R S (2 ^ lowV z) m) = itr R S (2 ^ lowV z) m := itr_end h7 hS hvS hne
        have hcut := itr_cut h7 hS hc w5 m
        have hCz : itr R S (2 ^ lowV z) m &&& z = itr R S (2 ^ lowV z) m := by
          rw [hcut]; exact itr_sub w5 m
        have hne0 : itr R S (2 ^ lowV z) m ≠ 0 := by
          intro e
          have hle : ∀ k, 2 ^ lowV z &&& itr R S (2 ^ lowV z) k = 2 ^ lowV z := by
            intro k
            induction k with
            | zero => exact Nat.and_self _
            | succ k ih =>
              rw [sub_bit_iff] at ih ⊢
              intro i hi
              exact sub_bit_iff.1 (stp_sup (R := R) (itr_sub (R := R) hvS k)) i (ih i hi)
          have := hle m
          rw [e, Nat.and_zero] at this
          exact hne this.symm
        obtain ⟨d1, d2, d3⟩ := ndiff_sub_eq z (by omega) _ (show itr R S (2 ^ lowV z) m < 128 by omega) hCz
        have hcn := cut_next g hS hc hC hCz hcl
        have hnd : ndiff z (itr R S (2 ^ lowV z) m) < 2 ^ m := ndiff_lt hz
        have hpc : pc (ndiff z (itr R S (2 ^ lowV z) m)) < pc z := pc_lt _ (by omega) _ (by omega) d3 (ndiff_ne z (by omega) _ (by omega) hCz hne0)
        have hi0 := idxL_getD w2
        rw [show (((0 : Nat) : Int)) = 0 from rfl, w3] at hi0
        rw [if_pos (by simp; omega), sIsSet F (by omega) _ _ g.row64, obind, isS_intro g hS, if_pos rfl, if_pos (by simp; omega), sListOf F (by omega) _ (by unfold I64; omega), obind, listN_nat hz h7, hi0, obind, nnO_ok (by omega), obind, shL1 (by omega), sGrow F (by omega) g hS hvS, obind, catO_ok (by simp; omega), obind]
        rw [w1, iPartOf F (by omega) g hz w5 hne, obind, ← hcut, catO_ok (by simp; omega), obind, bAndNot_nat _ _ (by omega) (by omega)]
        generalize itr R S (2 ^ lowV z) m = C at *
        rw [w64 (by omega) (by omega)]
        refine ⟨_, _, rfl, rfl, ⟨l ++ [(C : Int)], ndiff z C, ?_, rfl, hcn, ?_, ?_, ?_⟩, ?_⟩
        · clear hgd
          rw [← d1]
          congr 1
          omega
        · clear hgd; simp; omega
        · intro x hx
          rw [List.mem_append, List.mem_singleton] at hx
          rcases hx with hx | rfl
          · exact hgd x hx
          · exact ⟨C, rfl, hC, hcl⟩
        · clear hgd
          rw [List.sum_append, ← d1]
          simp
          omega
        · clear hgd; dsimp only; omega)
    F ([], (S : Int)) ((S : Int), []) ⟨[], S, rfl, rfl, ⟨Nat.and_self _, fun a b _ _ _ h _ => h⟩, by
      have := pc_le m h7 S hS
      simp; omega, by simp, by simp⟩ (by dsimp only; omega)
  rw [e1, e2, obind, obind]
  exact ⟨r, hlen, rfl, rfl, hgd, hsum⟩

theorem kInduced2 (F : Nat) (hF : 2097152 ≤ F) {m : Nat} {R : Nat → Nat} (g : VG m R) {z : Nat} (hz : z < 2 ^ m) : (selN 7 z.testBit).length ≤ 7 ∧ S_spec_InducedOn_j1 F (m : Int) (rowsOf m R) (z : Int) false = some (((selN 7 z.testBit).length : Int), rowsOf (selN 7 z.testBit).length (fun i => indR R (selN 7 z.testBit) i (selN 7 z.testBit).length), true) ∧ S_impl_induced F (m : Int) (rowsOf m R) (z : Int) = some (((selN 7 z.testBit).length : Int), rowsOf (selN 7 z.testBit).length (fun i => indR R (selN 7 z.testBit) i (selN 7 z.testBit).length)) := by
  have h7 := g.n7
  have hp := pow128 h7
  have hlen := selN_len 7 z.testBit
  have hmem : ∀ x, x ∈ selN 7 z.testBit → 0 ≤ x ∧ x < (m : Int) := fun x hx => by
    obtain ⟨v, _, hb, rfl⟩ := mem_selN.1 hx
    have := bit_lt hz hb
    omega
  unfold S_spec_InducedOn_j1 S_impl_induced
  rw [if_neg (by simp), sListOf F (by omega) _ (by unfold I64; omega), iListOf F (by omega) _ (by unfold I64; omega), obind, obind, listN_nat hz h7]
  generalize selN 7 z.testBit = l at *
  have el : ∀ i, i < l.length → ∃ v : Nat, l.getD i 0 = (v : Int) ∧ v < m := fun i hi => by
    have := hmem _ (getD_mem hi)
    exact ⟨(l.getD i 0).toNat, by omega, by omega⟩
  refine ⟨hlen, ?_, ?_⟩
  · rw [show (([] : List Int), (0 : Int)) = (fun k : Nat => (rowsOf k (fun i => indR R l i l.length), (k : Int))) 0 from rfl]
    rw [loop_from0 (fun k : Nat => (rowsOf k (fun i => indR R l i l.length), (k : Int))) (rowsOf l.length (fun i => indR R l i l.length)) l.length ?_ ?_ (by omega), obind]
    · rfl
    · intro i hi
      unfold S_spec_InducedOn_l3
      dsimp only
      obtain ⟨a, ha, ham⟩ := el i hi
      rw [if_pos (by simpa using hi)]
      rw [show ((0 : Int), (0 : Int)) = (fun k : Nat => (((indR R l i k : Nat) : Int), (k : Int))) 0 from rfl]
      rw [loop_from0 (fun k : Nat => (((indR R l i k : Nat) : Int), (k : Int))) ((indR R l i l.length : Nat) : Int) l.length ?_ ?_ (by omega), obind]
      · unfold S_spec_InducedOn_j4
        rw [catO_ok (by simp [rowsOf_len]; omega), obind, w64 (by omega) (by omega), rowsOf_succ]
        simp
      · intro k hk
        unfold S_spec_InducedOn_l5
        dsimp only
        obtain ⟨b, hb, hbm⟩ := el k hk
        have hlt := indR_lt R l i k
        have hpk := pow_le64 k (by omega)
        rw [if_pos (by simpa using hk), idxL_getD hi, obind, idxL_getD hk, obind, ha, hb, sEdge F g ham (by omega), obind]
        rw [show indR R l i (k + 1) = if eAt R l i k = true then indR R l i k ||| 2 ^ k else indR R l i k from rfl]
        rw [show eAt R l i k = (R a).testBit b by unfold eAt; rw [ha, hb]; rfl]
        unfold S_spec_InducedOn_j6
        rw [w64 (n := (k : Int) + 1) (by omega) (by omega)]
        cases (R a).testBit b with
        | false => simp
        | true =>
          rw [if_pos rfl, nnO_ok (by omega), obind, shL1 (by omega), if_pos rfl, ← indR_add R l i k (by omega)]
          generalize 2 ^ k = q at *
          rw [w64 (by omega) (by omega)]
          simp
      · unfold S_spec_InducedOn_l5
        simp
    · unfold S_spec_InducedOn_l3
      simp
  · rw [mkO_ok (by omega) (by omega), obind]
    rw [show (List.replicate (l.length : Int).toNat (0 : Int), (0 : Int)) = (fun k : Nat => (rowsOf k (fun i => indR R l i l.length) ++ List.replicate (l.length - k) (0 : Int), (k : Int))) 0 by simp [rowsOf]]
    rw [loop_from0 (fun k : Nat => (rowsOf k (fun i => indR R l i l.length) ++ List.replicate (l.length - k) (0 : Int), (k : Int))) (rowsOf l.length (fun i => indR R l i l.length)) l.length ?_ ?_ (by omega), obind]
    · rfl
    · intro i hi
      unfold S_impl_induced_l2
      dsimp only
      obtain ⟨a, ha, ham⟩ := el i hi
      have hba := g.b128 ham
      rw [if_pos (by simpa using hi), idxL_getD hi, obind, ha]
      have hP : (rowsOf i (fun i => indR R l i l.length)).length = i := rowsOf_len _ _
      generalize hPd : rowsOf i (fun i => indR R l i l.length) = P at *
      obtain ⟨d, hd⟩ : ∃ d, l.length - i = d + 1 := ⟨l.length - i - 1, by omega⟩
      rw [hd, List.replicate_succ]
      rw [show (P ++ (0 : Int) :: List.replicate d (0 : Int), (0 : Int)) = (fun k : Nat => (P ++ ((indR R l i k : Nat) : Int) :: List.replicate d (0 : Int), (k : Int))) 0 from rfl]
      rw [loop_from0 (fun k : Nat => (P ++ ((indR R l i k : Nat) : Int) :: List.replicate d (0 : Int), (k : Int))) (P ++ ((indR R l i l.length : Nat) : Int) :: List.replicate d (0 : Int)) l.length ?_ ?_ (by omega), obind]
      · unfold S_impl_induced_j3
        rw [w64 (by omega) (by omega), rowsOf_succ, hPd, show l.length - (i + 1) = d by omega]
        simp
      · intro k hk
        unfold S_impl_induced_l4
        dsimp only
        obtain ⟨b, hb, hbm⟩ := el k hk
        have hlt := indR_lt R l i k
        have hpk := pow_le64 k (by omega)
        rw [if_pos (by simpa using hk), idxL_getD hk, obind, rowsOf_idx ham, obind, hb, iHasN F (by omega) (by omega), obind]
        rw [show indR R l i (k + 1) = if eAt R l i k = true then indR R l i k ||| 2 ^ k else indR R l i k from rfl]
        rw [show eAt R l i k = (R a).testBit b by unfold eAt; rw [ha, hb]; rfl]
        unfold S_impl_induced_j5
        rw [w64 (by omega) (by omega)]
        have hg : idxL (P ++ ((indR R l i k : Nat) : Int) :: List.replicate d (0 : Int)) (i : Int) = some ((indR R l i k : Nat) : Int) := by
          have := mid_get P (List.replicate d (0 : Int)) ((indR R l i k : Nat) : Int)
          rwa [hP] at this
        have hs : ∀ y : Int, (P ++ ((indR R l i k : Nat) : Int) :: List.replicate d (0 : Int)).set i y = P ++ y :: List.replicate d (0 : Int) := fun y => by
          have := mid_set P (List.replicate d (0 : Int)) ((indR R l i k : Nat) : Int) y
          rwa [hP] at this
        cases (R a).testBit b with
        | false => simp
        | true =>
          rw [if_pos rfl, hg, obind, nnO_ok (by omega), obind, obind, shL1 (by omega), bOr_nat _ _ (by omega) (by omega), Int.toNat_natCast, hs]
          simp
      · unfold S_impl_induced_l4
        simp
    · unfold S_impl_induced_l2
      simp

theorem indR_bit (R : Nat → Nat) (l : List Int) (i : Nat) : ∀ k j, (indR R l i k).testBit j = (decide (j < k) && eAt R l i j)
  | 0, j => by simp [indR]
  | k + 1, j => by
    have ih := indR_bit R l i k j
    have hlt := indR_lt R l i k
    unfold indR
    by_cases e : j = k
    · subst e
      cases he : eAt R l i j with
      | true =>
        rw [if_pos rfl, Nat.testBit_or, Nat.testBit_two_pow_self]
        simp
      | false =>
        rw [if_neg (by simp), ih]
        simp
    · have h1 : decide (j < k + 1) = decide (j < k) := by
        rw [decide_eq_decide]; omega
      rw [h1]
      cases he : eAt R l i k with
      | true =>
        rw [if_pos rfl, Nat.testBit_or, ih, Nat.testBit_two_pow]
        have : ¬ k = j := by omega
        simp [this]
      | false =>
        rw [if_neg (by simp), ih]

/-! ### cliques -/

theorem cliq_iff {m : Nat} {R : Nat → Nat} {z : Nat} : cliq m R z = true ↔ ∀ v w, v < m → w < m → z.testBit v = true → z.testBit w = true → w ≠ v → (R v).testBit w = true := by
  unfold cliq
  rw [allB_iff]
  constructor
  · intro h v w hv hw h1 h2 hne
    have a := h v hv
    rw [h1] at a
    simp only [Bool.not_true, Bool.false_or] at a
    have b := allB_iff.1 a w hw
    rw [h2] at b
    have : (w == v) = false := by rw [beq_eq_false_iff_ne]; exact hne
    rw [this] at b
    simpa using b
  · intro h v hv
    cases h1 : z.testBit v with
    | false => rfl
    | true =>
      simp only [Bool.not_true, Bool.false_or]
      rw [allB_iff]
      intro w hw
      cases h2 : z.testBit w with
      | false => rfl
      | true =>
        by_cases e : w = v
        · simp [e]
        · simp [h v w hv hw h1 h2 e]
theorem cliq_indep {m : Nat} {R : Nat → Nat} (g : VG m R) {z : Nat} (hz : z < 2 ^ m) : indep m (compR m R) z = cliq m R z := by
  rw [Bool.eq_iff_iff, cliq_iff]
  unfold indep
  rw [allB_iff]
  constructor
  · intro h v w hv hw h1 h2 hne
    have a := h v hv
    rw [h1] at a
    simp only [Bool.not_true, Bool.false_or, beq_iff_eq] at a
    have b := congrArg (fun q => Nat.testBit q w) a
    simp only [Nat.testBit_and, h2, Bool.and_true, Nat.zero_testBit] at b
    rw [compB g hv hw] at b
    have : (w != v) = true := by simp only [bne_iff_ne]; exact hne
    rw [this] at b
    simpa using b
  · intro h v hv
    cases h1 : z.testBit v with
    | false => rfl
    | true =>
      simp only [Bool.not_true, Bool.false_or, beq_iff_eq]
      apply Nat.eq_of_testBit_eq
      intro w
      rw [Nat.testBit_and, Nat.zero_testBit]
      cases h2 : z.testBit w with
      | false => simp
      | true =>
        have hw := bit_lt hz h2
        rw [compB g hv hw]
        by_cases e : w = v
        · simp [e]
        · simp [h v w hv hw h1 h2 e]

/-! ### how many edges -/

theorem eIn_max {R : Nat → Nat} {v a : Nat} : ∀ k, (eIn R v a k).length ≤ k ∧ ((eIn R v a k).length = k ↔ ∀ w, a ≤ w → w < a + k → (R v).testBit w = true)
  | 0 => ⟨Nat.le_refl _, by
    constructor
    · intro _ w h1 h2; omega
    · intro _; rfl⟩
  | k + 1 => by
    obtain ⟨h1, h2⟩ := eIn_max (R := R) (v := v) (a := a) k
    rw [eIn_succ, List.length_append]
    cases hb : (R v).testBit (a + k) with
    | true =>
      rw [if_pos rfl]
      refine ⟨by simp; omega, ?_⟩
      constructor
      · intro h w hw1 hw2
        by_cases e : w = a + k
        · rw [e]; exact hb
        · exact h2.1 (by simp at h; omega) w hw1 (by omega)
      · intro h
        have := h2.2 fun w hw1 hw2 => h w hw1 (by omega)
        simp; omega
    | false =>
      rw [if_neg (by simp)]
      refine ⟨by simp; omega, ?_⟩
      constructor
      · intro h; simp at h; omega
      · intro h
        have := h (a + k) (by omega) (by omega)
        rw [hb] at this; cases this
theorem eOut_max {m : Nat} {R : Nat → Nat} : ∀ k, k ≤ m → (eOut m R k).length ≤ tri m k ∧ ((eOut m R k).length = tri m k ↔ ∀ v w, v < k → v < w → w < m → (R v).testBit w = true)
  | 0, _ => ⟨Nat.le_refl _, by
    constructor
    · intro _ v w h1; omega
    · intro _; rfl⟩
  | k + 1, hk => by
    obtain ⟨h1, h2⟩ := eOut_max (m := m) (R := R) k (by omega)
    obtain ⟨h3, h4⟩ := eIn_max (R := R) (v := k) (a := k + 1) (m - (k + 1))
    rw [eOut_succ, List.length_append]
    simp only [tri]
    refine ⟨by omega, ?_⟩
    constructor
    · intro h v w hv hvw hw
      by_cases e : v = k
      · subst e
        exact h4.1 (by omega) w (by omega) (by omega)
      · exact h2.1 (by omega) v w (by omega) hvw hw
    · intro h
      have a := h2.2 fun v w hv hvw hw => h v w (by omega) hvw hw
      have b := h4.2 fun w hw1 hw2 => h k w (by omega) (by omega) (by omega)
      omega

theorem selN_get {z m : Nat} (hz : z < 2 ^ m) (h7 : m ≤ 7) : ∀ i, i < (selN 7 z.testBit).length → ∃ v : Nat, (selN 7 z.testBit).getD i 0 = (v : Int) ∧ v < m ∧ z.testBit v = true := by
  intro i hi
  obtain ⟨v, _, hb, e⟩ := mem_selN.1 (getD_mem hi)
  exact ⟨v, e, bit_lt hz hb, hb⟩
theorem selN_inc : ∀ z, z < 128 → allB (selN 7 z.testBit).length (fun j => allB j (fun i => decide ((selN 7 z.testBit).getD i 0 < (selN 7 z.testBit).getD j 0))) = true := by decide +kernel
theorem selN_at {z v : Nat} (hv : v < 7) (hb : z.testBit v = true) : ∃ i, i < (selN 7 z.testBit).length ∧ (selN 7 z.testBit).getD i 0 = (v : Int) := by
  have hm : (v : Int) ∈ selN 7 z.testBit := mem_selN.2 ⟨v, hv, hb, rfl⟩
  obtain ⟨i, hi, e⟩ := List.mem_iff_getElem.1 hm
  exact ⟨i, hi, by simp [hi, e]⟩
/-- The induced graph. -/
def inR (R : Nat → Nat) (z : Nat) (i : Nat) : Nat := indR R (selN 7 z.testBit) i (selN 7 z.testBit).length
theorem inR_bit {m : Nat} {R : Nat → Nat} {z : Nat} {i j : Nat} (hj : j < (selN 7 z.testBit).length) : (inR R z i).testBit j = (R ((selN 7 z.testBit).getD i 0).toNat).testBit ((selN 7 z.testBit).getD j 0).toNat := by
  unfold inR
  rw [indR_bit]
  simp [hj, eAt]
theorem inV {m : Nat} {R : Nat → Nat} (g : VG m R) {z : Nat} (hz : z < 2 ^ m) (h0 : z ≠ 0) : VG (selN 7 z.testBit).length (inR R z) := by
  have h7 := g.n7
  have hp := pow128 h7
  have hl := (low_all z (by omega) h0).2.1
  have hlen := selN_len 7 z.testBit
  refine ⟨hl, hlen, fun v _ => indR_lt _ _ _ _, ?_, ?_⟩
  · intro v hv
    obtain ⟨a, ea, ha, _⟩ := selN_get hz h7 v hv
    rw [inR_bit (m := m) hv, ea, Int.toNat_natCast]
    exact g.irr a ha
  · intro v w hv hw
    obtain ⟨a, ea, ha, _⟩ := selN_get hz h7 v hv
    obtain ⟨b, eb, hb, _⟩ := selN_get hz h7 w hw
    rw [inR_bit (m := m) hw, inR_bit (m := m) hv, ea, eb, Int.toNat_natCast, Int.toNat_natCast]
    exact g.sym a b ha hb
theorem cliq_edges {m : Nat} {R : Nat → Nat} (g : VG m R) {z : Nat} (hz : z < 2 ^ m) : cliq m R z = true ↔ (eOut (selN 7 z.testBit).length (inR R z) (selN 7 z.testBit).length).length = tri (selN 7 z.testBit).length (selN 7 z.testBit).length := by
  have h7 := g.n7
  have hp := pow128 h7
  rw [(eOut_max (m := (selN 7 z.testBit).length) (R := inR R z) _ (Nat.le_refl _)).2, cliq_iff]
  have hinc : ∀ i j, i < j → j < (selN 7 z.testBit).length → (selN 7 z.testBit).getD i 0 < (selN 7 z.testBit).getD j 0 := fun i j hij hj => by
    have := allB_iff.1 (allB_iff.1 (selN_inc z (by omega)) j hj) i hij
    simpa using this
  constructor
  · intro h i j hi hij hj
    obtain ⟨a, ea, ha, za⟩ := selN_get hz h7 i hi
    obtain ⟨b, eb, hb, zb⟩ := selN_get hz h7 j hj
    have hlt := hinc i j hij hj
    rw [ea, eb] at hlt
    rw [inR_bit (m := m) hj, ea, eb, Int.toNat_natCast, Int.toNat_natCast]
    exact h a b ha hb za zb (by omega)
  · intro h v w hv hw hzv hzw hne
    obtain ⟨i, hi, ei⟩ := selN_at (z := z) (by omega) hzv
    obtain ⟨j, hj, ej⟩ := selN_at (z := z) (by omega) hzw
    rcases Nat.lt_trichotomy i j with hij | hij | hij
    · have := h i j hi hij hj
      rw [inR_bit (m := m) hj, ei, ej, Int.toNat_natCast, Int.toNat_natCast] at this
      exact this
    · subst hij
      rw [ei] at ej
      omega
    · have := h j i hj hij hi
      rw [inR_bit (m := m) hi, ei, ej, Int.toNat_natCast, Int.toNat_natCast] at this
      rw [g.sym v w hv hw]
      exact this

/-! ### sets of lists -/

theorem selN_pc : ∀ s, s < 128 → (selN 7 s.testBit).length = pcA s := by decide +kernel
theorem okL_pc {l : List Int} (h : okL l = true) : pcA (bitsOf l) = l.length := by
  have h1 : ∀ k, k ≤ l.length → pcA (bitsOf (l.take k)) = k := by
    intro k
    induction k with
    | zero => intro _; simp [bitsOf, pcA]
    | succ k ih =>
      intro hk
      obtain ⟨v, hv, _, hf, _, ho⟩ := okAt_step (l := l) (k := k) (by omega) (allB_iff.1 h k (by omega))
      rw [ho, pcA_add _ (bitsOf_lt _) v hv hf, ih (by omega)]
  have h2 := h1 l.length (Nat.le_refl _)
  rw [List.take_length] at h2
  exact h2

/-! ### draws -/

theorem d_Set (F : Nat) (hF : 2000 ≤ F) (code : List Int) (hC : code.length ≤ 1048576) (i h : Int) (hi : Cu code i) (n : Int) (rows : List Int) : ∃ r, S_spec_l3Set F code i h n rows = some r ∧ I64 r.1 := by
  unfold S_spec_l3Set
  obtain ⟨a, ea, ca⟩ := d_Once F code hC i h hi 16
  rw [ea, obind]
  split
  · obtain ⟨q, eq, cq, hq⟩ := d_PickInt F code hC a.2.1 a.2.2 ca ([(-1), 64, 127, 128, 9223372036854775807] : List (Int)) (by simp)
    rw [eq, obind]
    refine ⟨_, rfl, ?_⟩
    simp only [List.mem_cons, List.not_mem_nil, or_false] at hq
    unfold I64
    dsimp only
    omega
  · obtain ⟨k, hk, hk7⟩ : ∃ k : Nat, (if (if n < 7 then n else 7) > 0 then (if n < 7 then n else 7) else 0) = (k : Int) ∧ k ≤ 7 := by
      refine ⟨(if (if n < 7 then n else 7) > 0 then (if n < 7 then n else 7) else 0).toNat, ?_, ?_⟩
      · split <;> split <;> omega
      · split <;> split <;> omega
    rw [hk, nnO_ok (by omega), obind, shL1 (by omega)]
    have hp : 2 ^ k ≤ 2 ^ 7 := Nat.pow_le_pow_right (by decide) hk7
    have hp0 : 0 < 2 ^ k := Nat.two_pow_pos k
    obtain ⟨b, eb, cb, b0, b1, _⟩ := d_Below F code hC a.2.1 a.2.2 ca ((2 ^ k : Nat) : Int)
    have b1 := b1 (by omega)
    rw [eb, obind]
    refine ⟨_, rfl, ?_⟩
    unfold I64
    dsimp only
    generalize 2 ^ k = q at *
    omega

theorem d_Both (F : Nat) (hF : 5000 ≤ F) (code : List Int) (hC : code.length ≤ 1048576) : ∃ r, S_spec_l3Both F code = some r ∧ DG r.1 r.2.1 ∧ I64 r.2.2 := by
  unfold S_spec_l3Both
  obtain ⟨c, e, hc⟩ := d_New F hF code hC
  rw [e, obind]
  obtain ⟨a, ea, ca, hd⟩ := d_Any F (by omega) code hC c.1 c.2 hc
  rw [ea, obind]
  obtain ⟨b, eb, hb⟩ := d_Set F (by omega) code hC a.2.2.1 a.2.2.2 ca a.1 a.2.1
  rw [eb, obind]
  exact ⟨_, rfl, hd, hb⟩

theorem d_PartsOf (F : Nat) (hF : 5000 ≤ F) (code : List Int) (hC : code.length ≤ 1048576) : ∃ r, S_spec_DrawPartsOf F code = some r ∧ DG r.1 r.2.1 ∧ I64 r.2.2 := by
  unfold S_spec_DrawPartsOf
  obtain ⟨r, e, h⟩ := d_Both F hF code hC
  rw [e, obind]
  exact ⟨_, rfl, h⟩

theorem d_IsClique (F : Nat) (hF : 5000 ≤ F) (code : List Int) (hC : code.length ≤ 1048576) : ∃ r, S_spec_DrawIsClique F code = some r ∧ DG r.1 r.2.1 ∧ I64 r.2.2 := by
  unfold S_spec_DrawIsClique
  obtain ⟨r, e, h⟩ := d_Both F hF code hC
  rw [e, obind]
  exact ⟨_, rfl, h⟩

theorem d_SetOf (F : Nat) (hF : 5000 ≤ F) (code : List Int) (hC : code.length ≤ 1048576) : ∃ r, S_spec_DrawSetOf F code = some r ∧ r.length ≤ 7 := by
  unfold S_spec_DrawSetOf
  obtain ⟨c, e, hc⟩ := d_New F hF code hC
  rw [e, obind]
  obtain ⟨a, ea, ca, a0, a1, _⟩ := d_Below F code hC c.1 c.2 hc 5
  have a1 := a1 (by omega)
  rw [ea, obind]
  obtain ⟨b, e, hb1, hb2⟩ := loop_meas (body := fun s : Int × Int × (List Int) × Int => S_spec_DrawSetOf_l3 F code s.1 s.2.1 s.2.2.1 s.2.2.2) (fun t => Cu code t.1 ∧ 0 ≤ t.2.2.2 ∧ (t.2.2.1.length : Int) + t.2.2.2 ≤ 5) (fun t => t.2.2.2.toNat) (fun b => Cu code b.1 ∧ b.2.2.length ≤ 5) (by
    rintro ⟨i, h, l, x⟩ ⟨hi, hx, hl⟩
    dsimp only at hi hx hl ⊢
    unfold S_spec_DrawSetOf_l3
    by_cases h0 : 0 < x
    · left
      obtain ⟨r, er, cr, _⟩ := d_Below F code hC i h hi 7
      rw [if_pos (by simpa using h0), er, obind, catO_ok (by simp; omega), obind, w64 (by omega) (by omega)]
      exact ⟨_, rfl, ⟨cr, by dsimp only; omega, by dsimp only; simp; omega⟩, by dsimp only; omega⟩
    · right
      rw [if_neg (by simpa using h0)]
      exact ⟨_, rfl, hi, by dsimp only; omega⟩) F (a.2.1, a.2.2, [], a.1) ⟨ca, a0, by simp; omega⟩ (by dsimp only; omega)
  rw [e, obind]
  unfold S_spec_DrawSetOf_j1 S_spec_DrawSetOf_j2
  obtain ⟨d, ed, cd⟩ := d_Once F code hC b.1 b.2.1 hb1 10
  rw [ed, obind]
  split
  · obtain ⟨q, eq, cq, _⟩ := d_PickInt F code hC d.2.1 d.2.2 cd ([(-1), 7] : List (Int)) (by simp)
    rw [eq, obind, catO_ok (by simp; omega), obind]
    exact ⟨_, rfl, by simp; omega⟩
  · exact ⟨_, rfl, by omega⟩

theorem fst_j4 (F : Nat) (hF : 2097152 ≤ F) (code : List Int) (hC : code.length ≤ 1048576) : S_laws_FnSets_j4 F code false = some true := by
  unfold S_laws_FnSets_j4
  obtain ⟨l, e, hl⟩ := d_SetOf F (by omega) code hC
  rw [if_neg (by simp), e, obind, iSetOf F l (by omega) (by omega), obind, sSetOf F l (by omega) (by omega), obind, if_pos (by simp), if_pos (by simp)]
  unfold setOf S_laws_FnSets_j5
  cases ho : okL l with
  | false => rfl
  | true =>
    have hlt := bitsOf_lt l
    unfold S_impl_CountSet
    rw [if_pos rfl]
    dsimp only
    rw [if_neg (by simp), iListOf F (by omega) _ (by unfold I64; omega), obind, obind, listN_nat (n := 7) (by omega) (by omega), selN_pc _ hlt, okL_pc ho, beq_self_eq_true]

theorem iIndep (F : Nat) (hF : 8 ≤ F) {m : Nat} {R : Nat → Nat} (g : VG m R) {z : Nat} (hz : z < 2 ^ m) : S_impl_IsIndependent F (m : Int) (rowsOf m R) (z : Int) = some (indep m R z) := by
  obtain ⟨r, h1, h2⟩ := kIsIndependent F hF (m : Int) (rowsOf m R) g.row64 (z : Int)
  have h7 := g.n7
  have hp := pow128 h7
  rw [h2, ← h1]
  unfold S_spec_IsIndependent
  rw [sIsSet F hF _ _ g.row64, obind, isS_intro g hz, if_neg (by simp)]
  unfold indep
  rw [loop_allI (.inl ()) (.inr false) (fun v => !(z.testBit v) || ((R v &&& z) == 0)) m ?_ ?_ (by omega)]
  · rw [obind]
    cases allB m (fun v => !(z.testBit v) || ((R v &&& z) == 0)) <;> simp [S_spec_IsIndependent_j1]
  · intro v hv
    have hb := g.b128 hv
    unfold S_spec_IsIndependent_l2
    rw [if_pos (by simp; omega), nnO_ok (by omega), obind, bit_nat (by omega) (by omega)]
    unfold S_spec_IsIndependent_j3
    rw [w64 (n := (v : Int) + 1) (by omega) (by omega)]
    cases hzv : z.testBit v with
    | false => simp
    | true =>
      rw [if_pos rfl, rowsOf_idx hv, obind, bAnd_nat _ _ (by omega) (by omega)]
      generalize R v &&& z = x
      by_cases e : x = 0
      · subst e; simp
      · have : ¬ ((x : Nat) : Int) = 0 := by omega
        simp [e, this]
  · unfold S_spec_IsIndependent_l2
    simp

theorem compNs (F : Nat) (hF : 8 ≤ F) (n : Int) (rows : List Int) (hr : Row64 rows) (hG : isG n rows = false) : S_spec_ComplementOf F n rows = some (0, [], false) := by
  unfold S_spec_ComplementOf
  rw [sIsGraph F hF n rows hr, obind, hG]
  rfl

theorem fst_j3 (F : Nat) (hF : 2097152 ≤ F) (code : List Int) (hC : code.length ≤ 1048576) : S_laws_FnSets_j3 F code false = some true := by
  unfold S_laws_FnSets_j3
  have hj := fst_j4 F hF code hC
  obtain ⟨⟨n, rows, s⟩, e, hd, hs⟩ := d_IsClique F (by omega) code hC
  obtain ⟨a1, a2, a3, a4⟩ := hd
  dsimp only at a1 a2 a3 a4 hs
  obtain ⟨x, x1, x2⟩ := kIsIndependent F (by omega) n rows a2 s
  rw [if_neg (by simp), e, obind]
  dsimp only
  cases hS : isS n rows s with
  | false =>
    have i1 : S_impl_InducedOn F n rows s = some (0, [], false) := by
      unfold S_impl_InducedOn
      rw [iIsSet F (by omega) n rows a2, obind, hS]
      rfl
    have i2 : S_spec_InducedOn F n rows s = some (0, [], false) := by
      unfold S_spec_InducedOn
      rw [sIsSet F (by omega) n rows a2, obind, hS]
      rfl
    have c1 := sIsClique F (by omega) n rows a2 s
    have c2 := iIsClique F (by omega) n rows a2 s
    rw [hS, Bool.false_and] at c1 c2
    have ne : (false != false) = false := rfl
    have xx : x = false := by
      unfold S_impl_IsIndependent at x2
      rw [iIsSet F (by omega) n rows a2, obind, hS] at x2
      exact (Option.some.inj x2).symm
    have eqg : S_spec_EqualGraphs F 0 [] 0 [] = some true := by
      rw [sEqualGraphs F 0 [] 0 [] (by simp; omega) (by simp)]
      rfl
    cases hG : isG n rows with
    | false =>
      have hc := compNs F (by omega) n rows a2 hG
      rw [hc, obind, i1, obind, i2, obind, c2, obind, c1, obind, if_neg (by simp), x2, obind, x1, obind, if_neg (by simp), if_neg (by simp), if_neg (by simp), eqg, obind, if_neg (by simp), if_neg (by simp)]
      exact hj
    | true =>
      obtain ⟨m, R, rfl, rfl, g⟩ := isG_elim hG
      have gc := compV g
      have hS2 : isS (m : Int) (rowsOf m (compR m R)) s = false := by
        unfold isS at hS ⊢
        rw [isG_intro g, Bool.true_and] at hS
        rw [hS, Bool.and_false]
      have y : S_impl_IsIndependent F (m : Int) (rowsOf m (compR m R)) s = some false := by
        unfold S_impl_IsIndependent
        rw [iIsSet F (by omega) _ _ gc.row64, obind, hS2]
        rfl
      rw [sComplement F (by omega) g, obind, i1, obind, i2, obind, c2, obind, c1, obind, if_neg (by simp), x2, obind, x1, obind, if_neg (by simp), if_pos rfl, obind]
      dsimp only
      rw [y, obind, if_neg (by simp), if_neg (by simp), eqg, obind, if_neg (by simp), if_neg (by simp)]
      exact hj
  | true =>
    obtain ⟨m, R, z, rfl, rfl, rfl, g, hz⟩ := isS_elim hS
    have gc := compV g
    have h7 := g.n7
    have hce : cliq ((m : Int).toNat) (fun v => ((rowsOf m R).getD v 0).toNat) ((z : Int).toNat) = cliq m R z := by
      unfold cliq
      simp only [Int.toNat_natCast]
      refine allB_congr fun v hv => ?_
      rw [rowsOf_getD hv, Int.toNat_natCast]
    have c1 := sIsClique F (by omega) (m : Int) (rowsOf m R) a2 (z : Int)
    have c2 := iIsClique F (by omega) (m : Int) (rowsOf m R) a2 (z : Int)
    rw [hS, Bool.true_and, hce] at c1 c2
    have y := iIndep F (by omega) gc hz
    rw [cliq_indep g hz] at y
    obtain ⟨k7, k1, k2⟩ := kInduced2 F hF g hz
    by_cases h0 : z = 0
    · have i1 : S_impl_InducedOn F (m : Int) (rowsOf m R) (z : Int) = some (0, [], false) := by
        unfold S_impl_InducedOn
        rw [iIsSet F (by omega) _ _ a2, obind, hS, h0]
        rfl
      have i2 : S_spec_InducedOn F (m : Int) (rowsOf m R) (z : Int) = some (0, [], false) := by
        unfold S_spec_InducedOn
        rw [sIsSet F (by omega) _ _ a2, obind, hS, h0]
        rfl
      have eqg : S_spec_EqualGraphs F 0 [] 0 [] = some true := by
        rw [sEqualGraphs F 0 [] 0 [] (by simp; omega) (by simp)]
        rfl
      rw [sComplement F (by omega) g, obind, i1, obind, i2, obind, c2, obind, c1, obind, if_neg (by simp), x2, obind, x1, obind, if_neg (by simp), if_pos rfl, obind]
      dsimp only
      rw [y, obind, if_neg (by simp), if_neg (by simp), eqg, obind, if_neg (by simp), if_neg (by simp)]
      exact hj
    · have gi := inV g hz h0
      have hz0 : ((z : Int) == 0) = false := by
        rw [beq_eq_false_iff_ne]; omega
      have i1 : S_impl_InducedOn F (m : Int) (rowsOf m R) (z : Int) = some (((selN 7 z.testBit).length : Int), rowsOf (selN 7 z.testBit).length (inR R z), true) := by
        unfold S_impl_InducedOn S_impl_InducedOn_j1
        rw [iIsSet F (by omega) _ _ a2, obind, hS, if_neg (by simp), hz0, if_neg (by simp), k2, obind]
        rfl
      have i2 : S_spec_InducedOn F (m : Int) (rowsOf m R) (z : Int) = some (((selN 7 z.testBit).length : Int), rowsOf (selN 7 z.testBit).length (inR R z), true) := by
        unfold S_spec_InducedOn
        rw [sIsSet F (by omega) _ _ a2, obind, hS, if_neg (by simp), hz0, k1]
        rfl
      have ce := cliq_edges g hz
      have te := tri_eq _ k7
      have tb := (eOut_max (m := (selN 7 z.testBit).length) (R := inR R z) _ (Nat.le_refl _)).1
      have tw : IntKind.i64.wrap (tri (selN 7 z.testBit).length (selN 7 z.testBit).length : Int) = (tri (selN 7 z.testBit).length (selN 7 z.testBit).length : Int) := by
        have : ∀ q : Nat, q ≤ 7 → tri q q ≤ 100 := by decide +kernel
        have := this _ k7
        exact w64 (by omega) (by omega)
      rw [sComplement F (by omega) g, obind, i1, obind, i2, obind, c2, obind, c1, obind, if_neg (by simp), x2, obind, x1, obind, if_neg (by simp), if_pos rfl, obind]
      dsimp only
      rw [y, obind, if_neg (by simp), if_neg (by simp), sEqualGraphs F _ _ _ _ (by rw [rowsOf_len]; omega) (by rw [rowsOf_len]; omega), obind, if_neg (by simp), if_pos rfl, obind, iEdges F (by omega) gi, obind, ← te, tw]
      have hfin : (((eOut (selN 7 z.testBit).length (inR R z) (selN 7 z.testBit).length).length : Int) == (tri (selN 7 z.testBit).length (selN 7 z.testBit).length : Int)) = cliq m R z := by
        rw [Bool.eq_iff_iff, beq_iff_eq, ce]
        omega
      rw [hfin, bne_self_eq_false]
      exact hj

theorem fst_j1 (F : Nat) (hF : 2097152 ≤ F) (code : List Int) (hC : code.length ≤ 1048576) (n : Int) (rows : List Int) (s : Int) (hr : Row64 rows) (ps : List Int) (hp : S_impl_PartsOf F n rows s = some ps) : S_laws_FnSets_j1 F code (n, rows, s) ps false = some true := by
  unfold S_laws_FnSets_j1
  have hj := fst_j3 F hF code hC
  rw [if_neg (by simp)]
  cases hS : isS n rows s with
  | false =>
    have hps : ps = [] := by
      unfold S_impl_PartsOf at hp
      rw [iIsSet F (by omega) n rows hr, obind, hS] at hp
      exact (Option.some.inj hp).symm
    subst hps
    obtain ⟨q, rfl⟩ : ∃ q, F = q + 1 := ⟨F - 1, by omega⟩
    simp only [loopN]
    have e : S_laws_FnSets_l6 (q + 1) (n, rows, s) [] 0 0 = some (.inr (.inl 0)) := by
      unfold S_laws_FnSets_l6
      rw [if_neg (by simp)]
    rw [e]
    show S_laws_FnSets_j2 (q + 1) code (n, rows, s) 0 = some true
    unfold S_laws_FnSets_j2
    dsimp only
    rw [sIsSet (q + 1) (by omega) n rows hr, obind, hS, if_neg (by simp)]
    exact hj
  | true =>
    obtain ⟨m, R, z, rfl, rfl, rfl, g, hz⟩ := isS_elim hS
    have h7 := g.n7
    have hpw := pow128 h7
    obtain ⟨r, hl, _, k2, hgd, hsum⟩ := kParts2 F hF g hz
    have hps : ps = r := by
      unfold S_impl_PartsOf at hp
      rw [iIsSet F (by omega) _ _ hr, obind, hS, if_neg (by simp), k2, obind] at hp
      exact (Option.some.inj hp).symm
    subst hps
    have hb : ∀ k, k ≤ ps.length → 0 ≤ (ps.take k).sum ∧ (ps.take k).sum ≤ 128 * (k : Int) := by
      intro k
      induction k with
      | zero => intro _; simp
      | succ k ih =>
        intro hk
        have ih := ih (by omega)
        obtain ⟨c, hc, hc2, _⟩ := hgd ps[k] (List.getElem_mem (by omega))
        rw [snoc_take ps k (by omega), List.sum_append, hc]
        clear hgd
        simp
        omega
    rw [show ((0 : Int), (0 : Int)) = (fun k : Nat => ((ps.take k).sum, (k : Int))) 0 by simp]
    rw [loop_from0 (fun k : Nat => ((ps.take k).sum, (k : Int))) (.inl ps.sum) ps.length ?_ ?_ (by omega), obind]
    · dsimp only
      unfold S_laws_FnSets_j2
      dsimp only
      rw [sIsSet F (by omega) _ _ hr, obind, hS, if_pos rfl, hsum, bne_self_eq_false]
      exact hj
    · intro k hk
      obtain ⟨c, hc, hc2, hc3⟩ := hgd ps[k] (List.getElem_mem hk)
      have hbk := hb k (by omega)
      have ha := arnd_lt g hc2
      unfold S_laws_FnSets_l6
      dsimp only
      have hst : arnd R c &&& z = c := hc3
      rw [if_pos (by simpa using hk), idxL_get hk, obind, obind, obind, hc, iAround F (by omega) g hc2, obind, bAnd_nat _ _ (by omega) (by omega), hst, if_neg (by simp), w64 (by omega) (by omega), w64 (by omega) (by omega), snoc_take ps k hk, List.sum_append, hc]
      simp
    · unfold S_laws_FnSets_l6
      simp

theorem P_FnSets (F : Nat) (hF : 2097152 ≤ F) (code : List Int) (h8 : ∀ x, x ∈ code → U8 x) (hm : code.length ≤ maxLen) : S_laws_FnSets F code = some true := by
  unfold S_laws_FnSets
  rw [bigL, obind]
  by_cases hl : (1048576 : Int) < (code.length : Int)
  · rw [if_pos (by simpa using hl)]
  · have hC : code.length ≤ 1048576 := by omega
    rw [if_neg (by simpa using hl)]
    obtain ⟨⟨n, rows, s⟩, e, hd, hs⟩ := d_PartsOf F (by omega) code hC
    obtain ⟨a1, a2, a3, a4⟩ := hd
    dsimp only at a1 a2 a3 a4 hs
    obtain ⟨ps, pl, p1, p2⟩ := kPartsOf F hF n rows a2 s
    obtain ⟨x, x1, x2⟩ := kAroundSet F (by omega) n rows a2 s
    have hj := fst_j1 F hF code hC n rows s a2 ps p2
    have hln := listN_len s
    unfold S_impl_CountSet S_spec_CountSet
    rw [e, obind]
    dsimp only
    rw [p2, obind, p1, obind, sameI F _ _ (by omega) (by omega), obind, if_neg (by simp), iIsSet F (by omega) _ _ a2, obind, sIsSet F (by omega) _ _ a2, obind, if_neg (by simp), iListOf F (by omega) s hs, obind, obind, sListOf F (by omega) s hs, obind, obind, if_neg (by simp), obind, obind, sameI F _ _ (by omega) (by omega), obind, if_neg (by simp), iFormatSet F (by omega) s hs, obind, sFormatSet F (by omega) s hs, obind, if_neg (by simp), x2, obind, x1, obind, bne_self_eq_false]
    exact hj

end Go.Proofs.YtdalcpadcggklaaDoor
