/- Proved here: later neighbours and distances: both programs compute the same. -/
import Derived.Test.YtilfniehellmmaaPedge
namespace Go.Proofs.Ytilfniehellmmaa
open Go Go.RowKit
set_option linter.unusedVariables false
set_option linter.unusedSimpArgs false

/-! ### orders -/

theorem nodupB_iff (l : List Int) : nodupB l = true ↔ l.Nodup := by
  unfold nodupB
  rw [allB_iff]
  unfold List.Nodup
  rw [List.pairwise_iff_getElem]
  constructor
  · intro h i j hi hj hij e
    have := h j hj
    simp only [Bool.not_eq_true', List.getD_eq_getElem?_getD, List.getElem?_eq_getElem hj, Option.getD_some] at this
    rw [← Bool.not_eq_true, List.contains_iff_mem] at this
    refine this (List.mem_take_iff_getElem.2 ⟨i, by omega, e⟩)
  · intro h k hk
    simp only [Bool.not_eq_true', List.getD_eq_getElem?_getD, List.getElem?_eq_getElem hk, Option.getD_some]
    rw [← Bool.not_eq_true, List.contains_iff_mem]
    intro hm
    obtain ⟨i, hi, e⟩ := List.mem_take_iff_getElem.1 hm
    exact h i k (by omega) hk (by omega) e

theorem okL_pc {l : List Int} (h : okL l = true) : ∀ k, k ≤ l.length → pc (bitsOf (l.take k)) = k := by
  intro k
  induction k with
  | zero => intro _; simp [bitsOf, pc]
  | succ k ih =>
    intro hk
    obtain ⟨v, hv, _, hf, _, ho⟩ := okAt_step (l := l) (k := k) (by omega) (allB_iff.1 h k (by omega))
    rw [ho, pc_add _ (bitsOf_lt _) v hv hf, ih (by omega)]

theorem isO_elim {n : Int} {rows l : List Int} (h : isO n rows l = true) : ∃ (m : Nat) (R : Nat → Nat), n = (m : Int) ∧ rows = rowsOf m R ∧ VG m R ∧ l.length = m ∧ (∀ x, x ∈ l → 0 ≤ x ∧ x < (m : Int)) ∧ l.Nodup ∧ okL l = true ∧ bitsOf l = 2 ^ m - 1 ∧ (∀ x : Int, 0 ≤ x → x < (m : Int) → x ∈ l) := by
  unfold isO at h
  rw [Bool.and_eq_true, beq_iff_eq] at h
  obtain ⟨hV, hl⟩ := h
  obtain ⟨m, R, rfl, rfl, g, hmem, hnd, ho, hb⟩ := isV_elim hV
  have h7 := g.n7
  have hp := okL_pc ho l.length (Nat.le_refl _)
  rw [List.take_length] at hp
  have hfull := pc_full m h7 (bitsOf l) hb (by omega)
  refine ⟨m, R, rfl, rfl, g, by omega, hmem, (nodupB_iff l).1 hnd, ho, hfull, fun x h0 h1 => ?_⟩
  have h6 : ∀ x, x ∈ l → 0 ≤ x ∧ x ≤ 6 := fun x hx => by have := hmem x hx; omega
  have := bit_mem h6 h0 (show x ≤ 6 by omega)
  rw [hfull, Nat.testBit_two_pow_sub_one] at this
  rw [← List.contains_iff_mem, ← this, decide_eq_true_eq]
  omega

theorem okL_of {l : List Int} (h6 : ∀ x, x ∈ l → 0 ≤ x ∧ x ≤ 6) (hn : l.Nodup) : okL l = true := by
  rw [okL_eq, (nodupB_iff l).2 hn, Bool.and_true, List.all_eq_true]
  exact fun x hx => inB_iff.2 (h6 x hx)

theorem suffix_bits {m : Nat} (hm : m ≤ 7) {l : List Int} (hl : ∀ x, x ∈ l → 0 ≤ x ∧ x < (m : Int)) (hn : l.Nodup) (hb : bitsOf l = 2 ^ m - 1) (i : Nat) : bitsOf (l.drop i) = ndiff (2 ^ m - 1) (bitsOf (l.take i)) := by
  have h6 : ∀ x, x ∈ l → 0 ≤ x ∧ x ≤ 6 := fun x hx => by have := hl x hx; omega
  apply Nat.eq_of_testBit_eq
  intro v
  rw [ndiff_bit, ← hb]
  have e : (bitsOf l).testBit v = ((bitsOf (l.take i)).testBit v || (bitsOf (l.drop i)).testBit v) := by
    rw [bitsOf_bit, bitsOf_bit, bitsOf_bit, ← List.any_append, List.take_append_drop]
  rw [e]
  have hd : ¬ ((bitsOf (l.take i)).testBit v = true ∧ (bitsOf (l.drop i)).testBit v = true) := by
    rintro ⟨h1, h2⟩
    rw [bitsOf_bit, List.any_eq_true] at h1 h2
    obtain ⟨x, hx, hxv⟩ := h1
    obtain ⟨y, hy, hyv⟩ := h2
    simp only [beq_iff_eq] at hxv hyv
    have hx6 := h6 x (List.mem_of_mem_take hx)
    have hy6 := h6 y (List.mem_of_mem_drop hy)
    have hxy : x = y := by omega
    unfold List.Nodup at hn
    rw [← List.take_append_drop i l, List.pairwise_append] at hn
    exact hn.2.2 x hx y hy hxy
  cases h1 : (bitsOf (l.take i)).testBit v <;> cases h2 : (bitsOf (l.drop i)).testBit v <;> simp
  exact hd ⟨h1, h2⟩
theorem ndiff_sub : ∀ m, m ≤ 7 → ∀ s, s < 2 ^ m → ∀ v, v < m → s.testBit v = false → ndiff (2 ^ m - 1) s - 2 ^ v = ndiff (2 ^ m - 1) (s ||| 2 ^ v) ∧ 2 ^ v ≤ ndiff (2 ^ m - 1) s := by decide +kernel

theorem idxOf_spec {l : List Int} {v : Int} (h : v ∈ l) : l.idxOf v < l.length ∧ l.getD (l.idxOf v) 0 = v ∧ ∀ j, j < l.idxOf v → l.getD j 0 ≠ v := by
  have hi : l.idxOf v < l.length := List.idxOf_lt_length_of_mem h
  refine ⟨hi, ?_, fun j hj e => ?_⟩
  · have := List.getElem_idxOf hi
    simp [hi, this]
  · have := List.not_of_lt_findIdx (xs := l) (p := fun x => x == v) hj
    have hjl : j < l.length := by omega
    have hg : l.getD j 0 = l[j] := by simp [hjl]
    rw [hg] at e
    simp [e] at this
def laterB (l : List Int) (v : Int) : Nat := bitsOf (l.drop (l.idxOf v))

/-! ### distances -/

def gr (R : Nat → Nat) (s : Nat) : Nat → Nat
  | 0 => s
  | k + 1 => arnd R (gr R s k)
theorem gr_lt {m s : Nat} {R : Nat → Nat} (g : VG m R) (h : s < 2 ^ m) : ∀ k, gr R s k < 2 ^ m
  | 0 => h
  | k + 1 => arnd_lt g (gr_lt g h k)
theorem gr_fix {R : Nat → Nat} {s k : Nat} (h : gr R s (k + 1) = gr R s k) : ∀ j, gr R s (k + j) = gr R s k
  | 0 => rfl
  | j + 1 => by
    have := gr_fix h j
    show arnd R (gr R s (k + j)) = gr R s k
    rw [this]; exact h
theorem gr_pc {m s : Nat} {R : Nat → Nat} (g : VG m R) (h : s < 2 ^ m) : ∀ k, (∀ j, j < k → gr R s (j + 1) ≠ gr R s j) → pc s + k ≤ pc (gr R s k)
  | 0, _ => Nat.le_refl _
  | k + 1, hk => by
    have h1 := gr_pc g h k fun j hj => hk j (by omega)
    have hp := pow128 g.n7
    have a := gr_lt g h k
    have b := gr_lt g h (k + 1)
    have := pc_lt _ (show gr R s k < 128 by omega) _ (show gr R s (k + 1) < 128 by omega) (arnd_sub R _) fun e => hk k (by omega) e.symm
    omega
theorem pow_ne (v : Nat) : (2 : Nat) ^ v ≠ 0 := Nat.pos_iff_ne_zero.1 (Nat.pow_pos (by decide))
theorem gr_k {m v k : Nat} {R : Nat → Nat} (g : VG m R) (hv : v < m) (h : ∀ j, j < k → gr R (2 ^ v) (j + 1) ≠ gr R (2 ^ v) j) : k < m := by
  have hlt : 2 ^ v < 2 ^ m := Nat.pow_lt_pow_right (by decide) hv
  have hp := pow128 g.n7
  have h1 := gr_pc g hlt k h
  have h2 := pc_le m g.n7 _ (gr_lt g hlt k)
  have h3 := pc_pos _ (show 2 ^ v < 128 by omega) (pow_ne v)
  omega
def distOf (R : Nat → Nat) (v w : Nat) (r : Int) : Prop := (∃ k : Nat, r = (k : Int) ∧ (gr R (2 ^ v) k).testBit w = true ∧ ∀ j, j < k → (gr R (2 ^ v) j).testBit w = false) ∨ (r = -1 ∧ ∀ k, (gr R (2 ^ v) k).testBit w = false)
theorem distOf_uniq {R : Nat → Nat} {v w : Nat} {r q : Int} (h1 : distOf R v w r) (h2 : distOf R v w q) : r = q := by
  rcases h1 with ⟨k, rfl, a, b⟩ | ⟨rfl, a⟩ <;> rcases h2 with ⟨j, rfl, c, d⟩ | ⟨rfl, c⟩
  · rcases Nat.lt_trichotomy k j with h | h | h
    · rw [d k h] at a; cases a
    · rw [h]
    · rw [b j h] at c; cases c
  · rw [c k] at a; cases a
  · rw [a j] at c; cases c
  · rfl

theorem sDist (F : Nat) (hF : 9 ≤ F) {m : Nat} {R : Nat → Nat} (g : VG m R) {v w : Nat} (hv : v < m) (hw : w < m) : ∃ r, S_spec_DistanceOf F (m : Int) (rowsOf m R) (v : Int) (w : Int) = some r ∧ distOf R v w r := by
  unfold S_spec_DistanceOf
  have h7 := g.n7
  have hp := pow128 h7
  have hlt : 2 ^ v < 2 ^ m := Nat.pow_lt_pow_right (by decide) hv
  rw [sIsGraph F (by omega) _ _ g.row64, obind, isG_intro g, if_neg (by simp), if_neg (by simp <;> omega), if_neg (by simp <;> omega), if_neg (by simp <;> omega)]
  unfold S_spec_DistanceOf_j1
  rw [if_neg (by simp; omega), nnO_ok (by omega), obind, shL1 (by omega)]
  obtain ⟨r, hr, hh⟩ := loop_scan (body := fun s : Int × Int => S_spec_DistanceOf_l3 F (m : Int) (rowsOf m R) (w : Int) s.1 s.2) (fun k : Nat => (((gr R (2 ^ v) k : Nat) : Int), (k : Int))) (.inl ()) (fun k => .inr (k : Int)) (fun k => !((gr R (2 ^ v) k).testBit w)) m 0
    (fun k _ hk hq => by
      have hg := gr_lt g hlt k
      unfold S_spec_DistanceOf_l3
      dsimp only
      rw [if_pos (by simp; omega), nnO_ok (by omega), obind, bit_nat (by omega) (by omega), if_neg (by simpa using hq), sAround F (by omega) g hg, obind, w64 (by omega) (by omega)]
      rfl)
    (fun k _ hk hq => by
      have hg := gr_lt g hlt k
      unfold S_spec_DistanceOf_l3
      dsimp only
      rw [if_pos (by simp; omega), nnO_ok (by omega), obind, bit_nat (by omega) (by omega), if_pos (by simpa using hq)])
    (by unfold S_spec_DistanceOf_l3; simp) F (by omega)
  rw [show gr R (2 ^ v) 0 = 2 ^ v from rfl, show (((0 : Nat) : Int)) = 0 from rfl] at hr
  rw [hr, obind]
  rcases hh with ⟨h1, rfl⟩ | ⟨k, _, hk, hq, hbef, rfl⟩
  · refine ⟨-1, rfl, .inr ⟨rfl, fun k => ?_⟩⟩
    -- it is stable after m rounds
    have hst : ∃ j, j < m ∧ gr R (2 ^ v) (j + 1) = gr R (2 ^ v) j := by
      refine Classical.byContradiction fun hno => ?_
      have := gr_k g hv (k := m) fun j hj e => hno ⟨j, hj, e⟩
      omega
    obtain ⟨j, hj, e⟩ := hst
    rcases Nat.lt_or_ge k j with h | h
    · simpa using h1 k (by omega) (by omega)
    · have := gr_fix e (k - j)
      rw [show j + (k - j) = k by omega] at this
      rw [this]
      simpa using h1 j (by omega) (by omega)
  · exact ⟨_, rfl, .inl ⟨k, rfl, by simpa using hq, fun j hj => by simpa using hbef j (by omega) hj⟩⟩

theorem iDist (F : Nat) (hF : 9 ≤ F) {m : Nat} {R : Nat → Nat} (g : VG m R) {v w : Nat} (hv : v < m) (hw : w < m) : ∃ r, S_impl_DistanceOf F (m : Int) (rowsOf m R) (v : Int) (w : Int) = some r ∧ distOf R v w r := by
  unfold S_impl_DistanceOf
  have h7 := g.n7
  have hp := pow128 h7
  have hlt : 2 ^ v < 2 ^ m := Nat.pow_lt_pow_right (by decide) hv
  rw [iVertex F (by omega) _ (by unfold I64; omega) _ g.row64 _ (by simp; omega) (by simp), obind, isG_intro g]
  simp only [List.all_cons, List.all_nil, inB_iff.2 (show (0 : Int) ≤ (v : Int) ∧ (v : Int) ≤ (m : Int) - 1 by omega), inB_iff.2 (show (0 : Int) ≤ (w : Int) ∧ (w : Int) ≤ (m : Int) - 1 by omega), Bool.and_self, Bool.not_true, Bool.false_eq_true, if_false]
  rw [nnO_ok (by omega), obind, shL1 (by omega)]
  obtain ⟨b, hb, hh⟩ := loop_meas (body := fun s : Int × Int => S_impl_DistanceOf_l2 F (m : Int) (rowsOf m R) (w : Int) s.1 s.2) (fun s => ∃ k : Nat, s = (((gr R (2 ^ v) k : Nat) : Int), (k : Int)) ∧ ∀ j, j < k → gr R (2 ^ v) (j + 1) ≠ gr R (2 ^ v) j ∧ (gr R (2 ^ v) j).testBit w = false) (fun s => m - s.2.toNat)
    (fun b => (∃ k : Nat, b = .inl (k : Int) ∧ (gr R (2 ^ v) k).testBit w = true ∧ ∀ j, j < k → (gr R (2 ^ v) j).testBit w = false) ∨ (b = .inr (-1) ∧ ∀ k, (gr R (2 ^ v) k).testBit w = false))
    (by
      rintro _ ⟨k, rfl, hk⟩
      have hg := gr_lt g hlt k
      have hkm := gr_k g hv fun j hj => (hk j hj).1
      unfold S_impl_DistanceOf_l2
      dsimp only
      rw [iHasN F (by omega) (by omega), obind]
      cases hw1 : (gr R (2 ^ v) k).testBit w with
      | true =>
        right
        rw [if_neg (by simp)]
        exact ⟨_, rfl, .inl ⟨k, rfl, hw1, fun j hj => (hk j hj).2⟩⟩
      | false =>
        have hn := nbr_lt g hg
        rw [if_pos (by simp), iNeighbors F (by omega) g hg, obind, bOr_nat _ _ (by omega) (by omega)]
        have hs : gr R (2 ^ v) k ||| nbr R (gr R (2 ^ v) k) = gr R (2 ^ v) (k + 1) := rfl
        rw [hs]
        by_cases e : gr R (2 ^ v) (k + 1) = gr R (2 ^ v) k
        · right
          rw [if_pos (by rw [e]; simp)]
          refine ⟨_, rfl, .inr ⟨rfl, fun j => ?_⟩⟩
          rcases Nat.lt_or_ge j k with h | h
          · exact (hk j h).2
          · have := gr_fix e (j - k)
            rw [show k + (j - k) = j by omega] at this
            rw [this]; exact hw1
        · left
          rw [if_neg (by simp only [beq_iff_eq]; omega), w64 (by omega) (by omega)]
          refine ⟨_, rfl, ⟨k + 1, by simp, fun j hj => ?_⟩, by dsimp only; omega⟩
          by_cases ej : j = k
          · subst ej; exact ⟨e, hw1⟩
          · exact hk j (by omega))
    F (((2 ^ v : Nat) : Int), 0) ⟨0, rfl, fun j hj => by omega⟩ (by dsimp only; omega)
  rw [hb, obind]
  rcases hh with ⟨k, rfl, h1, h2⟩ | ⟨rfl, h1⟩
  · exact ⟨_, rfl, .inl ⟨k, rfl, h1, h2⟩⟩
  · exact ⟨_, rfl, .inr ⟨rfl, h1⟩⟩

theorem kDistanceOf (F : Nat) (hF : 2097152 ≤ F) (n : Int) (hn : I64 n) (rows : List Int) (hr : Row64 rows) (v w : Int) : ∃ r, S_spec_DistanceOf F n rows v w = some r ∧ S_impl_DistanceOf F n rows v w = some r := by
  by_cases h : isG n rows = true ∧ 0 ≤ v ∧ 0 ≤ w ∧ v < n ∧ w < n
  · obtain ⟨hG, h0, h1, h2, h3⟩ := h
    obtain ⟨m, R, rfl, rfl, g⟩ := isG_elim hG
    obtain ⟨a, rfl⟩ : ∃ a : Nat, v = a := ⟨v.toNat, by omega⟩
    obtain ⟨b, rfl⟩ : ∃ b : Nat, w = b := ⟨w.toNat, by omega⟩
    obtain ⟨r, e1, d1⟩ := sDist F (by omega) g (v := a) (w := b) (by omega) (by omega)
    obtain ⟨q, e2, d2⟩ := iDist F (by omega) g (v := a) (w := b) (by omega) (by omega)
    have := distOf_uniq d1 d2
    subst this
    exact ⟨r, e1, e2⟩
  · refine ⟨-1, ?_, ?_⟩
    · unfold S_spec_DistanceOf
      rw [sIsGraph F (by omega) n rows hr, obind]
      unfold S_spec_DistanceOf_j1
      cases hG : isG n rows with
      | false => rfl
      | true =>
        rw [if_neg (by simp)]
        by_cases a1 : v < 0
        · rw [if_pos (by simpa using a1), if_pos rfl]
        rw [if_neg (by simpa using a1)]
        by_cases a2 : w < 0
        · rw [if_pos (by simpa using a2), if_pos rfl]
        rw [if_neg (by simpa using a2)]
        by_cases a3 : n ≤ v
        · rw [if_pos (by simpa using a3), if_pos rfl]
        rw [if_neg (by simpa using a3)]
        have a4 : n ≤ w := by
          rw [hG] at h
          simp only [true_and, not_and] at h
          omega
        rw [if_pos (by simpa using a4)]
    · unfold S_impl_DistanceOf
      rw [iVertex F (by omega) n hn rows hr _ (by simp; omega) (by simp), obind]
      have : (isG n rows && [v, w].all (fun v => inB v 0 (n - 1))) = false := by
        rw [← Bool.not_eq_true, Bool.and_eq_true]
        simp only [List.all_cons, List.all_nil, Bool.and_true, Bool.and_eq_true, inB_iff]
        intro ⟨h1, h2, h3⟩
        exact h ⟨h1, by omega, by omega, by omega, by omega⟩
      rw [this]
      rfl

end Go.Proofs.Ytilfniehellmmaa
