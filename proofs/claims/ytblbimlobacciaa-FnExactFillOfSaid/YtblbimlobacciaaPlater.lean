/- Proved here: later neighbours and distances: both programs compute the same. -/
import Derived.Test.YtblbimlobacciaaPedge
namespace Go.Proofs.Ytblbimlobacciaa
open Go Go.RowKit
set_option linter.unusedVariables false
set_option linter.unusedSimpArgs false

/-! ### orders -/

theorem nodupB_iff (l : List Int) : nodupB l = true ↔ l.Nodup := by
  unfold nodupB
  rw [allB_iff]
  unfold List.Nodup
  rw [List.pairwise_iff_getElem]
  constructor
  · intro h i j hi hj hij e
    have := h j hj
    simp only [Bool.not_eq_true', List.getD_eq_getElem?_getD, List.getElem?_eq_getElem hj, Option.getD_some] at this
    rw [← Bool.not_eq_true, List.contains_iff_mem] at this
    refine this (List.mem_take_iff_getElem.2 ⟨i, by omega, e⟩)
  · intro h k hk
    simp only [Bool.not_eq_true', List.getD_eq_getElem?_getD, List.getElem?_eq_getElem hk, Option.getD_some]
    rw [← Bool.not_eq_true, List.contains_iff_mem]
    intro hm
    obtain ⟨i, hi, e⟩ := List.mem_take_iff_getElem.1 hm
    exact h i k (by omega) hk (by omega) e

theorem okL_pc {l : List Int} (h : okL l = true) : ∀ k, k ≤ l.length → pcn (bitsOf (l.take k)) = k := by
  intro k
  induction k with
  | zero => intro _; simp [bitsOf, pcn]
  | succ k ih =>
    intro hk
    obtain ⟨v, hv, _, hf, _, ho⟩ := okAt_step (l := l) (k := k) (by omega) (allB_iff.1 h k (by omega))
    rw [ho, pc_add _ (bitsOf_lt _) v hv hf, ih (by omega)]

theorem isO_elim {n : Int} {rows l : List Int} (h : isO n rows l = true) : ∃ (m : Nat) (R : Nat → Nat), n = (m : Int) ∧ rows = rowsOf m R ∧ VG m R ∧ l.length = m ∧ (∀ x, x ∈ l → 0 ≤ x ∧ x < (m : Int)) ∧ l.Nodup ∧ okL l = true ∧ bitsOf l = 2 ^ m - 1 ∧ (∀ x : Int, 0 ≤ x → x < (m : Int) → x ∈ l) := by
  unfold isO at h
  rw [Bool.and_eq_true, beq_iff_eq] at h
  obtain ⟨hV, hl⟩ := h
  obtain ⟨m, R, rfl, rfl, g, hmem, hnd, ho, hb⟩ := isV_elim hV
  have h7 := g.n7
  have hp := okL_pc ho l.length (Nat.le_refl _)
  rw [List.take_length] at hp
  have hfull := pc_full m h7 (bitsOf l) hb (by omega)
  refine ⟨m, R, rfl, rfl, g, by omega, hmem, (nodupB_iff l).1 hnd, ho, hfull, fun x h0 h1 => ?_⟩
  have h6 : ∀ x, x ∈ l → 0 ≤ x ∧ x ≤ 6 := fun x hx => by have := hmem x hx; omega
  have := bit_mem h6 h0 (show x ≤ 6 by omega)
  rw [hfull, Nat.testBit_two_pow_sub_one] at this
  rw [← List.contains_iff_mem, ← this, decide_eq_true_eq]
  omega

theorem okL_of {l : List Int} (h6 : ∀ x, x ∈ l → 0 ≤ x ∧ x ≤ 6) (hn : l.Nodup) : okL l = true := by
  rw [okL_eq, (nodupB_iff l).2 hn, Bool.and_true, List.all_eq_true]
  exact fun x hx => inB_iff.2 (h6 x hx)

theorem suffix_bits {m : Nat} (hm : m ≤ 7) {l : List Int} (hl : ∀ x, x ∈ l → 0 ≤ x ∧ x < (m : Int)) (hn : l.Nodup) (hb : bitsOf l = 2 ^ m - 1) (i : Nat) : bitsOf (l.drop i) = ndiff (2 ^ m - 1) (bitsOf (l.take i)) := by
  have h6 : ∀ x, x ∈ l → 0 ≤ x ∧ x ≤ 6 := fun x hx => by have := hl x hx; omega
  apply Nat.eq_of_testBit_eq
  intro v
  rw [ndiff_bit, ← hb]
  have e : (bitsOf l).testBit v = ((bitsOf (l.take i)).testBit v || (bitsOf (l.drop i)).testBit v) := by
    rw [bitsOf_bit, bitsOf_bit, bitsOf_bit, ← List.any_append, List.take_append_drop]
  rw [e]
  have hd : ¬ ((bitsOf (l.take i)).testBit v = true ∧ (bitsOf (l.drop i)).testBit v = true) := by
    rintro ⟨h1, h2⟩
    rw [bitsOf_bit, List.any_eq_true] at h1 h2
    obtain ⟨x, hx, hxv⟩ := h1
    obtain ⟨y, hy, hyv⟩ := h2
    simp only [beq_iff_eq] at hxv hyv
    have hx6 := h6 x (List.mem_of_mem_take hx)
    have hy6 := h6 y (List.mem_of_mem_drop hy)
    have hxy : x = y := by omega
    unfold List.Nodup at hn
    rw [← List.take_append_drop i l, List.pairwise_append] at hn
    exact hn.2.2 x hx y hy hxy
  cases h1 : (bitsOf (l.take i)).testBit v <;> cases h2 : (bitsOf (l.drop i)).testBit v <;> simp
  exact hd ⟨h1, h2⟩
theorem ndiff_sub : ∀ m, m ≤ 7 → ∀ s, s < 2 ^ m → ∀ v, v < m → s.testBit v = false → ndiff (2 ^ m - 1) s - 2 ^ v = ndiff (2 ^ m - 1) (s ||| 2 ^ v) ∧ 2 ^ v ≤ ndiff (2 ^ m - 1) s := by decide +kernel

theorem idxOf_spec {l : List Int} {v : Int} (h : v ∈ l) : l.idxOf v < l.length ∧ l.getD (l.idxOf v) 0 = v ∧ ∀ j, j < l.idxOf v → l.getD j 0 ≠ v := by
  have hi : l.idxOf v < l.length := List.idxOf_lt_length_of_mem h
  refine ⟨hi, ?_, fun j hj e => ?_⟩
  · have := List.getElem_idxOf hi
    simp [hi, this]
  · have := List.not_of_lt_findIdx (xs := l) (p := fun x => x == v) hj
    have hjl : j < l.length := by omega
    have hg : l.getD j 0 = l[j] := by simp [hjl]
    rw [hg] at e
    simp [e] at this
def laterB (l : List Int) (v : Int) : Nat := bitsOf (l.drop (l.idxOf v))

theorem sLater (F : Nat) (hF : 8 ≤ F) {m : Nat} {R : Nat → Nat} (g : VG m R) {l : List Int} (hO : isO (m : Int) (rowsOf m R) l = true) (hlF : l.length < F) {v : Nat} (hv : v < m) : S_spec_LaterNeighbours F (m : Int) (rowsOf m R) l (v : Int) = some ((R v &&& laterB l (v : Int) : Nat) : Int) := by
  unfold S_spec_LaterNeighbours
  obtain ⟨m', R', hm, hR, _, hlen, hmem, hnd, ho, hb, hall⟩ := isO_elim hO
  obtain rfl : m = m' := by omega
  have h7 := g.n7
  have hp := pow128 h7
  rw [sIsOrder F hF _ _ g.row64 l hlF (by omega), obind, hO, if_neg (by simp), if_neg (by simp <;> omega)]
  unfold S_spec_LaterNeighbours_j1
  rw [if_neg (by simp; omega), nnO_ok (by omega), obind, shL1 (by omega)]
  have hvm := hall (v : Int) (by omega) (by omega)
  obtain ⟨hi, hat, hbef⟩ := idxOf_spec hvm
  have hpos : 0 < 2 ^ m := Nat.pow_pos (by decide)
  have e0 : IntKind.i64.wrap (((2 ^ m : Nat) : Int) - 1) = ((2 ^ m - 1 : Nat) : Int) := by
    generalize 2 ^ m = q at *
    rw [w64 (by omega) (by omega)]; omega
  rw [e0]
  have hsub : ∀ k, bitsOf (l.take k) < 2 ^ m := fun k => by
    have h6 : ∀ x, x ∈ l.take k → 0 ≤ x ∧ x ≤ 6 := fun x hx => by have := hmem x (List.mem_of_mem_take hx); omega
    exact (bitsOf_pow (okL_of h6 (List.Pairwise.sublist (List.take_sublist _ _) hnd))).2 fun x hx => by have := hmem x (List.mem_of_mem_take hx); omega
  rw [show (((2 ^ m - 1 : Nat) : Int), (0 : Int)) = (fun k : Nat => ((ndiff (2 ^ m - 1) (bitsOf (l.take k)) : Int), (k : Int))) 0 by simp [bitsOf, ndiff]]
  rw [loop_from0 (fun k : Nat => ((ndiff (2 ^ m - 1) (bitsOf (l.take k)) : Int), (k : Int))) ((laterB l (v : Int) : Nat) : Int) (l.idxOf (v : Int)) ?_ ?_ (by omega), obind]
  · unfold S_spec_LaterNeighbours_j2
    have hbv := g.b128 hv
    have hlt : laterB l (v : Int) < 2 ^ m := by
      unfold laterB
      rw [suffix_bits h7 hmem hnd hb]
      exact ndiff_lt (by omega)
    rw [rowsOf_idx hv, obind, bAnd_nat _ _ (by omega) (by omega)]
  · intro k hk
    unfold S_spec_LaterNeighbours_l3
    dsimp only
    have hkl : k < l.length := by omega
    have hne := hbef k hk
    obtain ⟨u, hu, eu, huf, _, hor⟩ := okAt_step hkl (allB_iff.1 ho k hkl)
    have hum : u < m := by have := hmem _ (getD_mem hkl); omega
    obtain ⟨hs1, hs2⟩ := ndiff_sub m h7 _ (hsub k) u hum huf
    have hlt : ndiff (2 ^ m - 1) (bitsOf (l.take k)) < 2 ^ m := ndiff_lt (by omega)
    rw [if_pos (by simpa using hkl), idxL_getD hkl, obind]
    unfold S_spec_LaterNeighbours_j4
    rw [if_pos (by simpa using hne), idxL_getD hkl, obind, eu, nnO_ok (by omega), obind, shL1 (by omega), hor, ← hs1]
    generalize 2 ^ u = q at *
    rw [w64 (by omega) (by omega), w64 (by omega) (by omega)]
    congr 3
    omega
  · unfold S_spec_LaterNeighbours_l3
    dsimp only
    rw [if_pos (by simpa using hi), idxL_getD hi, obind, hat]
    unfold S_spec_LaterNeighbours_j4
    rw [if_neg (by simp)]
    unfold laterB
    rw [suffix_bits h7 hmem hnd hb]

theorem iLater (F : Nat) (hF : 8 ≤ F) {m : Nat} {R : Nat → Nat} (g : VG m R) {l : List Int} (hO : isO (m : Int) (rowsOf m R) l = true) (hlF : l.length < F) {v : Nat} (hv : v < m) : S_impl_LaterNeighbours F (m : Int) (rowsOf m R) l (v : Int) = some ((R v &&& laterB l (v : Int) : Nat) : Int) := by
  unfold S_impl_LaterNeighbours
  obtain ⟨m', R', hm, hR, _, hlen, hmem, hnd, ho, hb, hall⟩ := isO_elim hO
  obtain rfl : m = m' := by omega
  have h7 := g.n7
  have hp := pow128 h7
  have hvm := hall (v : Int) (by omega) (by omega)
  obtain ⟨hi, hat, hbef⟩ := idxOf_spec hvm
  have hbv := g.b128 hv
  rw [iIsOrder F hF _ (by unfold I64; omega) _ g.row64 l hlF (by omega), obind, hO, if_neg (by simp), iIn, obind, w64 (by omega) (by omega), inB_iff.2 (by omega)]
  unfold S_impl_LaterNeighbours_j1
  have hpo : posOf l (v : Int) = ((l.idxOf (v : Int) : Nat) : Int) := by
    unfold posOf
    rw [if_pos (List.contains_iff_mem.2 hvm)]
  rw [if_neg (by simp), idxI_ F l _ hlF (by omega), obind, hpo, slO_ok (by omega) (by omega), obind, Int.toNat_natCast, iSetOf F _ (by simp; omega) (by simp; omega), obind, rowsOf_idx hv, obind]
  have hd6 : ∀ x, x ∈ l.drop (l.idxOf (v : Int)) → 0 ≤ x ∧ x ≤ 6 := fun x hx => by have := hmem x (List.mem_of_mem_drop hx); omega
  have hok : okL (l.drop (l.idxOf (v : Int))) = true := okL_of hd6 (List.Pairwise.sublist (List.drop_sublist _ _) hnd)
  unfold setOf
  rw [if_pos hok]
  dsimp only
  have hlt := bitsOf_lt (l.drop (l.idxOf (v : Int)))
  rw [bAnd_nat _ _ (by omega) (by omega)]
  rfl

theorem kLaterNeighbours (F : Nat) (hF : 2097152 ≤ F) (n : Int) (hn : I64 n) (rows : List Int) (hr : Row64 rows) (l : List Int) (hl : l.length ≤ 1048576) (v : Int) : ∃ r, S_spec_LaterNeighbours F n rows l v = some r ∧ S_impl_LaterNeighbours F n rows l v = some r := by
  cases hO : isO n rows l with
  | false =>
    refine ⟨0, ?_, ?_⟩
    · unfold S_spec_LaterNeighbours
      rw [sIsOrder F (by omega) n rows hr l (by omega) hl, obind, hO]
      rfl
    · unfold S_impl_LaterNeighbours
      rw [iIsOrder F (by omega) n hn rows hr l (by omega) hl, obind, hO]
      rfl
  | true =>
    obtain ⟨m, R, rfl, rfl, g, hlen, _⟩ := isO_elim hO
    have h7 := g.n7
    have h1 := g.n1
    by_cases hv : 0 ≤ v ∧ v < (m : Int)
    · obtain ⟨a, rfl⟩ : ∃ a : Nat, v = a := ⟨v.toNat, by omega⟩
      exact ⟨_, sLater F (by omega) g hO (by omega) (by omega), iLater F (by omega) g hO (by omega) (by omega)⟩
    · refine ⟨0, ?_, ?_⟩
      · unfold S_spec_LaterNeighbours
        rw [sIsOrder F (by omega) _ _ hr l (by omega) hl, obind, hO, if_neg (by simp)]
        unfold S_spec_LaterNeighbours_j1
        by_cases h0 : v < 0
        · rw [if_pos (by simpa using h0)]
          rfl
        · rw [if_neg (by simpa using h0), if_pos (by simp; omega)]
      · unfold S_impl_LaterNeighbours
        rw [iIsOrder F (by omega) _ hn _ hr l (by omega) hl, obind, hO, if_neg (by simp), iIn, obind, w64 (by omega) (by omega)]
        rw [show inB v 0 ((m : Int) - 1) = false by rw [← Bool.not_eq_true, inB_iff]; omega]
        rfl

/-! ### distances -/

def gr (R : Nat → Nat) (s : Nat) : Nat → Nat
  | 0 => s
  | k + 1 => arnd R (gr R s k)
theorem gr_lt {m s : Nat} {R : Nat → Nat} (g : VG m R) (h : s < 2 ^ m) : ∀ k, gr R s k < 2 ^ m
  | 0 => h
  | k + 1 => arnd_lt g (gr_lt g h k)
theorem gr_fix {R : Nat → Nat} {s k : Nat} (h : gr R s (k + 1) = gr R s k) : ∀ j, gr R s (k + j) = gr R s k
  | 0 => rfl
  | j + 1 => by
    have := gr_fix h j
    show arnd R (gr R s (k + j)) = gr R s k
    rw [this]; exact h
theorem gr_pc {m s : Nat} {R : Nat → Nat} (g : VG m R) (h : s < 2 ^ m) : ∀ k, (∀ j, j < k → gr R s (j + 1) ≠ gr R s j) → pcn s + k ≤ pcn (gr R s k)
  | 0, _ => Nat.le_refl _
  | k + 1, hk => by
    have h1 := gr_pc g h k fun j hj => hk j (by omega)
    have hp := pow128 g.n7
    have a := gr_lt g h k
    have b := gr_lt g h (k + 1)
    have := pc_lt _ (show gr R s k < 128 by omega) _ (show gr R s (k + 1) < 128 by omega) (arnd_sub R _) fun e => hk k (by omega) e.symm
    omega
theorem pow_ne (v : Nat) : (2 : Nat) ^ v ≠ 0 := Nat.pos_iff_ne_zero.1 (Nat.pow_pos (by decide))
theorem gr_k {m v k : Nat} {R : Nat → Nat} (g : VG m R) (hv : v < m) (h : ∀ j, j < k → gr R (2 ^ v) (j + 1) ≠ gr R (2 ^ v) j) : k < m := by
  have hlt : 2 ^ v < 2 ^ m := Nat.pow_lt_pow_right (by decide) hv
  have hp := pow128 g.n7
  have h1 := gr_pc g hlt k h
  have h2 := pc_le m g.n7 _ (gr_lt g hlt k)
  have h3 := pc_pos _ (show 2 ^ v < 128 by omega) (pow_ne v)
  omega
def distOf (R : Nat → Nat) (v w : Nat) (r : Int) : Prop := (∃ k : Nat, r = (k : Int) ∧ (gr R (2 ^ v) k).testBit w = true ∧ ∀ j, j < k → (gr R (2 ^ v) j).testBit w = false) ∨ (r = -1 ∧ ∀ k, (gr R (2 ^ v) k).testBit w = false)
theorem distOf_uniq {R : Nat → Nat} {v w : Nat} {r q : Int} (h1 : distOf R v w r) (h2 : distOf R v w q) : r = q := by
  rcases h1 with ⟨k, rfl, a, b⟩ | ⟨rfl, a⟩ <;> rcases h2 with ⟨j, rfl, c, d⟩ | ⟨rfl, c⟩
  · rcases Nat.lt_trichotomy k j with h | h | h
    · rw [d k h] at a; cases a
    · rw [h]
    · rw [b j h] at c; cases c
  · rw [c k] at a; cases a
  · rw [a j] at c; cases c
  · rfl

end Go.Proofs.Ytblbimlobacciaa
