/- Proved here: induced graphs: both programs make the same. -/
import Derived.Test.YtdalcpadcggklaaDoorPedge
namespace Go.Proofs.YtdalcpadcggklaaDoor
open Go Go.RowKit
set_option linter.unusedVariables false
set_option linter.unusedSimpArgs false

def eAt (R : Nat → Nat) (l : List Int) (i k : Nat) : Bool := (R (l.getD i 0).toNat).testBit (l.getD k 0).toNat
def indR (R : Nat → Nat) (l : List Int) (i : Nat) : Nat → Nat
  | 0 => 0
  | k + 1 => if eAt R l i k = true then indR R l i k ||| 2 ^ k else indR R l i k
theorem indR_lt (R : Nat → Nat) (l : List Int) (i : Nat) : ∀ k, indR R l i k < 2 ^ k
  | 0 => by simp [indR]
  | k + 1 => by
    have ih := indR_lt R l i k
    have h2 : (2 : Nat) ^ k < 2 ^ (k + 1) := Nat.pow_lt_pow_right (by decide) (by omega)
    unfold indR
    split
    · exact Nat.or_lt_two_pow (by omega) h2
    · omega
theorem indR_add (R : Nat → Nat) (l : List Int) (i k : Nat) (hk : k < 7) : indR R l i k + 2 ^ k = indR R l i k ||| 2 ^ k := by
  have h := indR_lt R l i k
  have hp := pow_le64 k hk
  exact add_bit _ (by omega) k hk (bit_ge h (Nat.le_refl _))
theorem mid_get (p q : List Int) (x : Int) : idxL (p ++ x :: q) (p.length : Int) = some x := by
  rw [idxL_get (by simp)]; simp
theorem mid_set (p q : List Int) (x y : Int) : (p ++ x :: q).set p.length y = p ++ y :: q := by simp

theorem kInduced (F : Nat) (hF : 2097152 ≤ F) {m : Nat} {R : Nat → Nat} (g : VG m R) {z : Nat} (hz : z < 2 ^ m) : ∃ rows : List Int, rows.length ≤ 7 ∧ S_spec_InducedOn_j1 F (m : Int) (rowsOf m R) (z : Int) false = some (((selN 7 z.testBit).length : Int), rows, true) ∧ S_impl_induced F (m : Int) (rowsOf m R) (z : Int) = some (((selN 7 z.testBit).length : Int), rows) := by
  have h7 := g.n7
  have hp := pow128 h7
  have hlen := selN_len 7 z.testBit
  have hmem : ∀ x, x ∈ selN 7 z.testBit → 0 ≤ x ∧ x < (m : Int) := fun x hx => by
    obtain ⟨v, _, hb, rfl⟩ := mem_selN.1 hx
    have := bit_lt hz hb
    omega
  unfold S_spec_InducedOn_j1 S_impl_induced
  rw [if_neg (by simp), sListOf F (by omega) _ (by unfold I64; omega), iListOf F (by omega) _ (by unfold I64; omega), obind, obind, listN_nat hz h7]
  generalize selN 7 z.testBit = l at *
  have el : ∀ i, i < l.length → ∃ v : Nat, l.getD i 0 = (v : Int) ∧ v < m := fun i hi => by
    have := hmem _ (getD_mem hi)
    exact ⟨(l.getD i 0).toNat, by omega, by omega⟩
  refine ⟨rowsOf l.length (fun i => indR R l i l.length), by simpa [rowsOf_len] using hlen, ?_, ?_⟩
  · rw [show (([] : List Int), (0 : Int)) = (fun k : Nat => (rowsOf k (fun i => indR R l i l.length), (k : Int))) 0 from rfl]
    rw [loop_from0 (fun k : Nat => (rowsOf k (fun i => indR R l i l.length), (k : Int))) (rowsOf l.length (fun i => indR R l i l.length)) l.length ?_ ?_ (by omega), obind]
    · rfl
    · intro i hi
      unfold S_spec_InducedOn_l3
      dsimp only
      obtain ⟨a, ha, ham⟩ := el i hi
      rw [if_pos (by simpa using hi)]
      rw [show ((0 : Int), (0 : Int)) = (fun k : Nat => (((indR R l i k : Nat) : Int), (k : Int))) 0 from rfl]
      rw [loop_from0 (fun k : Nat => (((indR R l i k : Nat) : Int), (k : Int))) ((indR R l i l.length : Nat) : Int) l.length ?_ ?_ (by omega), obind]
      · unfold S_spec_InducedOn_j4
        rw [catO_ok (by simp [rowsOf_len]; omega), obind, w64 (by omega) (by omega), rowsOf_succ]
        simp
      · intro k hk
        unfold S_spec_InducedOn_l5
        dsimp only
        obtain ⟨b, hb, hbm⟩ := el k hk
        have hlt := indR_lt R l i k
        have hpk := pow_le64 k (by omega)
        rw [if_pos (by simpa using hk), idxL_getD hi, obind, idxL_getD hk, obind, ha, hb, sEdge F g ham (by omega), obind]
        rw [show indR R l i (k + 1) = if eAt R l i k = true then indR R l i k ||| 2 ^ k else indR R l i k from rfl]
        rw [show eAt R l i k = (R a).testBit b by unfold eAt; rw [ha, hb]; rfl]
        unfold S_spec_InducedOn_j6
        rw [w64 (n := (k : Int) + 1) (by omega) (by omega)]
        cases (R a).testBit b with
        | false => simp
        | true =>
          rw [if_pos rfl, nnO_ok (by omega), obind, shL1 (by omega), if_pos rfl, ← indR_add R l i k (by omega)]
          generalize 2 ^ k = q at *
          rw [w64 (by omega) (by omega)]
          simp
      · unfold S_spec_InducedOn_l5
        simp
    · unfold S_spec_InducedOn_l3
      simp
  · rw [mkO_ok (by omega) (by omega), obind]
    rw [show (List.replicate (l.length : Int).toNat (0 : Int), (0 : Int)) = (fun k : Nat => (rowsOf k (fun i => indR R l i l.length) ++ List.replicate (l.length - k) (0 : Int), (k : Int))) 0 by simp [rowsOf]]
    rw [loop_from0 (fun k : Nat => (rowsOf k (fun i => indR R l i l.length) ++ List.replicate (l.length - k) (0 : Int), (k : Int))) (rowsOf l.length (fun i => indR R l i l.length)) l.length ?_ ?_ (by omega), obind]
    · rfl
    · intro i hi
      unfold S_impl_induced_l2
      dsimp only
      obtain ⟨a, ha, ham⟩ := el i hi
      have hba := g.b128 ham
      rw [if_pos (by simpa using hi), idxL_getD hi, obind, ha]
      have hP : (rowsOf i (fun i => indR R l i l.length)).length = i := rowsOf_len _ _
      generalize hPd : rowsOf i (fun i => indR R l i l.length) = P at *
      obtain ⟨d, hd⟩ : ∃ d, l.length - i = d + 1 := ⟨l.length - i - 1, by omega⟩
      rw [hd, List.replicate_succ]
      rw [show (P ++ (0 : Int) :: List.replicate d (0 : Int), (0 : Int)) = (fun k : Nat => (P ++ ((indR R l i k : Nat) : Int) :: List.replicate d (0 : Int), (k : Int))) 0 from rfl]
      rw [loop_from0 (fun k : Nat => (P ++ ((indR R l i k : Nat) : Int) :: List.replicate d (0 : Int), (k : Int))) (P ++ ((indR R l i l.length : Nat) : Int) :: List.replicate d (0 : Int)) l.length ?_ ?_ (by omega), obind]
      · unfold S_impl_induced_j3
        rw [w64 (by omega) (by omega), rowsOf_succ, hPd, show l.length - (i + 1) = d by omega]
        simp
      · intro k hk
        unfold S_impl_induced_l4
        dsimp only
        obtain ⟨b, hb, hbm⟩ := el k hk
        have hlt := indR_lt R l i k
        have hpk := pow_le64 k (by omega)
        rw [if_pos (by simpa using hk), idxL_getD hk, obind, rowsOf_idx ham, obind, hb, iHasN F (by omega) (by omega), obind]
        rw [show indR R l i (k + 1) = if eAt R l i k = true then indR R l i k ||| 2 ^ k else indR R l i k from rfl]
        rw [show eAt R l i k = (R a).testBit b by unfold eAt; rw [ha, hb]; rfl]
        unfold S_impl_induced_j5
        rw [w64 (by omega) (by omega)]
        have hg : idxL (P ++ ((indR R l i k : Nat) : Int) :: List.replicate d (0 : Int)) (i : Int) = some ((indR R l i k : Nat) : Int) := by
          have := mid_get P (List.replicate d (0 : Int)) ((indR R l i k : Nat) : Int)
          rwa [hP] at this
        have hs : ∀ y : Int, (P ++ ((indR R l i k : Nat) : Int) :: List.replicate d (0 : Int)).set i y = P ++ y :: List.replicate d (0 : Int) := fun y => by
          have := mid_set P (List.replicate d (0 : Int)) ((indR R l i k : Nat) : Int) y
          rwa [hP] at this
        cases (R a).testBit b with
        | false => simp
        | true =>
          rw [if_pos rfl, hg, obind, nnO_ok (by omega), obind, obind, shL1 (by omega), bOr_nat _ _ (by omega) (by omega), Int.toNat_natCast, hs]
          simp
      · unfold S_impl_induced_l4
        simp
    · unfold S_impl_induced_l2
      simp

theorem kInducedOn (F : Nat) (hF : 2097152 ≤ F) (n : Int) (rows : List Int) (hr : Row64 rows) (s : Int) : ∃ r : Int × List Int × Bool, r.2.1.length ≤ 7 ∧ S_spec_InducedOn F n rows s = some r ∧ S_impl_InducedOn F n rows s = some r := by
  unfold S_spec_InducedOn S_impl_InducedOn
  rw [sIsSet F (by omega) n rows hr, iIsSet F (by omega) n rows hr, obind, obind]
  cases hS : isS n rows s with
  | false => exact ⟨(0, [], false), by simp, rfl, rfl⟩
  | true =>
    rw [if_neg (by simp), if_neg (by simp)]
    obtain ⟨m, R, z, rfl, rfl, rfl, g, hz⟩ := isS_elim hS
    cases h0 : ((z : Int) == 0) with
    | true => exact ⟨(0, [], false), by simp, rfl, rfl⟩
    | false =>
      obtain ⟨q, hl, h1, h2⟩ := kInduced F hF g hz
      exact ⟨_, hl, h1, by unfold S_impl_InducedOn_j1; rw [if_neg (by simp), h2]; rfl⟩

end Go.Proofs.YtdalcpadcggklaaDoor
