/- Proved here: the laws' helpers on rows of rows, and the edges of a graph: both programs list the same. -/
import Derived.Test.YtblbimlobacciaaPedge
namespace Go.Proofs.Ytblbimlobacciaa
open Go Go.RowKit
set_option linter.unusedVariables false
set_option linter.unusedSimpArgs false

def sumL : List (List Int) → Nat
  | [] => 0
  | r :: t => r.length + sumL t
def marksS : List (List Int) → Int → List (List Int)
  | [], _ => []
  | r :: t, k => marks r.length k :: marksS t (k + (r.length : Int))

theorem sumL_append : ∀ (a b : List (List Int)), sumL (a ++ b) = sumL a + sumL b
  | [], b => by simp [sumL]
  | r :: a, b => by simp only [List.cons_append, sumL, sumL_append a b]; omega
theorem marksS_append : ∀ (a b : List (List Int)) (k : Int), marksS (a ++ b) k = marksS a k ++ marksS b (k + (sumL a : Int))
  | [], b, k => by simp [marksS, sumL]
  | r :: a, b, k => by
    simp only [List.cons_append, marksS, sumL, marksS_append a b]
    congr 3
    push_cast
    omega
theorem marksS_len : ∀ (a : List (List Int)) (k : Int), (marksS a k).length = a.length
  | [], _ => rfl
  | r :: a, k => by simp [marksS, marksS_len a]
theorem sumL_take_le : ∀ (a : List (List Int)) (i : Nat), sumL (a.take i) ≤ sumL a
  | [], i => by simp [sumL]
  | r :: a, 0 => by simp [sumL]
  | r :: a, i + 1 => by
    have := sumL_take_le a i
    simp only [List.take_succ_cons, sumL]; omega
theorem sumL_get : ∀ (a : List (List Int)) (i : Nat) (h : i < a.length), a[i].length ≤ sumL a
  | r :: a, 0, h => by simp [sumL]
  | r :: a, i + 1, h => by
    have := sumL_get a i (by simpa using h)
    simp only [List.getElem_cons_succ, sumL]; omega
theorem sumL_snoc (a : List (List Int)) (i : Nat) (h : i < a.length) : sumL (a.take (i + 1)) = sumL (a.take i) + a[i].length := by
  rw [snoc_take a i h, sumL_append]
  simp [sumL]
theorem marksS_set (a : List (List Int)) (i : Nat) (k : Int) (h : i < a.length) : (marksS (a.take i) k ++ a.drop i).set i (marks a[i].length (k + (sumL (a.take i) : Int))) = marksS (a.take (i + 1)) k ++ a.drop (i + 1) := by
  have hl : (marksS (a.take i) k).length = i := by rw [marksS_len]; simp; omega
  rw [List.set_append, hl]
  simp only [Nat.lt_irrefl, if_false, Nat.sub_self]
  rw [List.drop_eq_getElem_cons h, List.set_cons_zero, snoc_take a i h, marksS_append]
  simp [marksS]
theorem marksS_get (a : List (List Int)) (i : Nat) (k : Int) (h : i < a.length) (h2 : i < (marksS a k).length) : (marksS a k)[i] = marks a[i].length (k + (sumL (a.take i) : Int)) := by
  have e : a = a.take i ++ (a[i] :: a.drop (i + 1)) := by rw [← List.drop_eq_getElem_cons h, List.take_append_drop]
  have hl : (marksS (a.take i) k).length = i := by rw [marksS_len]; simp; omega
  have e2 : marksS a k = marksS (a.take i) k ++ (marks a[i].length (k + (sumL (a.take i) : Int)) :: marksS (a.drop (i + 1)) (k + (sumL (a.take i) : Int) + (a[i].length : Int))) := by
    conv => lhs; rw [e]
    rw [marksS_append]
    rfl
  have e3 : (marksS a k)[i]? = some (marks a[i].length (k + (sumL (a.take i) : Int))) := by
    rw [e2, List.getElem?_append_right (by omega), hl, Nat.sub_self]
    rfl
  rw [List.getElem?_eq_getElem h2] at e3
  exact Option.some.inj e3

theorem eqRows (F : Nat) (a : List (List Int)) (hF : a.length < F) (hl : a.length ≤ 1048576) (hr : sumL a ≤ 1048576) (hF2 : sumL a < F) : S_laws_eqIntSS F a a = some true := by
  unfold S_laws_eqIntSS
  rw [if_neg (by simp), show (0 : Int) = (fun k : Nat => (k : Int)) 0 from rfl]
  rw [loop_from0 (fun k : Nat => (k : Int)) (.inl ()) a.length ?_ ?_ hF, obind]
  · rfl
  · intro k hk
    unfold S_laws_eqIntSS_l2
    have := sumL_get a k hk
    rw [if_pos (by simpa using hk), idxL_get hk, obind, obind, eqInts F _ _ (by omega) (by omega), obind, w64 (by omega) (by omega)]
    simp
  · unfold S_laws_eqIntSS_l2
    simp

theorem markRows (F : Nat) (a : List (List Int)) (c : Int) (hF : a.length < F) (hc : 0 ≤ c) (hl : a.length ≤ 1048576) (hr : c + (sumL a : Int) ≤ 1048576) (hF2 : sumL a < F) : S_laws_markIntSS F a c = some (c + (sumL a : Int), marksS a c) := by
  unfold S_laws_markIntSS
  rw [show (a, c, (0 : Int)) = (fun k : Nat => (marksS (a.take k) c ++ a.drop k, c + (sumL (a.take k) : Int), (k : Int))) 0 by simp [marksS, sumL]]
  rw [loop_from0 (fun k : Nat => (marksS (a.take k) c ++ a.drop k, c + (sumL (a.take k) : Int), (k : Int))) (c + (sumL a : Int), marksS a c) a.length ?_ ?_ hF, obind]
  · rfl
  · intro k hk
    unfold S_laws_markIntSS_l2
    have h1 := sumL_get a k hk
    have h2 := sumL_take_le a k
    have h3 : k < (marksS (a.take k) c ++ a.drop k).length := by simp [marksS_len]; omega
    have e : idxL (marksS (a.take k) c ++ a.drop k) (k : Int) = some a[k] := by
      rw [idxL_nat, List.getElem?_append_right (by rw [marksS_len]; simp; omega), marksS_len, List.getElem?_drop]
      rw [show k + (k - (a.take k).length) = k by simp; omega, List.getElem?_eq_getElem hk]
    dsimp only
    rw [if_pos (by simp [marksS_len]; omega), e, obind, markInts F _ _ (by omega) (by omega) (by omega), obind, w64 (by omega) (by omega), Int.toNat_natCast, marksS_set a k c hk, sumL_snoc a k hk]
    simp
    omega
  · unfold S_laws_markIntSS_l2
    simp [marksS_len]

theorem heldRows (F : Nat) (a : List (List Int)) (c : Int) (hF : a.length < F) (hc : 0 ≤ c) (hl : a.length ≤ 1048576) (hr : c + (sumL a : Int) ≤ 1048576) (hF2 : sumL a < F) : S_laws_heldIntSS F (marksS a c) c = some (c + (sumL a : Int)) := by
  unfold S_laws_heldIntSS
  rw [show (c, (0 : Int)) = (fun k : Nat => (c + (sumL (a.take k) : Int), (k : Int))) 0 by simp [sumL]]
  rw [loop_from0 (fun k : Nat => (c + (sumL (a.take k) : Int), (k : Int))) (.inl (c + (sumL a : Int))) a.length ?_ ?_ hF, obind]
  · rfl
  · intro k hk
    unfold S_laws_heldIntSS_l2
    have h1 := sumL_get a k hk
    have h2 := sumL_take_le a k
    have h3 : k < (marksS a c).length := by rw [marksS_len]; exact hk
    dsimp only
    rw [if_pos (by simp [marksS_len]; omega), idxL_get h3, obind, marksS_get a k c hk h3, heldInts F _ _ (by omega) (by omega) (by omega), obind, if_neg (by simp; omega), w64 (by omega) (by omega), sumL_snoc a k hk]
    simp
    omega
  · unfold S_laws_heldIntSS_l2
    simp [marksS_len]

/-! ### the edges -/

def eIn (R : Nat → Nat) (v a k : Nat) : List (List Int) := (List.range' a k).flatMap fun w => if (R v).testBit w = true then [[(v : Int), (w : Int)]] else []
def eOut (m : Nat) (R : Nat → Nat) (k : Nat) : List (List Int) := (List.range k).flatMap fun v => eIn R v (v + 1) (m - (v + 1))

theorem eIn_succ (R : Nat → Nat) (v a k : Nat) : eIn R v a (k + 1) = eIn R v a k ++ (if (R v).testBit (a + k) = true then [[(v : Int), ((a + k : Nat) : Int)]] else []) := by
  unfold eIn
  rw [List.range'_1_concat, List.flatMap_append]
  simp
theorem eOut_succ (m : Nat) (R : Nat → Nat) (k : Nat) : eOut m R (k + 1) = eOut m R k ++ eIn R k (k + 1) (m - (k + 1)) := by
  unfold eOut
  rw [List.range_succ, List.flatMap_append]
  simp
theorem eIn_len (R : Nat → Nat) (v a : Nat) : ∀ k, (eIn R v a k).length ≤ k ∧ sumL (eIn R v a k) ≤ 2 * k
  | 0 => by simp [eIn, sumL]
  | k + 1 => by
    have := eIn_len R v a k
    rw [eIn_succ, sumL_append]
    split <;> simp [sumL] <;> omega
theorem eOut_len (m : Nat) (hm : m ≤ 7) (R : Nat → Nat) : ∀ k, (eOut m R k).length ≤ 7 * k ∧ sumL (eOut m R k) ≤ 14 * k
  | 0 => by simp [eOut, sumL]
  | k + 1 => by
    have h1 := eOut_len m hm R k
    have h2 := eIn_len R k (k + 1) (m - (k + 1))
    rw [eOut_succ, sumL_append, List.length_append]
    omega

theorem sEdgesIn (F : Nat) (hF : 8 ≤ F) {m : Nat} {R : Nat → Nat} (g : VG m R) {v : Nat} (hv : v < m) (acc : List (List Int)) (ha : acc.length ≤ 64) : loopN (σ := ((List (List Int)) × Int)) (β := (((List (List Int))))) (fun s => S_spec_EdgesOf_l5 F (m : Int) (rowsOf m R) (v : Int) s.1 s.2) F (acc, ((v + 1 : Nat) : Int)) = some (acc ++ eIn R v (v + 1) (m - (v + 1))) := by
  have h7 := g.n7
  rw [show (acc, ((v + 1 : Nat) : Int)) = (fun k : Nat => (acc ++ eIn R v (v + 1) k, ((v + 1 + k : Nat) : Int))) 0 by simp [eIn]]
  refine loop_from0 (fun k : Nat => (acc ++ eIn R v (v + 1) k, ((v + 1 + k : Nat) : Int))) _ (m - (v + 1)) ?_ ?_ (by omega)
  · intro k hk
    unfold S_spec_EdgesOf_l5
    have hl := (eIn_len R v (v + 1) k).1
    dsimp only
    rw [if_pos (by simp; omega), sEdge F g hv (by omega), obind, eIn_succ]
    unfold S_spec_EdgesOf_j6
    cases hb : (R v).testBit (v + 1 + k) with
    | true =>
      rw [if_pos rfl, catO_ok (by simp; omega), obind, w64 (by omega) (by omega), if_pos rfl]
      simp [Nat.add_assoc]
      omega
    | false =>
      rw [if_neg (by simp), w64 (by omega) (by omega), if_neg (by simp)]
      simp [Nat.add_assoc]
      omega
  · unfold S_spec_EdgesOf_l5
    dsimp only
    rw [if_neg (by simp; omega)]

theorem iEdgesIn (F : Nat) (hF : 8 ≤ F) {m : Nat} {R : Nat → Nat} (g : VG m R) {v : Nat} (hv : v < m) (acc : List (List Int)) (ha : acc.length ≤ 64) : loopN (σ := ((List (List Int)) × Int)) (β := (((List (List Int))))) (fun s => S_impl_EdgesOf_l4 F (m : Int) (v : Int) ((R v : Nat) : Int) s.1 s.2) F (acc, ((v + 1 : Nat) : Int)) = some (acc ++ eIn R v (v + 1) (m - (v + 1))) := by
  have h7 := g.n7
  have hb7 := g.b128 hv
  rw [show (acc, ((v + 1 : Nat) : Int)) = (fun k : Nat => (acc ++ eIn R v (v + 1) k, ((v + 1 + k : Nat) : Int))) 0 by simp [eIn]]
  refine loop_from0 (fun k : Nat => (acc ++ eIn R v (v + 1) k, ((v + 1 + k : Nat) : Int))) _ (m - (v + 1)) ?_ ?_ (by omega)
  · intro k hk
    unfold S_impl_EdgesOf_l4
    have hl := (eIn_len R v (v + 1) k).1
    dsimp only
    rw [if_pos (by simp; omega), iHasN F (by omega) (by omega), obind, eIn_succ]
    unfold S_impl_EdgesOf_j5
    cases hb : (R v).testBit (v + 1 + k) with
    | true =>
      rw [if_pos rfl, catO_ok (by simp; omega), obind, w64 (by omega) (by omega), if_pos rfl]
      simp [Nat.add_assoc]
      omega
    | false =>
      rw [if_neg (by simp), w64 (by omega) (by omega), if_neg (by simp)]
      simp [Nat.add_assoc]
      omega
  · unfold S_impl_EdgesOf_l4
    dsimp only
    rw [if_neg (by simp; omega)]

theorem sEdges (F : Nat) (hF : 8 ≤ F) {m : Nat} {R : Nat → Nat} (g : VG m R) : S_spec_EdgesOf F (m : Int) (rowsOf m R) = some (eOut m R m) := by
  have h7 := g.n7
  unfold S_spec_EdgesOf
  rw [show (([] : List (List Int)), (0 : Int)) = (fun k : Nat => (eOut m R k, (k : Int))) 0 by simp [eOut]]
  rw [loop_from0 (fun k : Nat => (eOut m R k, (k : Int))) (eOut m R m) m ?_ ?_ (by omega), obind]
  · rfl
  · intro k hk
    unfold S_spec_EdgesOf_l2
    have hl := (eOut_len m h7 R k).1
    dsimp only
    rw [if_pos (by simpa using hk), sIsGraph F hF _ _ g.row64, obind, isG_intro g]
    unfold S_spec_EdgesOf_j3
    rw [if_pos rfl, w64 (by omega) (by omega), show ((k : Int) + 1) = ((k + 1 : Nat) : Int) by simp, sEdgesIn F hF g hk _ (by omega), obind]
    unfold S_spec_EdgesOf_j4
    rw [w64 (by omega) (by omega), eOut_succ]
    simp
  · unfold S_spec_EdgesOf_l2
    simp [S_spec_EdgesOf_j3]

theorem iEdges (F : Nat) (hF : 8 ≤ F) {m : Nat} {R : Nat → Nat} (g : VG m R) : S_impl_EdgesOf F (m : Int) (rowsOf m R) = some (eOut m R m) := by
  have h7 := g.n7
  unfold S_impl_EdgesOf
  rw [iIsGraph F hF _ _ g.row64, obind, isG_intro g, if_neg (by simp)]
  rw [show (([] : List (List Int)), (0 : Int)) = (fun k : Nat => (eOut m R k, (k : Int))) 0 by simp [eOut]]
  rw [loop_from0 (fun k : Nat => (eOut m R k, (k : Int))) (eOut m R m) m ?_ ?_ (by omega), obind]
  · rfl
  · intro k hk
    unfold S_impl_EdgesOf_l2
    have hl := (eOut_len m h7 R k).1
    dsimp only
    rw [if_pos (by simp [rowsOf_len]; omega), rowsOf_idx hk, obind, w64 (by omega) (by omega), show ((k : Int) + 1) = ((k + 1 : Nat) : Int) by simp, iEdgesIn F hF g hk _ (by omega), obind]
    unfold S_impl_EdgesOf_j3
    rw [w64 (by omega) (by omega), eOut_succ]
    simp
  · unfold S_impl_EdgesOf_l2
    simp [rowsOf_len]

theorem kEdgesOf (F : Nat) (hF : 8 ≤ F) (n : Int) (rows : List Int) (hr : Row64 rows) : ∃ r : List (List Int), r.length ≤ 49 ∧ sumL r ≤ 98 ∧ S_spec_EdgesOf F n rows = some r ∧ S_impl_EdgesOf F n rows = some r := by
  cases hG : isG n rows with
  | true =>
    obtain ⟨m, R, rfl, rfl, g⟩ := isG_elim hG
    have h7 := g.n7
    have hl := eOut_len m h7 R m
    exact ⟨_, by omega, by omega, sEdges F hF g, iEdges F hF g⟩
  | false =>
    refine ⟨[], by simp, by simp [sumL], ?_, ?_⟩
    · unfold S_spec_EdgesOf
      obtain ⟨F, rfl⟩ : ∃ G, F = G + 1 := ⟨F - 1, by omega⟩
      have e : S_spec_EdgesOf_l2 (F + 1) n rows [] 0 = some (.inr []) := by
        unfold S_spec_EdgesOf_l2
        by_cases h0 : (0 : Int) < n
        · rw [if_pos (by simpa using h0), sIsGraph (F + 1) hF n rows hr, obind, hG]
          rfl
        · rw [if_neg (by simpa using h0)]
          rfl
      simp only [loopN]
      rw [e]
      rfl
    · unfold S_impl_EdgesOf
      rw [iIsGraph F hF n rows hr, obind, hG]
      rfl

end Go.Proofs.Ytblbimlobacciaa
