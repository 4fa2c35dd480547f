/- Proved here: what the laws' own helpers compute: copies, comparisons, marks. -/
import Derived.Test.YtblbimlobacciaaPbase
import Derived.Test.YtblbimlobacciaaSh
namespace Go.Proofs.Ytblbimlobacciaa
open Go Go.RowKit
set_option linter.unusedVariables false
set_option linter.unusedSimpArgs false

theorem eq_loop (F : Nat) (a b : List Int) (h : a.length = b.length) (hF : a.length < F) (hl : a.length ≤ 9223372036854775806) (f : Int → Option (Int ⊕ (Unit ⊕ Bool)))
    (hf : ∀ x, f x = (if (decide (x < (a.length : Int))) = true then ((idxL a x).bind fun x74 => ((idxL b x).bind fun x75 => (if (x74 != x75) = true then some (Sum.inr (Sum.inr false)) else some (Sum.inl (IntKind.i64.wrap (x + 1)))))) else some (Sum.inr (Sum.inl ())))) :
    loopN f F 0 = some (if a = b then .inl () else .inr false) := by
  rw [loop_allI (.inl ()) (.inr false) (fun k => a[k]? == b[k]?) a.length ?_ ?_ hF]
  · congr 1
    have e : (allB a.length (fun k => a[k]? == b[k]?) = true) ↔ a = b := by
      rw [allB_iff]
      constructor
      · intro g
        apply List.ext_getElem h
        intro i h1 h2
        have := g i h1
        simpa [h1, h2] using this
      · rintro rfl k hk; simp
    simp only [e]
  · intro k hk
    have hk2 : k < b.length := by omega
    rw [hf, if_pos (by simpa using hk), idxL_get hk, obind, idxL_get hk2, obind, w64 (by omega) (by omega)]
    simp only [hk, hk2, List.getElem?_eq_getElem, Option.some_beq_some, bne_iff_ne, beq_iff_eq]
    by_cases e : a[k] = b[k] <;> simp [e]
  · rw [hf]; simp

theorem take_rep_set (l : List Int) (k : Nat) (hk : k < l.length) : (l.take k ++ List.replicate (l.length - k) (0 : Int)).set k l[k] = l.take (k + 1) ++ List.replicate (l.length - (k + 1)) 0 := by
  obtain ⟨m, hm⟩ : ∃ m, l.length - k = m + 1 := ⟨l.length - k - 1, by omega⟩
  have ht : (l.take k).length = k := by simp; omega
  rw [hm, List.set_append, ht]
  simp only [Nat.lt_irrefl, if_false, Nat.sub_self, List.replicate_succ, List.set_cons_zero]
  rw [snoc_take l k hk, show l.length - (k + 1) = m by omega, List.append_assoc, List.singleton_append]

theorem toInts (F : Nat) (l : List Int) (hF : l.length < F) (hl : l.length < 1099511627776) : S_laws_toIntS F l = some l := by
  unfold S_laws_toIntS
  rw [mkO_ok (by omega) (by omega), obind]
  rw [show (List.replicate (l.length : Int).toNat (0 : Int), (0 : Int)) = (fun k : Nat => (l.take k ++ List.replicate (l.length - k) 0, (k : Int))) 0 by simp]
  rw [loop_from0 (fun k : Nat => (l.take k ++ List.replicate (l.length - k) (0 : Int), (k : Int))) l l.length ?_ ?_ hF]
  · rfl
  · intro k hk
    unfold S_laws_toIntS_l2
    have h2 : k < (l.take k ++ List.replicate (l.length - k) (0 : Int)).length := by simp; omega
    dsimp only
    rw [if_pos (by simpa using hk), idxL_get hk, obind, idxL_get h2, obind, w64 (by omega) (by omega), Int.toNat_natCast, take_rep_set l k hk]
    simp
  · unfold S_laws_toIntS_l2
    simp

theorem eqInts (F : Nat) (a b : List Int) (hF : a.length < F) (hl : a.length ≤ 1048576) : S_laws_eqIntS F a b = some (decide (a = b)) := by
  unfold S_laws_eqIntS
  by_cases h : a.length = b.length
  · rw [if_neg (by simp [h]), eq_loop F a b h hF (by omega) (fun x => S_laws_eqIntS_l2 F a b x) (fun x => rfl), obind]
    by_cases e : a = b
    · simp [e, S_laws_eqIntS_j1]
    · simp [e]
  · rw [if_pos (by simp; omega)]
    have : a ≠ b := fun e => h (by rw [e])
    simp [this]

/-! ### marks -/

theorem nlt1 (n : Nat) : ¬ (1 + (n : Int) < 0) := by omega

def marks (n : Nat) (k : Int) : List Int := (List.range n).map fun (i : Nat) => k + (i : Int)
theorem marks_len (n : Nat) (k : Int) : (marks n k).length = n := by simp [marks]
theorem marks_get (n : Nat) (k : Int) (i : Nat) (h : i < n) : (marks n k)[i]'(by simpa [marks] using h) = k + (i : Int) := by simp [marks]
theorem marks_succ (n : Nat) (k : Int) : marks (n + 1) k = marks n k ++ [k + (n : Int)] := by simp [marks, List.range_succ]

theorem marks_set (l : List Int) (k : Nat) (c : Int) (hk : k < l.length) : (marks k c ++ l.drop k).set k (c + (k : Int)) = marks (k + 1) c ++ l.drop (k + 1) := by
  rw [List.set_append]
  simp only [marks_len, Nat.lt_irrefl, if_false, Nat.sub_self]
  rw [List.drop_eq_getElem_cons hk, List.set_cons_zero, marks_succ]
  simp

theorem markInts (F : Nat) (l : List Int) (c : Int) (hF : l.length < F) (hc : 0 ≤ c) (hl : c + (l.length : Int) < 4611686018427387904) : S_laws_markIntS F l c = some (c + (l.length : Int), marks l.length c) := by
  unfold S_laws_markIntS
  rw [show (l, c, (0 : Int)) = (fun k : Nat => (marks k c ++ l.drop k, c + (k : Int), (k : Int))) 0 by simp [marks]]
  rw [loop_from0 (fun k : Nat => (marks k c ++ l.drop k, c + (k : Int), (k : Int))) (c + (l.length : Int), marks l.length c) l.length ?_ ?_ hF]
  · rfl
  · intro k hk
    unfold S_laws_markIntS_l2
    have h2 : k < (marks k c ++ l.drop k).length := by simp [marks_len]; omega
    dsimp only
    rw [if_pos (by simp [marks_len]; omega), idxL_get h2, obind, w64 (by omega) (by omega), w64 (by omega) (by omega), Int.toNat_natCast, marks_set l k c hk]
    congr 3
    simp; omega
  · unfold S_laws_markIntS_l2
    simp [marks_len]

theorem heldInts (F : Nat) (n : Nat) (c : Int) (hF : n < F) (hc : 0 ≤ c) (hl : c + (n : Int) < 4611686018427387904) : S_laws_heldIntS F (marks n c) c = some (c + (n : Int)) := by
  unfold S_laws_heldIntS
  rw [show (c, (0 : Int)) = (fun k : Nat => (c + (k : Int), (k : Int))) 0 by simp]
  rw [loop_from0 (fun k : Nat => (c + (k : Int), (k : Int))) (.inl (c + (n : Int))) n ?_ ?_ hF]
  · rfl
  · intro k hk
    unfold S_laws_heldIntS_l2
    have h2 : k < (marks n c).length := by simpa [marks_len] using hk
    dsimp only
    rw [if_pos (by simp [marks_len]; omega), idxL_get h2, obind, marks_get n c k hk, w64 (by omega) (by omega), w64 (by omega) (by omega)]
    rw [if_neg (by simp)]
    congr 3
    simp; omega
  · unfold S_laws_heldIntS_l2
    simp [marks_len]

theorem szInts (F : Nat) (l : List Int) (left : Int) (h0 : 0 ≤ left) (h1 : left ≤ 1048576) (hl : l.length ≤ maxLen) : S_laws_szIntS F l left = some (if left < (l.length : Int) then -1 else left - (l.length : Int)) := by
  unfold S_laws_szIntS
  have : maxLen = 9223372036854775807 := by decide
  rw [w64 (by omega) (by omega)]
  by_cases h : left < (l.length : Int)
  · rw [if_pos (by simp; omega), if_pos h]
  · rw [if_neg (by simp; omega), if_neg h]

theorem szGraph (F : Nat) (n : Int) (l : List Int) (left : Int) (h0 : 0 ≤ left) (h1 : left ≤ 1048576) (hl : l.length ≤ maxLen) : S_laws_szGraph F n l left = some (if left < (l.length : Int) then -1 else left - (l.length : Int)) := by
  unfold S_laws_szGraph
  rw [szInts F l left h0 h1 hl, obind]
  by_cases h : left < (l.length : Int)
  · simp [h]
  · rw [if_neg h, if_neg (by simp; omega)]

theorem toGraph (F : Nat) (n : Int) (l : List Int) (hF : l.length < F) (hl : l.length < 1099511627776) : S_laws_toGraph F n l = some (n, l) := by
  unfold S_laws_toGraph
  rw [toInts F l hF hl, obind]

theorem eqGraph (F : Nat) (n : Int) (l : List Int) (m : Int) (q : List Int) (hF : l.length < F) (hl : l.length ≤ 1048576) : S_laws_eqGraph F n l m q = some (decide (n = m ∧ l = q)) := by
  unfold S_laws_eqGraph
  by_cases h : n = m
  · rw [if_neg (by simpa using h), eqInts F l q hF hl, obind]
    by_cases e : l = q <;> simp [h, e]
  · rw [if_pos (by simpa using h)]
    simp [h]

end Go.Proofs.Ytblbimlobacciaa
