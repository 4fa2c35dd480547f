/- Proved here: what the laws' own helpers compute: copies, comparisons, marks. -/
import Derived.Test.YtdalcpadcggklaaDoorPbase
import Derived.Test.YtdalcpadcggklaaDoorSh
namespace Go.Proofs.YtdalcpadcggklaaDoor
open Go Go.RowKit
set_option linter.unusedVariables false
set_option linter.unusedSimpArgs false

theorem eq_loop (F : Nat) (a b : List Int) (h : a.length = b.length) (hF : a.length < F) (hl : a.length ≤ 9223372036854775806) (f : Int → Option (Int ⊕ (Unit ⊕ Bool)))
    (hf : ∀ x, f x = (if (decide (x < (a.length : Int))) = true then ((idxL a x).bind fun x74 => ((idxL b x).bind fun x75 => (if (x74 != x75) = true then some (Sum.inr (Sum.inr false)) else some (Sum.inl (IntKind.i64.wrap (x + 1)))))) else some (Sum.inr (Sum.inl ())))) :
    loopN f F 0 = some (if a = b then .inl () else .inr false) := by
  rw [loop_allI (.inl ()) (.inr false) (fun k => a[k]? == b[k]?) a.length ?_ ?_ hF]
  · congr 1
    have e : (allB a.length (fun k => a[k]? == b[k]?) = true) ↔ a = b := by
      rw [allB_iff]
      constructor
      · intro g
        apply List.ext_getElem h
        intro i h1 h2
        have := g i h1
        simpa [h1, h2] using this
      · rintro rfl k hk; simp
    simp only [e]
  · intro k hk
    have hk2 : k < b.length := by omega
    rw [hf, if_pos (by simpa using hk), idxL_get hk, obind, idxL_get hk2, obind, w64 (by omega) (by omega)]
    simp only [hk, hk2, List.getElem?_eq_getElem, Option.some_beq_some, bne_iff_ne, beq_iff_eq]
    by_cases e : a[k] = b[k] <;> simp [e]
  · rw [hf]; simp

theorem take_rep_set (l : List Int) (k : Nat) (hk : k < l.length) : (l.take k ++ List.replicate (l.length - k) (0 : Int)).set k l[k] = l.take (k + 1) ++ List.replicate (l.length - (k + 1)) 0 := by
  obtain ⟨m, hm⟩ : ∃ m, l.length - k = m + 1 := ⟨l.length - k - 1, by omega⟩
  have ht : (l.take k).length = k := by simp; omega
  rw [hm, List.set_append, ht]
  simp only [Nat.lt_irrefl, if_false, Nat.sub_self, List.replicate_succ, List.set_cons_zero]
  rw [snoc_take l k hk, show l.length - (k + 1) = m by omega, List.append_assoc, List.singleton_append]

theorem equalInts (F : Nat) (a b : List Int) (hF : a.length < F) (hl : a.length ≤ 1048576) : S_slices_Equal_int F a b = some (decide (a = b)) := by
  unfold S_slices_Equal_int
  by_cases h : a.length = b.length
  · rw [if_neg (by simp [h]), eq_loop F a b h hF (by omega) (fun x => S_slices_Equal_int_l2 F a b x) (fun x => rfl), obind]
    by_cases e : a = b
    · simp [e, S_slices_Equal_int_j1]
    · simp [e]
  · rw [if_pos (by simp; omega)]
    have : a ≠ b := fun e => h (by rw [e])
    simp [this]

/-! ### marks -/

theorem nlt1 (n : Nat) : ¬ (1 + (n : Int) < 0) := by omega

def marks (n : Nat) (k : Int) : List Int := (List.range n).map fun (i : Nat) => k + (i : Int)
theorem marks_len (n : Nat) (k : Int) : (marks n k).length = n := by simp [marks]
theorem marks_get (n : Nat) (k : Int) (i : Nat) (h : i < n) : (marks n k)[i]'(by simpa [marks] using h) = k + (i : Int) := by simp [marks]
theorem marks_succ (n : Nat) (k : Int) : marks (n + 1) k = marks n k ++ [k + (n : Int)] := by simp [marks, List.range_succ]

theorem marks_set (l : List Int) (k : Nat) (c : Int) (hk : k < l.length) : (marks k c ++ l.drop k).set k (c + (k : Int)) = marks (k + 1) c ++ l.drop (k + 1) := by
  rw [List.set_append]
  simp only [marks_len, Nat.lt_irrefl, if_false, Nat.sub_self]
  rw [List.drop_eq_getElem_cons hk, List.set_cons_zero, marks_succ]
  simp

end Go.Proofs.YtdalcpadcggklaaDoor
