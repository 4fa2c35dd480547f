/- Proved here: graphs written: both programs write the same. -/
import Derived.Test.YtdalcpadcggklaaDoorPfmt
import Derived.Test.YtdalcpadcggklaaDoorProws
namespace Go.Proofs.YtdalcpadcggklaaDoor
open Go Go.RowKit
set_option linter.unusedVariables false
set_option linter.unusedSimpArgs false

/-- The edges' text: a blank and two numerals each. -/
def fmtE : List (List Int) → List UInt8
  | [] => []
  | e :: l => 32 :: (Lib.itoa (e.getD 0 0) ++ Lib.itoa (e.getD 1 0)) ++ fmtE l
theorem fmtE_snoc : ∀ (l : List (List Int)) (e : List Int), fmtE (l ++ [e]) = fmtE l ++ (32 :: (Lib.itoa (e.getD 0 0) ++ Lib.itoa (e.getD 1 0)))
  | [], e => by simp [fmtE]
  | x :: l, e => by simp [fmtE, fmtE_snoc l e]

/-- Pairs of vertices. -/
def Prs (m : Nat) (l : List (List Int)) : Prop := ∀ e, e ∈ l → ∃ v w : Nat, e = [(v : Int), (w : Int)] ∧ v < w ∧ w < m

theorem fmtE_len {m : Nat} (hm : m ≤ 7) : ∀ (l : List (List Int)), Prs m l → (fmtE l).length ≤ 43 * l.length
  | [], _ => by simp [fmtE]
  | e :: l, h => by
    obtain ⟨v, w, rfl, h1, h2⟩ := h e (by simp)
    have a1 := Lib.itoa_length_le (v : Int) (by omega) (by omega)
    have a2 := Lib.itoa_length_le (w : Int) (by omega) (by omega)
    have h3 := fmtE_len hm l fun x hx => h x (by simp [hx])
    simp only [fmtE, List.length_append, List.length_cons, List.getD_cons_zero, List.getD_cons_succ]
    omega

theorem eIn_prs (m : Nat) (R : Nat → Nat) (v a k : Nat) (h1 : v < a) (h2 : a + k ≤ m) : Prs m (eIn R v a k) := by
  intro e he
  unfold eIn at he
  rw [List.mem_flatMap] at he
  obtain ⟨w, hw, he⟩ := he
  rw [List.mem_range'] at hw
  obtain ⟨i, hi, rfl⟩ := hw
  split at he
  · simp only [List.mem_singleton] at he
    exact ⟨v, a + 1 * i, he, by omega, by omega⟩
  · simp at he
theorem eOut_prs (m : Nat) (R : Nat → Nat) : Prs m (eOut m R m) := by
  intro e he
  unfold eOut at he
  rw [List.mem_flatMap] at he
  obtain ⟨v, hv, he⟩ := he
  rw [List.mem_range] at hv
  exact eIn_prs m R v (v + 1) (m - (v + 1)) (by omega) (by omega) e he

def fmtG (m : Nat) (R : Nat → Nat) : List UInt8 := Lib.itoa (m : Int) ++ [58] ++ fmtE (eOut m R m)

theorem sFormatGraph (F : Nat) (hF : 2000 ≤ F) {m : Nat} {R : Nat → Nat} (g : VG m R) : S_spec_FormatGraph F (m : Int) (rowsOf m R) = some (fmtG m R) := by
  have h7 := g.n7
  have hl := eOut_len m h7 R m
  have hp := eOut_prs m R
  have a0 := Lib.itoa_length_le (m : Int) (by omega) (by omega)
  unfold S_spec_FormatGraph
  rw [sIsGraph F (by omega) _ _ g.row64, obind, isG_intro g, if_neg (by simp), sFormatInt F (by omega) _ (by unfold I64; omega), obind, catO_ok (by simp; omega), obind, sEdges F (by omega) g, obind]
  unfold fmtG
  generalize eOut m R m = l at *
  have hlen : l.length ≤ 49 := by omega
  rw [show (Lib.itoa (m : Int) ++ ([58] : List UInt8), (0 : Int)) = (fun k : Nat => (Lib.itoa (m : Int) ++ [58] ++ fmtE (l.take k), (k : Int))) 0 by simp [fmtE]]
  rw [loop_from0 (fun k : Nat => (Lib.itoa (m : Int) ++ [58] ++ fmtE (l.take k), (k : Int))) (Lib.itoa (m : Int) ++ [58] ++ fmtE l) l.length ?_ ?_ (by omega), obind]
  · rfl
  · intro k hk
    unfold S_spec_FormatGraph_l2
    obtain ⟨v, w, he, hv, hw⟩ := hp l[k] (List.getElem_mem hk)
    have hq : Prs m (l.take k) := fun x hx => hp x (List.mem_of_mem_take hx)
    have b1 := fmtE_len h7 _ hq
    have b2 : (l.take k).length ≤ 49 := by simp; omega
    have a1 := Lib.itoa_length_le (v : Int) (by omega) (by omega)
    have a2 := Lib.itoa_length_le (w : Int) (by omega) (by omega)
    dsimp only
    rw [if_pos (by simp; omega), catO_ok (by simp; omega), obind, idxL_get hk, obind, he, show idxL [(v : Int), (w : Int)] 0 = some (v : Int) from rfl, obind, obind, show idxL [(v : Int), (w : Int)] 1 = some (w : Int) from rfl, obind, sFormatInt F (by omega) _ (by unfold I64; omega), obind, catO_ok (by simp; omega), obind, sFormatInt F (by omega) _ (by unfold I64; omega), obind, catO_ok (by simp; omega), obind, w64 (by omega) (by omega), snoc_take l k hk, fmtE_snoc, he]
    simp
  · unfold S_spec_FormatGraph_l2
    simp

theorem iFormatGraph (F : Nat) (hF : 2000 ≤ F) {m : Nat} {R : Nat → Nat} (g : VG m R) : S_impl_FormatGraph F (m : Int) (rowsOf m R) = some (fmtG m R) := by
  have h7 := g.n7
  have hl := eOut_len m h7 R m
  have hp := eOut_prs m R
  have a0 := Lib.itoa_length_le (m : Int) (by omega) (by omega)
  unfold S_impl_FormatGraph
  rw [iIsGraph F (by omega) _ _ g.row64, obind, isG_intro g, if_neg (by simp), iFormatInt F _ (by unfold I64; omega), obind, catO_ok (by simp; omega), obind, iEdges F (by omega) g, obind]
  unfold fmtG
  generalize eOut m R m = l at *
  have hlen : l.length ≤ 49 := by omega
  rw [show (Lib.itoa (m : Int) ++ ([58] : List UInt8), (0 : Int)) = (fun k : Nat => (Lib.itoa (m : Int) ++ [58] ++ fmtE (l.take k), (k : Int))) 0 by simp [fmtE]]
  rw [loop_from0 (fun k : Nat => (Lib.itoa (m : Int) ++ [58] ++ fmtE (l.take k), (k : Int))) (Lib.itoa (m : Int) ++ [58] ++ fmtE l) l.length ?_ ?_ (by omega), obind]
  · rfl
  · intro k hk
    unfold S_impl_FormatGraph_l2
    obtain ⟨v, w, he, hv, hw⟩ := hp l[k] (List.getElem_mem hk)
    have hq : Prs m (l.take k) := fun x hx => hp x (List.mem_of_mem_take hx)
    have b1 := fmtE_len h7 _ hq
    have b2 : (l.take k).length ≤ 49 := by simp; omega
    have a1 := Lib.itoa_length_le (v : Int) (by omega) (by omega)
    have a2 := Lib.itoa_length_le (w : Int) (by omega) (by omega)
    dsimp only
    rw [if_pos (by simp; omega), idxL_get hk, obind, he, show idxL [(v : Int), (w : Int)] 0 = some (v : Int) from rfl, obind, show idxL [(v : Int), (w : Int)] 1 = some (w : Int) from rfl, obind, iFormatInt F _ (by unfold I64; omega), obind, catO_ok (by simp; omega), obind, iFormatInt F _ (by unfold I64; omega), obind, catO_ok (by simp; omega), obind, catO_ok (by simp; omega), obind, w64 (by omega) (by omega), snoc_take l k hk, fmtE_snoc, he]
    simp
  · unfold S_impl_FormatGraph_l2
    simp

theorem kFormatGraph (F : Nat) (hF : 2000 ≤ F) (n : Int) (rows : List Int) (hr : Row64 rows) : ∃ r, S_spec_FormatGraph F n rows = some r ∧ S_impl_FormatGraph F n rows = some r ∧ (isG n rows = false → r = []) := by
  cases hG : isG n rows with
  | true =>
    obtain ⟨m, R, rfl, rfl, g⟩ := isG_elim hG
    exact ⟨_, sFormatGraph F hF g, iFormatGraph F hF g, by simp⟩
  | false =>
    refine ⟨[], ?_, ?_, fun _ => rfl⟩
    · unfold S_spec_FormatGraph
      rw [sIsGraph F (by omega) n rows hr, obind, hG]
      rfl
    · unfold S_impl_FormatGraph
      rw [iIsGraph F (by omega) n rows hr, obind, hG]
      rfl

end Go.Proofs.YtdalcpadcggklaaDoor
