/- Proved here: lists of vertices joined just as a rule says: both programs compute the same. -/
import Derived.Test.YtdalcpadcggklaaDoorPord
namespace Go.Proofs.YtdalcpadcggklaaDoor
open Go Go.RowKit
set_option linter.unusedVariables false
set_option linter.unusedSimpArgs false

/-- The edge between the numbers at two places of a list. -/
def edgeAt (R : Nat → Nat) (l : List Int) (i k : Nat) : Bool := (R (l.getD i 0).toNat).testBit (l.getD k 0).toNat
def joinedB (R : Nat → Nat) (l : List Int) (J : Nat → Nat → Bool) : Bool := allB l.length (fun k => allB k (fun i => edgeAt R l i k == J i k))

theorem edgeAt_sym {m : Nat} {R : Nat → Nat} (g : VG m R) {l : List Int} (h : ∀ x, x ∈ l → 0 ≤ x ∧ x < (m : Int)) {i k : Nat} (hi : i < l.length) (hk : k < l.length) : edgeAt R l i k = edgeAt R l k i := by
  have h1 := h _ (getD_mem hi)
  have h2 := h _ (getD_mem hk)
  exact g.sym _ _ (by omega) (by omega)

theorem eqStep (p q : Bool) (i : Nat) : (if (p != q) = true then some (Sum.inr (Sum.inr false)) else some (Sum.inl ((i : Int) + 1)) : Option (Int ⊕ (Unit ⊕ Bool))) = some (if (p == q) = true then Sum.inl ((i + 1 : Nat) : Int) else Sum.inr (Sum.inr false)) := by
  cases p <;> cases q <;> simp
def pcA (s : Nat) : Nat := s % 2 + s / 2 % 2 + s / 4 % 2 + s / 8 % 2 + s / 16 % 2 + s / 32 % 2 + s / 64 % 2
theorem pcA_add : ∀ s, s < 128 → ∀ v, v < 7 → s.testBit v = false → pcA (s ||| 2 ^ v) = pcA s + 1 := by decide +kernel
theorem pcA_le : ∀ s, s < 128 → pcA s ≤ 7 := by decide +kernel

theorem nodup_len {l : List Int} (h : okL l = true) : l.length ≤ 7 := by
  have h1 : ∀ k, k ≤ l.length → pcA (bitsOf (l.take k)) = k := by
    intro k
    induction k with
    | zero => intro _; simp [bitsOf, pcA]
    | succ k ih =>
      intro hk
      obtain ⟨v, hv, _, hf, _, ho⟩ := okAt_step (l := l) (k := k) (by omega) (allB_iff.1 h k (by omega))
      rw [ho, pcA_add _ (bitsOf_lt _) v hv hf, ih (by omega)]
  have h2 := h1 l.length (Nat.le_refl _)
  rw [List.take_length] at h2
  have h3 := pcA_le _ (bitsOf_lt l)
  omega

theorem sEdgeL (F : Nat) {m : Nat} {R : Nat → Nat} (g : VG m R) {l : List Int} (h : ∀ x, x ∈ l → 0 ≤ x ∧ x < (m : Int)) {i k : Nat} (hi : i < l.length) (hk : k < l.length) (n : Int) : S_spec_l2Edge F n (rowsOf m R) (l.getD i 0) (l.getD k 0) = some (edgeAt R l i k) := by
  have h1 := h _ (getD_mem hi)
  have h2 := h _ (getD_mem hk)
  have h7 := g.n7
  have := sEdge F g (v := (l.getD i 0).toNat) (w := (l.getD k 0).toNat) (by omega) (by omega) n
  rw [show (((l.getD i 0).toNat : Nat) : Int) = l.getD i 0 by omega, show (((l.getD k 0).toNat : Nat) : Int) = l.getD k 0 by omega] at this
  exact this

theorem iHasL (F : Nat) {m : Nat} {R : Nat → Nat} (g : VG m R) {l : List Int} (h : ∀ x, x ∈ l → 0 ≤ x ∧ x < (m : Int)) {i k : Nat} (hi : i < l.length) (hk : k < l.length) : (idxL (rowsOf m R) (l.getD i 0)).bind (fun x => S_impl_has F x (l.getD k 0)) = some (edgeAt R l i k) := by
  have h1 := h _ (getD_mem hi)
  have h2 := h _ (getD_mem hk)
  have h7 := g.n7
  have hb := g.b128 (show (l.getD i 0).toNat < m by omega)
  have e1 := rowsOf_idx (R := R) (show (l.getD i 0).toNat < m by omega)
  have e2 := iHasN F (a := R (l.getD i 0).toNat) (v := (l.getD k 0).toNat) (by omega) (by omega)
  rw [show (((l.getD i 0).toNat : Nat) : Int) = l.getD i 0 by omega] at e1
  rw [show (((l.getD k 0).toNat : Nat) : Int) = l.getD k 0 by omega] at e2
  rw [e1, obind, e2]
  rfl

end Go.Proofs.YtdalcpadcggklaaDoor
