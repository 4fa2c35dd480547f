/- Proved here: a search in lexicographic order, as a plain function, and what it finds. -/
import Derived.Test.YtilfniehellmmaaPjoin
namespace Go.Proofs.Ytilfniehellmmaa
open Go Go.RowKit
set_option linter.unusedVariables false
set_option linter.unusedSimpArgs false

/-- The first that f gives below m. -/
def fsm {α : Type} (f : Nat → Option α) : Nat → Nat → Option α
  | 0, _ => none
  | n + 1, k => match f k with
    | some a => some a
    | none => fsm f n (k + 1)

theorem fsm_congr {α : Type} {f g : Nat → Option α} : ∀ (n k : Nat), (∀ i, k ≤ i → i < k + n → f i = g i) → fsm f n k = fsm g n k
  | 0, _, _ => rfl
  | n + 1, k, h => by
    simp only [fsm]
    rw [h k (by omega) (by omega), fsm_congr n (k + 1) fun i h1 h2 => h i (by omega) (by omega)]

theorem fsm_none {α : Type} {f : Nat → Option α} : ∀ (n k : Nat), (∀ i, k ≤ i → i < k + n → f i = none) → fsm f n k = none
  | 0, _, _ => rfl
  | n + 1, k, h => by
    simp only [fsm]
    rw [h k (by omega) (by omega), fsm_none n (k + 1) fun i h1 h2 => h i (by omega) (by omega)]

theorem fsm_some {α : Type} {f : Nat → Option α} {a : α} : ∀ (n k : Nat), fsm f n k = some a → ∃ i, k ≤ i ∧ i < k + n ∧ f i = some a
  | 0, _, h => by cases h
  | n + 1, k, h => by
    simp only [fsm] at h
    cases e : f k with
    | some b => rw [e] at h; exact ⟨k, by omega, by omega, by rw [e]; exact h⟩
    | none =>
      rw [e] at h
      obtain ⟨i, h1, h2, h3⟩ := fsm_some n (k + 1) h
      exact ⟨i, by omega, by omega, h3⟩

theorem fsm_shift {α : Type} (f : Nat → Option α) (c : Nat) : ∀ (n k : Nat), fsm f n (c + k) = fsm (fun i => f (c + i)) n k
  | 0, _ => rfl
  | n + 1, k => by
    simp only [fsm]
    have := fsm_shift f c n (k + 1)
    rw [← Nat.add_assoc] at this
    rw [this]

theorem fsm_add {α : Type} (f : Nat → Option α) : ∀ (a b k : Nat), fsm f (a + b) k = match fsm f a k with
    | some x => some x
    | none => fsm f b (k + a)
  | 0, b, k => by simp [fsm]
  | a + 1, b, k => by
    rw [show a + 1 + b = (a + b) + 1 by omega]
    simp only [fsm]
    cases f k with
    | some x => rfl
    | none =>
      dsimp only
      rw [fsm_add f a b (k + 1), show k + 1 + a = k + (a + 1) by omega]

theorem fsm_mul {α : Type} (f : Nat → Option α) (m : Nat) : ∀ (a k : Nat), fsm f (a * m) (k * m) = fsm (fun i => fsm (fun j => f (i * m + j)) m 0) a k
  | 0, k => by simp [fsm]
  | a + 1, k => by
    have ih := fsm_mul f m a (k + 1)
    rw [Nat.succ_mul] at ih
    rw [Nat.succ_mul, Nat.add_comm (a * m) m, fsm_add, ih]
    have hs := fsm_shift f (k * m) m 0
    rw [Nat.add_zero] at hs
    simp only [fsm]
    rw [hs]

/-- A loop that looks for the first. -/
theorem loop_fsm {α β : Type} {body : Int → Option (Int ⊕ β)} (f : Nat → Option α) (r : α → β) (e : β) : ∀ (n k : Nat), (∀ i, k ≤ i → i < k + n → body (i : Int) = some (match f i with
    | some a => .inr (r a)
    | none => .inl ((i + 1 : Nat) : Int))) → body ((k + n : Nat) : Int) = some (.inr e) → ∀ {F : Nat}, n < F → loopN body F (k : Int) = some (match fsm f n k with
    | some a => r a
    | none => e)
  | 0, k, _, he, F, hF => by
    obtain ⟨F, rfl⟩ : ∃ G, F = G + 1 := ⟨F - 1, by omega⟩
    simp only [loopN, fsm]
    rw [Nat.add_zero] at he
    rw [he]
  | n + 1, k, h, he, F, hF => by
    obtain ⟨F, rfl⟩ : ∃ G, F = G + 1 := ⟨F - 1, by omega⟩
    simp only [loopN, fsm]
    rw [h k (by omega) (by omega)]
    cases e1 : f k with
    | some a => rfl
    | none =>
      exact loop_fsm f r e n (k + 1) (fun i h1 h2 => h i (by omega) (by omega)) (by rw [show k + 1 + n = k + (n + 1) by omega]; exact he) (by omega)

def srch (m n : Nat) (ok fin : List Int → Bool) : Nat → List Int → Option (List Int)
  | 0, _ => none
  | d + 1, l => if l.length = n then (if fin l = true then some l else none)
    else fsm (fun v => if ok (l ++ [(v : Int)]) = true then srch m n ok fin d (l ++ [(v : Int)]) else none) m 0

theorem srch_len {m n : Nat} {ok fin : List Int → Bool} : ∀ (d : Nat) (l y : List Int), srch m n ok fin d l = some y → y.length = n ∧ (l ≠ y → ok y = true)
  | 0, _, _, h => by cases h
  | d + 1, l, y, h => by
    simp only [srch] at h
    by_cases hl : l.length = n
    · rw [if_pos hl] at h
      by_cases hf : fin l = true
      · rw [if_pos hf] at h; cases h; exact ⟨hl, fun h => absurd rfl h⟩
      · rw [if_neg hf] at h; cases h
    · rw [if_neg hl] at h
      obtain ⟨v, _, _, hv⟩ := fsm_some _ _ h
      by_cases ho : ok (l ++ [(v : Int)]) = true
      · rw [if_pos ho] at hv
        obtain ⟨h1, h2⟩ := srch_len d _ _ hv
        refine ⟨h1, fun _ => ?_⟩
        by_cases e : l ++ [(v : Int)] = y
        · rw [← e]; exact ho
        · exact h2 e
      · rw [if_neg ho] at hv; cases hv

/-- What is found has a property that every end has; so nothing is found behind a list that spoils it. -/
theorem srch_none {m n : Nat} {ok fin : List Int → Bool} (bad : List Int → Prop) (hb : ∀ l x, bad l → bad (l ++ [x])) (hf : ∀ l, bad l → fin l = false) : ∀ (d : Nat) (l : List Int), bad l → srch m n ok fin d l = none
  | 0, _, _ => rfl
  | d + 1, l, h => by
    simp only [srch]
    by_cases hl : l.length = n
    · rw [if_pos hl, if_neg (by rw [hf l h]; simp)]
    · rw [if_neg hl]
      apply fsm_none
      intro i _ _
      rw [srch_none bad hb hf d _ (hb _ _ h)]
      simp

theorem srch_congr {m n : Nat} {ok ok2 fin fin2 : List Int → Bool} (h : ∀ d l, l.length ≤ n → (if ok l = true then srch m n ok fin d l else none) = (if ok2 l = true then srch m n ok fin d l else none)) (hf : ∀ l, fin l = fin2 l) : ∀ (d : Nat) (l : List Int), l.length ≤ n → srch m n ok fin d l = srch m n ok2 fin2 d l
  | 0, _, _ => rfl
  | d + 1, l, hle => by
    simp only [srch]
    by_cases hl : l.length = n
    · rw [if_pos hl, if_pos hl, hf]
    · rw [if_neg hl, if_neg hl]
      apply fsm_congr
      intro i _ _
      have hle2 : (l ++ [(i : Int)]).length ≤ n := by simp; omega
      rw [h d _ hle2, srch_congr h hf d _ hle2]

end Go.Proofs.Ytilfniehellmmaa
