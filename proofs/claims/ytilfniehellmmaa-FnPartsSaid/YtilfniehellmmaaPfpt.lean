/- Proved here: what the searches find is what they look for; a turned hole is a hole; the parts of a path are paths. -/
import Derived.Test.YtilfniehellmmaaPpath
import Derived.Test.YtilfniehellmmaaPcyc
import Derived.Test.YtilfniehellmmaaPcomp
namespace Go.Proofs.Ytilfniehellmmaa
open Go Go.RowKit
set_option linter.unusedVariables false
set_option linter.unusedSimpArgs false

theorem srch_fin {m n : Nat} {ok fin : List Int → Bool} : ∀ (d : Nat) (l y : List Int), srch m n ok fin d l = some y → fin y = true
  | 0, _, _, h => by cases h
  | d + 1, l, y, h => by
    simp only [srch] at h
    by_cases hl : l.length = n
    · rw [if_pos hl] at h
      by_cases hf : fin l = true
      · rw [if_pos hf] at h; cases h; exact hf
      · rw [if_neg hf] at h; cases h
    · rw [if_neg hl] at h
      obtain ⟨v, _, _, hv⟩ := fsm_some _ _ h
      by_cases ho : ok (l ++ [(v : Int)]) = true
      · rw [if_pos ho] at hv
        exact srch_fin d _ _ hv
      · rw [if_neg ho] at hv; cases hv

theorem fsm_ne {α : Type} {f : Nat → Option α} : ∀ (n k i : Nat), k ≤ i → i < k + n → f i ≠ none → fsm f n k ≠ none
  | 0, k, i, h1, h2, _ => by omega
  | n + 1, k, i, h1, h2, h => by
    simp only [fsm]
    cases e : f k with
    | some b => simp
    | none =>
      have : i ≠ k := by rintro rfl; exact h e
      exact fsm_ne n (k + 1) i (by omega) (by omega) h

/-- A longer path found, so a shorter one found. -/
theorem srch_mono {m n : Nat} {ok fin fin2 : List Int → Bool} (hf : ∀ l, fin2 l = true) : ∀ (d : Nat) (l y : List Int), l.length ≤ n → srch m (n + 1) ok fin d l = some y → srch m n ok fin2 d l ≠ none
  | 0, _, _, _, h => by cases h
  | d + 1, l, y, hl, h => by
    simp only [srch] at h ⊢
    rw [if_neg (by omega)] at h
    by_cases hn : l.length = n
    · rw [if_pos hn, if_pos (hf l)]
      simp
    · rw [if_neg hn]
      obtain ⟨v, h1, h2, hv⟩ := fsm_some _ _ h
      refine fsm_ne m 0 v h1 h2 ?_
      by_cases ho : ok (l ++ [(v : Int)]) = true
      · rw [if_pos ho] at hv ⊢
        exact srch_mono hf d _ y (by simp; omega) hv
      · rw [if_neg ho] at hv; cases hv

theorem kFindHole2 (F : Nat) (hF : 2097152 ≤ F) (n : Int) (hn : I64 n) (rows : List Int) (hr : Row64 rows) : ∃ r : List Int × Bool, r.1.length ≤ 7 ∧ S_spec_FindHole F n rows = some r ∧ S_impl_FindHole F n rows = some r ∧ (r.2 = true → S_impl_IsHole F n rows r.1 = some true) := by
  unfold S_spec_FindHole S_impl_FindHole
  cases hG : isG n rows with
  | false =>
    refine ⟨([], false), by simp, ?_, ?_, by simp⟩
    · obtain ⟨F, rfl⟩ : ∃ G, F = G + 1 := ⟨F - 1, by omega⟩
      have e : S_spec_FindHole_l2 (F + 1) n rows 4 = some (.inr (.inl ())) := by
        unfold S_spec_FindHole_l2 S_spec_FindHole_j3
        by_cases h : (4 : Int) ≤ n
        · rw [if_pos (by simpa using h), sIsGraph (F + 1) (by omega) n rows hr, obind, hG]
          rfl
        · rw [if_neg (by simpa using h)]
          rfl
      simp only [loopN]
      rw [e]
      rfl
    · have hM : ∃ c : Nat, c ≤ 4 ∧ (∀ i : Nat, 4 ≤ i → i < 4 + c → (i : Int) ≤ (if 7 < n then 7 else n)) ∧ ¬ (((4 + c : Nat) : Int) ≤ (if 7 < n then 7 else n)) := by
        by_cases h : 7 < n
        · rw [if_pos h]
          exact ⟨4, by omega, fun i _ hi => by omega, by omega⟩
        · rw [if_neg h]
          exact ⟨(n - 3).toNat, by omega, fun i _ hi => by omega, by omega⟩
      obtain ⟨c, hc, h1, h2⟩ := hM
      have hl := loop_fsm (α := Unit) (β := Unit ⊕ (List Int × Bool)) (body := fun s => S_impl_FindHole_l2 F n rows s) (fun _ => none) (fun _ => .inl ()) (.inl ()) c 4 (fun i h4 hi => by
        unfold S_impl_FindHole_l2 S_impl_firstList__FindHolec1__FindHolec2
        rw [if_pos (by simpa using h1 i h4 hi), iIsGraph F (by omega) n rows hr, obind, hG, if_pos (by simp), obind, if_neg (by simp), w64 (by omega) (by omega)]
        simp) (by
        unfold S_impl_FindHole_l2
        rw [if_neg (by simpa using h2)]) (F := F) (by omega)
      rw [show (((4 : Nat) : Int)) = 4 from rfl, fsm_none c 4 (fun _ _ _ => rfl)] at hl
      rw [hl]
      rfl
  | true =>
    obtain ⟨m, R, rfl, rfl, g⟩ := isG_elim hG
    have h7 := g.n7
    obtain ⟨pathB, p1, p2⟩ := k_IsInducedPath F hF (m : Int) hn _ g.row64
    obtain ⟨holeB, q1, q2⟩ := k_IsHole F hF (m : Int) hn _ g.row64
    have step := fun k hk hkm => holeStep F hF g hn pathB holeB p1 p2 q1 q2 k hk hkm
    have hs := loop_fsm (β := Unit ⊕ (List Int × Bool)) (body := fun s => S_spec_FindHole_l2 F (m : Int) (rowsOf m R) s) (fun k => srch m k (okS true k pathB holeB) (finS true holeB) F []) (fun y => .inr (y, true)) (.inl ()) (m - 3) 4 (fun i h4 hi => by
      unfold S_spec_FindHole_l2 S_spec_FindHole_j3
      rw [if_pos (by simp; omega), sIsGraph F (by omega) _ _ g.row64, obind, isG_intro g, if_pos rfl, (step i h4 (by omega)).1, obind]
      cases srch m i (okS true i pathB holeB) (finS true holeB) F [] with
      | some y => simp
      | none =>
        rw [if_neg (by simp), w64 (by omega) (by omega)]
        simp) (by
      unfold S_spec_FindHole_l2 S_spec_FindHole_j3
      rw [if_neg (by simp; omega), if_neg (by simp)]) (F := F) (by omega)
    have hi := loop_fsm (β := Unit ⊕ (List Int × Bool)) (body := fun s => S_impl_FindHole_l2 F (m : Int) (rowsOf m R) s) (fun k => srch m k (okS true k pathB holeB) (finS true holeB) F []) (fun y => .inr (y, true)) (.inl ()) (m - 3) 4 (fun i h4 hi => by
      unfold S_impl_FindHole_l2
      rw [if_pos (by rw [if_neg (by omega)]; simp; omega), (step i h4 (by omega)).2, obind]
      cases srch m i (okS true i pathB holeB) (finS true holeB) F [] with
      | some y => simp
      | none =>
        rw [if_neg (by simp), w64 (by omega) (by omega)]
        simp) (by
      unfold S_impl_FindHole_l2
      rw [if_neg (by rw [if_neg (by omega)]; simp; omega)]) (F := F) (by omega)
    rw [show (((4 : Nat) : Int)) = 4 from rfl] at hs hi
    rw [hs, hi, obind, obind]
    cases he : fsm (fun k => srch m k (okS true k pathB holeB) (finS true holeB) F []) (m - 3) 4 with
    | none => exact ⟨([], false), by simp, rfl, rfl, by simp⟩
    | some y =>
      obtain ⟨k, h4, hk, hy⟩ := fsm_some _ _ he
      have := (srch_len F _ _ hy).1
      have hfy := srch_fin F _ _ hy
      refine ⟨(y, true), by dsimp only; omega, rfl, rfl, fun _ => ?_⟩
      rw [(q1 y (by omega)).2]
      simpa [finS] using hfy

theorem kFindPath2 (F : Nat) (hF : 2097152 ≤ F) (n : Int) (hn : I64 n) (rows : List Int) (hr : Row64 rows) (k : Int) : ∃ r : List Int × Bool, r.1.length ≤ 7 ∧ S_spec_FindInducedPath F n rows k = some r ∧ S_impl_FindInducedPath F n rows k = some r ∧ (r.2 = true → S_impl_IsInducedPath F n rows r.1 = some true ∧ (r.1.length : Int) = k) := by
  unfold S_spec_FindInducedPath S_impl_FindInducedPath S_impl_firstList__FindInducedPathc1__always
  rw [sIsGraph F (by omega) n rows hr, obind, iIn, obind, iIsGraph F (by omega) n rows hr, obind]
  cases hG : isG n rows with
  | false =>
    refine ⟨([], false), by simp, ?_, ?_, by simp⟩
    · rw [if_pos (by simp)]
      unfold S_spec_FindInducedPath_j1
      rfl
    · cases inB k 1 n <;> rfl
  | true =>
    obtain ⟨m, R, rfl, rfl, g⟩ := isG_elim hG
    have h7 := g.n7
    rw [if_neg (by simp), sIn, obind]
    unfold S_spec_FindInducedPath_j1
    cases hk : inB k 1 (m : Int) with
    | false => exact ⟨([], false), by simp, by simp, by simp, by simp⟩
    | true =>
      obtain ⟨hk1, hk2⟩ := inB_iff.1 hk
      obtain ⟨n, rfl⟩ : ∃ n : Nat, k = (n : Int) := ⟨k.toNat, by omega⟩
      obtain ⟨pathB, p1, p2⟩ := k_IsInducedPath F hF (m : Int) hn _ g.row64
      obtain ⟨holeB, q1, q2⟩ := k_IsHole F hF (m : Int) hn _ g.row64
      have hs := s_srch F hF m n h7 (by omega) (by omega) (rowsOf m R) pathB holeB (fun l hl => (p1 l hl).1) (fun l hl => (q1 l hl).1) false F [] (by simp) (by simp; omega)
      have hi := g_srch F hF m n h7 (by omega) (by omega) (fun x => S_impl_FindInducedPath_c1 F x (m : Int) (rowsOf m R)) (fun x => S_impl_always F x) pathB (fun _ => true) (fun x hx => by
        unfold S_impl_FindInducedPath_c1
        rw [(p1 x (by omega)).2, obind]) (fun _ _ => rfl) (fun D l => S_impl_firstList_c1__always__FindInducedPathc1__firstListc1_d F D l (n : Int) (m : Int) (rowsOf m R) (m : Int) (rowsOf m R)) (fun D l => rfl) F [] (by simp) (by simp; omega)
      rw [eqv_path m n pathB holeB p2 F] at hi
      rw [if_neg (show ¬ ([] : List Int).length = n by simp; omega)] at hs
      unfold S_spec_l4Search S_impl_firstList_c1__always__FindInducedPathc1__firstListc1
      rw [hs, hi]
      cases he : srch m n (okS false n pathB holeB) (finS false holeB) F [] with
      | none => exact ⟨([], false), by simp, by simp, by simp, by simp⟩
      | some y =>
        have hy := srch_len F _ _ he
        have := hy.1
        refine ⟨(y, true), by dsimp only; omega, by simp, ?_, fun _ => ⟨?_, by dsimp only; omega⟩⟩
        · have hne := neO_ok (show y.length ≠ 0 by omega)
          simp [hne]
        · have ho := hy.2 (by intro e; rw [← e] at this; simp at this; omega)
          rw [(p1 y (by omega)).2]
          simpa [okS] using ho

theorem kFindClaw2 (F : Nat) (hF : 2097152 ≤ F) (n : Int) (hn : I64 n) (rows : List Int) (hr : Row64 rows) : ∃ r : List Int × Bool, r.1.length ≤ 7 ∧ S_spec_FindClaw F n rows = some r ∧ S_impl_FindClaw F n rows = some r ∧ (r.2 = true → S_impl_IsClaw F n rows r.1 = some true) := by
  cases hG : isG n rows with
  | true =>
    obtain ⟨m, R, rfl, rfl, g⟩ := isG_elim hG
    obtain ⟨P, h1, h2⟩ := k_IsClaw F hF (m : Int) hn _ g.row64
    have hs := s_FourClaw F hF g P (fun l hl => (h1 l hl).1)
    have hi := i_FourClaw F hF g P (fun l hl => (h1 l hl).2)
    have hf := four_srch m P h2 (F - 5)
    rw [show F - 5 + 5 = F by omega] at hf
    rw [hf] at hs
    refine ⟨_, ?_, ?_, hi, ?_⟩
    · cases he : srch m 4 (okI fun _ => true) P F [] with
      | none => simp
      | some y =>
        have := (srch_len F _ _ he).1
        simp; omega
    · unfold S_spec_FindClaw
      rw [hs, obind]
    · cases he : srch m 4 (okI fun _ => true) P F [] with
      | none => simp
      | some y =>
        intro _
        have h4 := (srch_len F _ _ he).1
        dsimp only
        rw [(h1 y (by omega)).2, srch_fin F _ _ he]
  | false =>
    refine ⟨([], false), by simp, ?_, ?_, by simp⟩
    · unfold S_spec_FindClaw S_spec_l4Four
      obtain ⟨F, rfl⟩ : ∃ G, F = G + 1 := ⟨F - 1, by omega⟩
      have e : S_spec_l4Four_l2 (F + 1) n rows 1 0 = some (.inr (.inl ())) := by
        unfold S_spec_l4Four_l2
        rw [sIsGraph (F + 1) (by omega) n rows hr, obind, hG]
        rfl
      simp only [loopN]
      rw [e]
      rfl
    · unfold S_impl_FindClaw S_impl_firstList__always__FindClawc1
      rw [iIsGraph F (by omega) n rows hr, obind, hG]
      rfl

theorem kFindTwoEdges2 (F : Nat) (hF : 2097152 ≤ F) (n : Int) (hn : I64 n) (rows : List Int) (hr : Row64 rows) : ∃ r : List Int × Bool, r.1.length ≤ 7 ∧ S_spec_FindTwoEdges F n rows = some r ∧ S_impl_FindTwoEdges F n rows = some r ∧ (r.2 = true → S_impl_IsTwoEdges F n rows r.1 = some true) := by
  cases hG : isG n rows with
  | true =>
    obtain ⟨m, R, rfl, rfl, g⟩ := isG_elim hG
    obtain ⟨P, h1, h2⟩ := k_IsTwoEdges F hF (m : Int) hn _ g.row64
    have hs := s_FourTwoEdges F hF g P (fun l hl => (h1 l hl).1)
    have hi := i_FourTwoEdges F hF g P (fun l hl => (h1 l hl).2)
    have hf := four_srch m P h2 (F - 5)
    rw [show F - 5 + 5 = F by omega] at hf
    rw [hf] at hs
    refine ⟨_, ?_, ?_, hi, ?_⟩
    · cases he : srch m 4 (okI fun _ => true) P F [] with
      | none => simp
      | some y =>
        have := (srch_len F _ _ he).1
        simp; omega
    · unfold S_spec_FindTwoEdges
      rw [hs, obind]
    · cases he : srch m 4 (okI fun _ => true) P F [] with
      | none => simp
      | some y =>
        intro _
        have h4 := (srch_len F _ _ he).1
        dsimp only
        rw [(h1 y (by omega)).2, srch_fin F _ _ he]
  | false =>
    refine ⟨([], false), by simp, ?_, ?_, by simp⟩
    · unfold S_spec_FindTwoEdges S_spec_l4Four
      obtain ⟨F, rfl⟩ : ∃ G, F = G + 1 := ⟨F - 1, by omega⟩
      have e : S_spec_l4Four_l2 (F + 1) n rows 0 0 = some (.inr (.inl ())) := by
        unfold S_spec_l4Four_l2
        rw [sIsGraph (F + 1) (by omega) n rows hr, obind, hG]
        rfl
      simp only [loopN]
      rw [e]
      rfl
    · unfold S_impl_FindTwoEdges S_impl_firstList__always__FindTwoEdgesc1
      rw [iIsGraph F (by omega) n rows hr, obind, hG]
      rfl

theorem pathMono (F : Nat) (hF : 2097152 ≤ F) (n : Int) (hn : I64 n) (rows : List Int) (hr : Row64 rows) (k : Nat) (hk : 1 ≤ k) (hk2 : k ≤ 100) (r q : List Int × Bool) (h1 : S_spec_FindInducedPath F n rows ((k + 1 : Nat) : Int) = some r) (h2 : S_spec_FindInducedPath F n rows (k : Int) = some q) (hr2 : r.2 = true) : q.2 = true := by
  unfold S_spec_FindInducedPath S_spec_FindInducedPath_j1 at h1 h2
  rw [sIsGraph F (by omega) n rows hr, obind] at h1 h2
  cases hG : isG n rows with
  | false =>
    rw [hG, if_pos (by simp), if_pos rfl] at h1
    cases h1; cases hr2
  | true =>
    obtain ⟨m, R, rfl, rfl, g⟩ := isG_elim hG
    have h7 := g.n7
    rw [hG, if_neg (by simp), sIn, obind] at h1 h2
    cases hI : inB ((k + 1 : Nat) : Int) 1 (m : Int) with
    | false =>
      rw [hI, if_pos (by simp)] at h1
      cases h1; cases hr2
    | true =>
      obtain ⟨i1, i2⟩ := inB_iff.1 hI
      have hI2 : inB (k : Int) 1 (m : Int) = true := by rw [inB_iff]; omega
      obtain ⟨pathB, p1, p2⟩ := k_IsInducedPath F hF (m : Int) hn _ g.row64
      obtain ⟨holeB, q1, q2⟩ := k_IsHole F hF (m : Int) hn _ g.row64
      have s1 := s_srch F hF m (k + 1) h7 (by omega) (by omega) (rowsOf m R) pathB holeB (fun l hl => (p1 l hl).1) (fun l hl => (q1 l hl).1) false F [] (by simp) (by simp; omega)
      have s2 := s_srch F hF m k h7 (by omega) (by omega) (rowsOf m R) pathB holeB (fun l hl => (p1 l hl).1) (fun l hl => (q1 l hl).1) false F [] (by simp) (by simp; omega)
      rw [if_neg (show ¬ ([] : List Int).length = k + 1 by simp)] at s1
      rw [if_neg (show ¬ ([] : List Int).length = k by simp; omega)] at s2
      unfold S_spec_l4Search at h1 h2
      rw [hI, if_neg (by simp), s1, obind] at h1
      rw [hI2, if_neg (by simp), s2, obind] at h2
      cases he : srch m (k + 1) (okS false (k + 1) pathB holeB) (finS false holeB) F [] with
      | none => rw [he] at h1; cases h1; cases hr2
      | some y =>
        have e0 : okS false (k + 1) pathB holeB = okS false k pathB holeB := by funext x; simp [okS]
        rw [e0] at he
        have hne := srch_mono (fin2 := finS false holeB) (fun l => by simp [finS]) F [] y (by simp) he
        cases h3 : srch m k (okS false k pathB holeB) (finS false holeB) F [] with
        | none => exact absurd h3 hne
        | some z => rw [h3] at h2; cases h2; rfl

/-! ### turned holes -/

theorem nodupB_iff {l : List Int} : nodupB l = true ↔ ∀ i j, i < j → j < l.length → l.getD i 0 ≠ l.getD j 0 := by
  unfold nodupB
  rw [allB_iff]
  constructor
  · intro h i j hij hj e
    have := h j hj
    rw [Bool.not_eq_true'] at this
    have hc : (l.take j).contains (l.getD j 0) = true := by
      rw [List.contains_iff_mem, ← e]
      have h2 : i < (l.take j).length := by simp; omega
      have h3 : (l.take j)[i] = l.getD i 0 := by
        rw [List.getElem_take]
        have : i < l.length := by omega
        simp [this]
      rw [← h3]
      exact List.getElem_mem h2
    rw [hc] at this; cases this
  · intro h k hk
    rw [Bool.not_eq_true', ← Bool.not_eq_true, List.contains_iff_mem]
    intro hm
    obtain ⟨i, hi, he⟩ := List.mem_iff_getElem.1 hm
    rw [List.getElem_take] at he
    have hi2 : i < k := by simp at hi; omega
    have : i < l.length := by omega
    exact h i k hi2 hk (by rw [← he]; simp [this])
theorem joinedB_iff {R : Nat → Nat} {l : List Int} {J : Nat → Nat → Bool} : joinedB R l J = true ↔ ∀ k, k < l.length → ∀ i, i < k → edgeAt R l i k = J i k := by
  unfold joinedB
  rw [allB_iff]
  constructor
  · intro h k hk i hi
    have := allB_iff.1 (h k hk) i hi
    simpa using this
  · intro h k hk
    rw [allB_iff]
    intro i hi
    rw [h k hk i hi]
    simp
def JH (n i k : Nat) : Bool := k == i + 1 || i == 0 && k == n - 1
def nxtC (n s : Nat) (c : Bool) (k i : Nat) : Bool := decide (nxt n s c i < n) && (decide (nxt n s c k < n) && (!(nxt n s c i == nxt n s c k) && ((!(decide (nxt n s c i < nxt n s c k)) || (JH n (nxt n s c i) (nxt n s c k) == JH n i k)) && (!(decide (nxt n s c k < nxt n s c i)) || (JH n (nxt n s c k) (nxt n s c i) == JH n i k)))))
theorem nxt_chk : allB 8 (fun n => decide (n < 4) || allB n (fun s => allB n fun k => allB k fun i => nxtC n s true k i && nxtC n s false k i)) = true := by decide +kernel
theorem nxt_all (n : Nat) (h7 : n ≤ 7) (h4 : 4 ≤ n) (s : Nat) (hs : s < n) (c : Bool) (k : Nat) (hk : k < n) (i : Nat) (hi : i < k) : nxt n s c i < n ∧ nxt n s c k < n ∧ nxt n s c i ≠ nxt n s c k ∧ (nxt n s c i < nxt n s c k → JH n (nxt n s c i) (nxt n s c k) = JH n i k) ∧ (nxt n s c k < nxt n s c i → JH n (nxt n s c k) (nxt n s c i) = JH n i k) := by
  have h := allB_iff.1 nxt_chk n (by omega)
  rw [show decide (n < 4) = false by simp; omega, Bool.false_or] at h
  have h := allB_iff.1 (allB_iff.1 (allB_iff.1 h s hs) k hk) i hi
  rw [Bool.and_eq_true] at h
  have h : nxtC n s c k i = true := by
    cases c
    · exact h.2
    · exact h.1
  unfold nxtC at h
  simp only [Bool.and_eq_true, Bool.or_eq_true, Bool.not_eq_true', decide_eq_true_eq, decide_eq_false_iff_not, beq_iff_eq, beq_eq_false_iff_ne] at h
  obtain ⟨h1, h2, h3, h4, h5⟩ := h
  exact ⟨h1, h2, h3, fun q => h4.resolve_left (fun e => e q), fun q => h5.resolve_left (fun e => e q)⟩
theorem cyc_get {l : List Int} {s : Nat} {c : Bool} {n i : Nat} (hi : i < n) : (cyc l s c n).getD i 0 = l.getD (nxt l.length s c i) 0 := by
  unfold cyc
  simp [hi]
theorem rowsOf_inj {m : Nat} {R S : Nat → Nat} (h : rowsOf m R = rowsOf m S) {v : Nat} (hv : v < m) : R v = S v := by
  have h1 := rowsOf_getD (R := R) hv
  have h2 := rowsOf_getD (R := S) hv
  rw [h] at h1
  rw [h1] at h2
  omega
theorem joinedB_congr {m : Nat} {R S : Nat → Nat} (h : rowsOf m R = rowsOf m S) {l : List Int} (hl : ∀ x, x ∈ l → 0 ≤ x ∧ x < (m : Int)) (J : Nat → Nat → Bool) : joinedB R l J = joinedB S l J := by
  have he : ∀ i k, i < l.length → edgeAt R l i k = edgeAt S l i k := by
    intro i k hi
    unfold edgeAt
    have := hl _ (getD_mem hi)
    rw [rowsOf_inj h (v := (l.getD i 0).toNat) (by omega)]
  unfold joinedB
  apply allB_congr
  intro k hk
  apply allB_congr
  intro i hi
  rw [he i k (by omega)]

theorem iHole_iff (F : Nat) (hF : 2097152 ≤ F) {m : Nat} {R : Nat → Nat} (g : VG m R) (l : List Int) (hl : l.length ≤ 1048576) : S_impl_IsHole F (m : Int) (rowsOf m R) l = some true ↔ (4 ≤ l.length ∧ l.length ≤ 7 ∧ isV (m : Int) (rowsOf m R) l = true ∧ joinedB R l (JH l.length) = true) := by
  have hn : I64 (m : Int) := by have := g.n7; unfold I64; omega
  unfold S_impl_IsHole S_impl_IsHole_j1
  by_cases h4 : 4 ≤ l.length
  · rw [if_pos (by simp; omega)]
    rcases j_IsHole F hF (m : Int) hn (rowsOf m R) g.row64 l hl with ⟨hv, e⟩ | ⟨m2, S, hm, hS, g2, hmem, hv, h7, e⟩
    · rw [e, obind, hv]
      simp
    · have : m2 = m := by omega
      subst this
      rw [e, obind, hv]
      have hj : joinedB S l (fun i k => k == i + 1 || i == 0 && k == l.length - 1) = joinedB R l (JH l.length) := joinedB_congr hS.symm hmem _
      rw [hj]
      constructor
      · intro h
        have h := Option.some.inj h
        exact ⟨h4, h7, rfl, h⟩
      · rintro ⟨_, _, _, h⟩
        rw [h]
  · rw [if_neg (by simp; omega)]
    constructor
    · intro h; cases h
    · rintro ⟨h, _⟩; omega

theorem canHole (F : Nat) (hF : 2097152 ≤ F) {m : Nat} {R : Nat → Nat} (g : VG m R) (l : List Int) (hl : l.length ≤ 1048576) (h : S_impl_IsHole F (m : Int) (rowsOf m R) l = some true) : ∃ r, S_impl_CanonicalCycle F l = some r ∧ r.length ≤ 7 ∧ S_impl_IsHole F (m : Int) (rowsOf m R) r = some true := by
  obtain ⟨h4, h7, hv, hj⟩ := (iHole_iff F hF g l hl).1 h
  obtain ⟨r0, hr0, e1, e2⟩ := kCanonicalCycle F hF l hl
  have hn : 0 < l.length := by omega
  have hs : ∃ (k : Nat) (c : Bool), k < l.length ∧ S_spec_CanonicalCycle F l = some (cyc l k c l.length) := by
    unfold S_spec_CanonicalCycle S_spec_CanonicalCycle_j1
    rw [if_neg (by simp; omega), if_neg (by simp; omega)]
    obtain ⟨k, hk, e⟩ := sMin F l (by omega) (by omega) (by omega)
    have hkl := hk.2.2.1
    rw [e, obind, sCyc F l k hkl (by omega) (by omega)]
    exact ⟨k, _, hkl, rfl⟩
  obtain ⟨k, c, hk, e3⟩ := hs
  rw [e3] at e1
  have e1 := Option.some.inj e1
  subst e1
  refine ⟨_, e2, by omega, ?_⟩
  rw [iHole_iff F hF g _ (by rw [cyc_len]; omega), cyc_len]
  obtain ⟨m2, S, hm, hS, g2, hmem, hnd, _, _⟩ := isV_elim hv
  have : m2 = m := by omega
  subst this
  have hin : ∀ i, nxt l.length k c i < l.length := fun i => by unfold nxt; split <;> exact Nat.mod_lt _ hn
  refine ⟨h4, h7, ?_, ?_⟩
  · unfold isV
    rw [isG_intro g, Bool.true_and, Bool.and_eq_true]
    constructor
    · rw [List.all_eq_true]
      intro x hx
      unfold cyc at hx
      rw [List.mem_map] at hx
      obtain ⟨i, _, rfl⟩ := hx
      have := hmem _ (getD_mem (hin i))
      rw [inB_iff]; omega
    · rw [nodupB_iff, cyc_len]
      intro i j hij hjl
      rw [cyc_get (by omega), cyc_get hjl]
      obtain ⟨a1, a2, a3, _, _⟩ := nxt_all l.length h7 h4 k hk c j hjl i hij
      rw [nodupB_iff] at hnd
      rcases Nat.lt_or_gt_of_ne a3 with h | h
      · exact hnd _ _ h a2
      · exact Ne.symm (hnd _ _ h a1)
  · rw [joinedB_iff] at hj ⊢
    rw [cyc_len]
    intro j hjl i hij
    obtain ⟨a1, a2, a3, a4, a5⟩ := nxt_all l.length h7 h4 k hk c j hjl i hij
    have ee : edgeAt R (cyc l k c l.length) i j = edgeAt R l (nxt l.length k c i) (nxt l.length k c j) := by
      unfold edgeAt
      rw [cyc_get (by omega), cyc_get hjl]
    rw [ee]
    rcases Nat.lt_or_gt_of_ne a3 with h | h
    · rw [hj _ a2 _ h, a4 h]
    · rw [edgeAt_sym g hmem a1 a2, hj _ a1 _ h, a5 h]

theorem twoHole (F : Nat) (hF : 2097152 ≤ F) {m : Nat} {R : Nat → Nat} (g : VG m R) (l : List Int) (hl : l.length ≤ 1048576) (h : S_impl_IsTwoEdges F (m : Int) (rowsOf m R) l = some true) : ∃ a b c d, l = [a, b, c, d] ∧ S_impl_IsHole F (m : Int) (rowsOf m (compR m R)) [a, c, b, d] = some true := by
  have hn : I64 (m : Int) := by have := g.n7; unfold I64; omega
  unfold S_impl_IsTwoEdges S_impl_IsTwoEdges_j1 at h
  by_cases h4 : l.length = 4
  · rw [if_pos (by simp [h4])] at h
    rcases j_IsTwoEdges F hF (m : Int) hn (rowsOf m R) g.row64 l hl with ⟨hv, e⟩ | ⟨m2, S, hm, hS, g2, hmem, hv, h7, e⟩
    · rw [e, obind] at h; cases h
    · have : m2 = m := by omega
      subst this
      rw [e, obind] at h
      have hj := Option.some.inj h
      rw [joinedB_congr hS.symm hmem, joinedB_iff, h4] at hj
      obtain ⟨_, _, _, _, _, _, hnd, _, _⟩ := isV_elim hv
      match l, h4 with
      | [a, b, c, d], _ =>
        have ma := hmem a (by simp)
        have mb := hmem b (by simp)
        have mc := hmem c (by simp)
        have md := hmem d (by simp)
        rw [nodupB_iff] at hnd
        have nab := hnd 0 1 (by decide) (by simp)
        have nac := hnd 0 2 (by decide) (by simp)
        have nad := hnd 0 3 (by decide) (by simp)
        have nbc := hnd 1 2 (by decide) (by simp)
        have nbd := hnd 1 3 (by decide) (by simp)
        have ncd := hnd 2 3 (by decide) (by simp)
        have j01 := hj 1 (by decide) 0 (by decide)
        have j02 := hj 2 (by decide) 0 (by decide)
        have j12 := hj 2 (by decide) 1 (by decide)
        have j03 := hj 3 (by decide) 0 (by decide)
        have j13 := hj 3 (by decide) 1 (by decide)
        have j23 := hj 3 (by decide) 2 (by decide)
        simp [edgeAt] at nab nac nad nbc nbd ncd j01 j02 j12 j03 j13 j23
        refine ⟨a, b, c, d, rfl, ?_⟩
        have gc := compV g
        rw [iHole_iff F hF gc _ (by simp)]
        have cb : ∀ x y : Int, 0 ≤ x ∧ x < (m2 : Int) → 0 ≤ y ∧ y < (m2 : Int) → x ≠ y → (compR m2 R x.toNat).testBit y.toNat = !((R x.toNat).testBit y.toNat) := by
          intro x y hx hy hxy
          rw [compB g (by omega) (by omega)]
          have : (y.toNat != x.toNat) = true := by simp only [bne_iff_ne]; omega
          rw [this, Bool.and_true]
        have sy : ∀ x y : Int, 0 ≤ x ∧ x < (m2 : Int) → 0 ≤ y ∧ y < (m2 : Int) → (R x.toNat).testBit y.toNat = (R y.toNat).testBit x.toNat := fun x y hx hy => g.sym _ _ (by omega) (by omega)
        refine ⟨by simp, by simp, ?_, ?_⟩
        · unfold isV
          rw [isG_intro gc, Bool.true_and, Bool.and_eq_true]
          constructor
          · rw [List.all_eq_true]
            intro x hx
            have : x ∈ [a, b, c, d] := by
              simp only [List.mem_cons, List.not_mem_nil, or_false] at hx ⊢
              omega
            have := hmem x this
            rw [inB_iff]; omega
          · simp [nodupB, allB, List.range_succ]
            omega
        · rw [joinedB_iff]
          intro k hk i hi
          have hk4 : k < 4 := by simpa using hk
          have hcases : (k = 1 ∧ i = 0) ∨ (k = 2 ∧ i = 0) ∨ (k = 2 ∧ i = 1) ∨ (k = 3 ∧ i = 0) ∨ (k = 3 ∧ i = 1) ∨ (k = 3 ∧ i = 2) := by omega
          have s1 := sy c b mc mb
          rcases hcases with ⟨rfl, rfl⟩ | ⟨rfl, rfl⟩ | ⟨rfl, rfl⟩ | ⟨rfl, rfl⟩ | ⟨rfl, rfl⟩ | ⟨rfl, rfl⟩
          · simp [edgeAt, JH, cb a c ma mc nac, j02]
          · simp [edgeAt, JH, cb a b ma mb nab, j01]
          · simp [edgeAt, JH, cb c b mc mb (Ne.symm nbc), s1, j12]
          · simp [edgeAt, JH, cb a d ma md nad, j03]
          · simp [edgeAt, JH, cb c d mc md ncd, j23]
          · simp [edgeAt, JH, cb b d mb md nbd, j13]
  · rw [if_neg (by simp; omega)] at h
    cases h

end Go.Proofs.Ytilfniehellmmaa
