/- Proved here: FindInducedPath and FindHole: both programs find the same. -/
import Derived.Test.YtilfniehellmmaaPfour
namespace Go.Proofs.Ytilfniehellmmaa
open Go Go.RowKit
set_option linter.unusedVariables false
set_option linter.unusedSimpArgs false

def okS (cl : Bool) (n : Nat) (pathB holeB : List Int → Bool) (x : List Int) : Bool := pathB x || (cl && ((x.length == n) && holeB x))
def finS (cl : Bool) (holeB : List Int → Bool) (x : List Int) : Bool := !cl || holeB x

theorem okI_nodup (may : List Int → Bool) (x : List Int) (h : nodupB x = true) : okI may x = may x := by
  rcases List.eq_nil_or_concat x with rfl | ⟨l', y, rfl⟩
  · simp [okI]
  · rw [List.concat_eq_append] at h ⊢
    rw [nodup_snoc] at h
    rw [okI_snoc]
    simp at h
    simp [h]

theorem v_IsInducedPath (F : Nat) (hF : 2097152 ≤ F) (n : Int) (rows : List Int) (hr : Row64 rows) (l : List Int) (hl : l.length ≤ 1048576) (h : S_spec_IsInducedPath F n rows l = some true) : isV n rows l = true := by
  unfold S_spec_IsInducedPath at h
  rw [sDistinct F (by omega) n rows hr l (by omega) hl, obind] at h
  cases hv : isV n rows l with
  | true => rfl
  | false =>
    rw [hv, if_pos (by simp)] at h
    unfold S_spec_IsInducedPath_j1 at h
    simp at h

theorem k_IsInducedPath (F : Nat) (hF : 2097152 ≤ F) (n : Int) (hn : I64 n) (rows : List Int) (hr : Row64 rows) : ∃ P : List Int → Bool, (∀ l, l.length ≤ 1048576 → S_spec_IsInducedPath F n rows l = some (P l) ∧ S_impl_IsInducedPath F n rows l = some (P l)) ∧ ∀ l, nodupB l = false → P l = false := by
  obtain ⟨P, h1, h2⟩ := getP (S_spec_IsInducedPath F n rows) (S_impl_IsInducedPath F n rows) 1048576 (fun l hl => kIsInducedPath F hF n hn rows hr l hl)
  refine ⟨P, h1, fun l hd => ?_⟩
  by_cases hl : l.length ≤ 1048576
  · cases hp : P l with
    | false => rfl
    | true =>
      have hv := v_IsInducedPath F hF n rows hr l hl (by rw [(h1 l hl).1, hp])
      obtain ⟨_, _, _, _, _, _, h, _⟩ := isV_elim hv
      rw [h] at hd; cases hd
  · exact h2 l hl

theorem v_IsHole (F : Nat) (hF : 2097152 ≤ F) (n : Int) (rows : List Int) (hr : Row64 rows) (l : List Int) (hl : l.length ≤ 1048576) (h : S_spec_IsHole F n rows l = some true) : isV n rows l = true := by
  unfold S_spec_IsHole at h
  rw [sDistinct F (by omega) n rows hr l (by omega) hl, obind] at h
  cases hv : isV n rows l with
  | true => rfl
  | false =>
    rw [hv, if_pos (by simp)] at h
    unfold S_spec_IsHole_j1 at h
    simp at h

theorem k_IsHole (F : Nat) (hF : 2097152 ≤ F) (n : Int) (hn : I64 n) (rows : List Int) (hr : Row64 rows) : ∃ P : List Int → Bool, (∀ l, l.length ≤ 1048576 → S_spec_IsHole F n rows l = some (P l) ∧ S_impl_IsHole F n rows l = some (P l)) ∧ ∀ l, nodupB l = false → P l = false := by
  obtain ⟨P, h1, h2⟩ := getP (S_spec_IsHole F n rows) (S_impl_IsHole F n rows) 1048576 (fun l hl => kIsHole F hF n hn rows hr l hl)
  refine ⟨P, h1, fun l hd => ?_⟩
  by_cases hl : l.length ≤ 1048576
  · cases hp : P l with
    | false => rfl
    | true =>
      have hv := v_IsHole F hF n rows hr l hl (by rw [(h1 l hl).1, hp])
      obtain ⟨_, _, _, _, _, _, h, _⟩ := isV_elim hv
      rw [h] at hd; cases hd
  · exact h2 l hl

theorem eqv_path (m n : Nat) (pathB holeB : List Int → Bool) (hd : ∀ l, nodupB l = false → pathB l = false) (D : Nat) : srch m n (okI pathB) (fun _ => true) D [] = srch m n (okS false n pathB holeB) (finS false holeB) D [] := by
  refine srch_congr ?_ (fun l => by simp [finS]) D [] (by simp)
  intro d l _
  have e : okS false n pathB holeB l = pathB l := by simp [okS]
  rw [e]
  cases hp : pathB l with
  | false => simp [okI, hp]
  | true =>
    have hn : nodupB l = true := by
      cases h : nodupB l with
      | true => rfl
      | false => rw [hd l h] at hp; cases hp
    rw [okI_nodup pathB l hn, hp]

theorem eqv_hole (m n : Nat) (pathB holeB : List Int → Bool) (hd : ∀ l, nodupB l = false → pathB l = false) (hd2 : ∀ l, nodupB l = false → holeB l = false) (D : Nat) : srch m n (okI (fun x => (x.length == n) || pathB x)) holeB D [] = srch m n (okS true n pathB holeB) (finS true holeB) D [] := by
  refine srch_congr ?_ (fun l => by simp [finS]) D [] (by simp)
  intro d l hle
  by_cases hl : l.length = n
  · cases d with
    | zero => simp [srch]
    | succ d =>
      simp only [srch]
      rw [if_pos hl]
      cases hb : holeB l with
      | false => simp
      | true =>
        have hn : nodupB l = true := by
          cases h : nodupB l with
          | true => rfl
          | false => rw [hd2 l h] at hb; cases hb
        rw [okI_nodup _ l hn]
        simp [okS, hl, hb]
  · have e : okS true n pathB holeB l = pathB l := by simp [okS, hl]
    rw [e]
    cases hp : pathB l with
    | false => simp [okI, hp, hl]
    | true =>
      have hn : nodupB l = true := by
        cases h : nodupB l with
        | true => rfl
        | false => rw [hd l h] at hp; cases hp
      rw [okI_nodup _ l hn]
      simp [hp]

theorem s_srch (F : Nat) (hF : 2097152 ≤ F) (m n : Nat) (hm : m ≤ 7) (hn1 : 1 ≤ n) (hn7 : n ≤ 7) (rows : List Int) (pathB holeB : List Int → Bool) (hp : ∀ l, l.length ≤ 1048576 → S_spec_IsInducedPath F (m : Int) rows l = some (pathB l)) (hh : ∀ l, l.length ≤ 1048576 → S_spec_IsHole F (m : Int) rows l = some (holeB l)) (cl : Bool) :
    ∀ D l, l.length ≤ n → n < D + l.length → S_spec_l4Search_d F D (m : Int) rows l (n : Int) cl = some (if l.length = n then (l, finS cl holeB l) else match srch m n (okS cl n pathB holeB) (finS cl holeB) D l with
      | some y => (y, true)
      | none => ([], false))
  | 0, l, h1, h2 => by omega
  | D + 1, l, h1, h2 => by
    rw [S_spec_l4Search_d]
    unfold S_spec_l4Search_b
    by_cases hl : l.length = n
    · rw [if_pos (show ((l.length : Int) == (n : Int)) = true by simp [hl]), if_pos hl]
      cases cl with
      | true =>
        rw [if_pos rfl, hh l (by omega), obind]
        simp [finS]
      | false =>
        rw [if_neg (by simp)]
        simp [finS]
    · rw [if_neg (show ¬ ((l.length : Int) == (n : Int)) = true by simp; omega), if_neg hl]
      simp only [srch]
      rw [if_neg hl]
      rw [show (0 : Int) = ((0 : Nat) : Int) from rfl, loop_fsm (fun v => if okS cl n pathB holeB (l ++ [(v : Int)]) = true then srch m n (okS cl n pathB holeB) (finS cl holeB) D (l ++ [(v : Int)]) else none) (fun y => .inr (y, true)) (.inl ()) m 0 ?_ ?_ (by omega), obind]
      · generalize fsm (fun v => if okS cl n pathB holeB (l ++ [(v : Int)]) = true then srch m n (okS cl n pathB holeB) (finS cl holeB) D (l ++ [(v : Int)]) else none) m 0 = z
        cases z <;> rfl
      · intro i _ hi
        have hlen : (l ++ [(i : Int)]).length ≤ n := by simp; omega
        have hc : S_spec_l4Search_l2 F (m : Int) rows l (n : Int) cl (S_spec_l4Search_d F D) (i : Int) = S_spec_l4Search_j4 F (m : Int) rows l (n : Int) cl (S_spec_l4Search_d F D) (i : Int) (okS cl n pathB holeB (l ++ [(i : Int)])) := by
          unfold S_spec_l4Search_l2
          rw [if_pos (show decide ((i : Int) < (m : Int)) = true by simp; omega), catO_ok (by simp; omega), obind, catO_ok (by simp; omega), obind, List.nil_append, hp _ (by omega), obind]
          unfold okS
          cases hpx : pathB (l ++ [(i : Int)]) with
          | true => rw [if_pos rfl, Bool.true_or]
          | false =>
            rw [if_neg (by simp), Bool.false_or]
            cases cl with
            | false => rw [if_neg (by simp), Bool.false_and]
            | true =>
              rw [if_pos rfl, Bool.true_and]
              by_cases hx : (l ++ [(i : Int)]).length = n
              · rw [if_pos (show (((l ++ [(i : Int)]).length : Int) == (n : Int)) = true by rw [hx]; simp), hh _ (by omega), obind, beq_iff_eq.2 hx, Bool.true_and]
              · rw [if_neg (show ¬ (((l ++ [(i : Int)]).length : Int) == (n : Int)) = true by simp only [beq_iff_eq]; omega), beq_eq_false_iff_ne.2 hx, Bool.false_and]
        rw [hc]
        unfold S_spec_l4Search_j4 S_spec_l4Search_j3
        cases hok : okS cl n pathB holeB (l ++ [(i : Int)]) with
        | false =>
          rw [if_neg (by simp), if_neg (by simp), w64 (by omega) (by omega)]
          simp
        | true =>
          rw [if_pos rfl, if_pos rfl, List.nil_append, s_srch F hF m n hm hn1 hn7 rows pathB holeB hp hh cl D (l ++ [(i : Int)]) hlen (by simp; omega), obind]
          by_cases hx : (l ++ [(i : Int)]).length = n
          · obtain ⟨E, rfl⟩ : ∃ E, D = E + 1 := ⟨D - 1, by omega⟩
            simp only [srch, if_pos hx]
            cases hf : finS cl holeB (l ++ [(i : Int)]) with
            | true => simp
            | false =>
              rw [if_neg (by simp), w64 (by omega) (by omega)]
              simp
          · simp only [if_neg hx]
            cases srch m n (okS cl n pathB holeB) (finS cl holeB) D (l ++ [(i : Int)]) with
            | some y => simp
            | none =>
              rw [if_neg (by simp), w64 (by omega) (by omega)]
              simp
      · unfold S_spec_l4Search_l2
        rw [if_neg (by simp)]

theorem kFindInducedPath (F : Nat) (hF : 2097152 ≤ F) (n : Int) (hn : I64 n) (rows : List Int) (hr : Row64 rows) (k : Int) : ∃ r : List Int × Bool, r.1.length ≤ 7 ∧ S_spec_FindInducedPath F n rows k = some r ∧ S_impl_FindInducedPath F n rows k = some r := by
  unfold S_spec_FindInducedPath S_impl_FindInducedPath S_impl_firstList__FindInducedPathc1__always
  rw [sIsGraph F (by omega) n rows hr, obind, iIn, obind, iIsGraph F (by omega) n rows hr, obind]
  cases hG : isG n rows with
  | false =>
    refine ⟨([], false), by simp, ?_, ?_⟩
    · rw [if_pos (by simp)]
      unfold S_spec_FindInducedPath_j1
      rfl
    · cases inB k 1 n <;> rfl
  | true =>
    obtain ⟨m, R, rfl, rfl, g⟩ := isG_elim hG
    have h7 := g.n7
    rw [if_neg (by simp), sIn, obind]
    unfold S_spec_FindInducedPath_j1
    cases hk : inB k 1 (m : Int) with
    | false => exact ⟨([], false), by simp, by simp, by simp⟩
    | true =>
      obtain ⟨hk1, hk2⟩ := inB_iff.1 hk
      obtain ⟨n, rfl⟩ : ∃ n : Nat, k = (n : Int) := ⟨k.toNat, by omega⟩
      obtain ⟨pathB, p1, p2⟩ := k_IsInducedPath F hF (m : Int) hn _ g.row64
      obtain ⟨holeB, q1, q2⟩ := k_IsHole F hF (m : Int) hn _ g.row64
      have hs := s_srch F hF m n h7 (by omega) (by omega) (rowsOf m R) pathB holeB (fun l hl => (p1 l hl).1) (fun l hl => (q1 l hl).1) false F [] (by simp) (by simp; omega)
      have hi := g_srch F hF m n h7 (by omega) (by omega) (fun x => S_impl_FindInducedPath_c1 F x (m : Int) (rowsOf m R)) (fun x => S_impl_always F x) pathB (fun _ => true) (fun x hx => by
        unfold S_impl_FindInducedPath_c1
        rw [(p1 x (by omega)).2, obind]) (fun _ _ => rfl) (fun D l => S_impl_firstList_c1__always__FindInducedPathc1__firstListc1_d F D l (n : Int) (m : Int) (rowsOf m R) (m : Int) (rowsOf m R)) (fun D l => rfl) F [] (by simp) (by simp; omega)
      rw [eqv_path m n pathB holeB p2 F] at hi
      rw [if_neg (show ¬ ([] : List Int).length = n by simp; omega)] at hs
      unfold S_spec_l4Search S_impl_firstList_c1__always__FindInducedPathc1__firstListc1
      rw [hs, hi]
      cases he : srch m n (okS false n pathB holeB) (finS false holeB) F [] with
      | none => exact ⟨([], false), by simp, by simp, by simp⟩
      | some y =>
        have := (srch_len F _ _ he).1
        refine ⟨(y, true), by dsimp only; omega, by simp, ?_⟩
        have hne := neO_ok (show y.length ≠ 0 by omega)
        simp [hne]

theorem holeStep (F : Nat) (hF : 2097152 ≤ F) {m : Nat} {R : Nat → Nat} (g : VG m R) (hn : I64 (m : Int)) (pathB holeB : List Int → Bool)
    (p1 : ∀ l : List Int, l.length ≤ 1048576 → S_spec_IsInducedPath F (m : Int) (rowsOf m R) l = some (pathB l) ∧ S_impl_IsInducedPath F (m : Int) (rowsOf m R) l = some (pathB l)) (p2 : ∀ l, nodupB l = false → pathB l = false)
    (q1 : ∀ l : List Int, l.length ≤ 1048576 → S_spec_IsHole F (m : Int) (rowsOf m R) l = some (holeB l) ∧ S_impl_IsHole F (m : Int) (rowsOf m R) l = some (holeB l)) (q2 : ∀ l, nodupB l = false → holeB l = false) (k : Nat) (hk : 4 ≤ k) (hkm : k ≤ m) :
    S_spec_l4Search F (m : Int) (rowsOf m R) [] (k : Int) true = some (match srch m k (okS true k pathB holeB) (finS true holeB) F [] with
      | some y => (y, true)
      | none => ([], false)) ∧ S_impl_firstList__FindHolec1__FindHolec2 F (m : Int) (rowsOf m R) (k : Int) (k : Int) (m : Int) (rowsOf m R) = some (match srch m k (okS true k pathB holeB) (finS true holeB) F [] with
      | some y => (y, true)
      | none => ([], false)) := by
  have h7 := g.n7
  have hs := s_srch F hF m k h7 (by omega) (by omega) (rowsOf m R) pathB holeB (fun l hl => (p1 l hl).1) (fun l hl => (q1 l hl).1) true F [] (by simp) (by simp; omega)
  rw [if_neg (show ¬ ([] : List Int).length = k by simp; omega)] at hs
  refine ⟨hs, ?_⟩
  have hi := g_srch F hF m k h7 (by omega) (by omega) (fun x => S_impl_FindHole_c1 F x (k : Int) (m : Int) (rowsOf m R)) (fun x => S_impl_FindHole_c2 F x (m : Int) (rowsOf m R)) (fun x => (x.length == k) || pathB x) holeB (fun x hx => by
    unfold S_impl_FindHole_c1 S_impl_FindHole_c1_j1
    by_cases hl : x.length = k
    · rw [if_pos (by simp [hl])]
      simp [hl]
    · rw [if_neg (by simp; omega), (p1 x (by omega)).2, obind]
      simp [hl]) (fun x hx => by
    unfold S_impl_FindHole_c2
    rw [(q1 x (by omega)).2, obind]) (fun D l => S_impl_firstList_c1__FindHolec2__FindHolec1__firstListc1_d F D l (k : Int) (m : Int) (rowsOf m R) (m : Int) (rowsOf m R) (k : Int)) (fun D l => rfl) F [] (by simp) (by simp; omega)
  rw [eqv_hole m k pathB holeB p2 q2 F] at hi
  unfold S_impl_firstList__FindHolec1__FindHolec2 S_impl_firstList_c1__FindHolec2__FindHolec1__firstListc1
  rw [iIsGraph F (by omega) _ _ g.row64, obind, isG_intro g, if_neg (by simp), hi, obind]
  cases he : srch m k (okS true k pathB holeB) (finS true holeB) F [] with
  | none => rfl
  | some y =>
    have := (srch_len F _ _ he).1
    dsimp only
    rw [neO_ok (by omega), obind]

theorem kFindHole (F : Nat) (hF : 2097152 ≤ F) (n : Int) (hn : I64 n) (rows : List Int) (hr : Row64 rows) : ∃ r : List Int × Bool, r.1.length ≤ 7 ∧ S_spec_FindHole F n rows = some r ∧ S_impl_FindHole F n rows = some r := by
  unfold S_spec_FindHole S_impl_FindHole
  cases hG : isG n rows with
  | false =>
    refine ⟨([], false), by simp, ?_, ?_⟩
    · obtain ⟨F, rfl⟩ : ∃ G, F = G + 1 := ⟨F - 1, by omega⟩
      have e : S_spec_FindHole_l2 (F + 1) n rows 4 = some (.inr (.inl ())) := by
        unfold S_spec_FindHole_l2 S_spec_FindHole_j3
        by_cases h : (4 : Int) ≤ n
        · rw [if_pos (by simpa using h), sIsGraph (F + 1) (by omega) n rows hr, obind, hG]
          rfl
        · rw [if_neg (by simpa using h)]
          rfl
      simp only [loopN]
      rw [e]
      rfl
    · have hM : ∃ c : Nat, c ≤ 4 ∧ (∀ i : Nat, 4 ≤ i → i < 4 + c → (i : Int) ≤ (if 7 < n then 7 else n)) ∧ ¬ (((4 + c : Nat) : Int) ≤ (if 7 < n then 7 else n)) := by
        by_cases h : 7 < n
        · rw [if_pos h]
          exact ⟨4, by omega, fun i _ hi => by omega, by omega⟩
        · rw [if_neg h]
          exact ⟨(n - 3).toNat, by omega, fun i _ hi => by omega, by omega⟩
      obtain ⟨c, hc, h1, h2⟩ := hM
      have hl := loop_fsm (α := Unit) (β := Unit ⊕ (List Int × Bool)) (body := fun s => S_impl_FindHole_l2 F n rows s) (fun _ => none) (fun _ => .inl ()) (.inl ()) c 4 (fun i h4 hi => by
        unfold S_impl_FindHole_l2 S_impl_firstList__FindHolec1__FindHolec2
        rw [if_pos (by simpa using h1 i h4 hi), iIsGraph F (by omega) n rows hr, obind, hG, if_pos (by simp), obind, if_neg (by simp), w64 (by omega) (by omega)]
        simp) (by
        unfold S_impl_FindHole_l2
        rw [if_neg (by simpa using h2)]) (F := F) (by omega)
      rw [show (((4 : Nat) : Int)) = 4 from rfl, fsm_none c 4 (fun _ _ _ => rfl)] at hl
      rw [hl]
      rfl
  | true =>
    obtain ⟨m, R, rfl, rfl, g⟩ := isG_elim hG
    have h7 := g.n7
    obtain ⟨pathB, p1, p2⟩ := k_IsInducedPath F hF (m : Int) hn _ g.row64
    obtain ⟨holeB, q1, q2⟩ := k_IsHole F hF (m : Int) hn _ g.row64
    have step := fun k hk hkm => holeStep F hF g hn pathB holeB p1 p2 q1 q2 k hk hkm
    have hs := loop_fsm (β := Unit ⊕ (List Int × Bool)) (body := fun s => S_spec_FindHole_l2 F (m : Int) (rowsOf m R) s) (fun k => srch m k (okS true k pathB holeB) (finS true holeB) F []) (fun y => .inr (y, true)) (.inl ()) (m - 3) 4 (fun i h4 hi => by
      unfold S_spec_FindHole_l2 S_spec_FindHole_j3
      rw [if_pos (by simp; omega), sIsGraph F (by omega) _ _ g.row64, obind, isG_intro g, if_pos rfl, (step i h4 (by omega)).1, obind]
      cases srch m i (okS true i pathB holeB) (finS true holeB) F [] with
      | some y => simp
      | none =>
        rw [if_neg (by simp), w64 (by omega) (by omega)]
        simp) (by
      unfold S_spec_FindHole_l2 S_spec_FindHole_j3
      rw [if_neg (by simp; omega), if_neg (by simp)]) (F := F) (by omega)
    have hi := loop_fsm (β := Unit ⊕ (List Int × Bool)) (body := fun s => S_impl_FindHole_l2 F (m : Int) (rowsOf m R) s) (fun k => srch m k (okS true k pathB holeB) (finS true holeB) F []) (fun y => .inr (y, true)) (.inl ()) (m - 3) 4 (fun i h4 hi => by
      unfold S_impl_FindHole_l2
      rw [if_pos (by rw [if_neg (by omega)]; simp; omega), (step i h4 (by omega)).2, obind]
      cases srch m i (okS true i pathB holeB) (finS true holeB) F [] with
      | some y => simp
      | none =>
        rw [if_neg (by simp), w64 (by omega) (by omega)]
        simp) (by
      unfold S_impl_FindHole_l2
      rw [if_neg (by rw [if_neg (by omega)]; simp; omega)]) (F := F) (by omega)
    rw [show (((4 : Nat) : Int)) = 4 from rfl] at hs hi
    rw [hs, hi, obind, obind]
    cases he : fsm (fun k => srch m k (okS true k pathB holeB) (finS true holeB) F []) (m - 3) 4 with
    | none => exact ⟨([], false), by simp, rfl, rfl⟩
    | some y =>
      obtain ⟨k, h4, hk, hy⟩ := fsm_some _ _ he
      have := (srch_len F _ _ hy).1
      exact ⟨(y, true), by dsimp only; omega, rfl, rfl⟩

end Go.Proofs.Ytilfniehellmmaa
