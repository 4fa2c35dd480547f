/- Proved here: FindClaw and FindTwoEdges: both programs find the same. -/
import Derived.Test.YtilfniehellmmaaPfind
import Derived.Test.YtilfniehellmmaaPedge
namespace Go.Proofs.Ytilfniehellmmaa
open Go Go.RowKit
set_option linter.unusedVariables false
set_option linter.unusedSimpArgs false

theorem mul4 {m : Nat} (h : m ≤ 7) : m * m ≤ 49 ∧ m * m * m ≤ 343 ∧ m * m * m * m ≤ 2401 := by
  have h2 : m * m ≤ 7 * 7 := Nat.mul_le_mul h h
  have h3 : m * m * m ≤ 7 * 7 * 7 := Nat.mul_le_mul h2 h
  have h4 : m * m * m * m ≤ 7 * 7 * 7 * 7 := Nat.mul_le_mul h3 h
  omega

theorem getP (f : List Int → Option Bool) (g : List Int → Option Bool) (k : Nat) (h : ∀ l, l.length ≤ k → ∃ r, f l = some r ∧ g l = some r) : ∃ P : List Int → Bool, (∀ l, l.length ≤ k → f l = some (P l) ∧ g l = some (P l)) ∧ ∀ l, ¬ l.length ≤ k → P l = false := by
  refine ⟨fun l => if l.length ≤ k then (f l).getD false else false, fun l hl => ?_, fun l hl => if_neg hl⟩
  obtain ⟨r, h1, h2⟩ := h l hl
  simp only [if_pos hl, h1, h2]
  exact ⟨rfl, rfl⟩


theorem v_IsClaw (F : Nat) (hF : 2097152 ≤ F) (n : Int) (rows : List Int) (hr : Row64 rows) (l : List Int) (hl : l.length ≤ 1048576) (h : S_spec_IsClaw F n rows l = some true) : isV n rows l = true := by
  unfold S_spec_IsClaw at h
  by_cases h4 : l.length = 4
  · rw [if_pos (by simp [h4]), sDistinct F (by omega) n rows hr l (by omega) hl, obind] at h
    cases hv : isV n rows l with
    | true => rfl
    | false =>
      rw [hv, if_neg (by simp)] at h
      unfold S_spec_IsClaw_j1 at h
      simp at h
  · rw [if_neg (by simp; omega)] at h
    unfold S_spec_IsClaw_j1 at h
    simp at h

theorem k_IsClaw (F : Nat) (hF : 2097152 ≤ F) (n : Int) (hn : I64 n) (rows : List Int) (hr : Row64 rows) : ∃ P : List Int → Bool, (∀ l, l.length ≤ 1048576 → S_spec_IsClaw F n rows l = some (P l) ∧ S_impl_IsClaw F n rows l = some (P l)) ∧ ∀ l, nodupB l = false → P l = false := by
  obtain ⟨P, h1, h2⟩ := getP (S_spec_IsClaw F n rows) (S_impl_IsClaw F n rows) 1048576 (fun l hl => kIsClaw F hF n hn rows hr l hl)
  refine ⟨P, h1, fun l hd => ?_⟩
  by_cases hl : l.length ≤ 1048576
  · cases hp : P l with
    | false => rfl
    | true =>
      have hv := v_IsClaw F hF n rows hr l hl (by rw [(h1 l hl).1, hp])
      obtain ⟨_, _, _, _, _, _, h, _⟩ := isV_elim hv
      rw [h] at hd; cases hd
  · exact h2 l hl

theorem s_FourClaw (F : Nat) (hF : 2097152 ≤ F) {m : Nat} {R : Nat → Nat} (g : VG m R) (P : List Int → Bool) (hP : ∀ l, l.length ≤ 1048576 → S_spec_IsClaw F (m : Int) (rowsOf m R) l = some (P l)) : S_spec_l4Four F (m : Int) (rowsOf m R) 1 = some (match fsm (fun c => if P (dig m c) = true then some (dig m c) else none) (m * m * m * m) 0 with
    | some y => (y, true)
    | none => ([], false)) := by
  have h7 := g.n7
  obtain ⟨b2, b3, b4⟩ := mul4 h7
  have hP : ∀ l, l.length ≤ 1048576 → S_spec_IsClaw F (m : Int) (rowsOf m R) l = some (P l) ∧ True := fun l hl => ⟨hP l hl, trivial⟩
  unfold S_spec_l4Four
  rw [show (0 : Int) = ((0 : Nat) : Int) from rfl, loop_fsm (fun c => if P (dig m c) = true then some (dig m c) else none) (fun y => .inr (y, true)) (.inl ()) (m * m * m * m) 0 ?_ ?_ (by omega), obind]
  · unfold S_spec_l4Four_j1
    generalize fsm (fun c => if P (dig m c) = true then some (dig m c) else none) (m * m * m * m) 0 = z
    cases z <;> rfl
  · intro i _ hi
    have hm1 : 1 ≤ m := by
      rcases Nat.eq_zero_or_pos m with rfl | h
      · simp at hi
      · exact h
    have p2 : 0 < m * m := Nat.mul_pos hm1 hm1
    have p3 : 0 < m * m * m := Nat.mul_pos p2 hm1
    have W2 : IntKind.i64.wrap ((m : Int) * (m : Int)) = ((m * m : Nat) : Int) := by rw [← Int.natCast_mul, w64 (by omega) (by omega)]
    have W3 : IntKind.i64.wrap (((m * m : Nat) : Int) * (m : Int)) = ((m * m * m : Nat) : Int) := by rw [← Int.natCast_mul, w64 (by omega) (by omega)]
    have W4 : IntKind.i64.wrap (((m * m * m : Nat) : Int) * (m : Int)) = ((m * m * m * m : Nat) : Int) := by rw [← Int.natCast_mul, w64 (by omega) (by omega)]
    unfold S_spec_l4Four_l2
    rw [sIsGraph F (by omega) _ _ g.row64, obind, isG_intro g, if_pos rfl, W2, W3, W4]
    unfold S_spec_l4Four_j3
    rw [W2, W3, if_pos (by simp only [decide_eq_true_eq]; omega), nzO_ok (by omega), obind, nzO_ok (by omega), obind, nzO_ok (by omega), obind, obind, obind, obind]
    have d1 := Nat.div_le_self i (m * m * m)
    have d2 := Nat.div_le_self i (m * m)
    have d3 := Nat.div_le_self i m
    have c1 : ∀ q : Nat, q ≤ i → IntKind.i64.wrap (q : Int) = (q : Int) := fun q hq => w64 (by omega) (by omega)
    have e : ([IntKind.i64.wrap ((i : Int).tdiv ((m * m * m : Nat) : Int)), (IntKind.i64.wrap ((i : Int).tdiv ((m * m : Nat) : Int))).tmod (m : Int), (IntKind.i64.wrap ((i : Int).tdiv (m : Int))).tmod (m : Int), (i : Int).tmod (m : Int)] : List Int) = dig m i := by
      rw [← Int.ofNat_tdiv, ← Int.ofNat_tdiv, ← Int.ofNat_tdiv, c1 _ d1, c1 _ d2, c1 _ d3, ← Int.ofNat_tmod, ← Int.ofNat_tmod, ← Int.ofNat_tmod]
      rfl
    unfold S_spec_l4Four_j4
    rw [W2, W3, e, w64 (by omega) (by omega)]
    have hd : (dig m i).length ≤ 1048576 := by simp [dig]
    rw [(hP _ hd).1, obind]
    cases P (dig m i) <;> simp
  · unfold S_spec_l4Four_l2
    have W2 : IntKind.i64.wrap ((m : Int) * (m : Int)) = ((m * m : Nat) : Int) := by rw [← Int.natCast_mul, w64 (by omega) (by omega)]
    have W3 : IntKind.i64.wrap (((m * m : Nat) : Int) * (m : Int)) = ((m * m * m : Nat) : Int) := by rw [← Int.natCast_mul, w64 (by omega) (by omega)]
    have W4 : IntKind.i64.wrap (((m * m * m : Nat) : Int) * (m : Int)) = ((m * m * m * m : Nat) : Int) := by rw [← Int.natCast_mul, w64 (by omega) (by omega)]
    rw [sIsGraph F (by omega) _ _ g.row64, obind, isG_intro g, if_pos rfl, W2, W3, W4]
    unfold S_spec_l4Four_j3
    rw [if_neg (by simp)]

theorem i_FourClaw (F : Nat) (hF : 2097152 ≤ F) {m : Nat} {R : Nat → Nat} (g : VG m R) (P : List Int → Bool) (hP : ∀ l, l.length ≤ 1048576 → S_impl_IsClaw F (m : Int) (rowsOf m R) l = some (P l)) : S_impl_FindClaw F (m : Int) (rowsOf m R) = some (match srch m 4 (okI fun _ => true) P F [] with
    | some y => (y, true)
    | none => ([], false)) := by
  unfold S_impl_FindClaw S_impl_firstList__always__FindClawc1 S_impl_firstList_c1__FindClawc1__always__firstListc1
  rw [iIsGraph F (by omega) _ _ g.row64, obind, isG_intro g, if_neg (by simp)]
  have h := g_srch F hF m 4 g.n7 (by decide) (by decide) (fun x => S_impl_always F x) (fun x => S_impl_FindClaw_c1 F x (m : Int) (rowsOf m R)) (fun _ => true) P (fun _ _ => rfl) (fun x hx => by
    unfold S_impl_FindClaw_c1
    rw [hP x (by omega), obind]) (fun D l => S_impl_firstList_c1__FindClawc1__always__firstListc1_d F D l 4 (m : Int) (rowsOf m R) (m : Int) (rowsOf m R)) (fun D l => rfl) F [] (by simp) (by simp; omega)
  rw [h, obind]
  cases hs : srch m 4 (okI fun _ => true) P F [] with
  | none => rfl
  | some y =>
    have := (srch_len F _ _ hs).1
    dsimp only
    rw [neO_ok (by omega), obind, obind]

theorem kFindClaw (F : Nat) (hF : 2097152 ≤ F) (n : Int) (hn : I64 n) (rows : List Int) (hr : Row64 rows) : ∃ r : List Int × Bool, r.1.length ≤ 7 ∧ S_spec_FindClaw F n rows = some r ∧ S_impl_FindClaw F n rows = some r := by
  cases hG : isG n rows with
  | true =>
    obtain ⟨m, R, rfl, rfl, g⟩ := isG_elim hG
    obtain ⟨P, h1, h2⟩ := k_IsClaw F hF (m : Int) hn _ g.row64
    have hs := s_FourClaw F hF g P (fun l hl => (h1 l hl).1)
    have hi := i_FourClaw F hF g P (fun l hl => (h1 l hl).2)
    have hf := four_srch m P h2 (F - 5)
    rw [show F - 5 + 5 = F by omega] at hf
    rw [hf] at hs
    refine ⟨_, ?_, ?_, hi⟩
    · cases he : srch m 4 (okI fun _ => true) P F [] with
      | none => simp
      | some y =>
        have := (srch_len F _ _ he).1
        simp; omega
    · unfold S_spec_FindClaw
      rw [hs, obind]
  | false =>
    refine ⟨([], false), by simp, ?_, ?_⟩
    · unfold S_spec_FindClaw S_spec_l4Four
      obtain ⟨F, rfl⟩ : ∃ G, F = G + 1 := ⟨F - 1, by omega⟩
      have e : S_spec_l4Four_l2 (F + 1) n rows 1 0 = some (.inr (.inl ())) := by
        unfold S_spec_l4Four_l2
        rw [sIsGraph (F + 1) (by omega) n rows hr, obind, hG]
        rfl
      simp only [loopN]
      rw [e]
      rfl
    · unfold S_impl_FindClaw S_impl_firstList__always__FindClawc1
      rw [iIsGraph F (by omega) n rows hr, obind, hG]
      rfl

theorem v_IsTwoEdges (F : Nat) (hF : 2097152 ≤ F) (n : Int) (rows : List Int) (hr : Row64 rows) (l : List Int) (hl : l.length ≤ 1048576) (h : S_spec_IsTwoEdges F n rows l = some true) : isV n rows l = true := by
  unfold S_spec_IsTwoEdges at h
  by_cases h4 : l.length = 4
  · rw [if_pos (by simp [h4]), sDistinct F (by omega) n rows hr l (by omega) hl, obind] at h
    cases hv : isV n rows l with
    | true => rfl
    | false =>
      rw [hv, if_neg (by simp)] at h
      unfold S_spec_IsTwoEdges_j1 at h
      simp at h
  · rw [if_neg (by simp; omega)] at h
    unfold S_spec_IsTwoEdges_j1 at h
    simp at h

theorem k_IsTwoEdges (F : Nat) (hF : 2097152 ≤ F) (n : Int) (hn : I64 n) (rows : List Int) (hr : Row64 rows) : ∃ P : List Int → Bool, (∀ l, l.length ≤ 1048576 → S_spec_IsTwoEdges F n rows l = some (P l) ∧ S_impl_IsTwoEdges F n rows l = some (P l)) ∧ ∀ l, nodupB l = false → P l = false := by
  obtain ⟨P, h1, h2⟩ := getP (S_spec_IsTwoEdges F n rows) (S_impl_IsTwoEdges F n rows) 1048576 (fun l hl => kIsTwoEdges F hF n hn rows hr l hl)
  refine ⟨P, h1, fun l hd => ?_⟩
  by_cases hl : l.length ≤ 1048576
  · cases hp : P l with
    | false => rfl
    | true =>
      have hv := v_IsTwoEdges F hF n rows hr l hl (by rw [(h1 l hl).1, hp])
      obtain ⟨_, _, _, _, _, _, h, _⟩ := isV_elim hv
      rw [h] at hd; cases hd
  · exact h2 l hl

theorem s_FourTwoEdges (F : Nat) (hF : 2097152 ≤ F) {m : Nat} {R : Nat → Nat} (g : VG m R) (P : List Int → Bool) (hP : ∀ l, l.length ≤ 1048576 → S_spec_IsTwoEdges F (m : Int) (rowsOf m R) l = some (P l)) : S_spec_l4Four F (m : Int) (rowsOf m R) 0 = some (match fsm (fun c => if P (dig m c) = true then some (dig m c) else none) (m * m * m * m) 0 with
    | some y => (y, true)
    | none => ([], false)) := by
  have h7 := g.n7
  obtain ⟨b2, b3, b4⟩ := mul4 h7
  have hP : ∀ l, l.length ≤ 1048576 → S_spec_IsTwoEdges F (m : Int) (rowsOf m R) l = some (P l) ∧ True := fun l hl => ⟨hP l hl, trivial⟩
  unfold S_spec_l4Four
  rw [show (0 : Int) = ((0 : Nat) : Int) from rfl, loop_fsm (fun c => if P (dig m c) = true then some (dig m c) else none) (fun y => .inr (y, true)) (.inl ()) (m * m * m * m) 0 ?_ ?_ (by omega), obind]
  · unfold S_spec_l4Four_j1
    generalize fsm (fun c => if P (dig m c) = true then some (dig m c) else none) (m * m * m * m) 0 = z
    cases z <;> rfl
  · intro i _ hi
    have hm1 : 1 ≤ m := by
      rcases Nat.eq_zero_or_pos m with rfl | h
      · simp at hi
      · exact h
    have p2 : 0 < m * m := Nat.mul_pos hm1 hm1
    have p3 : 0 < m * m * m := Nat.mul_pos p2 hm1
    have W2 : IntKind.i64.wrap ((m : Int) * (m : Int)) = ((m * m : Nat) : Int) := by rw [← Int.natCast_mul, w64 (by omega) (by omega)]
    have W3 : IntKind.i64.wrap (((m * m : Nat) : Int) * (m : Int)) = ((m * m * m : Nat) : Int) := by rw [← Int.natCast_mul, w64 (by omega) (by omega)]
    have W4 : IntKind.i64.wrap (((m * m * m : Nat) : Int) * (m : Int)) = ((m * m * m * m : Nat) : Int) := by rw [← Int.natCast_mul, w64 (by omega) (by omega)]
    unfold S_spec_l4Four_l2
    rw [sIsGraph F (by omega) _ _ g.row64, obind, isG_intro g, if_pos rfl, W2, W3, W4]
    unfold S_spec_l4Four_j3
    rw [W2, W3, if_pos (by simp only [decide_eq_true_eq]; omega), nzO_ok (by omega), obind, nzO_ok (by omega), obind, nzO_ok (by omega), obind, obind, obind, obind]
    have d1 := Nat.div_le_self i (m * m * m)
    have d2 := Nat.div_le_self i (m * m)
    have d3 := Nat.div_le_self i m
    have c1 : ∀ q : Nat, q ≤ i → IntKind.i64.wrap (q : Int) = (q : Int) := fun q hq => w64 (by omega) (by omega)
    have e : ([IntKind.i64.wrap ((i : Int).tdiv ((m * m * m : Nat) : Int)), (IntKind.i64.wrap ((i : Int).tdiv ((m * m : Nat) : Int))).tmod (m : Int), (IntKind.i64.wrap ((i : Int).tdiv (m : Int))).tmod (m : Int), (i : Int).tmod (m : Int)] : List Int) = dig m i := by
      rw [← Int.ofNat_tdiv, ← Int.ofNat_tdiv, ← Int.ofNat_tdiv, c1 _ d1, c1 _ d2, c1 _ d3, ← Int.ofNat_tmod, ← Int.ofNat_tmod, ← Int.ofNat_tmod]
      rfl
    unfold S_spec_l4Four_j4
    rw [W2, W3, e, w64 (by omega) (by omega)]
    have hd : (dig m i).length ≤ 1048576 := by simp [dig]
    rw [(hP _ hd).1, obind]
    cases P (dig m i) <;> simp
  · unfold S_spec_l4Four_l2
    have W2 : IntKind.i64.wrap ((m : Int) * (m : Int)) = ((m * m : Nat) : Int) := by rw [← Int.natCast_mul, w64 (by omega) (by omega)]
    have W3 : IntKind.i64.wrap (((m * m : Nat) : Int) * (m : Int)) = ((m * m * m : Nat) : Int) := by rw [← Int.natCast_mul, w64 (by omega) (by omega)]
    have W4 : IntKind.i64.wrap (((m * m * m : Nat) : Int) * (m : Int)) = ((m * m * m * m : Nat) : Int) := by rw [← Int.natCast_mul, w64 (by omega) (by omega)]
    rw [sIsGraph F (by omega) _ _ g.row64, obind, isG_intro g, if_pos rfl, W2, W3, W4]
    unfold S_spec_l4Four_j3
    rw [if_neg (by simp)]

theorem i_FourTwoEdges (F : Nat) (hF : 2097152 ≤ F) {m : Nat} {R : Nat → Nat} (g : VG m R) (P : List Int → Bool) (hP : ∀ l, l.length ≤ 1048576 → S_impl_IsTwoEdges F (m : Int) (rowsOf m R) l = some (P l)) : S_impl_FindTwoEdges F (m : Int) (rowsOf m R) = some (match srch m 4 (okI fun _ => true) P F [] with
    | some y => (y, true)
    | none => ([], false)) := by
  unfold S_impl_FindTwoEdges S_impl_firstList__always__FindTwoEdgesc1 S_impl_firstList_c1__FindTwoEdgesc1__always__firstListc1
  rw [iIsGraph F (by omega) _ _ g.row64, obind, isG_intro g, if_neg (by simp)]
  have h := g_srch F hF m 4 g.n7 (by decide) (by decide) (fun x => S_impl_always F x) (fun x => S_impl_FindTwoEdges_c1 F x (m : Int) (rowsOf m R)) (fun _ => true) P (fun _ _ => rfl) (fun x hx => by
    unfold S_impl_FindTwoEdges_c1
    rw [hP x (by omega), obind]) (fun D l => S_impl_firstList_c1__FindTwoEdgesc1__always__firstListc1_d F D l 4 (m : Int) (rowsOf m R) (m : Int) (rowsOf m R)) (fun D l => rfl) F [] (by simp) (by simp; omega)
  rw [h, obind]
  cases hs : srch m 4 (okI fun _ => true) P F [] with
  | none => rfl
  | some y =>
    have := (srch_len F _ _ hs).1
    dsimp only
    rw [neO_ok (by omega), obind, obind]

theorem kFindTwoEdges (F : Nat) (hF : 2097152 ≤ F) (n : Int) (hn : I64 n) (rows : List Int) (hr : Row64 rows) : ∃ r : List Int × Bool, r.1.length ≤ 7 ∧ S_spec_FindTwoEdges F n rows = some r ∧ S_impl_FindTwoEdges F n rows = some r := by
  cases hG : isG n rows with
  | true =>
    obtain ⟨m, R, rfl, rfl, g⟩ := isG_elim hG
    obtain ⟨P, h1, h2⟩ := k_IsTwoEdges F hF (m : Int) hn _ g.row64
    have hs := s_FourTwoEdges F hF g P (fun l hl => (h1 l hl).1)
    have hi := i_FourTwoEdges F hF g P (fun l hl => (h1 l hl).2)
    have hf := four_srch m P h2 (F - 5)
    rw [show F - 5 + 5 = F by omega] at hf
    rw [hf] at hs
    refine ⟨_, ?_, ?_, hi⟩
    · cases he : srch m 4 (okI fun _ => true) P F [] with
      | none => simp
      | some y =>
        have := (srch_len F _ _ he).1
        simp; omega
    · unfold S_spec_FindTwoEdges
      rw [hs, obind]
  | false =>
    refine ⟨([], false), by simp, ?_, ?_⟩
    · unfold S_spec_FindTwoEdges S_spec_l4Four
      obtain ⟨F, rfl⟩ : ∃ G, F = G + 1 := ⟨F - 1, by omega⟩
      have e : S_spec_l4Four_l2 (F + 1) n rows 0 0 = some (.inr (.inl ())) := by
        unfold S_spec_l4Four_l2
        rw [sIsGraph (F + 1) (by omega) n rows hr, obind, hG]
        rfl
      simp only [loopN]
      rw [e]
      rfl
    · unfold S_impl_FindTwoEdges S_impl_firstList__always__FindTwoEdgesc1
      rw [iIsGraph F (by omega) n rows hr, obind, hG]
      rfl

end Go.Proofs.Ytilfniehellmmaa
