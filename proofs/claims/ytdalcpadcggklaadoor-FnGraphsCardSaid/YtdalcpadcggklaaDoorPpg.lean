/- Proved here: graphs read: both programs read the same. -/
import Derived.Test.YtdalcpadcggklaaDoorPfg
import Derived.Test.YtdalcpadcggklaaDoorPadd
namespace Go.Proofs.YtdalcpadcggklaaDoor
open Go Go.RowKit
set_option linter.unusedVariables false
set_option linter.unusedSimpArgs false

/-! ### the edges in order -/

def dg (v : Nat) : UInt8 := UInt8.ofNat (48 + v)
theorem dg_val (v : Nat) (h : v < 100) : (dg v).toNat = 48 + v := by
  unfold dg
  rw [UInt8.toNat_ofNat']
  omega
theorem itoa_dg (v : Nat) (h : v < 10) : Lib.itoa (v : Int) = [dg v] := by
  unfold Lib.itoa
  rw [if_neg (by omega), Int.toNat_natCast, Lib.decDigits_one h]
  rfl
def pr (v w : Nat) : List Int := [(v : Int), (w : Int)]
theorem pr_inj {a b c d : Nat} (h : pr a b = pr c d) : a = c ∧ b = d := by
  simp only [pr, List.cons.injEq, and_true] at h
  omega

theorem mem_eIn {R : Nat → Nat} {v a k : Nat} {e : List Int} : e ∈ eIn R v a k ↔ ∃ w, a ≤ w ∧ w < a + k ∧ (R v).testBit w = true ∧ e = pr v w := by
  unfold eIn
  rw [List.mem_flatMap]
  constructor
  · rintro ⟨w, hw, he⟩
    rw [List.mem_range'] at hw
    obtain ⟨i, hi, rfl⟩ := hw
    split at he
    · rename_i hb
      simp only [List.mem_singleton] at he
      exact ⟨_, by omega, by omega, hb, he⟩
    · simp at he
  · rintro ⟨w, h1, h2, hb, rfl⟩
    refine ⟨w, ?_, ?_⟩
    · rw [List.mem_range']
      exact ⟨w - a, by omega, by omega⟩
    · rw [if_pos hb]
      simp [pr]
theorem mem_eOut {m : Nat} {R : Nat → Nat} {k : Nat} {e : List Int} : e ∈ eOut m R k ↔ ∃ v w, v < k ∧ v < w ∧ w < v + 1 + (m - (v + 1)) ∧ (R v).testBit w = true ∧ e = pr v w := by
  unfold eOut
  rw [List.mem_flatMap]
  constructor
  · rintro ⟨v, hv, he⟩
    obtain ⟨w, h1, h2, h3, h4⟩ := mem_eIn.1 he
    exact ⟨v, w, by simpa using hv, by omega, h2, h3, h4⟩
  · rintro ⟨v, w, h0, h1, h2, h3, h4⟩
    exact ⟨v, by simpa using h0, mem_eIn.2 ⟨w, by omega, h2, h3, h4⟩⟩

def ekey (e : List Int) : Int := e.getD 0 0 * 8 + e.getD 1 0
theorem ekey_pr (v w : Nat) : ekey (pr v w) = (v : Int) * 8 + (w : Int) := by simp [ekey, pr]

theorem sorted_eIn (R : Nat → Nat) (v a : Nat) : ∀ k, (eIn R v a k).Pairwise fun e f => ekey e < ekey f
  | 0 => by simp [eIn]
  | k + 1 => by
    rw [eIn_succ, List.pairwise_append]
    refine ⟨sorted_eIn R v a k, by split <;> simp, ?_⟩
    intro e he f hf
    obtain ⟨w, h1, h2, _, rfl⟩ := mem_eIn.1 he
    split at hf
    · simp only [List.mem_singleton] at hf
      have : f = pr v (a + k) := hf
      rw [this, ekey_pr, ekey_pr]
      omega
    · simp at hf
theorem sorted_eOut (m : Nat) (hm : m ≤ 7) (R : Nat → Nat) : ∀ k, k ≤ m → (eOut m R k).Pairwise fun e f => ekey e < ekey f
  | 0, _ => by simp [eOut]
  | k + 1, hk => by
    rw [eOut_succ, List.pairwise_append]
    refine ⟨sorted_eOut m hm R k (by omega), sorted_eIn _ _ _ _, ?_⟩
    intro e he f hf
    obtain ⟨v, w, h1, h2, h3, _, rfl⟩ := mem_eOut.1 he
    obtain ⟨x, g1, g2, _, rfl⟩ := mem_eIn.1 hf
    rw [ekey_pr, ekey_pr]
    omega

/-- The graph that a list of edges makes. -/
def Qf (L : List (List Int)) : Nat → Nat := L.foldl (fun R e => flipR R (e.getD 0 0).toNat (e.getD 1 0).toNat) (fun _ => 0)
theorem Qf_snoc (L : List (List Int)) (v w : Nat) : Qf (L ++ [pr v w]) = flipR (Qf L) v w := by
  simp [Qf, pr]

theorem flip_bitP (R : Nat → Nat) (v w : Nat) (hne : v ≠ w) (a b : Nat) : (flipR R v w a).testBit b = ((R a).testBit b ^^ (decide (a = v ∧ b = w) || decide (a = w ∧ b = v))) := by
  unfold flipR
  by_cases e1 : a = v
  · subst e1
    have : ¬ a = w := hne
    rw [if_pos rfl, Nat.testBit_xor, Nat.testBit_two_pow]
    simp only [true_and, this, false_and, decide_false, Bool.or_false]
    congr 1
    exact decide_eq_decide.2 ⟨fun h => h.symm, fun h => h.symm⟩
  · rw [if_neg e1]
    by_cases e2 : a = w
    · subst e2
      rw [if_pos rfl, Nat.testBit_xor, Nat.testBit_two_pow]
      simp only [true_and, e1, false_and, decide_false, Bool.false_or]
      congr 1
      exact decide_eq_decide.2 ⟨fun h => h.symm, fun h => h.symm⟩
    · rw [if_neg e2]
      simp [e1, e2]

theorem Qf_bit {m : Nat} : ∀ (n : Nat) (L : List (List Int)), L.length = n → Prs m L → (L.Pairwise fun e f => ekey e < ekey f) → ∀ a b, (Qf L a).testBit b = decide (pr a b ∈ L ∨ pr b a ∈ L)
  | 0, L, hn, _, _, a, b => by
    have : L = [] := List.eq_nil_of_length_eq_zero hn
    subst this
    simp [Qf]
  | n + 1, L, hn, hp, hs, a, b => by
    have hne : L ≠ [] := by rintro rfl; simp at hn
    obtain ⟨L', e, rfl⟩ : ∃ L' e, L = L' ++ [e] := ⟨L.dropLast, L.getLast hne, (List.dropLast_concat_getLast hne).symm⟩
    obtain ⟨v, w, he, h1, h2⟩ := hp e (by simp)
    have he' : e = pr v w := he
    subst he'
    rw [List.pairwise_append] at hs
    have ih := Qf_bit n L' (by simpa using hn) (fun x hx => hp x (by simp [hx])) hs.1 a b
    have hnot : pr v w ∉ L' := fun hm => by
      have := hs.2.2 _ hm _ (List.mem_singleton.2 rfl)
      omega
    rw [Qf_snoc, flip_bitP _ _ _ (by omega), ih]
    simp only [List.mem_append, List.mem_singleton]
    have e1 : (pr a b = pr v w) ↔ (a = v ∧ b = w) := ⟨pr_inj, fun ⟨x, y⟩ => by rw [x, y]⟩
    have e2 : (pr b a = pr v w) ↔ (a = w ∧ b = v) := ⟨fun h => ⟨(pr_inj h).2, (pr_inj h).1⟩, fun ⟨x, y⟩ => by rw [x, y]⟩
    simp only [e1, e2]
    by_cases c1 : a = v ∧ b = w
    · obtain ⟨rfl, rfl⟩ := c1
      have n2 : ¬ (a = b ∧ b = a) := fun h => by omega
      have n3 : pr b a ∉ L' := fun hm => by
        obtain ⟨x, y, hxy, g1, g2⟩ := hp (pr b a) (by simp [hm])
        have := pr_inj (show pr b a = pr x y from hxy)
        omega
      simp [n2, n3, hnot]
    · by_cases c2 : a = w ∧ b = v
      · obtain ⟨rfl, rfl⟩ := c2
        have n3 : pr a b ∉ L' := fun hm => by
          obtain ⟨x, y, hxy, g1, g2⟩ := hp (pr a b) (by simp [hm])
          have := pr_inj (show pr a b = pr x y from hxy)
          omega
        simp [c1, n3, hnot]
      · simp [c1, c2]

theorem Qf_all {m : Nat} {R : Nat → Nat} (g : VG m R) : rowsOf m (Qf (eOut m R m)) = rowsOf m R := by
  have h7 := g.n7
  unfold rowsOf
  apply List.map_congr_left
  intro a ha
  have ha : a < m := by simpa using ha
  congr 1
  apply Nat.eq_of_testBit_eq
  intro b
  rw [Qf_bit (m := m) _ _ rfl (eOut_prs m R) (sorted_eOut m h7 R m (Nat.le_refl _)) a b]
  have e1 : pr a b ∈ eOut m R m ↔ (a < b ∧ b < m ∧ (R a).testBit b = true) := by
    rw [mem_eOut]
    constructor
    · rintro ⟨v, w, q1, q2, q3, q4, q5⟩
      obtain ⟨rfl, rfl⟩ := pr_inj q5
      exact ⟨q2, by omega, q4⟩
    · rintro ⟨q1, q2, q3⟩
      exact ⟨a, b, ha, q1, by omega, q3, rfl⟩
  have e2 : pr b a ∈ eOut m R m ↔ (b < a ∧ (R b).testBit a = true) := by
    rw [mem_eOut]
    constructor
    · rintro ⟨v, w, q1, q2, q3, q4, q5⟩
      obtain ⟨rfl, rfl⟩ := pr_inj q5
      exact ⟨q2, q4⟩
    · rintro ⟨q1, q3⟩
      exact ⟨b, a, by omega, q1, by omega, q3, rfl⟩
  simp only [e1, e2]
  by_cases hb : b < m
  · rcases Nat.lt_trichotomy a b with h | h | h
    · cases hx : (R a).testBit b <;> simp [h, hb, Nat.lt_asymm h]
    · subst h
      rw [g.irr a ha]
      simp
    · rw [g.sym a b ha hb]
      cases hx : (R b).testBit a <;> simp [h, Nat.lt_asymm h]
  · have : (R a).testBit b = false := Nat.testBit_lt_two_pow (Nat.lt_of_lt_of_le (g.lt a ha) (Nat.pow_le_pow_right (by decide) (by omega)))
    rw [this]
    simp; omega

theorem VG0 {m : Nat} (h1 : 1 ≤ m) (h7 : m ≤ 7) : VG m (fun _ => 0) := ⟨h1, h7, fun v _ => Nat.pow_pos (by decide), fun v _ => by simp, fun v w _ _ => by simp⟩
theorem rows0 (m : Nat) : List.replicate m (0 : Int) = rowsOf m (fun _ => 0) := by
  apply List.ext_getElem
  · simp [rowsOf_len]
  · intro i h1 h2; simp [rowsOf]

theorem Qf_take {m : Nat} {R : Nat → Nat} (g : VG m R) (k : Nat) (hk : k < (eOut m R m).length) : ∃ v w : Nat, (eOut m R m)[k] = pr v w ∧ v < w ∧ w < m ∧ VG m (Qf ((eOut m R m).take k)) ∧ (Qf ((eOut m R m).take k) v).testBit w = false ∧ Qf ((eOut m R m).take (k + 1)) = flipR (Qf ((eOut m R m).take k)) v w := by
  have h7 := g.n7
  have hp := eOut_prs m R
  have hs := sorted_eOut m h7 R m (Nat.le_refl _)
  have hvg : ∀ k, k ≤ (eOut m R m).length → VG m (Qf ((eOut m R m).take k)) := by
    intro k
    induction k with
    | zero => intro _; exact VG0 g.n1 g.n7
    | succ k ih =>
      intro hk
      have hk' : k < (eOut m R m).length := by omega
      obtain ⟨v, w, he, h1, h2⟩ := hp _ (List.getElem_mem hk')
      have he' : (eOut m R m)[k] = pr v w := he
      rw [snoc_take _ k hk', he', Qf_snoc]
      exact flip_VG (ih (by omega)) (by omega) h2 (by omega)
  obtain ⟨v, w, he, h1, h2⟩ := hp _ (List.getElem_mem hk)
  have he' : (eOut m R m)[k] = pr v w := he
  refine ⟨v, w, he', h1, h2, hvg k (by omega), ?_, by rw [snoc_take _ k hk, he', Qf_snoc]⟩
  rw [Qf_bit (m := m) _ _ rfl (fun x hx => hp x (List.mem_of_mem_take hx)) (List.Pairwise.sublist (List.take_sublist _ _) hs) v w]
  rw [decide_eq_false_iff_not]
  rintro (hm | hm)
  · obtain ⟨i, hi, e⟩ := List.mem_take_iff_getElem.1 hm
    have hik : i < k := by omega
    have := (List.pairwise_iff_getElem.1 hs) i k (by omega) hk hik
    rw [e, he'] at this
    omega
  · obtain ⟨x, y, hxy, g1, g2⟩ := hp _ (List.mem_of_mem_take hm)
    have := pr_inj (show pr w v = pr x y from hxy)
    omega

/-! ### the text of a graph -/

theorem fmtE_get : ∀ (L : List (List Int)), Prs 7 L → ∀ (k : Nat) (hk : k < L.length), ∃ v w : Nat, L[k] = pr v w ∧ (fmtE L)[3 * k]? = some 32 ∧ (fmtE L)[3 * k + 1]? = some (dg v) ∧ (fmtE L)[3 * k + 2]? = some (dg w)
  | e :: L, hp, 0, _ => by
    obtain ⟨v, w, he, h1, h2⟩ := hp e (by simp)
    have he' : e = pr v w := he
    subst he'
    refine ⟨v, w, rfl, ?_⟩
    simp only [fmtE, pr, List.getD_cons_zero, List.getD_cons_succ, itoa_dg v (by omega), itoa_dg w (by omega)]
    simp
  | e :: L, hp, k + 1, hk => by
    obtain ⟨v, w, he, h1, h2⟩ := hp e (by simp)
    have he' : e = pr v w := he
    subst he'
    obtain ⟨x, y, q1, q2, q3, q4⟩ := fmtE_get L (fun z hz => hp z (by simp [hz])) k (by simpa using hk)
    refine ⟨x, y, by simpa using q1, ?_⟩
    have e3 : fmtE (pr v w :: L) = [32, dg v, dg w] ++ fmtE L := by
      simp only [fmtE, pr, List.getD_cons_zero, List.getD_cons_succ, itoa_dg v (by omega), itoa_dg w (by omega)]
      simp
    rw [e3, show 3 * (k + 1) = 3 * k + 3 by omega]
    refine ⟨?_, ?_, ?_⟩
    · simpa using q2
    · simpa using q3
    · simpa using q4
theorem fmtE_len3 : ∀ (L : List (List Int)), Prs 7 L → (fmtE L).length = 3 * L.length
  | [], _ => rfl
  | e :: L, hp => by
    obtain ⟨v, w, he, h1, h2⟩ := hp e (by simp)
    have he' : e = pr v w := he
    subst he'
    have ih := fmtE_len3 L fun z hz => hp z (by simp [hz])
    simp only [fmtE, pr, List.getD_cons_zero, List.getD_cons_succ, itoa_dg v (by omega), itoa_dg w (by omega)]
    simp [ih]; omega
theorem prs7 {m : Nat} (hm : m ≤ 7) {L : List (List Int)} (h : Prs m L) : Prs 7 L := fun e he => by
  obtain ⟨v, w, q1, q2, q3⟩ := h e he
  exact ⟨v, w, q1, q2, by omega⟩
theorem fmtG_eq {m : Nat} {R : Nat → Nat} (g : VG m R) : fmtG m R = dg m :: 58 :: fmtE (eOut m R m) := by
  have h7 := g.n7
  unfold fmtG
  rw [itoa_dg m (by omega)]
  rfl

/-! ### spec: AddEdge at a valid graph -/

theorem sAddV (F : Nat) (hF : 8 ≤ F) {m : Nat} {R : Nat → Nat} (g : VG m R) (v w : Int) : ∃ (S : Nat → Nat) (ok : Bool), VG m S ∧ S_spec_AddEdge F (m : Int) (rowsOf m R) v w = some ((m : Int), rowsOf m S, ok) ∧ (∀ a b : Nat, v = (a : Int) → w = (b : Int) → a < m → b < m → a ≠ b → (R a).testBit b = false → ok = true ∧ S = flipR R a b) := by
  unfold S_spec_AddEdge S_spec_l2Copy
  rw [catO_ok (by simp [rowsOf_len]; have := g.n7; omega), obind, obind, sPair F hF (m : Int) _ g.row64, obind, List.nil_append]
  cases hP : pairB (m : Int) (rowsOf m R) v w with
  | true =>
    obtain ⟨m', R', a, b, hm', hr', rfl, rfl, _, ha, hb, hne⟩ := pairB_elim hP
    have : m' = m := by omega
    subst this
    have h7 := g.n7
    have b1 := g.b128 ha
    have b2 := g.b128 hb
    rw [if_neg (by simp), sEdge F g ha (by omega), obind]
    unfold S_spec_AddEdge_j1
    cases hab : (R a).testBit b with
    | true =>
      refine ⟨R, false, g, rfl, ?_⟩
      intro x y hx hy _ _ _ hxy
      have e1 : x = a := by omega
      have e2 : y = b := by omega
      subst e1 e2
      rw [hab] at hxy; cases hxy
    | false =>
      have hba : (R b).testBit a = false := by rw [← g.sym a b ha hb]; exact hab
      have p1 := pow_le64 a (by omega)
      have p2 := pow_le64 b (by omega)
      have hset : ∀ x : Int, idxL ((rowsOf m' R).set a x) (b : Int) = some ((R b : Nat) : Int) := fun x => by
        have hl : b < ((rowsOf m' R).set a x).length := by simpa [rowsOf_len] using hb
        rw [idxL_get hl, List.getElem_set_ne hne]
        simp [rowsOf]
      have f1 := flip_add _ b1 b (by omega) hab
      have f2 := flip_add _ b2 a (by omega) hba
      refine ⟨flipR R a b, true, flip_VG g ha hb hne, ?_, ?_⟩
      · rw [if_neg (by simp), rowsOf_idx ha, obind, nnO_ok (by omega), obind, obind, shL1 (by omega), w64 (by omega) (by omega), Int.toNat_natCast, hset, obind, nnO_ok (by omega), obind, obind, shL1 (by omega), w64 (by omega) (by omega), Int.toNat_natCast, show ((R a : Nat) : Int) + ((2 ^ b : Nat) : Int) = ((R a ^^^ 2 ^ b : Nat) : Int) by rw [← f1]; simp, show ((R b : Nat) : Int) + ((2 ^ a : Nat) : Int) = ((R b ^^^ 2 ^ a : Nat) : Int) by rw [← f2]; simp, rowsOf_flip ha hb hne]
      · intro x y hx hy _ _ _ _
        have e1 : x = a := by omega
        have e2 : y = b := by omega
        subst e1 e2
        exact ⟨rfl, rfl⟩
  | false =>
    refine ⟨R, false, g, ?_, ?_⟩
    · rw [if_pos (by simp)]
      rfl
    · intro a b hx hy ha hb hne _
      exfalso
      subst hx hy
      unfold pairB at hP
      rw [isG_intro g, inB_iff.2 (show (0 : Int) ≤ (a : Int) ∧ (a : Int) ≤ (m : Int) - 1 by omega), inB_iff.2 (show (0 : Int) ≤ (b : Int) ∧ (b : Int) ≤ (m : Int) - 1 by omega)] at hP
      simp at hP
      omega

/-! ### words -/

def cutS (p : List (List UInt8) × List UInt8) (b : UInt8) : List (List UInt8) × List UInt8 := if b = 32 then (p.1 ++ [p.2], []) else (p.1, p.2 ++ [b])
def cutF (s : List UInt8) : List (List UInt8) × List UInt8 := s.foldl cutS ([], [])
theorem cutF_len (s : List UInt8) : (cutF s).1.length ≤ s.length ∧ (cutF s).2.length ≤ s.length := by
  have h : ∀ (s : List UInt8) (p : List (List UInt8) × List UInt8), (s.foldl cutS p).1.length ≤ p.1.length + s.length ∧ (s.foldl cutS p).2.length ≤ p.2.length + s.length := by
    intro s
    induction s with
    | nil => intro p; simp
    | cons b s ih =>
      intro p
      obtain ⟨i1, i2⟩ := ih (cutS p b)
      simp only [List.foldl_cons, List.length_cons]
      unfold cutS at *
      split at i1 <;> rename_i hb
      · rw [if_pos hb] at i2 ⊢
        simp at i1 i2
        constructor <;> omega
      · rw [if_neg hb] at i2 ⊢
        simp at i1 i2
        constructor <;> omega
  simpa [cutF] using h s ([], [])

theorem sCut (F : Nat) (s : List UInt8) (hF : s.length < F) (hs : s.length ≤ 1048576) : S_spec_l2Cut F s 32 = some ((cutF s).1 ++ [(cutF s).2]) := by
  unfold S_spec_l2Cut
  have hl := cutF_len s
  rw [show (([] : List (List UInt8)), ([] : List UInt8), (0 : Int)) = (fun k : Nat => ((cutF (s.take k)).1, (cutF (s.take k)).2, (k : Int))) 0 by simp [cutF]]
  rw [loop_from0 (fun k : Nat => ((cutF (s.take k)).1, (cutF (s.take k)).2, (k : Int))) (cutF s) s.length ?_ ?_ hF, obind]
  · unfold S_spec_l2Cut_j1
    rw [catO_ok (by simp; omega), obind]
  · intro k hk
    have hl2 := cutF_len (s.take k)
    have hk2 : (s.take k).length ≤ 1048576 := by simp; omega
    unfold S_spec_l2Cut_l2 S_spec_l2Cut_j3
    dsimp only
    have ec : cutF (s.take (k + 1)) = cutS (cutF (s.take k)) s[k] := by
      rw [snoc_take s k hk]
      unfold cutF
      rw [List.foldl_append]
      rfl
    rw [if_pos (by simp; omega), idxL_get hk, obind, ec]
    generalize cutF (s.take k) = p at *
    unfold cutS
    by_cases hb : s[k] = 32
    · rw [if_pos (by rw [hb]; rfl), if_pos hb, catO_ok (by simp; omega), obind, w64 (by omega) (by omega)]
      rfl
    · have hb2 : ¬ ((s[k].toNat : Int) == 32) = true := by
        intro h
        apply hb
        apply UInt8.toNat_inj.1
        have : (s[k].toNat : Int) = 32 := by simpa using h
        show s[k].toNat = 32
        omega
      have ed : (s.drop (k : Int).toNat).take ((IntKind.i64.wrap ((k : Int) + 1)).toNat - (k : Int).toNat) = [s[k]] := by
        rw [w64 (by omega) (by omega), Int.toNat_natCast, show ((k : Int) + 1).toNat - k = 1 by omega, List.drop_eq_getElem_cons hk]
        rfl
      rw [if_neg hb2, if_neg hb, ed, w64 (by omega) (by omega), sl2O_ok (by omega) (by omega) (by omega), obind, catO_ok (by simp; omega), obind]
      rfl
  · unfold S_spec_l2Cut_l2
    simp

/-! ### spec: the words read -/

theorem sub48 (b : UInt8) (h : 48 ≤ b.toNat) : IntKind.i64.wrap (IntKind.u8.wrap ((b.toNat : Int) - 48)) = ((b.toNat - 48 : Nat) : Int) := by
  have := b.toNat_lt
  have e : IntKind.u8.wrap ((b.toNat : Int) - 48) = ((b.toNat - 48 : Nat) : Int) := by rw [w8]; omega
  rw [e, w64 (by omega) (by omega)]

theorem sStepL (F : Nat) (hF : 8 ≤ F) {m : Nat} {R : Nat → Nat} (g : VG m R) (W : List (List UInt8)) (hW : W.length ≤ 2000000) (k : Nat) (hk : k < W.length) :
    (∃ S, VG m S ∧ S_spec_ParseGraph_l3 F W (m : Int) (rowsOf m R) (k : Int) = some (.inl ((m : Int), rowsOf m S, ((k + 1 : Nat) : Int))) ∧ ∀ a b : Nat, W[k] = [dg a, dg b] → a < m → b < m → a ≠ b → (R a).testBit b = false → S = flipR R a b) ∨
    (S_spec_ParseGraph_l3 F W (m : Int) (rowsOf m R) (k : Int) = some (.inr (.inr (0, [], false))) ∧ ∀ a b : Nat, W[k] = [dg a, dg b] → a < m → b < m → a ≠ b → (R a).testBit b = false → False) := by
  have h7 := g.n7
  unfold S_spec_ParseGraph_l3 S_spec_ParseGraph_j4
  rw [if_pos (by simpa using hk), idxL_get hk, obind]
  by_cases hl : W[k].length = 2
  · obtain ⟨x, y, hxy⟩ : ∃ x y, W[k] = [x, y] := by
      match hw : W[k], hl with
      | [x, y], _ => exact ⟨x, y, rfl⟩
    have z0 : idxL [x, y] 0 = some x := rfl
    have z1 : idxL [x, y] 1 = some y := rfl
    rw [if_neg (by simp [hl]), hxy]
    simp only [obind, z0, z1]
    by_cases hx : x.toNat < 48
    · right
      rw [if_pos (by simp; omega), if_pos trivial]
      refine ⟨rfl, ?_⟩
      intro a b hab ha _ _ _
      simp only [List.cons.injEq, and_true] at hab
      rw [hab.1, dg_val a (by omega)] at hx
      omega
    · rw [if_neg (by simp; omega)]
      by_cases hy : y.toNat < 48
      · right
        rw [if_pos (by simp; omega)]
        refine ⟨rfl, ?_⟩
        intro a b hab ha hb _ _
        simp only [List.cons.injEq, and_true] at hab
        rw [hab.2, dg_val b (by omega)] at hy
        omega
      · rw [if_neg (by simp; omega), sub48 x (by omega), sub48 y (by omega)]
        obtain ⟨S, ok, gS, e, hS⟩ := sAddV F hF g ((x.toNat - 48 : Nat) : Int) ((y.toNat - 48 : Nat) : Int)
        rw [e, obind]
        unfold S_spec_ParseGraph_j5
        dsimp only
        cases ok with
        | true =>
          left
          rw [if_neg (by simp), w64 (by omega) (by omega)]
          refine ⟨S, gS, rfl, ?_⟩
          intro a b hab ha hb hne hbit
          simp only [List.cons.injEq, and_true] at hab
          refine (hS a b ?_ ?_ ha hb hne hbit).2
          · rw [hab.1, dg_val a (by omega)]; omega
          · rw [hab.2, dg_val b (by omega)]; omega
        | false =>
          right
          rw [if_pos (by simp)]
          refine ⟨rfl, ?_⟩
          intro a b hab ha hb hne hbit
          simp only [List.cons.injEq, and_true] at hab
          have := (hS a b (by rw [hab.1, dg_val a (by omega)]; omega) (by rw [hab.2, dg_val b (by omega)]; omega) ha hb hne hbit).1
          cases this
  · right
    rw [if_pos (by simp; omega), if_pos rfl]
    refine ⟨rfl, ?_⟩
    intro a b hab _ _ _ _
    rw [hab] at hl
    simp at hl

/-- What the reading of a text gives. -/
def PG (s : List UInt8) (r : Int × List Int × Bool) : Prop := r = (0, [], false) ∨ ∃ (m : Nat) (R : Nat → Nat), VG m R ∧ fmtG m R = s ∧ r = ((m : Int), rowsOf m R, true)

theorem sPG_end (F : Nat) (hF : 2000 ≤ F) (s : List UInt8) {m : Nat} {R : Nat → Nat} (g : VG m R) : S_spec_ParseGraph_j2 F s (m : Int) (rowsOf m R) = some (if fmtG m R = s then ((m : Int), rowsOf m R, true) else (0, [], false)) := by
  unfold S_spec_ParseGraph_j2
  rw [sFormatGraph F hF g, obind]
  by_cases h : fmtG m R = s
  · rw [if_neg (by simpa using h), if_pos h]
  · rw [if_pos (by simpa using h), if_neg h]
theorem cutF_ne (s : List UInt8) : 0 < ((cutF s).1 ++ [(cutF s).2]).length := by simp

theorem sPG (F : Nat) (hF : 2097152 ≤ F) (s : List UInt8) (hs : s.length ≤ 1048576) : ∃ r, S_spec_ParseGraph F s = some r ∧ PG s r := by
  unfold S_spec_ParseGraph
  rw [sCut F s (by omega) hs, obind]
  have hcl := cutF_len s
  have hW : ((cutF s).1 ++ [(cutF s).2]).length ≤ 2000000 := by simp; omega
  have h0 := cutF_ne s
  generalize (cutF s).1 ++ [(cutF s).2] = W at *
  have i0 : idxL W 0 = some W[0] := by
    have := idxL_get h0
    simpa using this
  have hrej : ∃ r, S_spec_ParseGraph_j1 F s W true = some r ∧ PG s r := ⟨(0, [], false), rfl, .inl rfl⟩
  rw [i0, obind]
  by_cases hl : W[0].length = 2
  · obtain ⟨x, y, hxy⟩ : ∃ x y, W[0] = [x, y] := by
      match hw : W[0], hl with
      | [x, y], _ => exact ⟨x, y, rfl⟩
    rw [if_neg (by simp [hl]), obind, hxy, show idxL [x, y] 0 = some x from rfl, obind]
    by_cases hx : x.toNat < 49
    · rw [if_pos (by simp; omega)]
      exact hrej
    · rw [if_neg (by simp; omega), obind, show idxL [x, y] 0 = some x from rfl, obind]
      by_cases hx7 : 55 < x.toNat
      · rw [show decide ((55 : Int) < (x.toNat : Int)) = true by simp; omega]
        exact hrej
      · rw [show decide ((55 : Int) < (x.toNat : Int)) = false by simp; omega]
        unfold S_spec_ParseGraph_j1
        rw [if_neg (by simp), i0, obind, hxy, show idxL [x, y] 0 = some x from rfl, obind, sub48 x (by omega)]
        obtain ⟨m, hm⟩ : ∃ m, m = x.toNat - 48 := ⟨_, rfl⟩
        rw [← hm, mkO_ok (by omega) (by omega), obind, Int.toNat_natCast, rows0]
        obtain ⟨b, e, hb⟩ := loop_meas (body := fun t : Int × List Int × Int => S_spec_ParseGraph_l3 F W t.1 t.2.1 t.2.2) (fun t => ∃ (R : Nat → Nat) (k : Nat), VG m R ∧ 1 ≤ k ∧ t = ((m : Int), rowsOf m R, (k : Int))) (fun t => W.length - t.2.2.toNat) (fun b => b = .inr (0, [], false) ∨ ∃ R, VG m R ∧ b = .inl ((m : Int), rowsOf m R)) (by
          rintro t ⟨R, k, g, hk1, rfl⟩
          dsimp only
          by_cases hk : k < W.length
          · rcases sStepL F (by omega) g W hW k hk with ⟨S, gS, e, _⟩ | ⟨e, _⟩
            · left
              exact ⟨_, e, ⟨S, k + 1, gS, by omega, rfl⟩, by dsimp only; omega⟩
            · right
              exact ⟨_, e, .inl rfl⟩
          · right
            unfold S_spec_ParseGraph_l3
            rw [if_neg (by simp; omega)]
            exact ⟨_, rfl, .inr ⟨R, g, rfl⟩⟩) F ((m : Int), rowsOf m (fun _ => 0), 1) ⟨_, 1, VG0 (by omega) (by omega), by omega, rfl⟩ (by dsimp only; omega)
        rw [e, obind]
        rcases hb with rfl | ⟨R, g, rfl⟩
        · exact ⟨_, rfl, .inl rfl⟩
        · dsimp only
          rw [sPG_end F (by omega) s g]
          by_cases h : fmtG m R = s
          · rw [if_pos h]
            exact ⟨_, rfl, .inr ⟨m, R, g, h, rfl⟩⟩
          · rw [if_neg h]
            exact ⟨_, rfl, .inl rfl⟩
  · rw [if_pos (by simp; omega)]
    exact hrej

theorem cut_fmtG {m : Nat} {R : Nat → Nat} (g : VG m R) : (cutF (fmtG m R)).1 ++ [(cutF (fmtG m R)).2] = [dg m, 58] :: (eOut m R m).map (fun e => [dg (e.getD 0 0).toNat, dg (e.getD 1 0).toNat]) := by
  have h7 := g.n7
  rw [fmtG_eq g]
  have hd : ∀ v, v < 10 → ¬ dg v = 32 := by
    intro v hv h
    have := dg_val v (by omega)
    rw [h] at this
    have e : (32 : UInt8).toNat = 32 := rfl
    omega
  have hstep : ∀ (L : List (List Int)), Prs 7 L → ∀ (p : List (List UInt8)) (q : List UInt8), ((fmtE L).foldl cutS (p, q)).1 ++ [((fmtE L).foldl cutS (p, q)).2] = p ++ [q] ++ L.map (fun e => [dg (e.getD 0 0).toNat, dg (e.getD 1 0).toNat]) := by
    intro L
    induction L with
    | nil => intro _ p q; simp [fmtE]
    | cons e L ih =>
      intro hp p q
      obtain ⟨v, w, he, h1, h2⟩ := hp e (by simp)
      have he' : e = pr v w := he
      subst he'
      have e3 : fmtE (pr v w :: L) = 32 :: dg v :: dg w :: fmtE L := by
        simp only [fmtE, pr, List.getD_cons_zero, List.getD_cons_succ, itoa_dg v (by omega), itoa_dg w (by omega)]
        simp
      rw [e3]
      simp only [List.foldl_cons]
      have c1 : cutS (p, q) 32 = (p ++ [q], []) := by simp [cutS]
      have c2 : cutS (p ++ [q], []) (dg v) = (p ++ [q], [dg v]) := by simp [cutS, hd v (by omega)]
      have c3 : cutS (p ++ [q], [dg v]) (dg w) = (p ++ [q], [dg v, dg w]) := by simp [cutS, hd w (by omega)]
      rw [c1, c2, c3, ih (fun z hz => hp z (by simp [hz]))]
      simp [pr]
  unfold cutF
  simp only [List.foldl_cons]
  have c1 : cutS ([], []) (dg m) = ([], [dg m]) := by simp [cutS, hd m (by omega)]
  have c2 : cutS ([], [dg m]) 58 = ([], [dg m, 58]) := by
    have : ¬ (58 : UInt8) = 32 := by decide
    simp [cutS, this]
  rw [c1, c2, hstep _ (prs7 h7 (eOut_prs m R))]
  simp

theorem sPG_acc (F : Nat) (hF : 2097152 ≤ F) {m : Nat} {R : Nat → Nat} (g : VG m R) : S_spec_ParseGraph F (fmtG m R) = some ((m : Int), rowsOf m R, true) := by
  have h7 := g.n7
  have h1 := g.n1
  have hlen : (fmtG m R).length ≤ 1048576 := by
    rw [fmtG_eq g]
    have := fmtE_len3 _ (prs7 h7 (eOut_prs m R))
    have := (eOut_len m h7 R m).1
    simp; omega
  unfold S_spec_ParseGraph
  rw [sCut F _ (by omega) hlen, obind, cut_fmtG g]
  have hE := (eOut_len m h7 R m).1
  obtain ⟨E, hEq⟩ : ∃ E, E = eOut m R m := ⟨_, rfl⟩
  rw [← hEq] at hE
  obtain ⟨W, hWq⟩ : ∃ W, W = [dg m, 58] :: (eOut m R m).map (fun e => [dg (e.getD 0 0).toNat, dg (e.getD 1 0).toNat]) := ⟨_, rfl⟩
  have hWl : W.length = E.length + 1 := by rw [hWq, hEq]; simp
  rw [← hWq]
  have i0 : idxL W 0 = some [dg m, 58] := by rw [hWq]; rfl
  have dv := dg_val m (by omega)
  rw [i0, obind, if_neg (by simp), obind, show idxL [dg m, 58] 0 = some (dg m) from rfl, obind, if_neg (by rw [dv]; simp; omega), obind, show idxL [dg m, 58] 0 = some (dg m) from rfl, obind, show decide ((55 : Int) < ((dg m).toNat : Int)) = false by rw [dv]; simp; omega]
  unfold S_spec_ParseGraph_j1
  rw [if_neg (by simp), i0, obind, show idxL [dg m, 58] 0 = some (dg m) from rfl, obind, sub48 _ (by omega), dv, show 48 + m - 48 = m by omega, mkO_ok (by omega) (by omega), obind, Int.toNat_natCast, rows0]
  rw [show ((m : Int), rowsOf m (fun _ => 0), (1 : Int)) = (fun k : Nat => ((m : Int), rowsOf m (Qf (E.take k)), ((k + 1 : Nat) : Int))) 0 by simp [Qf]]
  rw [loop_from0 (fun k : Nat => ((m : Int), rowsOf m (Qf (E.take k)), ((k + 1 : Nat) : Int))) (.inl ((m : Int), rowsOf m (Qf E))) E.length ?_ ?_ (by omega), obind]
  · dsimp only
    have e : rowsOf m (Qf E) = rowsOf m R := by rw [hEq]; exact Qf_all g
    rw [e, sPG_end F (by omega) _ g, if_pos rfl]
  · intro k hk
    have hk' : k < (eOut m R m).length := by rw [← hEq]; exact hk
    obtain ⟨v, w, he, hvw, hwm, gk, hbit, hflip⟩ := Qf_take g k hk'
    rw [← hEq] at gk hbit hflip
    have hkW : k + 1 < W.length := by omega
    have hw : W[k + 1] = [dg v, dg w] := by
      simp only [hWq, List.getElem_cons_succ, List.getElem_map, he]
      simp [pr]
    dsimp only
    rcases sStepL F (by omega) gk W (by omega) (k + 1) hkW with ⟨S, gS, e, hS⟩ | ⟨_, hno⟩
    · rw [e, hS v w hw (by omega) hwm (by omega) hbit, hflip]
    · exact (hno v w hw (by omega) hwm (by omega) hbit).elim
  · unfold S_spec_ParseGraph_l3
    dsimp only
    rw [if_neg (by simp; omega), List.take_length]

/-! ### impl -/

theorem or_flip0 : ∀ r, r < 128 → ∀ w, w < 7 → r.testBit w = false → r ||| 2 ^ w = r ^^^ 2 ^ w := by decide +kernel
theorem or_flip1 : ∀ r, r < 128 → ∀ w, w < 7 → r.testBit w = true → r ||| 2 ^ w = r := by decide +kernel
theorem or_rows {m : Nat} {R : Nat → Nat} (g : VG m R) {a b : Nat} (ha : a < m) (hb : b < m) (hne : a ≠ b) : ∃ S, VG m S ∧ ((rowsOf m R).set a ((R a ||| 2 ^ b : Nat) : Int)).set b ((R b ||| 2 ^ a : Nat) : Int) = rowsOf m S ∧ ((R a).testBit b = false → S = flipR R a b) := by
  have h7 := g.n7
  have b1 := g.b128 ha
  have b2 := g.b128 hb
  cases hab : (R a).testBit b with
  | false =>
    have hba : (R b).testBit a = false := by rw [← g.sym a b ha hb]; exact hab
    refine ⟨flipR R a b, flip_VG g ha hb hne, ?_, fun _ => rfl⟩
    rw [or_flip0 _ b1 b (by omega) hab, or_flip0 _ b2 a (by omega) hba, rowsOf_flip ha hb hne]
  | true =>
    have hba : (R b).testBit a = true := by rw [← g.sym a b ha hb]; exact hab
    refine ⟨R, g, ?_, fun h => by cases h⟩
    rw [or_flip1 _ b1 b (by omega) hab, or_flip1 _ b2 a (by omega) hba, rowsOf_upd m R a _ ha, rowsOf_upd m _ b _ hb]
    congr 1
    funext u
    by_cases e1 : u = b
    · subst e1; simp
    · by_cases e2 : u = a
      · subst e2; simp [e1]
      · simp [e1, e2]

theorem iStepL (F : Nat) (s : List UInt8) (hs : s.length ≤ 1048576) (x : UInt8) {m : Nat} {R : Nat → Nat} (g : VG m R) (hx : x.toNat = 48 + m) (j : Nat) (hj : 3 * j + 4 < s.length) :
    (∃ S, VG m S ∧ S_impl_ParseGraph_l3 F s x (rowsOf m R) ((2 + 3 * j : Nat) : Int) = some (.inl (rowsOf m S, ((2 + 3 * (j + 1) : Nat) : Int))) ∧ ∀ a b : Nat, s[3 * j + 3]? = some (dg a) → s[3 * j + 4]? = some (dg b) → a < m → b < m → a ≠ b → (R a).testBit b = false → S = flipR R a b) ∨
    (S_impl_ParseGraph_l3 F s x (rowsOf m R) ((2 + 3 * j : Nat) : Int) = some (.inr (.inr (0, [], false))) ∧ ∀ a b : Nat, s[3 * j + 3]? = some (dg a) → s[3 * j + 4]? = some (dg b) → a < m → b < m → a ≠ b → False) := by
  have h7 := g.n7
  have h1 : 3 * j + 3 < s.length := by omega
  have q1 := s[3 * j + 3].toNat_lt
  have q2 := s[3 * j + 4].toNat_lt
  have g1 : s[3 * j + 3]? = some s[3 * j + 3] := List.getElem?_eq_getElem h1
  have g2 : s[3 * j + 4]? = some s[3 * j + 4] := List.getElem?_eq_getElem hj
  have e1 : IntKind.i64.wrap (((2 + 3 * j : Nat) : Int) + 1) = ((3 * j + 3 : Nat) : Int) := by rw [w64 (by omega) (by omega)]; omega
  have e2 : IntKind.i64.wrap (((2 + 3 * j : Nat) : Int) + 2) = ((3 * j + 4 : Nat) : Int) := by rw [w64 (by omega) (by omega)]; omega
  have e3 : IntKind.i64.wrap (((2 + 3 * j : Nat) : Int) + 3) = ((2 + 3 * (j + 1) : Nat) : Int) := by rw [w64 (by omega) (by omega)]; omega
  have em : IntKind.i64.wrap ((IntKind.i64.wrap ((IntKind.i64.wrap (x.toNat : Int)) - 48)) - 1) = (m : Int) - 1 := by
    rw [w64 (n := (x.toNat : Int)) (by omega) (by omega), w64 (n := (x.toNat : Int) - 48) (by omega) (by omega), w64 (by omega) (by omega)]
    omega
  have ev : ∀ c : UInt8, IntKind.i64.wrap ((IntKind.i64.wrap (c.toNat : Int)) - 48) = (c.toNat : Int) - 48 := by
    intro c
    have := c.toNat_lt
    rw [w64 (n := (c.toNat : Int)) (by omega) (by omega), w64 (by omega) (by omega)]
  have hdd : ∀ (c : UInt8) (a : Nat), some c = some (dg a) → a < m → c.toNat = 48 + a := by
    intro c a h ha
    rw [Option.some.inj h, dg_val a (by omega)]
  unfold S_impl_ParseGraph_l3
  rw [e2, if_pos (by simp; omega), e1, idxL_get h1, obind, idxL_get hj, obind, em, iIn, obind]
  rw [g1, g2]
  generalize s[3 * j + 3] = c1 at *
  generalize s[3 * j + 4] = c2 at *
  rw [ev, ev]
  have hrej : ∀ p : Bool, p = true → S_impl_ParseGraph_j4 F (rowsOf m R) ((2 + 3 * j : Nat) : Int) c1 c2 p = some (.inr (.inr (0, [], false))) := by
    rintro p rfl; rfl
  cases ha : inB ((c1.toNat : Int) - 48) 0 ((m : Int) - 1) with
  | false =>
    right
    rw [if_pos (by simp)]
    refine ⟨hrej _ rfl, ?_⟩
    intro a b hca _ ham _ _
    have := hdd c1 a hca ham
    rw [inB_iff.2 (show (0 : Int) ≤ (c1.toNat : Int) - 48 ∧ (c1.toNat : Int) - 48 ≤ (m : Int) - 1 by omega)] at ha
    cases ha
  | true =>
    obtain ⟨a1, a2⟩ := inB_iff.1 ha
    rw [if_neg (by simp), iIn, obind]
    cases hb : inB ((c2.toNat : Int) - 48) 0 ((m : Int) - 1) with
    | false =>
      right
      rw [if_pos (by simp)]
      refine ⟨hrej _ rfl, ?_⟩
      intro a b _ hcb _ hbm _
      have := hdd c2 b hcb hbm
      rw [inB_iff.2 (show (0 : Int) ≤ (c2.toNat : Int) - 48 ∧ (c2.toNat : Int) - 48 ≤ (m : Int) - 1 by omega)] at hb
      cases hb
    | true =>
      obtain ⟨b1, b2⟩ := inB_iff.1 hb
      rw [if_neg (by simp)]
      obtain ⟨a, hae⟩ : ∃ a : Nat, (c1.toNat : Int) - 48 = (a : Int) := ⟨c1.toNat - 48, by omega⟩
      obtain ⟨b, hbe⟩ : ∃ b : Nat, (c2.toNat : Int) - 48 = (b : Int) := ⟨c2.toNat - 48, by omega⟩
      have ham : a < m := by omega
      have hbm : b < m := by omega
      rw [hae, hbe]
      by_cases hab : a = b
      · right
        refine ⟨hrej _ (by rw [hab]; simp), ?_⟩
        intro x y hcx hcy hxm hym hxy
        have := hdd c1 x hcx hxm
        have := hdd c2 y hcy hym
        omega
      · left
        obtain ⟨S, gS, hrows, hfl⟩ := or_rows g ham hbm hab
        refine ⟨S, gS, ?_, ?_⟩
        · have hnot : ((a : Int) == (b : Int)) = false := by simp; omega
          have p1 := pow_le64 a (by omega)
          have p2 := pow_le64 b (by omega)
          have r1 := g.b128 ham
          have r2 := g.b128 hbm
          rw [hnot]
          unfold S_impl_ParseGraph_j4
          have hset : ∀ z : Int, idxL ((rowsOf m R).set a z) (b : Int) = some ((R b : Nat) : Int) := fun z => by
            have hl : b < ((rowsOf m R).set a z).length := by simpa [rowsOf_len] using hbm
            rw [idxL_get hl, List.getElem_set_ne hab]
            simp [rowsOf]
          rw [if_neg (by simp), ev, ev, hae, hbe, rowsOf_idx ham, obind, nnO_ok (by omega), obind, obind, shL1 (by omega), bOr_nat _ _ (by omega) (by omega), Int.toNat_natCast, Int.toNat_natCast, hset, obind, nnO_ok (by omega), obind, obind, shL1 (by omega), bOr_nat _ _ (by omega) (by omega), hrows, e3]
        · intro x y hcx hcy hxm hym hxy hbit
          have hx2 := hdd c1 x hcx hxm
          have hy2 := hdd c2 y hcy hym
          have e4 : x = a := by omega
          have e5 : y = b := by omega
          subst e4 e5
          exact hfl hbit

theorem iPG_end (F : Nat) (hF : 2000 ≤ F) (s : List UInt8) (x : UInt8) {m : Nat} {R : Nat → Nat} (g : VG m R) (hx : x.toNat = 48 + m) : S_impl_ParseGraph_j2 F s x (rowsOf m R) = some (if fmtG m R = s then ((m : Int), rowsOf m R, true) else (0, [], false)) := by
  have h7 := g.n7
  have ev : IntKind.i64.wrap ((IntKind.i64.wrap (x.toNat : Int)) - 48) = (m : Int) := by
    rw [w64 (n := (x.toNat : Int)) (by omega) (by omega), w64 (by omega) (by omega)]
    omega
  unfold S_impl_ParseGraph_j2
  rw [ev, iFormatGraph F hF g, obind]
  by_cases h : fmtG m R = s
  · rw [if_neg (by simpa using h), if_pos h]
  · rw [if_pos (by simpa using h), if_neg h]

theorem iPG (F : Nat) (hF : 2097152 ≤ F) (s : List UInt8) (hs : s.length ≤ 1048576) : ∃ r, S_impl_ParseGraph F s = some r ∧ PG s r := by
  unfold S_impl_ParseGraph
  by_cases h0 : s = []
  · rw [if_pos (by simp [h0])]
    exact ⟨(0, [], false), rfl, .inl rfl⟩
  · have hl0 : 0 < s.length := List.length_pos_iff.2 h0
    have i0 : idxL s 0 = some s[0] := by
      have := idxL_get hl0
      simpa using this
    have q0 := s[0].toNat_lt
    have ev : IntKind.i64.wrap ((IntKind.i64.wrap (s[0].toNat : Int)) - 48) = (s[0].toNat : Int) - 48 := by
      rw [w64 (n := (s[0].toNat : Int)) (by omega) (by omega), w64 (by omega) (by omega)]
    rw [if_neg (by simpa using h0), i0, obind, ev, iIn, obind]
    unfold S_impl_ParseGraph_j1
    cases hb : inB ((s[0].toNat : Int) - 48) 1 7 with
    | false => exact ⟨(0, [], false), by simp, .inl rfl⟩
    | true =>
      obtain ⟨b1, b2⟩ := inB_iff.1 hb
      obtain ⟨m, hm⟩ : ∃ m : Nat, s[0].toNat = 48 + m := ⟨s[0].toNat - 48, by omega⟩
      rw [if_neg (by simp), i0, obind, ev, show (s[0].toNat : Int) - 48 = (m : Int) by omega, mkO_ok (by omega) (by omega), obind, Int.toNat_natCast, rows0]
      obtain ⟨b, e, hb⟩ := loop_meas (body := fun t : List Int × Int => S_impl_ParseGraph_l3 F s s[0] t.1 t.2) (fun t => ∃ (R : Nat → Nat) (j : Nat), VG m R ∧ 3 * j ≤ s.length ∧ t = (rowsOf m R, ((2 + 3 * j : Nat) : Int))) (fun t => s.length - t.2.toNat) (fun b => b = .inr (0, [], false) ∨ ∃ R, VG m R ∧ b = .inl (rowsOf m R)) (by
        rintro t ⟨R, j, g, hjs, rfl⟩
        dsimp only
        by_cases hj : 3 * j + 4 < s.length
        · rcases iStepL F s hs s[0] g hm j hj with ⟨S, gS, e, _⟩ | ⟨e, _⟩
          · left
            exact ⟨_, e, ⟨S, j + 1, gS, by omega, rfl⟩, by dsimp only; omega⟩
          · right
            exact ⟨_, e, .inl rfl⟩
        · right
          unfold S_impl_ParseGraph_l3
          rw [w64 (n := ((2 + 3 * j : Nat) : Int) + 2) (by omega) (by omega), if_neg (by simp; omega)]
          exact ⟨_, rfl, .inr ⟨R, g, rfl⟩⟩) F (rowsOf m (fun _ => 0), 2) ⟨_, 0, VG0 (by omega) (by omega), by omega, rfl⟩ (by dsimp only; omega)
      rw [e, obind]
      rcases hb with rfl | ⟨R, g, rfl⟩
      · exact ⟨_, rfl, .inl rfl⟩
      · dsimp only
        rw [iPG_end F (by omega) s _ g hm]
        by_cases h : fmtG m R = s
        · rw [if_pos h]
          exact ⟨_, rfl, .inr ⟨m, R, g, h, rfl⟩⟩
        · rw [if_neg h]
          exact ⟨_, rfl, .inl rfl⟩

theorem iPG_acc (F : Nat) (hF : 2097152 ≤ F) {m : Nat} {R : Nat → Nat} (g : VG m R) : S_impl_ParseGraph F (fmtG m R) = some ((m : Int), rowsOf m R, true) := by
  have h7 := g.n7
  have h1 := g.n1
  obtain ⟨E, hEq⟩ : ∃ E, E = eOut m R m := ⟨_, rfl⟩
  have hE := (eOut_len m h7 R m).1
  rw [← hEq] at hE
  have hp7 := prs7 h7 (eOut_prs m R)
  rw [← hEq] at hp7
  have hfl := fmtE_len3 _ hp7
  obtain ⟨s, hsq⟩ : ∃ s, s = fmtG m R := ⟨_, rfl⟩
  have hse : s = dg m :: 58 :: fmtE E := by rw [hsq, fmtG_eq g, hEq]
  have hsl : s.length = 2 + 3 * E.length := by rw [hse]; simp; omega
  rw [← hsq]
  have dv := dg_val m (by omega)
  have i0 : idxL s 0 = some (dg m) := by rw [hse]; rfl
  have ev : IntKind.i64.wrap ((IntKind.i64.wrap ((dg m).toNat : Int)) - 48) = (m : Int) := by
    rw [w64 (n := ((dg m).toNat : Int)) (by omega) (by omega), w64 (by omega) (by omega)]
    omega
  unfold S_impl_ParseGraph
  rw [if_neg (by rw [hse]; simp), i0, obind, ev, iIn, obind, inB_iff.2 (show (1 : Int) ≤ (m : Int) ∧ (m : Int) ≤ 7 by omega)]
  unfold S_impl_ParseGraph_j1
  rw [if_neg (by simp), i0, obind, ev, mkO_ok (by omega) (by omega), obind, Int.toNat_natCast, rows0]
  rw [show (rowsOf m (fun _ => 0), (2 : Int)) = (fun k : Nat => (rowsOf m (Qf (E.take k)), ((2 + 3 * k : Nat) : Int))) 0 by simp [Qf]]
  rw [loop_from0 (fun k : Nat => (rowsOf m (Qf (E.take k)), ((2 + 3 * k : Nat) : Int))) (.inl (rowsOf m (Qf E))) E.length ?_ ?_ (by omega), obind]
  · dsimp only
    have e : rowsOf m (Qf E) = rowsOf m R := by rw [hEq]; exact Qf_all g
    rw [e, iPG_end F (by omega) s _ g dv, if_pos hsq.symm]
  · intro k hk
    have hk' : k < (eOut m R m).length := by rw [← hEq]; exact hk
    obtain ⟨v, w, he, hvw, hwm, gk, hbit, hflip⟩ := Qf_take g k hk'
    rw [← hEq] at gk hbit hflip
    obtain ⟨v', w', he2, _, c1, c2⟩ := fmtE_get E hp7 k hk
    have hvv : v' = v ∧ w' = w := by
      have h2 : E[k] = pr v w := by
        have : E[k] = (eOut m R m)[k] := by simp only [hEq]
        rw [this, he]
      rw [h2] at he2
      have := pr_inj he2
      omega
    obtain ⟨rfl, rfl⟩ := hvv
    have d1 : s[3 * k + 3]? = some (dg v') := by rw [hse, show 3 * k + 3 = 3 * k + 1 + 2 by omega]; simpa using c1
    have d2 : s[3 * k + 4]? = some (dg w') := by rw [hse, show 3 * k + 4 = 3 * k + 2 + 2 by omega]; simpa using c2
    dsimp only
    rcases iStepL F s (by omega) (dg m) gk dv k (by omega) with ⟨S, gS, e, hS⟩ | ⟨_, hno⟩
    · rw [e, hS v' w' d1 d2 (by omega) hwm (by omega) hbit, hflip]
    · exact (hno v' w' d1 d2 (by omega) hwm (by omega)).elim
  · unfold S_impl_ParseGraph_l3
    dsimp only
    rw [w64 (n := ((2 + 3 * E.length : Nat) : Int) + 2) (by omega) (by omega), if_neg (by simp; omega), List.take_length]

theorem kParseGraph (F : Nat) (hF : 2097152 ≤ F) (s : List UInt8) (hs : s.length ≤ 1048576) : ∃ r, r.2.1.length ≤ 7 ∧ PG s r ∧ S_spec_ParseGraph F s = some r ∧ S_impl_ParseGraph F s = some r := by
  obtain ⟨r, e1, h1⟩ := sPG F hF s hs
  obtain ⟨q, e2, h2⟩ := iPG F hF s hs
  have hrq : r = q := by
    rcases h1 with rfl | ⟨m, R, g, hf, rfl⟩
    · rcases h2 with rfl | ⟨m, R, g, hf, rfl⟩
      · rfl
      · rw [← hf, sPG_acc F hF g] at e1
        exact (Option.some.inj e1).symm
    · rw [← hf, iPG_acc F hF g] at e2
      exact Option.some.inj e2
  subst hrq
  refine ⟨r, ?_, h1, e1, e2⟩
  rcases h1 with rfl | ⟨m, R, g, hf, rfl⟩
  · simp
  · have := g.n7
    dsimp only
    rw [rowsOf_len]; omega

end Go.Proofs.YtdalcpadcggklaaDoor
