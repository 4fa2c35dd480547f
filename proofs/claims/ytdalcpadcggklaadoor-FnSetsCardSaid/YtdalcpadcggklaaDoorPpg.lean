/- Proved here: graphs read: both programs read the same. -/
import Derived.Test.YtdalcpadcggklaaDoorPfg
import Derived.Test.YtdalcpadcggklaaDoorPadd
namespace Go.Proofs.YtdalcpadcggklaaDoor
open Go Go.RowKit
set_option linter.unusedVariables false
set_option linter.unusedSimpArgs false

/-! ### the edges in order -/

def dg (v : Nat) : UInt8 := UInt8.ofNat (48 + v)
theorem dg_val (v : Nat) (h : v < 100) : (dg v).toNat = 48 + v := by
  unfold dg
  rw [UInt8.toNat_ofNat']
  omega
theorem itoa_dg (v : Nat) (h : v < 10) : Lib.itoa (v : Int) = [dg v] := by
  unfold Lib.itoa
  rw [if_neg (by omega), Int.toNat_natCast, Lib.decDigits_one h]
  rfl
def pr (v w : Nat) : List Int := [(v : Int), (w : Int)]
theorem pr_inj {a b c d : Nat} (h : pr a b = pr c d) : a = c ∧ b = d := by
  simp only [pr, List.cons.injEq, and_true] at h
  omega

theorem mem_eIn {R : Nat → Nat} {v a k : Nat} {e : List Int} : e ∈ eIn R v a k ↔ ∃ w, a ≤ w ∧ w < a + k ∧ (R v).testBit w = true ∧ e = pr v w := by
  unfold eIn
  rw [List.mem_flatMap]
  constructor
  · rintro ⟨w, hw, he⟩
    rw [List.mem_range'] at hw
    obtain ⟨i, hi, rfl⟩ := hw
    split at he
    · rename_i hb
      simp only [List.mem_singleton] at he
      exact ⟨_, by omega, by omega, hb, he⟩
    · simp at he
  · rintro ⟨w, h1, h2, hb, rfl⟩
    refine ⟨w, ?_, ?_⟩
    · rw [List.mem_range']
      exact ⟨w - a, by omega, by omega⟩
    · rw [if_pos hb]
      simp [pr]
theorem mem_eOut {m : Nat} {R : Nat → Nat} {k : Nat} {e : List Int} : e ∈ eOut m R k ↔ ∃ v w, v < k ∧ v < w ∧ w < v + 1 + (m - (v + 1)) ∧ (R v).testBit w = true ∧ e = pr v w := by
  unfold eOut
  rw [List.mem_flatMap]
  constructor
  · rintro ⟨v, hv, he⟩
    obtain ⟨w, h1, h2, h3, h4⟩ := mem_eIn.1 he
    exact ⟨v, w, by simpa using hv, by omega, h2, h3, h4⟩
  · rintro ⟨v, w, h0, h1, h2, h3, h4⟩
    exact ⟨v, by simpa using h0, mem_eIn.2 ⟨w, by omega, h2, h3, h4⟩⟩

def ekey (e : List Int) : Int := e.getD 0 0 * 8 + e.getD 1 0
theorem ekey_pr (v w : Nat) : ekey (pr v w) = (v : Int) * 8 + (w : Int) := by simp [ekey, pr]

theorem sorted_eIn (R : Nat → Nat) (v a : Nat) : ∀ k, (eIn R v a k).Pairwise fun e f => ekey e < ekey f
  | 0 => by simp [eIn]
  | k + 1 => by
    rw [eIn_succ, List.pairwise_append]
    refine ⟨sorted_eIn R v a k, by split <;> simp, ?_⟩
    intro e he f hf
    obtain ⟨w, h1, h2, _, rfl⟩ := mem_eIn.1 he
    split at hf
    · simp only [List.mem_singleton] at hf
      have : f = pr v (a + k) := hf
      rw [this, ekey_pr, ekey_pr]
      omega
    · simp at hf
theorem sorted_eOut (m : Nat) (hm : m ≤ 7) (R : Nat → Nat) : ∀ k, k ≤ m → (eOut m R k).Pairwise fun e f => ekey e < ekey f
  | 0, _ => by simp [eOut]
  | k + 1, hk => by
    rw [eOut_succ, List.pairwise_append]
    refine ⟨sorted_eOut m hm R k (by omega), sorted_eIn _ _ _ _, ?_⟩
    intro e he f hf
    obtain ⟨v, w, h1, h2, h3, _, rfl⟩ := mem_eOut.1 he
    obtain ⟨x, g1, g2, _, rfl⟩ := mem_eIn.1 hf
    rw [ekey_pr, ekey_pr]
    omega

/-- The graph that a list of edges makes. -/
def Qf (L : List (List Int)) : Nat → Nat := L.foldl (fun R e => flipR R (e.getD 0 0).toNat (e.getD 1 0).toNat) (fun _ => 0)
theorem Qf_snoc (L : List (List Int)) (v w : Nat) : Qf (L ++ [pr v w]) = flipR (Qf L) v w := by
  simp [Qf, pr]

theorem flip_bitP (R : Nat → Nat) (v w : Nat) (hne : v ≠ w) (a b : Nat) : (flipR R v w a).testBit b = ((R a).testBit b ^^ (decide (a = v ∧ b = w) || decide (a = w ∧ b = v))) := by
  unfold flipR
  by_cases e1 : a = v
  · subst e1
    have : ¬ a = w := hne
    rw [if_pos rfl, Nat.testBit_xor, Nat.testBit_two_pow]
    simp only [true_and, this, false_and, decide_false, Bool.or_false]
    congr 1
    exact decide_eq_decide.2 ⟨fun h => h.symm, fun h => h.symm⟩
  · rw [if_neg e1]
    by_cases e2 : a = w
    · subst e2
      rw [if_pos rfl, Nat.testBit_xor, Nat.testBit_two_pow]
      simp only [true_and, e1, false_and, decide_false, Bool.false_or]
      congr 1
      exact decide_eq_decide.2 ⟨fun h => h.symm, fun h => h.symm⟩
    · rw [if_neg e2]
      simp [e1, e2]

theorem Qf_bit {m : Nat} : ∀ (n : Nat) (L : List (List Int)), L.length = n → Prs m L → (L.Pairwise fun e f => ekey e < ekey f) → ∀ a b, (Qf L a).testBit b = decide (pr a b ∈ L ∨ pr b a ∈ L)
  | 0, L, hn, _, _, a, b => by
    have : L = [] := List.eq_nil_of_length_eq_zero hn
    subst this
    simp [Qf]
  | n + 1, L, hn, hp, hs, a, b => by
    have hne : L ≠ [] := by rintro rfl; simp at hn
    obtain ⟨L', e, rfl⟩ : ∃ L' e, L = L' ++ [e] := ⟨L.dropLast, L.getLast hne, (List.dropLast_concat_getLast hne).symm⟩
    obtain ⟨v, w, he, h1, h2⟩ := hp e (by simp)
    have he' : e = pr v w := he
    subst he'
    rw [List.pairwise_append] at hs
    have ih := Qf_bit n L' (by simpa using hn) (fun x hx => hp x (by simp [hx])) hs.1 a b
    have hnot : pr v w ∉ L' := fun hm => by
      have := hs.2.2 _ hm _ (List.mem_singleton.2 rfl)
      omega
    rw [Qf_snoc, flip_bitP _ _ _ (by omega), ih]
    simp only [List.mem_append, List.mem_singleton]
    have e1 : (pr a b = pr v w) ↔ (a = v ∧ b = w) := ⟨pr_inj, fun ⟨x, y⟩ => by rw [x, y]⟩
    have e2 : (pr b a = pr v w) ↔ (a = w ∧ b = v) := ⟨fun h => ⟨(pr_inj h).2, (pr_inj h).1⟩, fun ⟨x, y⟩ => by rw [x, y]⟩
    simp only [e1, e2]
    by_cases c1 : a = v ∧ b = w
    · obtain ⟨rfl, rfl⟩ := c1
      have n2 : ¬ (a = b ∧ b = a) := fun h => by omega
      have n3 : pr b a ∉ L' := fun hm => by
        obtain ⟨x, y, hxy, g1, g2⟩ := hp (pr b a) (by simp [hm])
        have := pr_inj (show pr b a = pr x y from hxy)
        omega
      simp [n2, n3, hnot]
    · by_cases c2 : a = w ∧ b = v
      · obtain ⟨rfl, rfl⟩ := c2
        have n3 : pr a b ∉ L' := fun hm => by
          obtain ⟨x, y, hxy, g1, g2⟩ := hp (pr a b) (by simp [hm])
          have := pr_inj (show pr a b = pr x y from hxy)
          omega
        simp [c1, n3, hnot]
      · simp [c1, c2]

theorem Qf_all {m : Nat} {R : Nat → Nat} (g : VG m R) : rowsOf m (Qf (eOut m R m)) = rowsOf m R := by
  have h7 := g.n7
  unfold rowsOf
  apply List.map_congr_left
  intro a ha
  have ha : a < m := by simpa using ha
  congr 1
  apply Nat.eq_of_testBit_eq
  intro b
  rw [Qf_bit (m := m) _ _ rfl (eOut_prs m R) (sorted_eOut m h7 R m (Nat.le_refl _)) a b]
  have e1 : pr a b ∈ eOut m R m ↔ (a < b ∧ b < m ∧ (R a).testBit b = true) := by
    rw [mem_eOut]
    constructor
    · rintro ⟨v, w, q1, q2, q3, q4, q5⟩
      obtain ⟨rfl, rfl⟩ := pr_inj q5
      exact ⟨q2, by omega, q4⟩
    · rintro ⟨q1, q2, q3⟩
      exact ⟨a, b, ha, q1, by omega, q3, rfl⟩
  have e2 : pr b a ∈ eOut m R m ↔ (b < a ∧ (R b).testBit a = true) := by
    rw [mem_eOut]
    constructor
    · rintro ⟨v, w, q1, q2, q3, q4, q5⟩
      obtain ⟨rfl, rfl⟩ := pr_inj q5
      exact ⟨q2, q4⟩
    · rintro ⟨q1, q3⟩
      exact ⟨b, a, by omega, q1, by omega, q3, rfl⟩
  simp only [e1, e2]
  by_cases hb : b < m
  · rcases Nat.lt_trichotomy a b with h | h | h
    · cases hx : (R a).testBit b <;> simp [h, hb, Nat.lt_asymm h]
    · subst h
      rw [g.irr a ha]
      simp
    · rw [g.sym a b ha hb]
      cases hx : (R b).testBit a <;> simp [h, Nat.lt_asymm h]
  · have : (R a).testBit b = false := Nat.testBit_lt_two_pow (Nat.lt_of_lt_of_le (g.lt a ha) (Nat.pow_le_pow_right (by decide) (by omega)))
    rw [this]
    simp; omega

theorem VG0 {m : Nat} (h1 : 1 ≤ m) (h7 : m ≤ 7) : VG m (fun _ => 0) := ⟨h1, h7, fun v _ => Nat.pow_pos (by decide), fun v _ => by simp, fun v w _ _ => by simp⟩
theorem rows0 (m : Nat) : List.replicate m (0 : Int) = rowsOf m (fun _ => 0) := by
  apply List.ext_getElem
  · simp [rowsOf_len]
  · intro i h1 h2; simp [rowsOf]

theorem Qf_take {m : Nat} {R : Nat → Nat} (g : VG m R) (k : Nat) (hk : k < (eOut m R m).length) : ∃ v w : Nat, (eOut m R m)[k] = pr v w ∧ v < w ∧ w < m ∧ VG m (Qf ((eOut m R m).take k)) ∧ (Qf ((eOut m R m).take k) v).testBit w = false ∧ Qf ((eOut m R m).take (k + 1)) = flipR (Qf ((eOut m R m).take k)) v w := by
  have h7 := g.n7
  have hp := eOut_prs m R
  have hs := sorted_eOut m h7 R m (Nat.le_refl _)
  have hvg : ∀ k, k ≤ (eOut m R m).length → VG m (Qf ((eOut m R m).take k)) := by
    intro k
    induction k with
    | zero => intro _; exact VG0 g.n1 g.n7
    | succ k ih =>
      intro hk
      have hk' : k < (eOut m R m).length := by omega
      obtain ⟨v, w, he, h1, h2⟩ := hp _ (List.getElem_mem hk')
      have he' : (eOut m R m)[k] = pr v w := he
      rw [snoc_take _ k hk', he', Qf_snoc]
      exact flip_VG (ih (by omega)) (by omega) h2 (by omega)
  obtain ⟨v, w, he, h1, h2⟩ := hp _ (List.getElem_mem hk)
  have he' : (eOut m R m)[k] = pr v w := he
  refine ⟨v, w, he', h1, h2, hvg k (by omega), ?_, by rw [snoc_take _ k hk, he', Qf_snoc]⟩
  rw [Qf_bit (m := m) _ _ rfl (fun x hx => hp x (List.mem_of_mem_take hx)) (List.Pairwise.sublist (List.take_sublist _ _) hs) v w]
  rw [decide_eq_false_iff_not]
  rintro (hm | hm)
  · obtain ⟨i, hi, e⟩ := List.mem_take_iff_getElem.1 hm
    have hik : i < k := by omega
    have := (List.pairwise_iff_getElem.1 hs) i k (by omega) hk hik
    rw [e, he'] at this
    omega
  · obtain ⟨x, y, hxy, g1, g2⟩ := hp _ (List.mem_of_mem_take hm)
    have := pr_inj (show pr w v = pr x y from hxy)
    omega

/-! ### the text of a graph -/

theorem fmtE_get : ∀ (L : List (List Int)), Prs 7 L → ∀ (k : Nat) (hk : k < L.length), ∃ v w : Nat, L[k] = pr v w ∧ (fmtE L)[3 * k]? = some 32 ∧ (fmtE L)[3 * k + 1]? = some (dg v) ∧ (fmtE L)[3 * k + 2]? = some (dg w)
  | e :: L, hp, 0, _ => by
    obtain ⟨v, w, he, h1, h2⟩ := hp e (by simp)
    have he' : e = pr v w := he
    subst he'
    refine ⟨v, w, rfl, ?_⟩
    simp only [fmtE, pr, List.getD_cons_zero, List.getD_cons_succ, itoa_dg v (by omega), itoa_dg w (by omega)]
    simp
  | e :: L, hp, k + 1, hk => by
    obtain ⟨v, w, he, h1, h2⟩ := hp e (by simp)
    have he' : e = pr v w := he
    subst he'
    obtain ⟨x, y, q1, q2, q3, q4⟩ := fmtE_get L (fun z hz => hp z (by simp [hz])) k (by simpa using hk)
    refine ⟨x, y, by simpa using q1, ?_⟩
    have e3 : fmtE (pr v w :: L) = [32, dg v, dg w] ++ fmtE L := by
      simp only [fmtE, pr, List.getD_cons_zero, List.getD_cons_succ, itoa_dg v (by omega), itoa_dg w (by omega)]
      simp
    rw [e3, show 3 * (k + 1) = 3 * k + 3 by omega]
    refine ⟨?_, ?_, ?_⟩
    · simpa using q2
    · simpa using q3
    · simpa using q4
theorem fmtE_len3 : ∀ (L : List (List Int)), Prs 7 L → (fmtE L).length = 3 * L.length
  | [], _ => rfl
  | e :: L, hp => by
    obtain ⟨v, w, he, h1, h2⟩ := hp e (by simp)
    have he' : e = pr v w := he
    subst he'
    have ih := fmtE_len3 L fun z hz => hp z (by simp [hz])
    simp only [fmtE, pr, List.getD_cons_zero, List.getD_cons_succ, itoa_dg v (by omega), itoa_dg w (by omega)]
    simp [ih]; omega
theorem prs7 {m : Nat} (hm : m ≤ 7) {L : List (List Int)} (h : Prs m L) : Prs 7 L := fun e he => by
  obtain ⟨v, w, q1, q2, q3⟩ := h e he
  exact ⟨v, w, q1, q2, by omega⟩
theorem fmtG_eq {m : Nat} {R : Nat → Nat} (g : VG m R) : fmtG m R = dg m :: 58 :: fmtE (eOut m R m) := by
  have h7 := g.n7
  unfold fmtG
  rw [itoa_dg m (by omega)]
  rfl

/-! ### spec: AddEdge at a valid graph -/

theorem sAddV (F : Nat) (hF : 8 ≤ F) {m : Nat} {R : Nat → Nat} (g : VG m R) (v w : Int) : ∃ (S : Nat → Nat) (ok : Bool), VG m S ∧ S_spec_AddEdge F (m : Int) (rowsOf m R) v w = some ((m : Int), rowsOf m S, ok) ∧ (∀ a b : Nat, v = (a : Int) → w = (b : Int) → a < m → b < m → a ≠ b → (R a).testBit b = false → ok = true ∧ S = flipR R a b) := by
  unfold S_spec_AddEdge S_spec_l2Copy
  rw [catO_ok (by simp [rowsOf_len]; have := g.n7; omega), obind, obind, sPair F hF (m : Int) _ g.row64, obind, List.nil_append]
  cases hP : pairB (m : Int) (rowsOf m R) v w with
  | true =>
    obtain ⟨m', R', a, b, hm', hr', rfl, rfl, _, ha, hb, hne⟩ := pairB_elim hP
    have : m' = m := by omega
    subst this
    have h7 := g.n7
    have b1 := g.b128 ha
    have b2 := g.b128 hb
    rw [if_neg (by simp), sEdge F g ha (by omega), obind]
    unfold S_spec_AddEdge_j1
    cases hab : (R a).testBit b with
    | true =>
      refine ⟨R, false, g, rfl, ?_⟩
      intro x y hx hy _ _ _ hxy
      have e1 : x = a := by omega
      have e2 : y = b := by omega
      subst e1 e2
      rw [hab] at hxy; cases hxy
    | false =>
      have hba : (R b).testBit a = false := by rw [← g.sym a b ha hb]; exact hab
      have p1 := pow_le64 a (by omega)
      have p2 := pow_le64 b (by omega)
      have hset : ∀ x : Int, idxL ((rowsOf m' R).set a x) (b : Int) = some ((R b : Nat) : Int) := fun x => by
        have hl : b < ((rowsOf m' R).set a x).length := by simpa [rowsOf_len] using hb
        rw [idxL_get hl, List.getElem_set_ne hne]
        simp [rowsOf]
      have f1 := flip_add _ b1 b (by omega) hab
      have f2 := flip_add _ b2 a (by omega) hba
      refine ⟨flipR R a b, true, flip_VG g ha hb hne, ?_, ?_⟩
      · rw [if_neg (by simp), rowsOf_idx ha, obind, nnO_ok (by omega), obind, obind, shL1 (by omega), w64 (by omega) (by omega), Int.toNat_natCast, hset, obind, nnO_ok (by omega), obind, obind, shL1 (by omega), w64 (by omega) (by omega), Int.toNat_natCast, show ((R a : Nat) : Int) + ((2 ^ b : Nat) : Int) = ((R a ^^^ 2 ^ b : Nat) : Int) by rw [← f1]; simp, show ((R b : Nat) : Int) + ((2 ^ a : Nat) : Int) = ((R b ^^^ 2 ^ a : Nat) : Int) by rw [← f2]; simp, rowsOf_flip ha hb hne]
      · intro x y hx hy _ _ _ _
        have e1 : x = a := by omega
        have e2 : y = b := by omega
        subst e1 e2
        exact ⟨rfl, rfl⟩
  | false =>
    refine ⟨R, false, g, ?_, ?_⟩
    · rw [if_pos (by simp)]
      rfl
    · intro a b hx hy ha hb hne _
      exfalso
      subst hx hy
      unfold pairB at hP
      rw [isG_intro g, inB_iff.2 (show (0 : Int) ≤ (a : Int) ∧ (a : Int) ≤ (m : Int) - 1 by omega), inB_iff.2 (show (0 : Int) ≤ (b : Int) ∧ (b : Int) ≤ (m : Int) - 1 by omega)] at hP
      simp at hP
      omega

/-! ### words -/

def cutS (p : List (List UInt8) × List UInt8) (b : UInt8) : List (List UInt8) × List UInt8 := if b = 32 then (p.1 ++ [p.2], []) else (p.1, p.2 ++ [b])
def cutF (s : List UInt8) : List (List UInt8) × List UInt8 := s.foldl cutS ([], [])
theorem cutF_len (s : List UInt8) : (cutF s).1.length ≤ s.length ∧ (cutF s).2.length ≤ s.length := by
  have h : ∀ (s : List UInt8) (p : List (List UInt8) × List UInt8), (s.foldl cutS p).1.length ≤ p.1.length + s.length ∧ (s.foldl cutS p).2.length ≤ p.2.length + s.length := by
    intro s
    induction s with
    | nil => intro p; simp
    | cons b s ih =>
      intro p
      obtain ⟨i1, i2⟩ := ih (cutS p b)
      simp only [List.foldl_cons, List.length_cons]
      unfold cutS at *
      split at i1 <;> rename_i hb
      · rw [if_pos hb] at i2 ⊢
        simp at i1 i2
        constructor <;> omega
      · rw [if_neg hb] at i2 ⊢
        simp at i1 i2
        constructor <;> omega
  simpa [cutF] using h s ([], [])

/-! ### spec: the words read -/

theorem sub48 (b : UInt8) (h : 48 ≤ b.toNat) : IntKind.i64.wrap (IntKind.u8.wrap ((b.toNat : Int) - 48)) = ((b.toNat - 48 : Nat) : Int) := by
  have := b.toNat_lt
  have e : IntKind.u8.wrap ((b.toNat : Int) - 48) = ((b.toNat - 48 : Nat) : Int) := by rw [w8]; omega
  rw [e, w64 (by omega) (by omega)]

/-- What the reading of a text gives. -/
def PG (s : List UInt8) (r : Int × List Int × Bool) : Prop := r = (0, [], false) ∨ ∃ (m : Nat) (R : Nat → Nat), VG m R ∧ fmtG m R = s ∧ r = ((m : Int), rowsOf m R, true)

theorem cut_fmtG {m : Nat} {R : Nat → Nat} (g : VG m R) : (cutF (fmtG m R)).1 ++ [(cutF (fmtG m R)).2] = [dg m, 58] :: (eOut m R m).map (fun e => [dg (e.getD 0 0).toNat, dg (e.getD 1 0).toNat]) := by
  have h7 := g.n7
  rw [fmtG_eq g]
  have hd : ∀ v, v < 10 → ¬ dg v = 32 := by
    intro v hv h
    have := dg_val v (by omega)
    rw [h] at this
    have e : (32 : UInt8).toNat = 32 := rfl
    omega
  have hstep : ∀ (L : List (List Int)), Prs 7 L → ∀ (p : List (List UInt8)) (q : List UInt8), ((fmtE L).foldl cutS (p, q)).1 ++ [((fmtE L).foldl cutS (p, q)).2] = p ++ [q] ++ L.map (fun e => [dg (e.getD 0 0).toNat, dg (e.getD 1 0).toNat]) := by
    intro L
    induction L with
    | nil => intro _ p q; simp [fmtE]
    | cons e L ih =>
      intro hp p q
      obtain ⟨v, w, he, h1, h2⟩ := hp e (by simp)
      have he' : e = pr v w := he
      subst he'
      have e3 : fmtE (pr v w :: L) = 32 :: dg v :: dg w :: fmtE L := by
        simp only [fmtE, pr, List.getD_cons_zero, List.getD_cons_succ, itoa_dg v (by omega), itoa_dg w (by omega)]
        simp
      rw [e3]
      simp only [List.foldl_cons]
      have c1 : cutS (p, q) 32 = (p ++ [q], []) := by simp [cutS]
      have c2 : cutS (p ++ [q], []) (dg v) = (p ++ [q], [dg v]) := by simp [cutS, hd v (by omega)]
      have c3 : cutS (p ++ [q], [dg v]) (dg w) = (p ++ [q], [dg v, dg w]) := by simp [cutS, hd w (by omega)]
      rw [c1, c2, c3, ih (fun z hz => hp z (by simp [hz]))]
      simp [pr]
  unfold cutF
  simp only [List.foldl_cons]
  have c1 : cutS ([], []) (dg m) = ([], [dg m]) := by simp [cutS, hd m (by omega)]
  have c2 : cutS ([], [dg m]) 58 = ([], [dg m, 58]) := by
    have : ¬ (58 : UInt8) = 32 := by decide
    simp [cutS, this]
  rw [c1, c2, hstep _ (prs7 h7 (eOut_prs m R))]
  simp

/-! ### impl -/

theorem or_flip0 : ∀ r, r < 128 → ∀ w, w < 7 → r.testBit w = false → r ||| 2 ^ w = r ^^^ 2 ^ w := by decide +kernel
theorem or_flip1 : ∀ r, r < 128 → ∀ w, w < 7 → r.testBit w = true → r ||| 2 ^ w = r := by decide +kernel
theorem or_rows {m : Nat} {R : Nat → Nat} (g : VG m R) {a b : Nat} (ha : a < m) (hb : b < m) (hne : a ≠ b) : ∃ S, VG m S ∧ ((rowsOf m R).set a ((R a ||| 2 ^ b : Nat) : Int)).set b ((R b ||| 2 ^ a : Nat) : Int) = rowsOf m S ∧ ((R a).testBit b = false → S = flipR R a b) := by
  have h7 := g.n7
  have b1 := g.b128 ha
  have b2 := g.b128 hb
  cases hab : (R a).testBit b with
  | false =>
    have hba : (R b).testBit a = false := by rw [← g.sym a b ha hb]; exact hab
    refine ⟨flipR R a b, flip_VG g ha hb hne, ?_, fun _ => rfl⟩
    rw [or_flip0 _ b1 b (by omega) hab, or_flip0 _ b2 a (by omega) hba, rowsOf_flip ha hb hne]
  | true =>
    have hba : (R b).testBit a = true := by rw [← g.sym a b ha hb]; exact hab
    refine ⟨R, g, ?_, fun h => by cases h⟩
    rw [or_flip1 _ b1 b (by omega) hab, or_flip1 _ b2 a (by omega) hba, rowsOf_upd m R a _ ha, rowsOf_upd m _ b _ hb]
    congr 1
    funext u
    by_cases e1 : u = b
    · subst e1; simp
    · by_cases e2 : u = a
      · subst e2; simp [e1]
      · simp [e1, e2]

end Go.Proofs.YtdalcpadcggklaaDoor
