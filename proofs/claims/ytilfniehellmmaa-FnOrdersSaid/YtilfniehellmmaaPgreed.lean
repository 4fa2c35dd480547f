/- Proved here: orders that take the best vertex next: both programs compute the same. -/
import Derived.Test.YtilfniehellmmaaPlex
namespace Go.Proofs.Ytilfniehellmmaa
open Go Go.RowKit
set_option linter.unusedVariables false
set_option linter.unusedSimpArgs false

def better (val : Nat → Nat) (o : Option Nat) (k : Nat) : Bool := match o with
  | none => true
  | some b => decide (val b < val k)
def bst (av : Nat → Bool) (val : Nat → Nat) : Nat → Option Nat
  | 0 => none
  | k + 1 => if (av k && better val (bst av val k) k) = true then some k else bst av val k
def bestI (o : Option Nat) : Int := match o with
  | none => -1
  | some b => (b : Int)
def mostI (val : Nat → Nat) (o : Option Nat) : Int := match o with
  | none => -1
  | some b => ((val b : Nat) : Int)
theorem bestI_some (b : Nat) : bestI (some b) = (b : Int) := rfl
theorem bestI_none : bestI none = -1 := rfl
theorem most_better (val : Nat → Nat) (o : Option Nat) (k : Nat) : decide (mostI val o < ((val k : Nat) : Int)) = better val o k := by
  unfold mostI better
  cases o with
  | none => simp; omega
  | some b => exact cast_lt _ _
theorem bst_in (av : Nat → Bool) (val : Nat → Nat) : ∀ (k v : Nat), bst av val k = some v → v < k ∧ av v = true
  | 0, v, h => by cases h
  | k + 1, v, h => by
    unfold bst at h
    by_cases c : (av k && better val (bst av val k) k) = true
    · rw [if_pos c] at h
      cases h
      rw [Bool.and_eq_true] at c
      exact ⟨by omega, c.1⟩
    · rw [if_neg c] at h
      have := bst_in av val k v h
      exact ⟨by omega, this.2⟩
theorem bst_none (av : Nat → Bool) (val : Nat → Nat) : ∀ (k : Nat), bst av val k = none → ∀ v, v < k → av v = false
  | 0, _, v, h => by omega
  | k + 1, h, v, hv => by
    unfold bst at h
    by_cases c : (av k && better val (bst av val k) k) = true
    · rw [if_pos c] at h; cases h
    · rw [if_neg c] at h
      have hp := bst_none av val k h
      by_cases e : v = k
      · subst e
        rw [h] at c
        simpa [better] using c
      · exact hp v (by omega)

/-- What holds of an order that is not yet whole. -/
structure Ord (m : Nat) (l : List Int) : Prop where
  mem : ∀ x, x ∈ l → 0 ≤ x ∧ x < (m : Int)
  nd : l.Nodup
  len : l.length ≤ m

theorem pc_all : ∀ m, m ≤ 7 → pc (2 ^ m - 1) = m := by decide +kernel
theorem Ord.six {m : Nat} {l : List Int} (h : Ord m l) (h7 : m ≤ 7) : ∀ x, x ∈ l → 0 ≤ x ∧ x ≤ 6 := fun x hx => by
  have := h.mem x hx; omega
theorem Ord.ok {m : Nat} {l : List Int} (h : Ord m l) (h7 : m ≤ 7) : okL l = true := okL_of (h.six h7) h.nd
theorem Ord.pc {m : Nat} {l : List Int} (h : Ord m l) (h7 : m ≤ 7) : pc (bitsOf l) = l.length := by
  have := okL_pc (h.ok h7) l.length (Nat.le_refl _)
  rwa [List.take_length] at this
theorem Ord.lt {m : Nat} {l : List Int} (h : Ord m l) (h7 : m ≤ 7) : bitsOf l < 2 ^ m := (bitsOf_pow (h.ok h7)).2 fun x hx => (h.mem x hx).2
theorem Ord.bit {m : Nat} {l : List Int} (h : Ord m l) (h7 : m ≤ 7) {v : Nat} (hv : v < m) : (bitsOf l).testBit v = l.contains (v : Int) := by
  have := bit_mem (h.six h7) (x := (v : Int)) (by omega) (by omega)
  rwa [Int.toNat_natCast] at this
theorem Ord.free {m : Nat} {l : List Int} (h : Ord m l) (h7 : m ≤ 7) (hl : l.length < m) : ∃ v, v < m ∧ (!(l.contains ((v : Nat) : Int))) = true := by
  refine Classical.byContradiction fun hno => ?_
  have hall : ∀ v, v < m → (bitsOf l).testBit v = true := fun v hv => by
    rw [h.bit h7 hv]
    cases hc : l.contains (v : Int) with
    | true => rfl
    | false => exact absurd ⟨v, hv, by rw [hc]; rfl⟩ hno
  have hp : 0 < 2 ^ m := Nat.pow_pos (by decide)
  have : bitsOf l = 2 ^ m - 1 := ext7 (n := m) (h.lt h7) (by omega) fun i hi => by
    rw [hall i hi, Nat.testBit_two_pow_sub_one]; simp [hi]
  have e := h.pc h7
  rw [this, pc_all m h7] at e
  omega
theorem Ord.snoc {m : Nat} {l : List Int} (h : Ord m l) (h7 : m ≤ 7) {v : Nat} (hv : v < m) (hc : l.contains (v : Int) = false) (hl : l.length < m) : Ord m (l ++ [(v : Int)]) ∧ bitsOf (l ++ [(v : Int)]) = bitsOf l + 2 ^ v := by
  have hb := h.bit h7 hv
  rw [hc] at hb
  refine ⟨⟨fun x hx => ?_, ?_, by simp; omega⟩, ?_⟩
  · rcases List.mem_append.1 hx with hx | hx
    · exact h.mem x hx
    · simp at hx; subst hx; omega
  · unfold List.Nodup
    rw [List.pairwise_append]
    refine ⟨h.nd, by simp, fun a ha b hb e => ?_⟩
    simp at hb
    subst hb
    subst e
    rw [List.contains_iff_mem.2 ha] at hc
    cases hc
  · rw [bitsOf_snoc, Int.toNat_natCast, Nat.mod_eq_of_lt (by omega), add_bit _ (bitsOf_lt l) v (by omega) hb]
theorem Ord.one {m v : Nat} (hv : v < m) (h7 : m ≤ 7) : Ord m [(v : Int)] ∧ bitsOf [(v : Int)] = 2 ^ v := by
  refine ⟨⟨fun x hx => ?_, by simp, by simp; omega⟩, ?_⟩
  · simp at hx; subst hx; omega
  · simp [bitsOf, Nat.mod_eq_of_lt (show v < 7 by omega)]

def avl (l : List Int) (v : Nat) : Bool := !(l.contains (v : Int))

theorem sLexBest (F : Nat) (hF : 20 ≤ F) {m : Nat} {R : Nat → Nat} (g : VG m R) {l : List Int} (h : Ord m l) :
    loopN (σ := Int × Int) (β := Int) (fun s => S_spec_LexOrder_l5 F (m : Int) (rowsOf m R) l ((bitsOf l : Nat) : Int) s.1 s.2) F (-1, 0) = some (bestI (bst (avl l) (lab R l) m)) := by
  have h7 := g.n7
  have hlb := bitsOf_lt l
  have hl := h.len
  rw [show ((-1 : Int), (0 : Int)) = (fun k : Nat => (bestI (bst (avl l) (lab R l) k), (k : Int))) 0 from rfl]
  rw [loop_from0 (fun k : Nat => (bestI (bst (avl l) (lab R l) k), (k : Int))) (bestI (bst (avl l) (lab R l) m)) m ?_ ?_ (by omega)]
  · intro k hk
    unfold S_spec_LexOrder_l5
    dsimp only
    rw [if_pos (by simp; omega), nnO_ok (by omega), obind, bit_nat0 (by omega) (by omega), h.bit h7 hk]
    unfold S_spec_LexOrder_j7 S_spec_LexOrder_j6
    rw [w64 (by omega) (by omega)]
    rw [show bst (avl l) (lab R l) (k + 1) = if (avl l k && better (lab R l) (bst (avl l) (lab R l) k) k) = true then some k else bst (avl l) (lab R l) k from rfl]
    rw [show avl l k = !(l.contains (k : Int)) from rfl]
    cases hc : l.contains (k : Int) with
    | true => simp
    | false =>
      simp only [Bool.not_false, if_true, Bool.true_and]
      cases ho : bst (avl l) (lab R l) k with
      | none =>
        rw [bestI_none, if_pos (by simp)]
        simp [better, bestI_some]
      | some b =>
        have hbk := (bst_in _ _ _ _ ho).1
        rw [bestI_some, if_neg (by simp)]
        rw [sLabel F (by omega) g h.mem (by omega) hk, obind, sLabel F (by omega) g h.mem (by omega) (show b < m by omega), obind, scale_lt]
        rw [show better (lab R l) (some b) k = decide (lab R l b < lab R l k) from rfl]
        cases decide (lab R l b < lab R l k) <;> simp [bestI_some]
  · unfold S_spec_LexOrder_l5
    dsimp only
    rw [if_neg (by simp)]

theorem iLexBest (F : Nat) (hF : 20 ≤ F) {m : Nat} {R : Nat → Nat} (g : VG m R) {l : List Int} (h : Ord m l) :
    loopN (σ := Int × Int × Int) (β := Int) (fun s => S_impl_greedyOrder__LexOrderc1_l4 F (m : Int) (m : Int) (rowsOf m R) l s.1 s.2.1 s.2.2) F (-1, -1, 0) = some (bestI (bst (avl l) (lab R l) m)) := by
  have h7 := g.n7
  have hl := h.len
  rw [show ((-1 : Int), (-1 : Int), (0 : Int)) = (fun k : Nat => (bestI (bst (avl l) (lab R l) k), mostI (lab R l) (bst (avl l) (lab R l) k), (k : Int))) 0 from rfl]
  rw [loop_from0 (fun k : Nat => (bestI (bst (avl l) (lab R l) k), mostI (lab R l) (bst (avl l) (lab R l) k), (k : Int))) (bestI (bst (avl l) (lab R l) m)) m ?_ ?_ (by omega)]
  · intro k hk
    unfold S_impl_greedyOrder__LexOrderc1_l4 S_impl_LexOrder_c1
    dsimp only
    rw [if_pos (by simp; omega), iLabel F (by omega) g h.mem (by omega) hk, obind, obind, idxContains F l _ (by omega) (by omega), obind, most_better]
    unfold S_impl_greedyOrder__LexOrderc1_j6 S_impl_greedyOrder__LexOrderc1_j5
    rw [w64 (by omega) (by omega)]
    rw [show bst (avl l) (lab R l) (k + 1) = if (avl l k && better (lab R l) (bst (avl l) (lab R l) k) k) = true then some k else bst (avl l) (lab R l) k from rfl]
    rw [show avl l k = !(l.contains (k : Int)) from rfl]
    cases hc : l.contains (k : Int) with
    | true => simp
    | false =>
      simp only [Bool.not_false, if_true, Bool.true_and]
      cases better (lab R l) (bst (avl l) (lab R l) k) k <;> simp [bestI, mostI]
  · unfold S_impl_greedyOrder__LexOrderc1_l4
    dsimp only
    rw [if_neg (by simp)]

theorem kLexOrder (F : Nat) (hF : 2097152 ≤ F) (n : Int) (hn : I64 n) (rows : List Int) (hr : Row64 rows) (st : Int) : ∃ r : List Int × Bool, r.1.length ≤ 7 ∧ S_spec_LexOrder F n rows st = some r ∧ S_impl_LexOrder F n rows st = some r := by
  unfold S_spec_LexOrder S_impl_LexOrder S_impl_greedyOrder__LexOrderc1
  rw [sIsGraph F (by omega) n rows hr, obind, iVertex F (by omega) n hn rows hr _ (by simp; omega) (by simp), obind]
  have hall : [st].all (fun v => inB v 0 (n - 1)) = inB st 0 (n - 1) := by simp
  rw [hall]
  unfold S_spec_LexOrder_j1
  by_cases hc : isG n rows = true ∧ 0 ≤ st ∧ st < n
  · obtain ⟨hG, h0, h1⟩ := hc
    obtain ⟨m, R, rfl, rfl, g⟩ := isG_elim hG
    have h7 := g.n7
    have hp := pow128 h7
    obtain ⟨v, rfl⟩ : ∃ v : Nat, st = v := ⟨st.toNat, by omega⟩
    rw [hG, inB_iff.2 (show (0 : Int) ≤ (v : Int) ∧ (v : Int) ≤ (m : Int) - 1 by omega)]
    rw [if_neg (by simp), if_neg (by simp), if_neg (by simp; omega), nnO_ok (by omega), obind, shL1 (by omega), if_neg (by simp)]
    obtain ⟨o1, b1⟩ := Ord.one (m := m) (v := v) (by omega) h7
    obtain ⟨r, q, e1, e2, rfl, hlen⟩ := loop_sim (b1 := fun s : List Int × Int => S_spec_LexOrder_l3 F (m : Int) (rowsOf m R) s.1 s.2) (b2 := fun s : List Int => S_impl_greedyOrder__LexOrderc1_l2 F (m : Int) (m : Int) (rowsOf m R) s)
      (fun a b => a = (b, ((bitsOf b : Nat) : Int)) ∧ Ord m b) (fun a => m - a.1.length) (fun a b => a = b ∧ a.length ≤ 7)
      (by
        rintro _ l ⟨rfl, ho⟩
        unfold S_spec_LexOrder_l3 S_impl_greedyOrder__LexOrderc1_l2
        dsimp only
        by_cases hlt : l.length < m
        · left
          rw [if_pos (by simp; omega), if_pos (by simp; omega), sLexBest F (by omega) g ho, obind, iLexBest F (by omega) g ho, obind]
          cases hb : bst (avl l) (lab R l) m with
          | none =>
            obtain ⟨u, hu, ha⟩ := ho.free h7 hlt
            have := bst_none _ _ _ hb u hu
            unfold avl at this
            rw [this] at ha
            cases ha
          | some u =>
            obtain ⟨hu, hau⟩ := bst_in _ _ _ _ hb
            unfold avl at hau
            have hcu : l.contains (u : Int) = false := by simpa using hau
            obtain ⟨o2, e2⟩ := ho.snoc h7 hu hcu hlt
            have hlt2 := o2.lt h7
            unfold S_spec_LexOrder_j4 S_impl_greedyOrder__LexOrderc1_j3 bestI
            dsimp only
            rw [catO_ok (by simp; omega), obind, obind, nnO_ok (by omega), obind, shL1 (by omega)]
            rw [e2] at hlt2
            have e3 : IntKind.i64.wrap (((bitsOf l : Nat) : Int) + ((2 ^ u : Nat) : Int)) = ((bitsOf (l ++ [(u : Int)]) : Nat) : Int) := by
              rw [e2]
              generalize 2 ^ u = q at *
              rw [w64 (by omega) (by omega)]; simp
            rw [e3]
            exact ⟨_, _, rfl, rfl, ⟨rfl, o2⟩, by simp; omega⟩
        · right
          rw [if_neg (by simp; omega), if_neg (by simp; omega)]
          exact ⟨_, _, rfl, rfl, rfl, by have := ho.len; omega⟩)
      F ([(v : Int)], ((2 ^ v : Nat) : Int)) [(v : Int)] ⟨by rw [b1], o1⟩ (by simp; omega)
    rw [e1, e2, obind, obind]
    exact ⟨(r, true), hlen, rfl, rfl⟩
  · refine ⟨([], false), by simp, ?_, ?_⟩
    · cases hG : isG n rows with
      | false => rfl
      | true =>
        rw [if_neg (by simp)]
        by_cases a1 : st < 0
        · rw [if_pos (by simpa using a1), if_pos rfl]
        rw [if_neg (by simpa using a1)]
        have a2 : n ≤ st := by
          rw [hG] at hc
          simp only [true_and, not_and] at hc
          omega
        rw [if_pos (by simpa using a2)]
    · have : (isG n rows && inB st 0 (n - 1)) = false := by
        rw [← Bool.not_eq_true, Bool.and_eq_true, inB_iff]
        intro ⟨h1, h2, h3⟩
        exact hc ⟨h1, h2, by omega⟩
      rw [this]
      rfl

end Go.Proofs.Ytilfniehellmmaa
