/- Proved here: orders by cardinality: both programs compute the same. -/
import Derived.Test.YtilfniehellmmaaPgreed
namespace Go.Proofs.Ytilfniehellmmaa
open Go Go.RowKit
set_option linter.unusedVariables false
set_option linter.unusedSimpArgs false

def crd (R : Nat → Nat) (l : List Int) (v : Nat) : Nat := (listN ((R v &&& bitsOf l : Nat) : Int)).length

theorem sCardBest (F : Nat) (hF : 20 ≤ F) {m : Nat} {R : Nat → Nat} (g : VG m R) {l : List Int} (h : Ord m l) :
    loopN (σ := Int × Int × Int) (β := Int) (fun s => S_spec_CardinalityOrder_l5 F (m : Int) (rowsOf m R) ((bitsOf l : Nat) : Int) s.1 s.2.1 s.2.2) F (-1, -1, 0) = some (bestI (bst (avl l) (crd R l) m)) := by
  have h7 := g.n7
  have hl := h.len
  have hlb := bitsOf_lt l
  rw [show ((-1 : Int), (-1 : Int), (0 : Int)) = (fun k : Nat => (bestI (bst (avl l) (crd R l) k), mostI (crd R l) (bst (avl l) (crd R l) k), (k : Int))) 0 from rfl]
  rw [loop_from0 (fun k : Nat => (bestI (bst (avl l) (crd R l) k), mostI (crd R l) (bst (avl l) (crd R l) k), (k : Int))) (bestI (bst (avl l) (crd R l) m)) m ?_ ?_ (by omega)]
  · intro k hk
    unfold S_spec_CardinalityOrder_l5 S_spec_CountSet
    dsimp only
    have hb := g.b128 hk
    have ha : R k &&& bitsOf l < 128 := and_lt128 hb
    rw [if_pos (by simp; omega), rowsOf_idx hk, obind, bAnd_nat _ _ (by omega) (by omega), sListOf F (by omega) _ (by unfold I64; omega), obind, obind, nnO_ok (by omega), obind, bit_nat0 (by omega) (by omega), h.bit h7 hk]
    rw [show ((listN ((R k &&& bitsOf l : Nat) : Int)).length : Int) = ((crd R l k : Nat) : Int) from rfl, most_better]
    unfold S_spec_CardinalityOrder_j7 S_spec_CardinalityOrder_j6
    rw [w64 (by omega) (by omega)]
    rw [show bst (avl l) (crd R l) (k + 1) = if (avl l k && better (crd R l) (bst (avl l) (crd R l) k) k) = true then some k else bst (avl l) (crd R l) k from rfl]
    rw [show avl l k = !(l.contains (k : Int)) from rfl]
    cases hc : l.contains (k : Int) with
    | true => simp
    | false =>
      simp only [Bool.not_false, if_true, Bool.true_and]
      cases better (crd R l) (bst (avl l) (crd R l) k) k <;> simp [bestI, mostI]
  · unfold S_spec_CardinalityOrder_l5
    dsimp only
    rw [if_neg (by simp)]

theorem iCardBest (F : Nat) (hF : 20 ≤ F) {m : Nat} {R : Nat → Nat} (g : VG m R) {l : List Int} (h : Ord m l) :
    loopN (σ := Int × Int × Int) (β := Int) (fun s => S_impl_greedyOrder__CardinalityOrderc1_l4 F (m : Int) (m : Int) (rowsOf m R) l s.1 s.2.1 s.2.2) F (-1, -1, 0) = some (bestI (bst (avl l) (crd R l) m)) := by
  have h7 := g.n7
  have hl := h.len
  have hlb := bitsOf_lt l
  rw [show ((-1 : Int), (-1 : Int), (0 : Int)) = (fun k : Nat => (bestI (bst (avl l) (crd R l) k), mostI (crd R l) (bst (avl l) (crd R l) k), (k : Int))) 0 from rfl]
  rw [loop_from0 (fun k : Nat => (bestI (bst (avl l) (crd R l) k), mostI (crd R l) (bst (avl l) (crd R l) k), (k : Int))) (bestI (bst (avl l) (crd R l) m)) m ?_ ?_ (by omega)]
  · intro k hk
    unfold S_impl_greedyOrder__CardinalityOrderc1_l4 S_impl_CardinalityOrder_c1 S_impl_CountSet
    dsimp only
    have hb := g.b128 hk
    have ha : R k &&& bitsOf l < 128 := and_lt128 hb
    rw [if_pos (by simp; omega), iSetOf F l (by omega) (by omega), obind]
    rw [show setOf l = (((bitsOf l : Nat) : Int), true) by unfold setOf; rw [if_pos (h.ok h7)]]
    dsimp only
    rw [rowsOf_idx hk, obind, bAnd_nat _ _ (by omega) (by omega), iListOf F (by omega) _ (by unfold I64; omega), obind, obind, obind, idxContains F l _ (by omega) (by omega), obind]
    rw [show ((listN ((R k &&& bitsOf l : Nat) : Int)).length : Int) = ((crd R l k : Nat) : Int) from rfl, most_better]
    unfold S_impl_greedyOrder__CardinalityOrderc1_j6 S_impl_greedyOrder__CardinalityOrderc1_j5
    rw [w64 (by omega) (by omega)]
    rw [show bst (avl l) (crd R l) (k + 1) = if (avl l k && better (crd R l) (bst (avl l) (crd R l) k) k) = true then some k else bst (avl l) (crd R l) k from rfl]
    rw [show avl l k = !(l.contains (k : Int)) from rfl]
    cases hc : l.contains (k : Int) with
    | true => simp
    | false =>
      simp only [Bool.not_false, if_true, Bool.true_and]
      cases better (crd R l) (bst (avl l) (crd R l) k) k <;> simp [bestI, mostI]
  · unfold S_impl_greedyOrder__CardinalityOrderc1_l4
    dsimp only
    rw [if_neg (by simp)]

theorem kCardinalityOrder (F : Nat) (hF : 2097152 ≤ F) (n : Int) (hn : I64 n) (rows : List Int) (hr : Row64 rows) (st : Int) : ∃ r : List Int × Bool, r.1.length ≤ 7 ∧ S_spec_CardinalityOrder F n rows st = some r ∧ S_impl_CardinalityOrder F n rows st = some r := by
  unfold S_spec_CardinalityOrder S_impl_CardinalityOrder S_impl_greedyOrder__CardinalityOrderc1
  rw [sIsGraph F (by omega) n rows hr, obind, iVertex F (by omega) n hn rows hr _ (by simp; omega) (by simp), obind]
  have hall : [st].all (fun v => inB v 0 (n - 1)) = inB st 0 (n - 1) := by simp
  rw [hall]
  unfold S_spec_CardinalityOrder_j1
  by_cases hc : isG n rows = true ∧ 0 ≤ st ∧ st < n
  · obtain ⟨hG, h0, h1⟩ := hc
    obtain ⟨m, R, rfl, rfl, g⟩ := isG_elim hG
    have h7 := g.n7
    have hp := pow128 h7
    obtain ⟨v, rfl⟩ : ∃ v : Nat, st = v := ⟨st.toNat, by omega⟩
    rw [hG, inB_iff.2 (show (0 : Int) ≤ (v : Int) ∧ (v : Int) ≤ (m : Int) - 1 by omega)]
    rw [if_neg (by simp), if_neg (by simp), if_neg (by simp; omega), nnO_ok (by omega), obind, shL1 (by omega), if_neg (by simp)]
    obtain ⟨o1, b1⟩ := Ord.one (m := m) (v := v) (by omega) h7
    obtain ⟨r, q, e1, e2, rfl, hlen⟩ := loop_sim (b1 := fun s : List Int × Int => S_spec_CardinalityOrder_l3 F (m : Int) (rowsOf m R) s.1 s.2) (b2 := fun s : List Int => S_impl_greedyOrder__CardinalityOrderc1_l2 F (m : Int) (m : Int) (rowsOf m R) s)
      (fun a b => a = (b, ((bitsOf b : Nat) : Int)) ∧ Ord m b) (fun a => m - a.1.length) (fun a b => a = b ∧ a.length ≤ 7)
      (by
        rintro _ l ⟨rfl, ho⟩
        unfold S_spec_CardinalityOrder_l3 S_impl_greedyOrder__CardinalityOrderc1_l2
        dsimp only
        by_cases hlt : l.length < m
        · left
          rw [if_pos (by simp; omega), if_pos (by simp; omega), sCardBest F (by omega) g ho, obind, iCardBest F (by omega) g ho, obind]
          cases hb : bst (avl l) (crd R l) m with
          | none =>
            obtain ⟨u, hu, ha⟩ := ho.free h7 hlt
            have := bst_none _ _ _ hb u hu
            unfold avl at this
            rw [this] at ha
            cases ha
          | some u =>
            obtain ⟨hu, hau⟩ := bst_in _ _ _ _ hb
            unfold avl at hau
            have hcu : l.contains (u : Int) = false := by simpa using hau
            obtain ⟨o2, e2⟩ := ho.snoc h7 hu hcu hlt
            have hlt2 := o2.lt h7
            unfold S_spec_CardinalityOrder_j4 S_impl_greedyOrder__CardinalityOrderc1_j3 bestI
            dsimp only
            rw [catO_ok (by simp; omega), obind, obind, nnO_ok (by omega), obind, shL1 (by omega)]
            rw [e2] at hlt2
            have e3 : IntKind.i64.wrap (((bitsOf l : Nat) : Int) + ((2 ^ u : Nat) : Int)) = ((bitsOf (l ++ [(u : Int)]) : Nat) : Int) := by
              rw [e2]
              generalize 2 ^ u = q at *
              rw [w64 (by omega) (by omega)]; simp
            rw [e3]
            exact ⟨_, _, rfl, rfl, ⟨rfl, o2⟩, by simp; omega⟩
        · right
          rw [if_neg (by simp; omega), if_neg (by simp; omega)]
          exact ⟨_, _, rfl, rfl, rfl, by have := ho.len; omega⟩)
      F ([(v : Int)], ((2 ^ v : Nat) : Int)) [(v : Int)] ⟨by rw [b1], o1⟩ (by simp; omega)
    rw [e1, e2, obind, obind]
    exact ⟨(r, true), hlen, rfl, rfl⟩
  · refine ⟨([], false), by simp, ?_, ?_⟩
    · cases hG : isG n rows with
      | false => rfl
      | true =>
        rw [if_neg (by simp)]
        by_cases a1 : st < 0
        · rw [if_pos (by simpa using a1), if_pos rfl]
        rw [if_neg (by simpa using a1)]
        have a2 : n ≤ st := by
          rw [hG] at hc
          simp only [true_and, not_and] at hc
          omega
        rw [if_pos (by simpa using a2)]
    · have : (isG n rows && inB st 0 (n - 1)) = false := by
        rw [← Bool.not_eq_true, Bool.and_eq_true, inB_iff]
        intro ⟨h1, h2, h3⟩
        exact hc ⟨h1, h2, by omega⟩
      rw [this]
      rfl

end Go.Proofs.Ytilfniehellmmaa
