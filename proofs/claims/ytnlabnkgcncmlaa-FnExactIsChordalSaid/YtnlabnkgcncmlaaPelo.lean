/- Proved here: eliminations of graphs: both programs take the same vertices. -/
import Derived.Test.YtnlabnkgcncmlaaPelim
namespace Go.Proofs.Ytnlabnkgcncmlaa
open Go Go.RowKit
set_option linter.unusedVariables false
set_option linter.unusedSimpArgs false

def cand (m : Nat) (R : Nat → Nat) (z v : Nat) : Bool := z.testBit v && cliq m R (R v &&& z)
def fnd (q : Nat → Bool) (m lo : Nat) : Option Nat := (List.range' lo (m - lo)).find? q
theorem fnd_end (q : Nat → Bool) (m : Nat) : fnd q m m = none := by simp [fnd]
theorem fnd_step (q : Nat → Bool) {m lo : Nat} (h : lo < m) : fnd q m lo = if q lo = true then some lo else fnd q m (lo + 1) := by
  unfold fnd
  obtain ⟨d, hd⟩ : ∃ d, m - lo = d + 1 := ⟨m - lo - 1, by omega⟩
  rw [hd, List.range'_succ, show m - (lo + 1) = d by omega, List.find?_cons]
  cases q lo <;> simp
theorem fnd_first {q : Nat → Bool} {m : Nat} : ∀ {lo : Nat}, lo ≤ m → (∀ v, fnd q m lo = some v → lo ≤ v ∧ v < m ∧ q v = true ∧ ∀ u, lo ≤ u → u < v → q u = false) ∧ (fnd q m lo = none → ∀ u, lo ≤ u → u < m → q u = false) := by
  intro lo hlo
  generalize hd : m - lo = d
  induction d generalizing lo with
  | zero =>
    obtain rfl : lo = m := by omega
    rw [fnd_end]
    exact ⟨fun v h => (by cases h), fun _ u h1 h2 => by omega⟩
  | succ d ih =>
    obtain ⟨i1, i2⟩ := ih (lo := lo + 1) (by omega) (by omega)
    rw [fnd_step q (show lo < m by omega)]
    cases hq : q lo with
    | true =>
      rw [if_pos rfl]
      exact ⟨fun v h => by cases h; exact ⟨by omega, by omega, hq, fun u h1 h2 => by omega⟩, fun h => by cases h⟩
    | false =>
      rw [if_neg (by simp)]
      refine ⟨fun v h => ?_, fun h u h1 h2 => ?_⟩
      · obtain ⟨a, b, c, e⟩ := i1 v h
        refine ⟨by omega, b, c, fun u h1 h2 => ?_⟩
        by_cases eu : u = lo
        · rw [eu]; exact hq
        · exact e u (by omega) h2
      · by_cases eu : u = lo
        · rw [eu]; exact hq
        · exact i2 h u (by omega) h2

def optI (o : Option Nat) : Int := o.elim (-1) fun v => (v : Int)

theorem selN_lt (n : Nat) (p : Nat → Bool) : (selN n p).Pairwise (· < ·) := by
  unfold selN
  rw [List.pairwise_map]
  refine List.Pairwise.imp (R := fun (a b : Nat) => a < b) (fun h => by omega) ?_
  exact List.Pairwise.filter _ List.pairwise_lt_range

theorem bit_off : ∀ s, s < 128 → ∀ v, v < 7 → s.testBit v = true → s - 2 ^ v = ndiff s (2 ^ v) ∧ 2 ^ v ≤ s ∧ pc (s - 2 ^ v) + 1 = pc s := by decide +kernel

/-- The program's search for the first vertex of a set for which something holds. -/
theorem iFirst (F : Nat) (hF : 20 ≤ F) {m : Nat} {R : Nat → Nat} (g : VG m R) {z : Nat} (hz : z < 2 ^ m) :
    ∃ r : Int, S_slices_IndexFunc_int__EliminationOfc1 F (selN 7 z.testBit) (m : Int) (rowsOf m R) (z : Int) = some r ∧ ((r = -1 ∧ fnd (cand m R z) m 0 = none) ∨ (∃ k v : Nat, r = (k : Int) ∧ k < (selN 7 z.testBit).length ∧ (selN 7 z.testBit).getD k 0 = (v : Int) ∧ fnd (cand m R z) m 0 = some v)) := by
  have h7 := g.n7
  have hp := pow128 h7
  have hl := selN_len 7 z.testBit
  have hel : ∀ k, k < (selN 7 z.testBit).length → ∃ v : Nat, (selN 7 z.testBit).getD k 0 = (v : Int) ∧ v < m ∧ z.testBit v = true := fun k hk => by
    obtain ⟨v, _, hb, e⟩ := mem_selN.1 (getD_mem hk)
    exact ⟨v, e, bit_lt hz hb, hb⟩
  have hstep : ∀ k : Nat, k < (selN 7 z.testBit).length → S_slices_IndexFunc_int__EliminationOfc1_l2 F (selN 7 z.testBit) (m : Int) (rowsOf m R) (z : Int) (k : Int) = some (if cand m R z ((selN 7 z.testBit).getD k 0).toNat = true then .inr (.inr (k : Int)) else .inl ((k + 1 : Nat) : Int)) := fun k hk => by
    obtain ⟨v, e, hv, hb⟩ := hel k hk
    have hbv := g.b128 hv
    unfold S_slices_IndexFunc_int__EliminationOfc1_l2 S_impl_EliminationOf_c1
    rw [if_pos (by simpa using hk), idxL_getD hk, obind, e, rowsOf_idx hv, obind, bAnd_nat _ _ (by omega) (by omega), iClique F (by omega) g (Nat.lt_of_le_of_lt Nat.and_le_right hz), obind, obind, Int.toNat_natCast, w64 (by omega) (by omega)]
    unfold cand
    rw [hb, Bool.true_and]
    cases cliq m R (R v &&& z) <;> simp
  unfold S_slices_IndexFunc_int__EliminationOfc1
  obtain ⟨r, hr, hh⟩ := loop_scan (body := fun s => S_slices_IndexFunc_int__EliminationOfc1_l2 F (selN 7 z.testBit) (m : Int) (rowsOf m R) (z : Int) s) (fun k : Nat => (k : Int)) (.inl ()) (fun k => .inr (k : Int)) (fun k => !(cand m R z ((selN 7 z.testBit).getD k 0).toNat)) (selN 7 z.testBit).length 0
    (fun k _ hk hq => by rw [hstep k (by omega), if_neg (by simpa using hq)])
    (fun k _ hk hq => by rw [hstep k (by omega), if_pos (by simpa using hq)])
    (by unfold S_slices_IndexFunc_int__EliminationOfc1_l2; simp) F (by omega)
  rw [show (((0 : Nat) : Int)) = 0 from rfl] at hr
  rw [hr, obind]
  obtain ⟨f1, f2⟩ := fnd_first (q := cand m R z) (m := m) (lo := 0) (by omega)
  have hin : ∀ u, u < m → cand m R z u = true → ∃ j, j < (selN 7 z.testBit).length ∧ (selN 7 z.testBit).getD j 0 = (u : Int) := fun u hu hc => by
    unfold cand at hc
    rw [Bool.and_eq_true] at hc
    obtain ⟨j, hj, e⟩ := List.mem_iff_getElem.1 (mem_selN.2 ⟨u, by omega, hc.1, rfl⟩ : (u : Int) ∈ selN 7 z.testBit)
    exact ⟨j, hj, by simp [hj, e]⟩
  rcases hh with ⟨h1, rfl⟩ | ⟨k, _, hk, hq, hbef, rfl⟩
  · refine ⟨-1, rfl, .inl ⟨rfl, ?_⟩⟩
    cases hf : fnd (cand m R z) m 0 with
    | none => rfl
    | some v =>
      obtain ⟨_, b, c, _⟩ := f1 v hf
      obtain ⟨j, hj, e⟩ := hin v b c
      have := h1 j (by omega) (by omega)
      rw [e, Int.toNat_natCast, c] at this
      cases this
  · refine ⟨(k : Int), rfl, .inr ?_⟩
    have hkl : k < (selN 7 z.testBit).length := by omega
    obtain ⟨v, e, hv, hb⟩ := hel k hkl
    refine ⟨k, v, rfl, hkl, e, ?_⟩
    have hcv : cand m R z v = true := by
      rw [e, Int.toNat_natCast] at hq
      simpa using hq
    cases hf : fnd (cand m R z) m 0 with
    | none =>
      have := f2 hf v (by omega) hv
      rw [hcv] at this; cases this
    | some u =>
      obtain ⟨_, b, c, d⟩ := f1 u hf
      obtain ⟨j, hj, eu⟩ := hin u b c
      have hle : u ≤ v := by
        apply Nat.le_of_not_lt
        intro hlt
        have := d v (by omega) hlt
        rw [hcv] at this; cases this
      have hjk : ¬ j < k := fun hlt => by
        have := hbef j (by omega) hlt
        rw [eu, Int.toNat_natCast, c] at this
        cases this
      have hmono : ¬ k < j := fun hlt => by
        have := List.pairwise_iff_getElem.1 (selN_lt 7 z.testBit) k j hkl hj hlt
        have a1 : (selN 7 z.testBit).getD k 0 = (selN 7 z.testBit)[k] := by simp [hkl]
        have a2 : (selN 7 z.testBit).getD j 0 = (selN 7 z.testBit)[j] := by simp [hj]
        omega
      have : j = k := by omega
      subst this
      rw [e] at eu
      congr 1
      omega

/-- The reference's search, from the last vertex down. -/
theorem sFirst (F : Nat) (hF : 20 ≤ F) {m : Nat} {R : Nat → Nat} (g : VG m R) {z : Nat} (hz : z < 2 ^ m) :
    loopN (σ := Int × Int) (β := Int) (fun s => S_spec_EliminationOf_l4 F (m : Int) (rowsOf m R) (z : Int) s.1 s.2) F (-1, (m : Int) - 1) = some (optI (fnd (cand m R z) m 0)) := by
  have h7 := g.n7
  have hp := pow128 h7
  rw [show ((-1 : Int), (m : Int) - 1) = (fun k : Nat => (optI (fnd (cand m R z) m (m - k)), (m : Int) - 1 - (k : Int))) 0 by simp [fnd_end, optI]]
  rw [loop_from0 (fun k : Nat => (optI (fnd (cand m R z) m (m - k)), (m : Int) - 1 - (k : Int))) (optI (fnd (cand m R z) m 0)) m ?_ ?_ (by omega)]
  · intro k hk
    unfold S_spec_EliminationOf_l4
    dsimp only
    obtain ⟨v, hv⟩ : ∃ v : Nat, v = m - 1 - k := ⟨_, rfl⟩
    have e : (m : Int) - 1 - (k : Int) = (v : Int) := by omega
    have hvm : v < m := by omega
    rw [e, if_pos (by simp), nnO_ok (by omega), obind, bit_nat (by omega) (by omega)]
    rw [show m - (k + 1) = v by omega, fnd_step (cand m R z) hvm, show v + 1 = m - k by omega]
    unfold S_spec_EliminationOf_j6 S_spec_EliminationOf_j5
    rw [w64 (by omega) (by omega), show (m : Int) - 1 - ((k + 1 : Nat) : Int) = (v : Int) - 1 by omega]
    unfold cand
    cases hb : z.testBit v with
    | false => simp
    | true =>
      rw [if_pos rfl, sSimp F (by omega) g hvm hz, obind]
      cases cliq m R (R v &&& z) with
      | false => simp
      | true => simp [optI]
  · unfold S_spec_EliminationOf_l4
    dsimp only
    rw [if_neg (by simp; omega), show m - m = 0 by omega]

theorem kEliminationOf (F : Nat) (hF : 2097152 ≤ F) (n : Int) (rows : List Int) (hr : Row64 rows) : ∃ r : List Int × Bool, r.1.length ≤ 7 ∧ S_spec_EliminationOf F n rows = some r ∧ S_impl_EliminationOf F n rows = some r := by
  unfold S_spec_EliminationOf S_impl_EliminationOf
  rw [sIsGraph F (by omega) n rows hr, iIsGraph F (by omega) n rows hr, obind, obind]
  cases hG : isG n rows with
  | false => exact ⟨([], false), by simp, rfl, rfl⟩
  | true =>
    obtain ⟨m, R, rfl, rfl, g⟩ := isG_elim hG
    have h7 := g.n7
    have h1 := g.n1
    have hp := pow128 h7
    have hpos : 0 < 2 ^ m := Nat.pow_pos (by decide)
    rw [if_neg (by simp), if_neg (by simp), nnO_ok (by omega), obind, shL1 (by omega), iAll F h7, obind]
    rw [show IntKind.i64.wrap (((2 ^ m : Nat) : Int) - 1) = ((2 ^ m - 1 : Nat) : Int) by
      generalize 2 ^ m = q at *
      rw [w64 (by omega) (by omega)]; omega]
    obtain ⟨r, q, e1, e2, ho⟩ := loop_sim (b1 := fun s : List Int × Int => S_spec_EliminationOf_l2 F (m : Int) (rowsOf m R) s.1 s.2) (b2 := fun s : List Int × Int => S_impl_EliminationOf_l2 F (m : Int) (rowsOf m R) s.1 s.2)
      (fun a b => a = b ∧ ∃ z : Nat, a.2 = (z : Int) ∧ z < 2 ^ m ∧ a.1.length + pc z ≤ 7) (fun a => a.2.toNat) (fun a b => a = b ∧ (∀ o, a = .inl o → o.length ≤ 7) ∧ ∀ o, a = .inr o → o.1.length ≤ 7)
      (by
        rintro ⟨l, x⟩ t ⟨rfl, z, hx, hz, hlen⟩
        dsimp only at hx hlen ⊢
        subst hx
        unfold S_spec_EliminationOf_l2 S_impl_EliminationOf_l2
        by_cases h0 : z = 0
        · right
          subst h0
          rw [if_neg (by simp), if_neg (by simp)]
          refine ⟨_, _, rfl, rfl, rfl, fun o e => ?_, fun o e => (by cases e)⟩
          cases e; omega
        · rw [if_pos (by simp; omega), if_pos (by simp; omega), w64 (n := (m : Int) - 1) (by omega) (by omega), sFirst F (by omega) g hz, obind, iListOf F (by omega) _ (by unfold I64; omega), obind, listN_nat hz h7]
          obtain ⟨i, e1, hh⟩ := iFirst F (by omega) g hz
          rw [e1, obind]
          rcases hh with ⟨rfl, hf⟩ | ⟨k, v, rfl, hk, e, hf⟩
          · right
            rw [hf, if_pos (by simp)]
            unfold S_spec_EliminationOf_j3 optI
            exact ⟨_, _, rfl, rfl, rfl, fun o e => (by cases e), fun o e => (by cases e; simp)⟩
          · left
            obtain ⟨f1, _⟩ := fnd_first (q := cand m R z) (m := m) (lo := 0) (by omega)
            obtain ⟨_, hv, hc, _⟩ := f1 v hf
            have hb : z.testBit v = true := by
              unfold cand at hc
              rw [Bool.and_eq_true] at hc
              exact hc.1
            obtain ⟨o1, o2, o3⟩ := bit_off z (by omega) v (by omega) hb
            have hv64 := pow_le64 v (by omega)
            have hpv : 0 < 2 ^ v := Nat.pow_pos (by decide)
            rw [hf, if_neg (show ¬ decide ((k : Int) < 0) = true by simp), obind, idxL_getD hk, obind, e, nnO_ok (by omega), obind, catO_ok (by simp; omega), obind, shL1 (by omega), bAndNot_nat _ _ (by omega) (by omega), ← o1]
            unfold S_spec_EliminationOf_j3
            rw [show optI (some v) = (v : Int) from rfl]
            rw [if_neg (by simp), catO_ok (by simp; omega), obind, nnO_ok (by omega), obind, shL1 (by omega)]
            have e3 : IntKind.i64.wrap ((z : Int) - ((2 ^ v : Nat) : Int)) = ((z - 2 ^ v : Nat) : Int) := by
              generalize 2 ^ v = q at *
              rw [w64 (by omega) (by omega)]; omega
            rw [e3]
            generalize 2 ^ v = q at *
            refine ⟨_, _, rfl, rfl, ⟨rfl, z - q, rfl, by omega, ?_⟩, by dsimp only; omega⟩
            simp only [List.length_append, List.length_cons, List.length_nil]
            omega)
      F ([], ((2 ^ m - 1 : Nat) : Int)) ([], ((2 ^ m - 1 : Nat) : Int)) ⟨rfl, _, rfl, by omega, by
        have := pc_le m h7 (2 ^ m - 1) (by omega)
        simp; omega⟩ (by dsimp only; omega)
    obtain ⟨rfl, ho1, ho2⟩ := ho
    rw [e1, e2, obind, obind]
    cases r with
    | inl o => exact ⟨_, ho1 o rfl, rfl, rfl⟩
    | inr o => exact ⟨_, ho2 o rfl, rfl, rfl⟩

theorem P_FnExactEliminationOf (F : Nat) (hF : 2097152 ≤ F) (n : Int) (rows : List Int) (hn : I64 n) (hr : ∀ x, x ∈ rows → I64 x) (hm : rows.length ≤ maxLen) : S_laws_FnExactEliminationOf F n rows = some true := by
  unfold S_laws_FnExactEliminationOf
  rw [szGraph F n rows _ (by omega) (by omega) hm, obind]
  by_cases hl : (1048576 : Int) < (rows.length : Int)
  · simp [hl]
  · obtain ⟨⟨a, b⟩, hlen, h1, h2⟩ := kEliminationOf F hF n rows hr
    dsimp only at hlen
    have T := toGraph F n rows (by omega) (by omega)
    have E1 := eqInts F a a (by omega) (by omega)
    have E2 := eqGraph F n rows n rows (by omega) (by omega)
    have M1 := markGraph F n rows 1 (by omega) (by omega) (by omega)
    have M2 := markInts F a 1 (by omega) (by omega) (by omega)
    have H := heldInts F a.length 1 (by omega) (by omega) (by omega)
    rw [if_neg hl, if_neg (by simpa using sz_neg rows hl)]
    simp only [S_laws_FnExactEliminationOf_j1, S_laws_FnExactEliminationOf_j2, S_laws_FnExactEliminationOf_j3, T, obind, h1, h2, E1, E2, M1, M2, H, decide_true, and_self, Bool.not_true, Bool.false_eq_true, if_false, bne_self_eq_false]
    simp [nlt1]

theorem P_FnExactIsChordal (F : Nat) (hF : 2097152 ≤ F) (n : Int) (rows : List Int) (hn : I64 n) (hr : ∀ x, x ∈ rows → I64 x) (hm : rows.length ≤ maxLen) : S_laws_FnExactIsChordal F n rows = some true := by
  unfold S_laws_FnExactIsChordal
  rw [szGraph F n rows _ (by omega) (by omega) hm, obind]
  by_cases hl : (1048576 : Int) < (rows.length : Int)
  · simp [hl]
  · obtain ⟨⟨a, b⟩, hlen, h1, h2⟩ := kEliminationOf F hF n rows hr
    have s1 : S_spec_IsChordal F n rows = some b := by unfold S_spec_IsChordal; rw [h1]; rfl
    have s2 : S_impl_IsChordal F n rows = some b := by unfold S_impl_IsChordal; rw [h2]; rfl
    rw [if_neg hl, if_neg (by simpa using sz_neg rows hl), toGraph F n rows (by omega) (by omega)]
    simp (disch := omega) only [obind, s1, s2, eqGraph]
    simp

end Go.Proofs.Ytnlabnkgcncmlaa
