/- Proved here: canonical cycles: both programs compute the same. -/
import Derived.Test.YtilfniehellmmaaPord
namespace Go.Proofs.Ytilfniehellmmaa
open Go Go.RowKit
set_option linter.unusedVariables false
set_option linter.unusedSimpArgs false

/-- k is the first place of the least number. -/
def FirstMin (l : List Int) (i k : Nat) : Prop := (∀ j, j < i → l.getD k 0 ≤ l.getD j 0) ∧ (∀ j, j < k → l.getD k 0 < l.getD j 0) ∧ k < l.length ∧ (k = 0 ∨ k < i)

def nxt (n k : Nat) (c : Bool) (i : Nat) : Nat := if c = true then (k + i) % n else (k + n - i) % n
def cyc (l : List Int) (k : Nat) (c : Bool) (i : Nat) : List Int := (List.range i).map fun j => l.getD (nxt l.length k c j) 0
theorem cyc_len (l : List Int) (k : Nat) (c : Bool) (i : Nat) : (cyc l k c i).length = i := by simp [cyc]
theorem cyc_succ (l : List Int) (k : Nat) (c : Bool) (i : Nat) : cyc l k c (i + 1) = cyc l k c i ++ [l.getD (nxt l.length k c i) 0] := by simp [cyc, List.range_succ]

theorem sMin (F : Nat) (l : List Int) (h0 : 0 < l.length) (h20 : l.length ≤ 20) (hF : 30 ≤ F) : ∃ k : Nat, FirstMin l l.length k ∧ loopN (σ := Int × Int) (β := Int) (fun s => S_spec_CanonicalCycle_l6 F l s.1 s.2) F (0, 0) = some (k : Int) := by
  obtain ⟨b, hb, hh⟩ := loop_meas (body := fun s : Int × Int => S_spec_CanonicalCycle_l6 F l s.1 s.2) (fun s => ∃ k i : Nat, s = ((k : Int), (i : Int)) ∧ i ≤ l.length ∧ FirstMin l i k) (fun s => l.length - s.2.toNat) (fun b => ∃ k : Nat, FirstMin l l.length k ∧ b = (k : Int))
    (by
      rintro _ ⟨k, i, rfl, hi, hf⟩
      unfold S_spec_CanonicalCycle_l6
      dsimp only
      obtain ⟨f1, f2, f3, f4⟩ := hf
      by_cases h : i < l.length
      · left
        rw [if_pos (by simpa using h), idxL_getD h, obind, idxL_getD f3, obind]
        unfold S_spec_CanonicalCycle_j7
        rw [w64 (by omega) (by omega)]
        by_cases hlt : l.getD i 0 < l.getD k 0
        · rw [if_pos (by simpa using hlt)]
          refine ⟨_, rfl, ⟨i, i + 1, by simp, by omega, fun j hj => ?_, fun j hj => ?_, h, .inr (by omega)⟩, by dsimp only; omega⟩
          · by_cases e : j = i
            · rw [e]; omega
            · have := f1 j (by omega); omega
          · have := f1 j hj; omega
        · rw [if_neg (by simpa using hlt)]
          refine ⟨_, rfl, ⟨k, i + 1, by simp, by omega, fun j hj => ?_, f2, f3, by omega⟩, by dsimp only; omega⟩
          by_cases e : j = i
          · rw [e]; omega
          · exact f1 j (by omega)
      · right
        rw [if_neg (by simpa using h)]
        have : i = l.length := by omega
        subst this
        exact ⟨_, rfl, k, ⟨f1, f2, f3, f4⟩, rfl⟩)
    F (0, 0) ⟨0, 0, rfl, by omega, fun j hj => by omega, fun j hj => by omega, h0, .inl rfl⟩ (by dsimp only; omega)
  obtain ⟨k, hk, rfl⟩ := hh
  exact ⟨k, hk, hb⟩

theorem iMin (F : Nat) (l : List Int) (h0 : 0 < l.length) (h20 : l.length ≤ 20) (hF : 30 ≤ F) : ∃ m : Int, S_slices_Min_int F l = some m ∧ (∀ j, j < l.length → m ≤ l.getD j 0) ∧ ∃ j, j < l.length ∧ l.getD j 0 = m := by
  unfold S_slices_Min_int
  rw [if_neg (by simp; omega)]
  have i0 := idxL_getD (l := l) (k := 0) h0
  rw [show (((0 : Nat) : Int)) = 0 from rfl] at i0
  rw [i0, obind]
  obtain ⟨b, hb, hh⟩ := loop_meas (body := fun s : Int × Int => S_slices_Min_int_l2 F l s.1 s.2) (fun s => ∃ i : Nat, s.2 = (i : Int) ∧ i ≤ l.length ∧ (∀ j, j < i → s.1 ≤ l.getD j 0) ∧ ∃ j, j < l.length ∧ l.getD j 0 = s.1) (fun s => l.length - s.2.toNat) (fun m => (∀ j, j < l.length → m ≤ l.getD j 0) ∧ ∃ j, j < l.length ∧ l.getD j 0 = m)
    (by
      rintro ⟨m, x⟩ ⟨i, hx, hi, f1, f2⟩
      dsimp only at hx f1 f2 ⊢
      subst hx
      unfold S_slices_Min_int_l2
      by_cases h : i < l.length
      · left
        rw [if_pos (by simpa using h), idxL_getD h, obind, w64 (by omega) (by omega)]
        refine ⟨_, rfl, ⟨i + 1, by simp, by omega, fun j hj => ?_, ?_⟩, by dsimp only; omega⟩
        · dsimp only
          by_cases e : j = i
          · rw [e]; split <;> omega
          · have := f1 j (by omega); split <;> omega
        · dsimp only
          split
          · exact ⟨i, h, rfl⟩
          · exact f2
      · right
        rw [if_neg (by simpa using h)]
        have : i = l.length := by omega
        subst this
        exact ⟨_, rfl, f1, f2⟩)
    F (l.getD 0 0, 1) ⟨1, rfl, h0, fun j hj => by
      have : j = 0 := by omega
      subst this
      exact Int.le_refl _, 0, h0, rfl⟩ (by dsimp only; omega)
  rw [hb, obind]
  exact ⟨b, rfl, hh.1, hh.2⟩

theorem pos_first {l : List Int} {m : Int} {k : Nat} (hk : FirstMin l l.length k) (h1 : ∀ j, j < l.length → m ≤ l.getD j 0) (h2 : ∃ j, j < l.length ∧ l.getD j 0 = m) : posOf l m = (k : Int) := by
  obtain ⟨f1, f2, f3, _⟩ := hk
  obtain ⟨j, hj, e⟩ := h2
  have hm : l.getD k 0 = m := by
    have a := f1 j hj
    have b := h1 k f3
    omega
  have hc : l.contains m = true := by
    rw [List.contains_iff_mem, ← e]
    exact getD_mem hj
  unfold posOf
  rw [if_pos hc]
  have hi : l.idxOf m < l.length := List.idxOf_lt_length_of_mem (List.contains_iff_mem.1 hc)
  have hg : l.getD (l.idxOf m) 0 = m := by
    have := List.getElem_idxOf hi
    simp [hi, this]
  rcases Nat.lt_trichotomy (l.idxOf m) k with h | h | h
  · have := f2 _ h
    omega
  · omega
  · exfalso
    have := List.not_of_lt_findIdx (xs := l) (p := fun x => x == m) h
    have hkk : l.getD k 0 = l[k] := by simp [f3]
    rw [hkk] at hm
    simp [hm] at this

theorem sCyc (F : Nat) (l : List Int) (k : Nat) (hk : k < l.length) (h20 : l.length ≤ 20) (hF : 30 ≤ F) : S_spec_CanonicalCycle_j2 F l (k : Int) = some (cyc l k (decide (l.getD ((k + 1) % l.length) 0 ≤ l.getD ((k + l.length - 1) % l.length) 0)) l.length) := by
  unfold S_spec_CanonicalCycle_j2
  generalize hc : decide (l.getD ((k + 1) % l.length) 0 ≤ l.getD ((k + l.length - 1) % l.length) 0) = c
  have hn : 0 < l.length := by omega
  rw [show (([] : List Int), (0 : Int)) = (fun i : Nat => (cyc l k c i, (i : Int))) 0 from rfl]
  rw [loop_from0 (fun i : Nat => (cyc l k c i, (i : Int))) (cyc l k c l.length) l.length ?_ ?_ (by omega)]
  · rfl
  · intro i hi
    unfold S_spec_CanonicalCycle_l4
    dsimp only
    have g : ∀ a : Nat, idxL l (((a % l.length : Nat) : Int)) = some (l.getD (a % l.length) 0) := fun a => idxL_getD (Nat.mod_lt _ hn)
    have t : ∀ a : Nat, ((a : Int)).tmod (l.length : Int) = ((a % l.length : Nat) : Int) := fun a => by rw [tm_nn (by omega)]; simp
    have e1 : IntKind.i64.wrap ((k : Int) + 1) = ((k + 1 : Nat) : Int) := by rw [w64 (by omega) (by omega)]; simp
    have e2 : IntKind.i64.wrap (IntKind.i64.wrap ((k : Int) + (l.length : Int)) - 1) = ((k + l.length - 1 : Nat) : Int) := by rw [w64 (n := (k : Int) + (l.length : Int)) (by omega) (by omega), w64 (by omega) (by omega)]; omega
    have e3 : IntKind.i64.wrap ((k : Int) + (i : Int)) = ((k + i : Nat) : Int) := by rw [w64 (by omega) (by omega)]; simp
    have e4 : IntKind.i64.wrap (IntKind.i64.wrap ((k : Int) + (l.length : Int)) - (i : Int)) = ((k + l.length - i : Nat) : Int) := by rw [w64 (n := (k : Int) + (l.length : Int)) (by omega) (by omega), w64 (by omega) (by omega)]; omega
    rw [if_pos (by simpa using hi), nzO_ok (by omega), obind, e1, t, g, obind, obind, e2, t, g, obind, hc, cyc_succ]
    unfold S_spec_CanonicalCycle_j5 nxt
    cases c with
    | true =>
      rw [if_pos rfl, obind, e3, t, g, obind, catO_ok (by simp [cyc_len]; omega), obind, w64 (by omega) (by omega)]
      simp
    | false =>
      rw [if_neg (by simp), obind, e4, t, g, obind, catO_ok (by simp [cyc_len]; omega), obind, w64 (by omega) (by omega)]
      simp
  · unfold S_spec_CanonicalCycle_l4
    simp

theorem nxt_step {n k i : Nat} (hk : k < n) (hi : i < n) (c : Bool) : (nxt n k c i + (if c = true then 1 else n - 1)) % n = nxt n k c (i + 1) := by
  unfold nxt
  cases c with
  | true => simp [Nat.add_assoc]
  | false =>
    simp only [Bool.false_eq_true, if_false]
    rw [Nat.mod_add_mod, show k + n - i + (n - 1) = (k + n - (i + 1)) + n by omega, Nat.add_mod_right]

theorem iCyc (F : Nat) (l : List Int) (k : Nat) (hk : k < l.length) (h20 : l.length ≤ 20) (hF : 30 ≤ F) (c : Bool) (st : Int) (hst : st = if c = true then 1 else (l.length : Int) - 1) : S_impl_CanonicalCycle_j1 F l (k : Int) st = some (cyc l k c l.length) := by
  unfold S_impl_CanonicalCycle_j1
  have hn : 0 < l.length := by omega
  rw [show ((k : Int), ([] : List Int), (0 : Int)) = (fun i : Nat => (((nxt l.length k c i : Nat) : Int), cyc l k c i, (i : Int))) 0 by
    have : nxt l.length k c 0 = k := by
      unfold nxt
      cases c
      · simp [Nat.mod_eq_of_lt hk]
      · simp [Nat.mod_eq_of_lt hk]
    simp [this, cyc]]
  rw [loop_from0 (fun i : Nat => (((nxt l.length k c i : Nat) : Int), cyc l k c i, (i : Int))) (cyc l k c l.length) l.length ?_ ?_ (by omega)]
  · rfl
  · intro i hi
    unfold S_impl_CanonicalCycle_l3
    dsimp only
    have hlt : nxt l.length k c i < l.length := by unfold nxt; split <;> exact Nat.mod_lt _ hn
    rw [if_pos (by simpa using hi), idxL_getD hlt, obind, catO_ok (by simp [cyc_len]; omega), obind, nzO_ok (by omega), obind, cyc_succ, ← nxt_step hk hi c]
    have e : IntKind.i64.wrap (((nxt l.length k c i : Nat) : Int) + st) = ((nxt l.length k c i + (if c = true then 1 else l.length - 1) : Nat) : Int) := by
      subst hst
      cases c
      · simp only [Bool.false_eq_true, if_false]
        rw [w64 (by omega) (by omega)]
        omega
      · simp only [if_true]
        rw [w64 (by omega) (by omega)]
        omega
    rw [e, tm_nn (by omega), w64 (by omega) (by omega)]
    simp
  · unfold S_impl_CanonicalCycle_l3
    simp

theorem kCanonicalCycle (F : Nat) (hF : 2097152 ≤ F) (l : List Int) (hl : l.length ≤ 1048576) : ∃ r, r.length = l.length ∧ S_spec_CanonicalCycle F l = some r ∧ S_impl_CanonicalCycle F l = some r := by
  unfold S_spec_CanonicalCycle S_impl_CanonicalCycle
  rw [iIn, obind]
  by_cases h : 3 ≤ l.length ∧ l.length ≤ 20
  · rw [show inB (l.length : Int) 3 20 = true by rw [inB_iff]; omega]
    rw [if_neg (by simp; omega), if_neg (by simp)]
    unfold S_spec_CanonicalCycle_j1
    rw [if_neg (by simp; omega)]
    obtain ⟨k, hk, e1⟩ := sMin F l (by omega) h.2 (by omega)
    obtain ⟨m, e2, hm1, hm2⟩ := iMin F l (by omega) h.2 (by omega)
    have hkl := hk.2.2.1
    have hn : 0 < l.length := by omega
    have g : ∀ a : Nat, idxL l (((a % l.length : Nat) : Int)) = some (l.getD (a % l.length) 0) := fun a => idxL_getD (Nat.mod_lt _ hn)
    have t : ∀ a : Nat, ((a : Int)).tmod (l.length : Int) = ((a % l.length : Nat) : Int) := fun a => by rw [tm_nn (by omega)]; simp
    have c1 : IntKind.i64.wrap ((k : Int) + 1) = ((k + 1 : Nat) : Int) := by rw [w64 (by omega) (by omega)]; simp
    have c2 : IntKind.i64.wrap (IntKind.i64.wrap ((k : Int) + (l.length : Int)) - 1) = ((k + l.length - 1 : Nat) : Int) := by rw [w64 (n := (k : Int) + (l.length : Int)) (by omega) (by omega), w64 (by omega) (by omega)]; omega
    rw [e1, obind, e2, obind, idxI_ F l m (by omega) hl, pos_first hk hm1 hm2, obind, nzO_ok (by omega), obind, c2, t, g, obind, obind, c1, t, g, obind, sCyc F l k hkl h.2 (by omega)]
    refine ⟨_, cyc_len _ _ _ _, rfl, ?_⟩
    by_cases hc : l.getD ((k + l.length - 1) % l.length) 0 < l.getD ((k + 1) % l.length) 0
    · rw [if_pos (by simpa using hc)]
      have hd : decide (l.getD ((k + 1) % l.length) 0 ≤ l.getD ((k + l.length - 1) % l.length) 0) = false := by
        rw [decide_eq_false_iff_not]; omega
      rw [hd]
      exact iCyc F l k hkl h.2 (by omega) false _ (by rw [w64 (by omega) (by omega)]; rfl)
    · rw [if_neg (by simpa using hc)]
      have hd : decide (l.getD ((k + 1) % l.length) 0 ≤ l.getD ((k + l.length - 1) % l.length) 0) = true := by
        rw [decide_eq_true_eq]; omega
      rw [hd]
      exact iCyc F l k hkl h.2 (by omega) true _ rfl
  · rw [show inB (l.length : Int) 3 20 = false by rw [← Bool.not_eq_true, inB_iff]; omega]
    rw [if_pos (show (!false) = true from rfl)]
    refine ⟨l, rfl, ?_, by rw [catO_ok (by simp; omega)]; rfl⟩
    unfold S_spec_CanonicalCycle_j1
    by_cases h3 : l.length < 3
    · rw [if_pos (by simp; omega), if_pos rfl, catO_ok (by simp; omega)]; rfl
    · rw [if_neg (by simp; omega), if_pos (by simp; omega), catO_ok (by simp; omega)]; rfl

end Go.Proofs.Ytilfniehellmmaa
