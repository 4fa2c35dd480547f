/- Proved here: the edges that an elimination puts in: both programs list the same. -/
import Derived.Test.YtblbimlobacciaaPadd
import Derived.Test.YtblbimlobacciaaPlater
import Derived.Test.YtblbimlobacciaaProws
namespace Go.Proofs.Ytblbimlobacciaa
open Go Go.RowKit
set_option linter.unusedVariables false
set_option linter.unusedSimpArgs false

/-! ### edges put in -/

def addR (R : Nat → Nat) (v w u : Nat) : Nat := if u = v then R v ||| 2 ^ w else if u = w then R w ||| 2 ^ v else R u
def hitB (v w u i : Nat) : Bool := (decide (u = v) && decide (i = w)) || (decide (u = w) && decide (i = v))

theorem addR_bit (R : Nat → Nat) (v w u i : Nat) : (addR R v w u).testBit i = ((R u).testBit i || hitB v w u i) := by
  unfold addR hitB
  by_cases e1 : u = v
  · subst e1
    rw [if_pos rfl, Nat.testBit_or, Nat.testBit_two_pow]
    congr 1
    rw [Bool.eq_iff_iff]
    simp only [Bool.or_eq_true, Bool.and_eq_true, decide_eq_true_eq, true_and]
    omega
  · rw [if_neg e1]
    by_cases e2 : u = w
    · subst e2
      rw [if_pos rfl, Nat.testBit_or, Nat.testBit_two_pow]
      congr 1
      rw [Bool.eq_iff_iff]
      simp only [Bool.or_eq_true, Bool.and_eq_true, decide_eq_true_eq, true_and]
      omega
    · rw [if_neg e2]
      simp [e1, e2]

theorem rows_ext {m : Nat} {R S : Nat → Nat} (h : ∀ v, v < m → R v = S v) : rowsOf m R = rowsOf m S := by
  unfold rowsOf
  apply List.map_congr_left
  intro v hv
  rw [h v (by simpa using hv)]

theorem addR_VG {m : Nat} {R : Nat → Nat} (g : VG m R) {v w : Nat} (hv : v < m) (hw : w < m) (hne : v ≠ w) : VG m (addR R v w) := by
  have hp : ∀ x, x < m → (2 : Nat) ^ x < 2 ^ m := fun x hx => Nat.pow_lt_pow_right (by decide) hx
  refine ⟨g.n1, g.n7, fun u hu => ?_, fun u hu => ?_, fun a b ha hb => ?_⟩
  · unfold addR
    split
    · exact Nat.or_lt_two_pow (g.lt v hv) (hp w hw)
    · split
      · exact Nat.or_lt_two_pow (g.lt w hw) (hp v hv)
      · exact g.lt u hu
  · rw [addR_bit, g.irr u hu, Bool.false_or]
    unfold hitB
    rw [Bool.eq_false_iff]
    simp only [ne_eq, Bool.or_eq_true, Bool.and_eq_true, decide_eq_true_eq]
    omega
  · rw [addR_bit, addR_bit, g.sym a b ha hb]
    congr 1
    unfold hitB
    rw [Bool.eq_iff_iff]
    simp only [Bool.or_eq_true, Bool.and_eq_true, decide_eq_true_eq]
    omega

theorem or_same : ∀ r, r < 128 → ∀ w, w < 7 → r.testBit w = true → r ||| 2 ^ w = r := by decide +kernel
theorem xor_or : ∀ r, r < 128 → ∀ w, w < 7 → r.testBit w = false → r ^^^ 2 ^ w = r ||| 2 ^ w := by decide +kernel

theorem fillAdd (F : Nat) (hF : 8 ≤ F) {m : Nat} {R : Nat → Nat} (g : VG m R) {a b : Nat} (ha : a < m) (hb : b < m) (hne : a ≠ b) : ∃ c, S_spec_AddEdge F (m : Int) (rowsOf m R) (a : Int) (b : Int) = some ((m : Int), rowsOf m (addR R a b), c) := by
  have h7 := g.n7
  have b1 := g.b128 ha
  have b2 := g.b128 hb
  have hP : pairB (m : Int) (rowsOf m R) (a : Int) (b : Int) = true := by
    unfold pairB
    rw [isG_intro g]
    simp only [Bool.true_and, Bool.and_eq_true, inB_iff, bne_iff_ne]
    omega
  unfold S_spec_AddEdge S_spec_l2Copy
  rw [catO_ok (by simp [rowsOf_len]; omega), obind, obind, sPair F hF _ _ g.row64, obind, List.nil_append, hP, if_neg (by simp), sEdge F g ha (by omega), obind]
  unfold S_spec_AddEdge_j1
  cases hab : (R a).testBit b with
  | true =>
    have hba : (R b).testBit a = true := by rw [← g.sym a b ha hb]; exact hab
    refine ⟨false, ?_⟩
    rw [if_pos rfl]
    rw [rows_ext (R := R) (S := addR R a b) fun u hu => ?_]
    unfold addR
    split
    · next h => subst h; rw [or_same _ b1 b (by omega) hab]
    · split
      · next h => subst h; rw [or_same _ b2 a (by omega) hba]
      · rfl
  | false =>
    have hba : (R b).testBit a = false := by rw [← g.sym a b ha hb]; exact hab
    have p1 := pow_le64 a (by omega)
    have p2 := pow_le64 b (by omega)
    have hset : ∀ x : Int, idxL ((rowsOf m R).set a x) (b : Int) = some ((R b : Nat) : Int) := fun x => by
      have hl : b < ((rowsOf m R).set a x).length := by simpa [rowsOf_len] using hb
      rw [idxL_get hl, List.getElem_set_ne hne]
      simp [rowsOf]
    have f1 := flip_add _ b1 b (by omega) hab
    have f2 := flip_add _ b2 a (by omega) hba
    refine ⟨true, ?_⟩
    rw [if_neg (by simp), rowsOf_idx ha, obind, nnO_ok (by omega), obind, obind, shL1 (by omega), w64 (by omega) (by omega), Int.toNat_natCast, hset, obind, nnO_ok (by omega), obind, obind, shL1 (by omega), w64 (by omega) (by omega), Int.toNat_natCast, show ((R a : Nat) : Int) + ((2 ^ b : Nat) : Int) = ((R a ^^^ 2 ^ b : Nat) : Int) by rw [← f1]; simp, show ((R b : Nat) : Int) + ((2 ^ a : Nat) : Int) = ((R b ^^^ 2 ^ a : Nat) : Int) by rw [← f2]; simp, rowsOf_flip ha hb hne]
    rw [rows_ext (R := flipR R a b) (S := addR R a b) fun u hu => ?_]
    unfold addR flipR
    rw [xor_or _ b1 b (by omega) hab, xor_or _ b2 a (by omega) hba]

/-! ### all pairs of a set put in -/

def foldE (R : Nat → Nat) (ps : List (Nat × Nat)) : Nat → Nat := ps.foldl (fun Q p => addR Q p.1 p.2) R
theorem foldE_append (R : Nat → Nat) (a b : List (Nat × Nat)) : foldE R (a ++ b) = foldE (foldE R a) b := by
  unfold foldE; rw [List.foldl_append]
theorem foldE_bit (ps : List (Nat × Nat)) : ∀ (R : Nat → Nat) (u i : Nat), (foldE R ps u).testBit i = ((R u).testBit i || ps.any fun p => hitB p.1 p.2 u i) := by
  induction ps with
  | nil => intro R u i; simp [foldE]
  | cons p r ih =>
    intro R u i
    have : foldE R (p :: r) = foldE (addR R p.1 p.2) r := rfl
    rw [this, ih, addR_bit, List.any_cons, Bool.or_assoc]
theorem foldE_VG {m : Nat} (ps : List (Nat × Nat)) : ∀ {R : Nat → Nat}, VG m R → (∀ p, p ∈ ps → p.1 < m ∧ p.2 < m ∧ p.1 ≠ p.2) → VG m (foldE R ps) := by
  induction ps with
  | nil => intro R g _; exact g
  | cons p r ih =>
    intro R g h
    obtain ⟨h1, h2, h3⟩ := h p (by simp)
    exact ih (addR_VG g h1 h2 h3) fun q hq => h q (by simp [hq])

def prIn (l : List Int) (i j : Nat) : List (Nat × Nat) := (List.range j).map fun b => ((l.getD i 0).toNat, (l.getD b 0).toNat)
def prOut (l : List Int) (k : Nat) : List (Nat × Nat) := (List.range k).flatMap fun a => prIn l a a
theorem prIn_succ (l : List Int) (i j : Nat) : prIn l i (j + 1) = prIn l i j ++ [((l.getD i 0).toNat, (l.getD j 0).toNat)] := by
  simp [prIn, List.range_succ]
theorem prOut_succ (l : List Int) (k : Nat) : prOut l (k + 1) = prOut l k ++ prIn l k k := by
  simp [prOut, List.range_succ]

theorem fl_inc : ∀ z, z < 128 → allB (selN 7 z.testBit).length (fun j => allB j (fun i => decide ((selN 7 z.testBit).getD i 0 < (selN 7 z.testBit).getD j 0))) = true := by decide +kernel
theorem fl_hit : ∀ z, z < 128 → allB 7 (fun u => allB 7 (fun i => ((prOut (selN 7 z.testBit) (selN 7 z.testBit).length).any fun p => hitB p.1 p.2 u i) == (z.testBit u && z.testBit i && !(u == i)))) = true := by decide +kernel

theorem fl_at {z m : Nat} (hz : z < 2 ^ m) (h7 : m ≤ 7) {i : Nat} (hi : i < (selN 7 z.testBit).length) : 0 ≤ (selN 7 z.testBit).getD i 0 ∧ (selN 7 z.testBit).getD i 0 < (m : Int) := by
  obtain ⟨v, hv, hb, e⟩ := mem_selN.1 (getD_mem hi)
  rw [e]
  have := bit_lt hz hb
  omega
theorem fl_ne {z m : Nat} (hz : z < 2 ^ m) (h7 : m ≤ 7) {i j : Nat} (hj : j < (selN 7 z.testBit).length) (hij : i < j) : ((selN 7 z.testBit).getD j 0).toNat < m ∧ ((selN 7 z.testBit).getD i 0).toNat < m ∧ ((selN 7 z.testBit).getD j 0).toNat ≠ ((selN 7 z.testBit).getD i 0).toNat := by
  have h1 := fl_at hz h7 hj
  have h2 := fl_at (i := i) hz h7 (by omega)
  have := allB_iff.1 (allB_iff.1 (fl_inc z (Nat.lt_of_lt_of_le hz (pow128 h7))) j hj) i hij
  simp only [decide_eq_true_eq] at this
  omega
theorem prIn_ok {z m : Nat} (hz : z < 2 ^ m) (h7 : m ≤ 7) {i j : Nat} (hi : i < (selN 7 z.testBit).length) (hj : j ≤ i) : ∀ p, p ∈ prIn (selN 7 z.testBit) i j → p.1 < m ∧ p.2 < m ∧ p.1 ≠ p.2 := by
  intro p hp
  unfold prIn at hp
  rw [List.mem_map] at hp
  obtain ⟨b, hb, rfl⟩ := hp
  rw [List.mem_range] at hb
  exact fl_ne hz h7 hi (by omega)
theorem prOut_ok {z m : Nat} (hz : z < 2 ^ m) (h7 : m ≤ 7) {k : Nat} (hk : k ≤ (selN 7 z.testBit).length) : ∀ p, p ∈ prOut (selN 7 z.testBit) k → p.1 < m ∧ p.2 < m ∧ p.1 ≠ p.2 := by
  intro p hp
  unfold prOut at hp
  rw [List.mem_flatMap] at hp
  obtain ⟨a, ha, hp⟩ := hp
  rw [List.mem_range] at ha
  exact prIn_ok hz h7 (by omega) (Nat.le_refl _) p hp

/-- The set's vertices joined with each other. -/
def fillR (R : Nat → Nat) (z u : Nat) : Nat := if z.testBit u = true then R u ||| ndiff z (2 ^ u) else R u
theorem fillR_bit (R : Nat → Nat) (z u i : Nat) : (fillR R z u).testBit i = ((R u).testBit i || (z.testBit u && z.testBit i && !(u == i))) := by
  unfold fillR
  cases h : z.testBit u with
  | true =>
    rw [if_pos rfl, Nat.testBit_or, ndiff_bit, Nat.testBit_two_pow, Bool.true_and]
    congr 3
  | false => simp
theorem foldE_fill {m : Nat} {R : Nat → Nat} (g : VG m R) {z : Nat} (hz : z < 2 ^ m) {u : Nat} (hu : u < m) : foldE R (prOut (selN 7 z.testBit) (selN 7 z.testBit).length) u = fillR R z u := by
  have h7 := g.n7
  have g2 := foldE_VG _ g (prOut_ok hz h7 (Nat.le_refl _))
  refine ext7 (g2.lt u hu) (n := m) ?_ ?_
  · unfold fillR
    split
    · exact Nat.or_lt_two_pow (g.lt u hu) (ndiff_lt hz)
    · exact g.lt u hu
  · intro i hi
    rw [foldE_bit, fillR_bit]
    have := allB_iff.1 (allB_iff.1 (fl_hit z (Nat.lt_of_lt_of_le hz (pow128 h7))) u (by omega)) i (by omega)
    rw [beq_iff_eq] at this
    rw [this]
theorem VG.congr {m : Nat} {R S : Nat → Nat} (g : VG m R) (h : ∀ v, v < m → S v = R v) : VG m S :=
  ⟨g.n1, g.n7, fun v hv => by rw [h v hv]; exact g.lt v hv, fun v hv => by rw [h v hv]; exact g.irr v hv, fun v w hv hw => by rw [h v hv, h w hw]; exact g.sym v w hv hw⟩
theorem fillR_VG {m : Nat} {R : Nat → Nat} (g : VG m R) {z : Nat} (hz : z < 2 ^ m) : VG m (fillR R z) :=
  (foldE_VG _ g (prOut_ok hz g.n7 (Nat.le_refl _))).congr fun v hv => (foldE_fill g hz hv).symm

theorem isO_VG {m : Nat} {R S : Nat → Nat} (g : VG m S) {l : List Int} (h : isO (m : Int) (rowsOf m R) l = true) : isO (m : Int) (rowsOf m S) l = true := by
  unfold isO isV at h ⊢
  simp only [Bool.and_eq_true] at h ⊢
  exact ⟨⟨⟨isG_intro g, h.1.1.2⟩, h.1.2⟩, h.2⟩
def fillO (R : Nat → Nat) (l : List Int) : Nat → Nat := l.foldl (fun Q v => fillR Q (Q v.toNat &&& laterB l v)) R

theorem sFill6 (F : Nat) (hF : 8 ≤ F) {m : Nat} {R : Nat → Nat} (g : VG m R) {z : Nat} (hz : z < 2 ^ m) {i : Nat} (hi : i < (selN 7 z.testBit).length) : loopN (σ := (Int × (List Int) × Int)) (β := ((Int × (List Int)))) (fun s => S_spec_l6Filled_l6 F (selN 7 z.testBit) (i : Int) s.1 s.2.1 s.2.2) F ((m : Int), rowsOf m R, 0) = some ((m : Int), rowsOf m (foldE R (prIn (selN 7 z.testBit) i i))) := by
  have h7 := g.n7
  have hl := selN_len 7 z.testBit
  rw [show ((m : Int), rowsOf m R, (0 : Int)) = (fun k : Nat => ((m : Int), rowsOf m (foldE R (prIn (selN 7 z.testBit) i k)), (k : Int))) 0 by simp [prIn, foldE]]
  refine loop_from0 (fun k : Nat => ((m : Int), rowsOf m (foldE R (prIn (selN 7 z.testBit) i k)), (k : Int))) _ i ?_ ?_ (by omega)
  · intro k hk
    unfold S_spec_l6Filled_l6
    dsimp only
    obtain ⟨q1, q2, q3⟩ := fl_ne hz h7 hi hk
    have p1 := fl_at hz h7 hi
    have p2 := fl_at (i := k) hz h7 (by omega)
    have gk := foldE_VG _ g (prIn_ok hz h7 hi (show k ≤ i by omega))
    obtain ⟨c, hc⟩ := fillAdd F hF gk q1 q2 q3
    rw [Int.toNat_of_nonneg p1.1, Int.toNat_of_nonneg p2.1] at hc
    rw [if_pos (by simpa using hk), idxL_getD hi, obind, idxL_getD (by omega), obind, hc, obind, w64 (by omega) (by omega), prIn_succ, foldE_append]
    rfl
  · unfold S_spec_l6Filled_l6
    simp

theorem sFill4 (F : Nat) (hF : 8 ≤ F) {m : Nat} {R : Nat → Nat} (g : VG m R) {z : Nat} (hz : z < 2 ^ m) : loopN (σ := (Int × (List Int) × Int)) (β := ((Int × (List Int)))) (fun s => S_spec_l6Filled_l4 F (selN 7 z.testBit) s.1 s.2.1 s.2.2) F ((m : Int), rowsOf m R, 0) = some ((m : Int), rowsOf m (fillR R z)) := by
  have h7 := g.n7
  have hl := selN_len 7 z.testBit
  rw [rows_ext (R := fillR R z) (S := foldE R (prOut (selN 7 z.testBit) (selN 7 z.testBit).length)) fun u hu => (foldE_fill g hz hu).symm]
  rw [show ((m : Int), rowsOf m R, (0 : Int)) = (fun k : Nat => ((m : Int), rowsOf m (foldE R (prOut (selN 7 z.testBit) k)), (k : Int))) 0 by simp [prOut, foldE]]
  refine loop_from0 (fun k : Nat => ((m : Int), rowsOf m (foldE R (prOut (selN 7 z.testBit) k)), (k : Int))) _ (selN 7 z.testBit).length ?_ ?_ (by omega)
  · intro k hk
    unfold S_spec_l6Filled_l4
    dsimp only
    have gk := foldE_VG _ g (prOut_ok hz h7 (show k ≤ (selN 7 z.testBit).length by omega))
    rw [if_pos (by simpa using hk), sFill6 F hF gk hz hk, obind]
    unfold S_spec_l6Filled_j5
    rw [w64 (by omega) (by omega), prOut_succ, foldE_append]
    rfl
  · unfold S_spec_l6Filled_l4
    simp

theorem sFilled (F : Nat) (hF : 8 ≤ F) {m : Nat} {R : Nat → Nat} (g : VG m R) {l : List Int} (hO : isO (m : Int) (rowsOf m R) l = true) : S_spec_l6Filled F (m : Int) (rowsOf m R) l = some ((m : Int), rowsOf m (fillO R l)) ∧ VG m (fillO R l) := by
  obtain ⟨m', R', hm, hR, _, hlen, hmem, hnd, ho, hb, hall⟩ := isO_elim hO
  obtain rfl : m = m' := by omega
  have h7 := g.n7
  have hp := pow128 h7
  have := loop_list (body := fun s : Int × List Int × Int => S_spec_l6Filled_l2 F l s.1 s.2.1 s.2.2) l (fun (Q : Nat → Nat) k => ((m : Int), rowsOf m Q, k)) (fun Q v => fillR Q (Q v.toNat &&& laterB l v)) (fun Q => VG m Q) (fun Q => ((m : Int), rowsOf m Q)) (F := F)
    (by
      intro k hk Q gQ
      have hx := hmem _ (List.getElem_mem hk)
      have e : l[k] = ((l[k].toNat : Nat) : Int) := by omega
      have hv : l[k].toNat < m := by omega
      have hz : Q l[k].toNat &&& laterB l l[k] < 2 ^ m := Nat.lt_of_le_of_lt Nat.and_le_left (gQ.lt _ hv)
      have hL := sLater F hF gQ (isO_VG gQ hO) (by omega) hv
      rw [← e] at hL
      refine ⟨?_, fillR_VG gQ hz⟩
      unfold S_spec_l6Filled_l2
      dsimp only
      rw [if_pos (by simpa using hk), idxL_get hk, obind, hL, obind, sListOf F hF _ (by unfold I64; omega), obind, listN_nat hz h7, sFill4 F hF gQ hz, obind]
      unfold S_spec_l6Filled_j3
      rw [w64 (by omega) (by omega)]
      simp)
    (by
      intro Q gQ
      unfold S_spec_l6Filled_l2
      simp)
    R g (by omega)
  refine ⟨?_, this.2⟩
  unfold S_spec_l6Filled S_spec_l2Copy
  rw [catO_ok (by simp [rowsOf_len]; omega), obind, obind, List.nil_append, this.1, obind]
  rfl

theorem foldl_or (z : Nat) (l : List Int) (h0 : ∀ x, x ∈ l → 0 ≤ x) : ∀ (Q : Nat → Nat) (u : Nat), (l.foldl (fun (Q : Nat → Nat) (v : Int) => fun u => if u = v.toNat then Q v.toNat ||| ndiff z (2 ^ v.toNat) else Q u) Q) u = if (u : Int) ∈ l then Q u ||| ndiff z (2 ^ u) else Q u := by
  induction l with
  | nil => intro Q u; simp
  | cons x r ih =>
    intro Q u
    have hx := h0 x (by simp)
    rw [List.foldl_cons, ih (fun y hy => h0 y (by simp [hy]))]
    by_cases e : u = x.toNat
    · subst e
      have hm : ((x.toNat : Nat) : Int) ∈ x :: r := by rw [Int.toNat_of_nonneg hx]; simp
      rw [if_pos hm, if_pos rfl]
      split
      · rw [Nat.or_assoc, Nat.or_self]
      · rfl
    · have hne : ¬ (u : Int) = x := by omega
      have hm : ((u : Int) ∈ x :: r) ↔ (u : Int) ∈ r := by simp [hne]
      simp only [hm, if_neg e]

theorem iFill7 (F : Nat) (hF : 8 ≤ F) {m : Nat} {R : Nat → Nat} (g : VG m R) {z : Nat} (hz : z < 2 ^ m) : loopN (σ := ((List Int) × Int)) (β := (((List Int)))) (fun s => S_impl_FillOf_l7 F (z : Int) (selN 7 z.testBit) s.1 s.2) F (rowsOf m R, 0) = some (rowsOf m (fillR R z)) := by
  have h7 := g.n7
  have hp := pow128 h7
  have hl := selN_len 7 z.testBit
  have := loop_list (body := fun s : List Int × Int => S_impl_FillOf_l7 F (z : Int) (selN 7 z.testBit) s.1 s.2) (selN 7 z.testBit) (fun (Q : Nat → Nat) k => (rowsOf m Q, k)) (fun (Q : Nat → Nat) (v : Int) => fun u => if u = v.toNat then Q v.toNat ||| ndiff z (2 ^ v.toNat) else Q u) (fun Q => ∀ u, u < m → Q u < 128) (fun Q => rowsOf m Q) (F := F)
    (by
      intro k hk Q hQ
      obtain ⟨v, hv7, hb, e⟩ := mem_selN.1 (List.getElem_mem hk)
      have hv := bit_lt hz hb
      have p1 := pow_le64 v hv7
      have hq := hQ v hv
      have hd : ndiff z (2 ^ v) < 128 := ndiff_lt (n := 7) (by omega)
      rw [e, Int.toNat_natCast]
      refine ⟨?_, fun u hu => ?_⟩
      · unfold S_impl_FillOf_l7
        dsimp only
        rw [if_pos (by simpa using hk), idxL_get hk, obind, e, rowsOf_idx hv, obind, nnO_ok (by omega), obind, obind, shL1 (by omega), bAndNot_nat _ _ (by omega) (by omega), bOr_nat _ _ (by omega) (by omega), Int.toNat_natCast, rowsOf_upd m Q v _ hv, w64 (by omega) (by omega)]
        simp
      · dsimp only
        split
        · exact or_lt128 hq hd
        · exact hQ u hu)
    (by
      intro Q hQ
      unfold S_impl_FillOf_l7
      simp)
    R (fun u hu => g.b128 hu) (by omega)
  rw [this.1]
  congr 1
  refine rows_ext fun u hu => ?_
  rw [foldl_or z _ (fun x hx => by obtain ⟨k, _, _, rfl⟩ := mem_selN.1 hx; omega)]
  unfold fillR
  have : ((u : Int) ∈ selN 7 z.testBit) ↔ z.testBit u = true := by
    rw [mem_selN]
    constructor
    · rintro ⟨k, _, hk, e⟩
      obtain rfl : u = k := by omega
      exact hk
    · exact fun h => ⟨u, by omega, h, rfl⟩
  simp only [this]

theorem iFilled (F : Nat) (hF : 8 ≤ F) {m : Nat} {R : Nat → Nat} (g : VG m R) {l : List Int} (hO : isO (m : Int) (rowsOf m R) l = true) (x : List Int) : loopN (σ := ((List Int) × Int)) (β := (((List Int)))) (fun s => S_impl_FillOf_l5 F l ((m : Int), x) s.1 s.2) F (rowsOf m R, 0) = some (rowsOf m (fillO R l)) := by
  obtain ⟨m', R', hm, hR, _, hlen, hmem, hnd, ho, hb, hall⟩ := isO_elim hO
  obtain rfl : m = m' := by omega
  have h7 := g.n7
  have hp := pow128 h7
  have := loop_list (body := fun s : List Int × Int => S_impl_FillOf_l5 F l ((m : Int), x) s.1 s.2) l (fun (Q : Nat → Nat) k => (rowsOf m Q, k)) (fun Q v => fillR Q (Q v.toNat &&& laterB l v)) (fun Q => VG m Q) (fun Q => rowsOf m Q) (F := F)
    (by
      intro k hk Q gQ
      have hx := hmem _ (List.getElem_mem hk)
      have e : l[k] = ((l[k].toNat : Nat) : Int) := by omega
      have hv : l[k].toNat < m := by omega
      have hz : Q l[k].toNat &&& laterB l l[k] < 2 ^ m := Nat.lt_of_le_of_lt Nat.and_le_left (gQ.lt _ hv)
      have hL := iLater F hF gQ (isO_VG gQ hO) (by omega) hv
      rw [← e] at hL
      refine ⟨?_, fillR_VG gQ hz⟩
      unfold S_impl_FillOf_l5
      dsimp only
      rw [if_pos (by simpa using hk), idxL_get hk, obind, hL, obind, iListOf F hF _ (by unfold I64; omega), obind, listN_nat hz h7, iFill7 F hF gQ hz, obind]
      unfold S_impl_FillOf_j6
      rw [w64 (by omega) (by omega)]
      simp)
    (by
      intro Q gQ
      unfold S_impl_FillOf_l5
      simp)
    R g (by omega)
  exact this.1

/-! ### the new edges -/

theorem mem_eIn {R : Nat → Nat} {v a k : Nat} {e : List Int} (h : e ∈ eIn R v a k) : ∃ w : Nat, e = [(v : Int), (w : Int)] ∧ a ≤ w ∧ w < a + k := by
  unfold eIn at h
  rw [List.mem_flatMap] at h
  obtain ⟨w, hw, he⟩ := h
  rw [List.mem_range'_1] at hw
  split at he
  · simp at he
    exact ⟨w, he, by omega, by omega⟩
  · simp at he
theorem mem_eOut {m : Nat} {R : Nat → Nat} {e : List Int} (h : e ∈ eOut m R m) : ∃ v w : Nat, e = [(v : Int), (w : Int)] ∧ v < m ∧ w < m := by
  unfold eOut at h
  rw [List.mem_flatMap] at h
  obtain ⟨v, hv, he⟩ := h
  rw [List.mem_range] at hv
  obtain ⟨w, rfl, h1, h2⟩ := mem_eIn he
  exact ⟨v, w, rfl, hv, by omega⟩
def newB (R : Nat → Nat) (e : List Int) : Bool := !((R (e.getD 0 0).toNat).testBit (e.getD 1 0).toNat)
theorem sumL_filter (p : List Int → Bool) : ∀ a : List (List Int), sumL (a.filter p) ≤ sumL a
  | [] => by simp [sumL]
  | r :: a => by
    have := sumL_filter p a
    rw [List.filter_cons]
    split <;> simp only [sumL] <;> omega
theorem filter_snoc (p : List Int → Bool) (a : List (List Int)) (k : Nat) (h : k < a.length) : (a.take (k + 1)).filter p = (a.take k).filter p ++ (if p a[k] = true then [a[k]] else []) := by
  rw [snoc_take a k h, List.filter_append]
  congr 1
  rw [List.filter_cons]
  rfl

theorem sNew (F : Nat) {m : Nat} {R : Nat → Nat} (g : VG m R) (a : List (List Int)) (hF : a.length < F) (hl : a.length ≤ 64) (ha : ∀ e, e ∈ a → ∃ v w : Nat, e = [(v : Int), (w : Int)] ∧ v < m ∧ w < m) (n : Int) : loopN (σ := ((List (List Int)) × Int)) (β := (((List (List Int))))) (fun s => S_spec_FillOf_l2 F n (rowsOf m R) a s.1 s.2) F (([] : List (List Int)), 0) = some (a.filter (newB R)) := by
  have h7 := g.n7
  rw [show (([] : List (List Int)), (0 : Int)) = (fun k : Nat => ((a.take k).filter (newB R), (k : Int))) 0 by simp]
  rw [loop_from0 (fun k : Nat => ((a.take k).filter (newB R), (k : Int))) (a.filter (newB R)) a.length ?_ ?_ hF]
  · intro k hk
    obtain ⟨v, w, e, hv, hw⟩ := ha _ (List.getElem_mem hk)
    have hfl : ((a.take k).filter (newB R)).length ≤ k := Nat.le_trans (List.length_filter_le _ _) (by simp; omega)
    have hn : newB R a[k] = !((R v).testBit w) := by rw [e]; simp [newB]
    unfold S_spec_FillOf_l2
    dsimp only
    rw [if_pos (by simpa using hk), idxL_get hk, obind, filter_snoc _ a k hk, hn, e]
    rw [show idxL [(v : Int), (w : Int)] 0 = some (v : Int) from rfl, obind, obind, show idxL [(v : Int), (w : Int)] 1 = some (w : Int) from rfl, obind, sEdge F g hv (by omega), obind, obind]
    unfold S_spec_FillOf_j3
    cases (R v).testBit w with
    | true => rw [if_neg (by simp), if_neg (by simp), w64 (by omega) (by omega)]; simp
    | false =>
      rw [if_pos (show (!false) = true from rfl), if_pos (show (!false) = true from rfl), catO_ok (by simp only [List.length_cons, List.length_nil]; omega), obind, w64 (by omega) (by omega)]
      simp
  · unfold S_spec_FillOf_l2
    simp

theorem iNew (F : Nat) {m : Nat} {R : Nat → Nat} (g : VG m R) (a : List (List Int)) (hF : a.length < F) (hl : a.length ≤ 64) (ha : ∀ e, e ∈ a → ∃ v w : Nat, e = [(v : Int), (w : Int)] ∧ v < m ∧ w < m) : loopN (σ := ((List (List Int)) × Int)) (β := (((List (List Int))))) (fun s => S_impl_FillOf_l3 F (rowsOf m R) a s.1 s.2) F (([] : List (List Int)), 0) = some (a.filter (newB R)) := by
  have h7 := g.n7
  rw [show (([] : List (List Int)), (0 : Int)) = (fun k : Nat => ((a.take k).filter (newB R), (k : Int))) 0 by simp]
  rw [loop_from0 (fun k : Nat => ((a.take k).filter (newB R), (k : Int))) (a.filter (newB R)) a.length ?_ ?_ hF]
  · intro k hk
    obtain ⟨v, w, e, hv, hw⟩ := ha _ (List.getElem_mem hk)
    have hb := g.b128 hv
    have hfl : ((a.take k).filter (newB R)).length ≤ k := Nat.le_trans (List.length_filter_le _ _) (by simp; omega)
    have hn : newB R a[k] = !((R v).testBit w) := by rw [e]; simp [newB]
    unfold S_impl_FillOf_l3
    dsimp only
    rw [if_pos (by simpa using hk), idxL_get hk, obind, filter_snoc _ a k hk, hn, e]
    rw [show idxL [(v : Int), (w : Int)] 0 = some (v : Int) from rfl, obind, rowsOf_idx hv, obind, show idxL [(v : Int), (w : Int)] 1 = some (w : Int) from rfl, obind, iHasN F (by omega) (by omega), obind]
    unfold S_impl_FillOf_j4
    cases (R v).testBit w with
    | true => rw [if_neg (by simp), if_neg (by simp), w64 (by omega) (by omega)]; simp
    | false =>
      rw [if_pos (show (!false) = true from rfl), if_pos (show (!false) = true from rfl), catO_ok (by simp only [List.length_cons, List.length_nil]; omega), obind, w64 (by omega) (by omega)]
      simp
  · unfold S_impl_FillOf_l3
    simp

theorem kFillOf (F : Nat) (hF : 2097152 ≤ F) (n : Int) (hn : I64 n) (rows : List Int) (hr : Row64 rows) (l : List Int) (hl : l.length ≤ 1048576) : ∃ (r : List (List Int)) (c : Bool), r.length ≤ 49 ∧ sumL r ≤ 98 ∧ S_spec_FillOf F n rows l = some (r, c) ∧ S_impl_FillOf F n rows l = some (r, c) := by
  unfold S_spec_FillOf S_impl_FillOf
  rw [sIsOrder F (by omega) n rows hr l (by omega) hl, iIsOrder F (by omega) n hn rows hr l (by omega) hl, obind, obind]
  cases hO : isO n rows l with
  | false => exact ⟨[], false, by simp, by simp [sumL], rfl, rfl⟩
  | true =>
    obtain ⟨m, R, rfl, rfl, g, hlen, hmem, hnd, ho, hb, hall⟩ := isO_elim hO
    have h7 := g.n7
    obtain ⟨hs, g2⟩ := sFilled F (by omega) g hO
    have hi := iFilled F (by omega) g hO (rowsOf m R)
    have hle := eOut_len m h7 (fillO R l) m
    have hfl := List.length_filter_le (newB R) (eOut m (fillO R l) m)
    have hsl := sumL_filter (newB R) (eOut m (fillO R l) m)
    refine ⟨(eOut m (fillO R l) m).filter (newB R), true, by omega, by omega, ?_, ?_⟩
    · rw [if_neg (by simp), hs, obind]
      dsimp only
      rw [sEdges F (by omega) g2, obind, sNew F g _ (by omega) (by omega) (fun e he => mem_eOut he), obind]
      rfl
    · unfold S_impl_copyGraph
      rw [if_neg (by simp), catO_ok (by simp [rowsOf_len]; omega), obind, obind, List.nil_append]
      dsimp only
      rw [hi, obind]
      unfold S_impl_FillOf_j1
      dsimp only
      rw [iEdges F (by omega) g2, obind, iNew F g _ (by omega) (by omega) (fun e he => mem_eOut he), obind]
      rfl

theorem P_FnExactFillOf (F : Nat) (hF : 2097152 ≤ F) (n : Int) (rows l : List Int) (hn : I64 n) (hr : ∀ x, x ∈ rows → I64 x) (hm : rows.length ≤ maxLen) (hr2 : ∀ x, x ∈ l → I64 x) (hm2 : l.length ≤ maxLen) : S_laws_FnExactFillOf F n rows l = some true := by
  unfold S_laws_FnExactFillOf
  by_cases hl2 : (1048576 : Int) < (l.length : Int)
  · simp [hl2]
  rw [if_neg (by simpa using hl2), szGraph F n rows _ (by omega) (by omega) hm, obind]
  by_cases hl : (1048576 : Int) < (rows.length : Int)
  · simp [hl]
  · obtain ⟨r, c, hlen, hsum, h1, h2⟩ := kFillOf F hF n hn rows hr l (by omega)
    have T := toGraph F n rows (by omega) (by omega)
    have T2 := toInts F l (by omega) (by omega)
    have E1 := eqRows F r (by omega) (by omega) (by omega) (by omega)
    have E2 := eqGraph F n rows n rows (by omega) (by omega)
    have E3 := eqInts F l l (by omega) (by omega)
    have M1 := markGraph F n rows 1 (by omega) (by omega) (by omega)
    have M3 := markInts F l (1 + (rows.length : Int)) (by omega) (by omega) (by omega)
    have M2 := markRows F r 1 (by omega) (by omega) (by omega) (by omega) (by omega)
    have H := heldRows F r 1 (by omega) (by omega) (by omega) (by omega) (by omega)
    rw [if_neg hl, if_neg (by simpa using sz_neg rows hl)]
    simp only [S_laws_FnExactFillOf_j1, S_laws_FnExactFillOf_j2, S_laws_FnExactFillOf_j3, T, T2, obind, h1, h2, E1, E2, E3, M1, M2, M3, H, decide_true, and_self, Bool.not_true, Bool.false_eq_true, if_false, bne_self_eq_false]
    have hk : ¬ (1 + (rows.length : Int) + (l.length : Int) < 0) := by omega
    simp [nlt1, hk]

end Go.Proofs.Ytblbimlobacciaa
