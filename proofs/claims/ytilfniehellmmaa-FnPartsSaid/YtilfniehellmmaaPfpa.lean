/- Proved here: the functions on parts agree on drawn graphs, and what is found is what was looked for. -/
import Derived.Test.YtilfniehellmmaaPfpt
import Derived.Test.YtilfniehellmmaaPdrg
namespace Go.Proofs.Ytilfniehellmmaa
open Go Go.RowKit
set_option linter.unusedVariables false
set_option linter.unusedSimpArgs false

theorem sameI (F : Nat) (a b : List Int) (hF : a.length < F) (hl : a.length ≤ 1048576) : S_laws_sameInts F a b = some (decide (a = b)) := by
  unfold S_laws_sameInts
  by_cases h : a.length = b.length
  · rw [if_neg (by simp [h]), eq_loop F a b h hF (by omega) (fun x => S_laws_sameInts_l2 F a b x) (fun x => rfl), obind]
    by_cases e : a = b
    · simp [e, S_laws_sameInts_j1]
    · simp [e]
  · rw [if_pos (by simp; omega)]
    have : a ≠ b := fun e => h (by rw [e])
    simp [this]

theorem d_Holey (F : Nat) (hF : 2000 ≤ F) (code : List Int) (hC : code.length ≤ 1048576) (i h : Int) (hi : Cu code i) : ∃ r, S_spec_l4Holey F code i h = some r ∧ Cu code r.2.2.1 ∧ DG r.1 r.2.1 := by
  unfold S_spec_l4Holey
  obtain ⟨a, ea, ca⟩ := d_Once F code hC i h hi 3
  rw [ea, obind]
  split
  · obtain ⟨b, eb, cb, hd⟩ := d_Any F hF code hC a.2.1 a.2.2 ca
    rw [eb, obind]
    exact ⟨_, rfl, cb, hd⟩
  · obtain ⟨b, eb, cb, b0, b1, _⟩ := d_Below F code hC a.2.1 a.2.2 ca 3
    have b1 := b1 (by omega)
    obtain ⟨m, hm, m1, m7⟩ : ∃ m : Nat, IntKind.i64.wrap (4 + b.1) = (m : Int) ∧ 1 ≤ m ∧ m ≤ 7 := ⟨(4 + b.1).toNat, by rw [w64 (by omega) (by omega)]; omega, by omega, by omega⟩
    obtain ⟨R, g, eR⟩ := sNamedV F hF [99, 121, 99, 108, 101] (by decide) m1 m7
    rw [eb, obind, hm, eR, obind]
    dsimp only
    obtain ⟨d, ed, cd, _⟩ := d_Below F code hC b.2.1 b.2.2 cb (m : Int)
    rw [ed, obind]
    obtain ⟨f, ef, cf, _⟩ := d_Below F code hC d.2.1 d.2.2 cd (m : Int)
    rw [ef, obind]
    obtain ⟨k, ek, ck⟩ := d_Once F code hC f.2.1 f.2.2 cf 3
    rw [ek, obind]
    unfold S_spec_l4Holey_j1
    split
    · obtain ⟨S, ok, gS, e2, _⟩ := sAddW F (by omega) g d.1 f.1
      rw [e2, obind]
      exact ⟨_, rfl, ck, DG_of gS⟩
    · exact ⟨_, rfl, ck, DG_of g⟩

theorem d_List (F : Nat) (hF : 2000 ≤ F) (code : List Int) (hC : code.length ≤ 1048576) (i h : Int) (hi : Cu code i) (n : Int) (rows : List Int) : ∃ r, S_spec_l4List F code i h n rows = some r ∧ r.1.length ≤ 7 := by
  unfold S_spec_l4List
  obtain ⟨a, ea, ca, a0, a1, _⟩ := d_Below F code hC i h hi 6
  have a1 := a1 (by omega)
  rw [ea, obind]
  obtain ⟨b, e, hb1, hb2⟩ := loop_meas (body := fun s : Int × Int × (List Int) × Int => S_spec_l4List_l3 F code n s.1 s.2.1 s.2.2.1 s.2.2.2) (fun t => Cu code t.1 ∧ 0 ≤ t.2.2.2 ∧ (t.2.2.1.length : Int) + t.2.2.2 ≤ 5) (fun t => t.2.2.2.toNat) (fun b => Cu code b.1 ∧ b.2.2.length ≤ 5) (by
    rintro ⟨i, h, l, x⟩ ⟨hi, hx, hl⟩
    dsimp only at hi hx hl ⊢
    unfold S_spec_l4List_l3
    by_cases h0 : 0 < x
    · left
      obtain ⟨r, er, cr, _⟩ := d_Below F code hC i h hi (if (if n < 7 then n else 7) > 1 then (if n < 7 then n else 7) else 1)
      rw [if_pos (by simpa using h0), er, obind, catO_ok (by simp; omega), obind, w64 (by omega) (by omega)]
      exact ⟨_, rfl, ⟨cr, by dsimp only; omega, by dsimp only; simp; omega⟩, by dsimp only; omega⟩
    · right
      rw [if_neg (by simpa using h0)]
      exact ⟨_, rfl, hi, by dsimp only; omega⟩) F (a.2.1, a.2.2, [], a.1) ⟨ca, a0, by simp; omega⟩ (by dsimp only; omega)
  rw [e, obind]
  unfold S_spec_l4List_j1 S_spec_l4List_j2
  obtain ⟨c, ec, cc⟩ := d_Once F code hC b.1 b.2.1 hb1 14
  rw [ec, obind]
  split
  · obtain ⟨q, eq, cq, _⟩ := d_PickInt F code hC c.2.1 c.2.2 cc ([(-1), 7] : List (Int)) (by simp)
    rw [eq, obind, catO_ok (by simp; omega), obind]
    exact ⟨_, rfl, by simp; omega⟩
  · exact ⟨_, rfl, by dsimp only; omega⟩

theorem d_FindInducedPath (F : Nat) (hF : 5000 ≤ F) (code : List Int) (hC : code.length ≤ 1048576) : ∃ r, S_spec_DrawFindInducedPath F code = some r ∧ DG r.1 r.2.1 ∧ -1 ≤ r.2.2 ∧ r.2.2 ≤ 6 := by
  unfold S_spec_DrawFindInducedPath
  obtain ⟨c, e, hc⟩ := d_New F hF code hC
  rw [e, obind]
  obtain ⟨a, ea, ca, hd⟩ := d_Any F (by omega) code hC c.1 c.2 hc
  rw [ea, obind]
  obtain ⟨b, eb, cb, b0, b1, _⟩ := d_Below F code hC a.2.2.1 a.2.2.2 ca 8
  have b1 := b1 (by omega)
  rw [eb, obind, w64 (by omega) (by omega)]
  exact ⟨_, rfl, hd, by dsimp only; omega, by dsimp only; omega⟩

theorem d_FindTwoEdges (F : Nat) (hF : 5000 ≤ F) (code : List Int) (hC : code.length ≤ 1048576) : ∃ r, S_spec_DrawFindTwoEdges F code = some r ∧ DG r.1 r.2 := by
  unfold S_spec_DrawFindTwoEdges
  obtain ⟨c, e, hc⟩ := d_New F hF code hC
  rw [e, obind]
  obtain ⟨a, ea, ca, hd⟩ := d_Any F (by omega) code hC c.1 c.2 hc
  rw [ea, obind]
  exact ⟨_, rfl, hd⟩

theorem d_FindClaw (F : Nat) (hF : 5000 ≤ F) (code : List Int) (hC : code.length ≤ 1048576) : ∃ r, S_spec_DrawFindClaw F code = some r ∧ DG r.1 r.2 := by
  unfold S_spec_DrawFindClaw
  obtain ⟨c, e, hc⟩ := d_New F hF code hC
  rw [e, obind]
  obtain ⟨a, ea, ca, hd⟩ := d_Any F (by omega) code hC c.1 c.2 hc
  rw [ea, obind]
  exact ⟨_, rfl, hd⟩

theorem d_FindHole (F : Nat) (hF : 5000 ≤ F) (code : List Int) (hC : code.length ≤ 1048576) : ∃ r, S_spec_DrawFindHole F code = some r ∧ DG r.1 r.2 := by
  unfold S_spec_DrawFindHole
  obtain ⟨c, e, hc⟩ := d_New F hF code hC
  rw [e, obind]
  obtain ⟨a, ea, ca, hd⟩ := d_Holey F (by omega) code hC c.1 c.2 hc
  rw [ea, obind]
  exact ⟨_, rfl, hd⟩

theorem d_IsHole (F : Nat) (hF : 2097152 ≤ F) (code : List Int) (hC : code.length ≤ 1048576) : ∃ r, S_spec_DrawIsHole F code = some r ∧ DG r.1 r.2.1 ∧ r.2.2.length ≤ 7 := by
  unfold S_spec_DrawIsHole
  obtain ⟨c, e, hc⟩ := d_New F (by omega) code hC
  rw [e, obind]
  obtain ⟨a, ea, ca, hd⟩ := d_Holey F (by omega) code hC c.1 c.2 hc
  rw [ea, obind]
  obtain ⟨r, hl, e1, _⟩ := kFindHole F hF a.1 hd.1 a.2.1 hd.2.1
  rw [e1, obind]
  have hj : ∀ x y p, Cu code x → ∃ r2, S_spec_DrawIsHole_j1 F code a r x y p = some r2 ∧ DG r2.1 r2.2.1 ∧ r2.2.2.length ≤ 7 := by
    intro x y p hx
    unfold S_spec_DrawIsHole_j1
    cases p with
    | true =>
      rw [if_pos rfl]
      exact ⟨_, rfl, hd, hl⟩
    | false =>
      rw [if_neg (by simp)]
      obtain ⟨q, eq, hq⟩ := d_List F (by omega) code hC x y hx a.1 a.2.1
      rw [eq, obind]
      exact ⟨_, rfl, hd, hq⟩
  split
  · obtain ⟨b, eb, cb⟩ := d_Once F code hC a.2.2.1 a.2.2.2 ca 4
    rw [eb, obind]
    exact hj _ _ _ cb
  · exact hj _ _ _ ca

theorem d_IsClaw (F : Nat) (hF : 2097152 ≤ F) (code : List Int) (hC : code.length ≤ 1048576) : ∃ r, S_spec_DrawIsClaw F code = some r ∧ DG r.1 r.2.1 ∧ r.2.2.length ≤ 7 := by
  unfold S_spec_DrawIsClaw
  obtain ⟨c, e, hc⟩ := d_New F (by omega) code hC
  rw [e, obind]
  obtain ⟨a, ea, ca, hd⟩ := d_Any F (by omega) code hC c.1 c.2 hc
  rw [ea, obind]
  obtain ⟨r, hl, e1, _⟩ := kFindClaw F hF a.1 hd.1 a.2.1 hd.2.1
  rw [e1, obind]
  have hj : ∀ x y p, Cu code x → ∃ r2, S_spec_DrawIsClaw_j1 F code a r x y p = some r2 ∧ DG r2.1 r2.2.1 ∧ r2.2.2.length ≤ 7 := by
    intro x y p hx
    unfold S_spec_DrawIsClaw_j1
    cases p with
    | true =>
      rw [if_pos rfl]
      exact ⟨_, rfl, hd, hl⟩
    | false =>
      rw [if_neg (by simp)]
      obtain ⟨q, eq, hq⟩ := d_List F (by omega) code hC x y hx a.1 a.2.1
      rw [eq, obind]
      exact ⟨_, rfl, hd, hq⟩
  split
  · obtain ⟨b, eb, cb⟩ := d_Once F code hC a.2.2.1 a.2.2.2 ca 4
    rw [eb, obind]
    exact hj _ _ _ cb
  · exact hj _ _ _ ca

theorem d_IsTwoEdges (F : Nat) (hF : 2097152 ≤ F) (code : List Int) (hC : code.length ≤ 1048576) : ∃ r, S_spec_DrawIsTwoEdges F code = some r ∧ DG r.1 r.2.1 ∧ r.2.2.length ≤ 7 := by
  unfold S_spec_DrawIsTwoEdges
  obtain ⟨c, e, hc⟩ := d_New F (by omega) code hC
  rw [e, obind]
  obtain ⟨a, ea, ca, hd⟩ := d_Any F (by omega) code hC c.1 c.2 hc
  rw [ea, obind]
  obtain ⟨r, hl, e1, _⟩ := kFindTwoEdges F hF a.1 hd.1 a.2.1 hd.2.1
  rw [e1, obind]
  have hj : ∀ x y p, Cu code x → ∃ r2, S_spec_DrawIsTwoEdges_j1 F code a r x y p = some r2 ∧ DG r2.1 r2.2.1 ∧ r2.2.2.length ≤ 7 := by
    intro x y p hx
    unfold S_spec_DrawIsTwoEdges_j1
    cases p with
    | true =>
      rw [if_pos rfl]
      exact ⟨_, rfl, hd, hl⟩
    | false =>
      rw [if_neg (by simp)]
      obtain ⟨q, eq, hq⟩ := d_List F (by omega) code hC x y hx a.1 a.2.1
      rw [eq, obind]
      exact ⟨_, rfl, hd, hq⟩
  split
  · obtain ⟨b, eb, cb⟩ := d_Once F code hC a.2.2.1 a.2.2.2 ca 4
    rw [eb, obind]
    exact hj _ _ _ cb
  · exact hj _ _ _ ca

theorem d_IsInducedPath (F : Nat) (hF : 2097152 ≤ F) (code : List Int) (hC : code.length ≤ 1048576) : ∃ r, S_spec_DrawIsInducedPath F code = some r ∧ DG r.1 r.2.1 ∧ r.2.2.length ≤ 7 := by
  unfold S_spec_DrawIsInducedPath
  obtain ⟨c, e, hc⟩ := d_New F (by omega) code hC
  rw [e, obind]
  obtain ⟨a, ea, ca, hd⟩ := d_Any F (by omega) code hC c.1 c.2 hc
  rw [ea, obind]
  obtain ⟨b, eb, cb, _⟩ := d_Below F code hC a.2.2.1 a.2.2.2 ca 4
  rw [eb, obind]
  obtain ⟨r, hl, e1, _⟩ := kFindInducedPath F hF a.1 hd.1 a.2.1 hd.2.1 (IntKind.i64.wrap (1 + b.1))
  rw [e1, obind]
  have hj : ∀ x y p, Cu code x → ∃ r2, S_spec_DrawIsInducedPath_j1 F code a r x y p = some r2 ∧ DG r2.1 r2.2.1 ∧ r2.2.2.length ≤ 7 := by
    intro x y p hx
    unfold S_spec_DrawIsInducedPath_j1
    cases p with
    | true =>
      rw [if_pos rfl]
      exact ⟨_, rfl, hd, hl⟩
    | false =>
      rw [if_neg (by simp)]
      obtain ⟨q, eq, hq⟩ := d_List F (by omega) code hC x y hx a.1 a.2.1
      rw [eq, obind]
      exact ⟨_, rfl, hd, hq⟩
  split
  · obtain ⟨k, ek, ck⟩ := d_Once F code hC b.2.1 b.2.2 cb 3
    rw [ek, obind]
    exact hj _ _ _ ck
  · exact hj _ _ _ cb

theorem d_CanonicalCycle (F : Nat) (hF : 5000 ≤ F) (code : List Int) (hC : code.length ≤ 1048576) : ∃ r, S_spec_DrawCanonicalCycle F code = some r ∧ r.length ≤ 7 := by
  unfold S_spec_DrawCanonicalCycle
  obtain ⟨c, e, hc⟩ := d_New F hF code hC
  rw [e, obind]
  obtain ⟨q, eq, hq⟩ := d_List F (by omega) code hC c.1 c.2 hc 6 []
  rw [eq, obind]
  exact ⟨_, rfl, hq⟩

theorem fpa_j5 (F : Nat) (hF : 2097152 ≤ F) (code : List Int) (hC : code.length ≤ 1048576) : S_laws_FnParts_j5 F code false = some true := by
  unfold S_laws_FnParts_j5
  obtain ⟨r1, e1, a1, l1⟩ := d_IsInducedPath F hF code hC
  obtain ⟨r2, e2, a2, l2⟩ := d_IsHole F hF code hC
  obtain ⟨r3, e3, a3, l3⟩ := d_IsClaw F hF code hC
  obtain ⟨r4, e4, a4, l4⟩ := d_IsTwoEdges F hF code hC
  obtain ⟨r5, e5, l5⟩ := d_CanonicalCycle F (by omega) code hC
  obtain ⟨x1, s1, i1⟩ := kIsInducedPath F hF r1.1 a1.1 r1.2.1 a1.2.1 r1.2.2 (by omega)
  obtain ⟨x2, s2, i2⟩ := kIsHole F hF r2.1 a2.1 r2.2.1 a2.2.1 r2.2.2 (by omega)
  obtain ⟨x3, s3, i3⟩ := kIsClaw F hF r3.1 a3.1 r3.2.1 a3.2.1 r3.2.2 (by omega)
  obtain ⟨x4, s4, i4⟩ := kIsTwoEdges F hF r4.1 a4.1 r4.2.1 a4.2.1 r4.2.2 (by omega)
  obtain ⟨x5, h5, s5, i5⟩ := kCanonicalCycle F hF r5 (by omega)
  rw [if_neg (by simp), e1, obind, e2, obind, e3, obind, e4, obind, e5, obind, i1, obind, s1, obind, if_pos (by simp), i2, obind, s2, obind, if_pos (by simp), i3, obind, s3, obind, if_pos (by simp), i4, obind, s4, obind, if_pos (by simp), i5, obind, s5, obind, sameI F _ _ (by omega) (by omega), obind]
  unfold S_laws_FnParts_j6
  simp

theorem fpa_j4 (F : Nat) (hF : 2097152 ≤ F) (code : List Int) (hC : code.length ≤ 1048576) : S_laws_FnParts_j4 F code false = some true := by
  unfold S_laws_FnParts_j4
  have hj := fpa_j5 F hF code hC
  obtain ⟨q, e, hd⟩ := d_FindClaw F (by omega) code hC
  obtain ⟨r, hl, s1, i1, hk⟩ := kFindClaw2 F hF q.1 hd.1 q.2 hd.2.1
  rw [if_neg (by simp), e, obind, i1, obind, s1, obind, if_neg (by simp), sameI F _ _ (by omega) (by omega), obind, if_neg (by simp)]
  by_cases h : r.2 = true
  · rw [if_pos h, hk h, obind]
    exact hj
  · rw [if_neg h]
    exact hj

theorem fpa_j3 (F : Nat) (hF : 2097152 ≤ F) (code : List Int) (hC : code.length ≤ 1048576) : S_laws_FnParts_j3 F code false = some true := by
  unfold S_laws_FnParts_j3
  have hj := fpa_j4 F hF code hC
  obtain ⟨q, e, hd⟩ := d_FindTwoEdges F (by omega) code hC
  obtain ⟨n, rows⟩ := q
  obtain ⟨a1, a2, a3, a4⟩ := hd
  dsimp only at a1 a2 a3 a4
  obtain ⟨r, hl, s1, i1, hk⟩ := kFindTwoEdges2 F hF n a1 rows a2
  rw [if_neg (by simp), e, obind]
  dsimp only
  rw [i1, obind, s1, obind]
  cases hG : isG n rows with
  | false =>
    have hr2 : r.2 = false := by
      rw [← Bool.not_eq_true]
      intro h
      have h1 := hk h
      obtain ⟨z, h2, h3⟩ := kIsTwoEdges F hF n a1 rows a2 r.1 (by omega)
      rw [h1] at h3
      have hz := Option.some.inj h3
      subst hz
      have hv := v_IsTwoEdges F hF n rows a2 r.1 (by omega) h2
      unfold isV at hv
      rw [hG] at hv
      cases hv
    have hc : S_spec_ComplementOf F n rows = some (0, [], false) := by
      unfold S_spec_ComplementOf
      rw [sIsGraph F (by omega) n rows a2, obind, hG]
      rfl
    rw [hc, obind, if_neg (by simp), sameI F _ _ (by omega) (by omega), obind, if_neg (by simp), if_neg (by simp [hr2])]
    exact hj
  | true =>
    obtain ⟨m, R, rfl, rfl, g⟩ := isG_elim hG
    rw [sComplement F (by omega) g, obind, if_neg (by simp), sameI F _ _ (by omega) (by omega), obind, if_neg (by simp)]
    by_cases h : r.2 = true
    · have h1 := hk h
      obtain ⟨a, b, c, d, hl4, hh⟩ := twoHole F hF g r.1 (by omega) h1
      rw [if_pos h, h1, obind, if_neg (by simp), if_pos rfl, hl4]
      have i0 : idxL [a, b, c, d] 0 = some a := rfl
      have i1 : idxL [a, b, c, d] 1 = some b := rfl
      have i2 : idxL [a, b, c, d] 2 = some c := rfl
      have i3 : idxL [a, b, c, d] 3 = some d := rfl
      rw [i0, obind, i2, obind, i1, obind, i3, obind]
      dsimp only
      rw [hh, obind]
      exact hj
    · rw [if_neg h]
      exact hj

theorem fpa_j1 (F : Nat) (hF : 2097152 ≤ F) (code : List Int) (hC : code.length ≤ 1048576) : S_laws_FnParts_j1 F code false = some true := by
  unfold S_laws_FnParts_j1
  have hj := fpa_j3 F hF code hC
  obtain ⟨q, e, hd, k1, k2⟩ := d_FindInducedPath F (by omega) code hC
  obtain ⟨a1, a2, a3, a4⟩ := hd
  obtain ⟨r, hl, s1, i1, hk⟩ := kFindPath2 F hF q.1 a1 q.2.1 a2 q.2.2
  obtain ⟨r', hl', s2, i2, _⟩ := kFindPath2 F hF q.1 a1 q.2.1 a2 (q.2.2 + 1)
  have hj2 : S_laws_FnParts_j2 F code q r false = some true := by
    unfold S_laws_FnParts_j2
    rw [if_neg (by simp), w64 (by omega) (by omega), s2, obind]
    by_cases h2 : r'.2 = true
    · rw [if_pos h2]
      by_cases h1 : r.2 = true
      · rw [if_neg (by simp [h1])]
        exact hj
      · rw [if_pos (by simpa using h1)]
        by_cases hp : 1 ≤ q.2.2
        · exfalso
          obtain ⟨k, hk2⟩ : ∃ k : Nat, q.2.2 = (k : Int) := ⟨q.2.2.toNat, by omega⟩
          rw [hk2] at s1 s2
          exact h1 (pathMono F hF q.1 a1 q.2.1 a2 k (by omega) (by omega) r' r (by rw [Int.natCast_add]; exact s2) s1 h2)
        · rw [decide_eq_false hp]
          exact hj
    · rw [if_neg h2]
      exact hj
  rw [if_neg (by simp), e, obind, i1, obind, s1, obind, if_neg (by simp), sameI F _ _ (by omega) (by omega), obind, if_neg (by simp)]
  by_cases h : r.2 = true
  · obtain ⟨h1, h2⟩ := hk h
    rw [if_pos h, h1, obind, if_neg (by simp), h2, bne_self_eq_false]
    exact hj2
  · rw [if_neg h]
    exact hj2

theorem P_FnParts (F : Nat) (hF : 2097152 ≤ F) (code : List Int) (h8 : ∀ x, x ∈ code → U8 x) (hm : code.length ≤ maxLen) : S_laws_FnParts F code = some true := by
  unfold S_laws_FnParts
  rw [show S_laws_big F code = some (decide ((1048576 : Int) < (code.length : Int))) from rfl, obind]
  by_cases hl : (1048576 : Int) < (code.length : Int)
  · rw [if_pos (by simpa using hl)]
  · have hC : code.length ≤ 1048576 := by omega
    rw [if_neg (by simpa using hl)]
    have hj := fpa_j1 F hF code hC
    obtain ⟨q, e, hd⟩ := d_FindHole F (by omega) code hC
    obtain ⟨n, rows⟩ := q
    obtain ⟨a1, a2, a3, a4⟩ := hd
    dsimp only at a1 a2 a3 a4
    obtain ⟨r, hrl, s1, i1, hk⟩ := kFindHole2 F hF n a1 rows a2
    rw [e, obind]
    dsimp only
    rw [i1, obind, s1, obind, if_neg (by simp), sameI F _ _ (by omega) (by omega), obind, if_neg (by simp)]
    by_cases h : r.2 = true
    · have h1 := hk h
      have hG : isG n rows = true := by
        obtain ⟨z, h2, h3⟩ := kIsHole F hF n a1 rows a2 r.1 (by omega)
        rw [h1] at h3
        have hz := Option.some.inj h3
        subst hz
        have hv := v_IsHole F hF n rows a2 r.1 (by omega) h2
        unfold isV at hv
        simp only [Bool.and_eq_true] at hv
        exact hv.1.1
      obtain ⟨m, R, rfl, rfl, g⟩ := isG_elim hG
      obtain ⟨c, c1, c2, c3⟩ := canHole F hF g r.1 (by omega) h1
      rw [if_pos h, h1, obind, if_neg (by simp), c1, obind, c3, obind]
      exact hj
    · rw [if_neg h]
      exact hj

end Go.Proofs.Ytilfniehellmmaa
