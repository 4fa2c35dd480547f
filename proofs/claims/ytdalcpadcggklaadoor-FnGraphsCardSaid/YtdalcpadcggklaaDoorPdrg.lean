/- Proved here: drawn graphs are within bounds. -/
import Derived.Test.YtdalcpadcggklaaDoorPdraw
import Derived.Test.YtdalcpadcggklaaDoorPadd
import Derived.Test.YtdalcpadcggklaaDoorPnam
namespace Go.Proofs.YtdalcpadcggklaaDoor
open Go Go.RowKit
set_option linter.unusedVariables false
set_option linter.unusedSimpArgs false

theorem sAddW (F : Nat) (hF : 8 ≤ F) {m : Nat} {R : Nat → Nat} (g : VG m R) (v w : Int) : ∃ (S : Nat → Nat) (ok : Bool), VG m S ∧ S_spec_AddEdge F (m : Int) (rowsOf m R) v w = some ((m : Int), rowsOf m S, ok) ∧ (∀ a b : Nat, v = (a : Int) → w = (b : Int) → a < m → b < m → a ≠ b → (R a).testBit b = false → ok = true ∧ S = flipR R a b) := by
  unfold S_spec_AddEdge S_spec_l2Copy
  rw [catO_ok (by simp [rowsOf_len]; have := g.n7; omega), obind, obind, sPair F hF (m : Int) _ g.row64, obind, List.nil_append]
  cases hP : pairB (m : Int) (rowsOf m R) v w with
  | true =>
    obtain ⟨m', R', a, b, hm', hr', rfl, rfl, _, ha, hb, hne⟩ := pairB_elim hP
    have : m' = m := by omega
    subst this
    have h7 := g.n7
    have b1 := g.b128 ha
    have b2 := g.b128 hb
    rw [if_neg (by simp), sEdge F g ha (by omega), obind]
    unfold S_spec_AddEdge_j1
    cases hab : (R a).testBit b with
    | true =>
      refine ⟨R, false, g, rfl, ?_⟩
      intro x y hx hy _ _ _ hxy
      have e1 : x = a := by omega
      have e2 : y = b := by omega
      subst e1 e2
      rw [hab] at hxy; cases hxy
    | false =>
      have hba : (R b).testBit a = false := by rw [← g.sym a b ha hb]; exact hab
      have p1 := pow_le64 a (by omega)
      have p2 := pow_le64 b (by omega)
      have hset : ∀ x : Int, idxL ((rowsOf m' R).set a x) (b : Int) = some ((R b : Nat) : Int) := fun x => by
        have hl : b < ((rowsOf m' R).set a x).length := by simpa [rowsOf_len] using hb
        rw [idxL_get hl, List.getElem_set_ne hne]
        simp [rowsOf]
      have f1 := flip_add _ b1 b (by omega) hab
      have f2 := flip_add _ b2 a (by omega) hba
      refine ⟨flipR R a b, true, flip_VG g ha hb hne, ?_, ?_⟩
      · rw [if_neg (by simp), rowsOf_idx ha, obind, nnO_ok (by omega), obind, obind, shL1 (by omega), w64 (by omega) (by omega), Int.toNat_natCast, hset, obind, nnO_ok (by omega), obind, obind, shL1 (by omega), w64 (by omega) (by omega), Int.toNat_natCast, show ((R a : Nat) : Int) + ((2 ^ b : Nat) : Int) = ((R a ^^^ 2 ^ b : Nat) : Int) by rw [← f1]; simp, show ((R b : Nat) : Int) + ((2 ^ a : Nat) : Int) = ((R b ^^^ 2 ^ a : Nat) : Int) by rw [← f2]; simp, rowsOf_flip ha hb hne]
      · intro x y hx hy _ _ _ _
        have e1 : x = a := by omega
        have e2 : y = b := by omega
        subst e1 e2
        exact ⟨rfl, rfl⟩
  | false =>
    refine ⟨R, false, g, ?_, ?_⟩
    · rw [if_pos (by simp)]
      rfl
    · intro a b hx hy ha hb hne _
      exfalso
      subst hx hy
      unfold pairB at hP
      rw [isG_intro g, inB_iff.2 (show (0 : Int) ≤ (a : Int) ∧ (a : Int) ≤ (m : Int) - 1 by omega), inB_iff.2 (show (0 : Int) ≤ (b : Int) ∧ (b : Int) ≤ (m : Int) - 1 by omega)] at hP
      simp at hP
      omega

theorem sNamedV (F : Nat) (hF : 2000 ≤ F) (s : List UInt8) (hs : sixN.contains s = true) {m : Nat} (h1 : 1 ≤ m) (h7 : m ≤ 7) : ∃ R, VG m R ∧ S_spec_NamedGraph F s (m : Int) = some ((m : Int), rowsOf m R, true) := by
  unfold S_spec_NamedGraph
  rw [sIn, obind, inB_iff.2 (show (1 : Int) ≤ (m : Int) ∧ (m : Int) ≤ 7 by omega), if_neg (by simp), mkO_ok (by omega) (by omega), obind, Int.toNat_natCast, ← rowsOf_zero]
  obtain ⟨b, e, R, g, rfl⟩ := loop_meas (body := fun x : Int × List Int × Int => S_spec_NamedGraph_l3 F s (m : Int) x.1 x.2.1 x.2.2) (fun t => ∃ (R : Nat → Nat) (v : Nat), t = ((m : Int), rowsOf m R, (v : Int)) ∧ VG m R ∧ v ≤ m) (fun t => m - t.2.2.toNat) (fun b => ∃ R, VG m R ∧ b = .inl ((m : Int), rowsOf m R)) (by
    rintro _ ⟨R, v, rfl, g, hvm⟩
    dsimp only
    unfold S_spec_NamedGraph_l3
    by_cases hv : v < m
    · left
      rw [if_pos (by simp; omega), w64 (by omega) (by omega), show (v : Int) + 1 = ((v + 1 : Nat) : Int) by omega]
      obtain ⟨b, e, R2, g2, rfl⟩ := loop_meas (body := fun x : Int × List Int × Int => S_spec_NamedGraph_l5 F s (m : Int) (v : Int) x.1 x.2.1 x.2.2) (fun t => ∃ (R : Nat → Nat) (w : Nat), t = ((m : Int), rowsOf m R, (w : Int)) ∧ VG m R ∧ w ≤ m) (fun t => m - t.2.2.toNat) (fun b => ∃ R, VG m R ∧ b = .inl ((m : Int), rowsOf m R)) (by
        rintro _ ⟨R, w, rfl, g, hwm⟩
        dsimp only
        by_cases hw : w < m
        · left
          rw [sNamed F s hs h7 h1 hv hw]
          unfold S_spec_NamedGraph_j7 S_spec_NamedGraph_j6
          rw [w64 (by omega) (by omega), show (w : Int) + 1 = ((w + 1 : Nat) : Int) by omega]
          cases nmE s m v w with
          | false =>
            rw [if_neg (by simp)]
            exact ⟨_, rfl, ⟨R, w + 1, rfl, g, by omega⟩, by dsimp only; omega⟩
          | true =>
            obtain ⟨S, ok, gS, e, _⟩ := sAddW F (by omega) g (v : Int) (w : Int)
            rw [if_pos rfl, e, obind]
            exact ⟨_, rfl, ⟨S, w + 1, rfl, gS, by omega⟩, by dsimp only; omega⟩
        · right
          unfold S_spec_NamedGraph_l5
          rw [if_neg (by simp; omega)]
          exact ⟨_, rfl, R, g, rfl⟩) F ((m : Int), rowsOf m R, ((v + 1 : Nat) : Int)) ⟨R, v + 1, rfl, g, by omega⟩ (by dsimp only; omega)
      rw [e, obind]
      unfold S_spec_NamedGraph_j4
      dsimp only
      rw [w64 (by omega) (by omega), show (v : Int) + 1 = ((v + 1 : Nat) : Int) by omega]
      exact ⟨_, rfl, ⟨R2, v + 1, rfl, g2, by omega⟩, by dsimp only; omega⟩
    · right
      rw [if_neg (by simp; omega)]
      exact ⟨_, rfl, R, g, rfl⟩) F ((m : Int), rowsOf m (fun _ => 0), 0) ⟨fun _ => 0, 0, rfl, VG_zero h1 h7, by omega⟩ (by dsimp only; omega)
  rw [e, obind]
  refine ⟨R, g, ?_⟩
  unfold S_spec_NamedGraph_j1 S_spec_NamedGraph_j2
  rw [List.contains_iff_mem] at hs
  simp only [sixN, List.mem_cons, List.not_mem_nil, or_false] at hs
  by_cases hm1 : (m : Int) == 1
  · dsimp only
    rw [if_pos hm1]
    rcases hs with rfl | rfl | rfl | rfl | rfl | rfl <;> rfl
  · dsimp only
    rw [if_neg hm1]
    rfl

theorem d_Random (F : Nat) (hF : 2000 ≤ F) (code : List Int) (hC : code.length ≤ 1048576) (i h : Int) (hi : Cu code i) {m : Nat} (h1 : 1 ≤ m) (h7 : m ≤ 7) (odd : Int) : ∃ r, S_spec_l2Random F code i h (m : Int) odd = some r ∧ Cu code r.2.2.1 ∧ ∃ R, VG m R ∧ r.1 = (m : Int) ∧ r.2.1 = rowsOf m R := by
  unfold S_spec_l2Random
  rw [mkO_ok (by omega) (by omega), obind, Int.toNat_natCast, ← rowsOf_zero]
  obtain ⟨b, e, hb⟩ := loop_meas (body := fun s : Int × Int × Int × (List Int) × Int => S_spec_l2Random_l2 F code (m : Int) odd s.1 s.2.1 s.2.2.1 s.2.2.2.1 s.2.2.2.2) (fun t => Cu code t.1 ∧ ∃ (R : Nat → Nat) (v : Nat), t.2.2 = ((m : Int), rowsOf m R, (v : Int)) ∧ VG m R ∧ v ≤ m) (fun t => m - t.2.2.2.2.toNat) (fun b => Cu code b.2.2.1 ∧ ∃ R, VG m R ∧ b.1 = (m : Int) ∧ b.2.1 = rowsOf m R) (by
    rintro ⟨i, h, t⟩ ⟨hi, R, v, ht, g, hvm⟩
    dsimp only at hi ht ⊢
    subst ht
    dsimp only
    unfold S_spec_l2Random_l2
    by_cases hv : v < m
    · left
      rw [if_pos (by simp; omega), w64 (by omega) (by omega), show (v : Int) + 1 = ((v + 1 : Nat) : Int) by omega]
      obtain ⟨b, e, hb1, R2, g2, hb2⟩ := loop_meas (body := fun s : Int × Int × Int × (List Int) × Int => S_spec_l2Random_l4 F code (m : Int) odd (v : Int) s.1 s.2.1 s.2.2.1 s.2.2.2.1 s.2.2.2.2) (fun t => Cu code t.1 ∧ ∃ (R : Nat → Nat) (w : Nat), t.2.2 = ((m : Int), rowsOf m R, (w : Int)) ∧ VG m R ∧ w ≤ m) (fun t => m - t.2.2.2.2.toNat) (fun b => Cu code b.1 ∧ ∃ R, VG m R ∧ b.2.2 = ((m : Int), rowsOf m R)) (by
        rintro ⟨i, h, t⟩ ⟨hi, R, w, ht, g, hwm⟩
        dsimp only at hi ht ⊢
        subst ht
        dsimp only
        unfold S_spec_l2Random_l4
        by_cases hw : w < m
        · left
          obtain ⟨r, e, hc, _⟩ := d_Below F code hC i h hi 10
          rw [if_pos (by simp; omega), e, obind]
          have hj : ∀ (R : Nat → Nat), VG m R → ∃ t, S_spec_l2Random_j5 F (w : Int) r.2.1 r.2.2 (m : Int) (rowsOf m R) = some (.inl t) ∧ (Cu code t.1 ∧ ∃ (R : Nat → Nat) (w : Nat), t.2.2 = ((m : Int), rowsOf m R, (w : Int)) ∧ VG m R ∧ w ≤ m) ∧ m - t.2.2.2.2.toNat < m - ((w : Int)).toNat := by
            intro R g
            unfold S_spec_l2Random_j5
            rw [w64 (by omega) (by omega), show (w : Int) + 1 = ((w + 1 : Nat) : Int) by omega]
            exact ⟨_, rfl, ⟨hc, R, w + 1, rfl, g, by omega⟩, by dsimp only; omega⟩
          by_cases hod : r.1 < odd
          · obtain ⟨S, ok, gS, e2, _⟩ := sAddW F (by omega) g (v : Int) (w : Int)
            rw [if_pos (by simpa using hod), e2, obind]
            exact hj S gS
          · rw [if_neg (by simpa using hod)]
            exact hj R g
        · right
          rw [if_neg (by simp; omega)]
          exact ⟨_, rfl, hi, R, g, rfl⟩) F (i, h, (m : Int), rowsOf m R, ((v + 1 : Nat) : Int)) ⟨hi, R, v + 1, rfl, g, by omega⟩ (by dsimp only; omega)
      rw [e, obind]
      obtain ⟨b1, b2, b3⟩ := b
      dsimp only at hb1 hb2 ⊢
      subst hb2
      unfold S_spec_l2Random_j3
      dsimp only
      rw [w64 (by omega) (by omega), show (v : Int) + 1 = ((v + 1 : Nat) : Int) by omega]
      exact ⟨_, rfl, ⟨hb1, R2, v + 1, rfl, g2, by omega⟩, by dsimp only; omega⟩
    · right
      rw [if_neg (by simp; omega)]
      exact ⟨_, rfl, hi, R, g, rfl, rfl⟩) F (i, h, (m : Int), rowsOf m (fun _ => 0), 0) ⟨hi, fun _ => 0, 0, rfl, VG_zero h1 h7, by omega⟩ (by dsimp only; omega)
  rw [e, obind]
  unfold S_spec_l2Random_j1
  exact ⟨_, rfl, hb⟩

theorem d_Draw (F : Nat) (hF : 2000 ≤ F) (code : List Int) (hC : code.length ≤ 1048576) (i h : Int) (hi : Cu code i) : ∃ r, S_spec_l2Draw F code i h = some r ∧ Cu code r.2.2.1 ∧ ∃ m R, VG m R ∧ r.1 = (m : Int) ∧ r.2.1 = rowsOf m R := by
  unfold S_spec_l2Draw
  obtain ⟨a, ea, ca, a0, a1, _⟩ := d_Below F code hC i h hi 6
  have a1 := a1 (by omega)
  obtain ⟨m, hm⟩ : ∃ m : Nat, IntKind.i64.wrap (1 + a.1) = (m : Int) ∧ 1 ≤ m ∧ m ≤ 7 := ⟨(1 + a.1).toNat, by rw [w64 (by omega) (by omega)]; omega, by omega, by omega⟩
  obtain ⟨hm, m1, m7⟩ := hm
  rw [ea, obind]
  obtain ⟨b, eb, cb, _⟩ := d_Below F code hC a.2.1 a.2.2 ca 4
  rw [eb, obind, hm]
  by_cases b0 : b.1 = 0
  · rw [if_pos (by simpa using b0)]
    obtain ⟨c, ec, cc, hc⟩ := d_Pick F code hC b.2.1 b.2.2 cb ([([112, 97, 116, 104] : List UInt8), ([99, 121, 99, 108, 101] : List UInt8), ([99, 111, 109, 112, 108, 101, 116, 101] : List UInt8), ([115, 116, 97, 114] : List UInt8), ([119, 104, 101, 101, 108] : List UInt8)] : List (List UInt8)) (by simp)
    have hs : sixN.contains c.1 = true := by
      rw [List.contains_iff_mem]
      simp only [sixN, List.mem_cons, List.not_mem_nil, or_false] at hc ⊢
      rcases hc with h | h | h | h | h <;> simp [h]
    obtain ⟨R, g, eR⟩ := sNamedV F hF c.1 hs m1 m7
    rw [ec, obind, eR, obind]
    obtain ⟨d, ed, cd, _⟩ := d_Below F code hC c.2.1 c.2.2 cc (m : Int)
    rw [ed, obind]
    obtain ⟨f, ef, cf, _⟩ := d_Below F code hC d.2.1 d.2.2 cd (m : Int)
    rw [ef, obind]
    obtain ⟨k, ek, ck⟩ := d_Once F code hC f.2.1 f.2.2 cf 2
    rw [ek, obind]
    unfold S_spec_l2Draw_j1
    split
    · obtain ⟨S, ok, gS, e2, _⟩ := sAddW F (by omega) g d.1 f.1
      dsimp only
      rw [e2, obind]
      exact ⟨_, rfl, ck, m, S, gS, rfl, rfl⟩
    · exact ⟨_, rfl, ck, m, R, g, rfl, rfl⟩
  · rw [if_neg (by simpa using b0)]
    split
    · obtain ⟨r, er, cr, R, g, h1, h2⟩ := d_Random F hF code hC b.2.1 b.2.2 cb m1 m7 7
      rw [er, obind]
      exact ⟨_, rfl, cr, m, R, g, h1, h2⟩
    · obtain ⟨r, er, cr, R, g, h1, h2⟩ := d_Random F hF code hC b.2.1 b.2.2 cb m1 m7 4
      rw [er, obind]
      exact ⟨_, rfl, cr, m, R, g, h1, h2⟩

/-- A drawn graph. -/
def DG (n : Int) (rows : List Int) : Prop := I64 n ∧ Row64 rows ∧ 1 ≤ rows.length ∧ rows.length ≤ 7
theorem DG_of {m : Nat} {R : Nat → Nat} (g : VG m R) : DG (m : Int) (rowsOf m R) := by
  have := g.n7
  have := g.n1
  exact ⟨by unfold I64; omega, g.row64, by rw [rowsOf_len]; omega, by rw [rowsOf_len]; omega⟩

theorem d_Any (F : Nat) (hF : 2000 ≤ F) (code : List Int) (hC : code.length ≤ 1048576) (i h : Int) (hi : Cu code i) : ∃ r, S_spec_l2Any F code i h = some r ∧ Cu code r.2.2.1 ∧ DG r.1 r.2.1 := by
  unfold S_spec_l2Any S_spec_l2Any_j1
  obtain ⟨a, ea, ca, m, R, g, h1, h2⟩ := d_Draw F hF code hC i h hi
  obtain ⟨x, y, z⟩ := a
  dsimp only at h1 h2 ca
  subst h1 h2
  have hd := DG_of g
  obtain ⟨d1, d2, d3, d4⟩ := hd
  rw [ea, obind]
  obtain ⟨b, eb, cb, _⟩ := d_Below F code hC z.1 z.2 ca 18
  dsimp only
  rw [eb, obind]
  by_cases b0 : b.1 = 0
  · rw [if_pos (by simpa using b0)]
    obtain ⟨c, ec, cc, hc⟩ := d_PickInt F code hC b.2.1 b.2.2 cb ([0, (-1), 8, 3] : List (Int)) (by simp)
    rw [ec, obind]
    refine ⟨_, rfl, cc, ?_, d2, d3, d4⟩
    simp only [List.mem_cons, List.not_mem_nil, or_false] at hc
    unfold I64
    dsimp only
    omega
  · rw [if_neg (by simpa using b0)]
    by_cases b1 : b.1 = 1
    · rw [if_pos (by simpa using b1)]
      obtain ⟨c, ec, cc, hc⟩ := d_PickInt F code hC b.2.1 b.2.2 cb ([(-1), 1, 2, 128, 9223372036854775807] : List (Int)) (by simp)
      have i0 : ∃ q, idxL (rowsOf m R) 0 = some q := by
        have := idxL_get (l := rowsOf m R) (k := 0) (by omega)
        exact ⟨_, this⟩
      obtain ⟨q, hq⟩ := i0
      rw [ec, obind, hq, obind]
      refine ⟨_, rfl, cc, d1, ?_, by simpa using d3, by simpa using d4⟩
      intro v hv
      rcases List.mem_or_eq_of_mem_set hv with h | h
      · exact d2 v h
      · simp only [List.mem_cons, List.not_mem_nil, or_false] at hc
        unfold I64
        omega
    · rw [if_neg (by simpa using b1)]
      exact ⟨_, rfl, cb, d1, d2, d3, d4⟩

theorem d_Two (F : Nat) (hF : 5000 ≤ F) (code : List Int) (hC : code.length ≤ 1048576) : ∃ r, S_spec_l2Two F code = some r ∧ DG r.1 r.2.1 := by
  unfold S_spec_l2Two
  obtain ⟨c, e, hc⟩ := d_New F hF code hC
  rw [e, obind]
  obtain ⟨a, ea, ca, hd⟩ := d_Any F (by omega) code hC c.1 c.2 hc
  rw [ea, obind]
  obtain ⟨b, eb, cb, _⟩ := d_Below F code hC a.2.2.1 a.2.2.2 ca 7
  rw [eb, obind]
  obtain ⟨b2, eb2, cb2, _⟩ := d_Below F code hC b.2.1 b.2.2 cb 2
  rw [eb2, obind]
  obtain ⟨b3, eb3, cb3, _⟩ := d_Below F code hC b2.2.1 b2.2.2 cb2 2
  rw [eb3, obind]
  obtain ⟨b4, eb4, cb4, _⟩ := d_Below F code hC b3.2.1 b3.2.2 cb3 6
  rw [eb4, obind]
  exact ⟨_, rfl, hd⟩

theorem d_AddEdge (F : Nat) (hF : 5000 ≤ F) (code : List Int) (hC : code.length ≤ 1048576) : ∃ r, S_spec_DrawAddEdge F code = some r ∧ DG r.1 r.2.1 := by
  unfold S_spec_DrawAddEdge
  obtain ⟨r, e, h⟩ := d_Two F hF code hC
  rw [e, obind]
  exact ⟨_, rfl, h⟩

theorem d_RemoveEdge (F : Nat) (hF : 5000 ≤ F) (code : List Int) (hC : code.length ≤ 1048576) : ∃ r, S_spec_DrawRemoveEdge F code = some r ∧ DG r.1 r.2.1 := by
  unfold S_spec_DrawRemoveEdge
  obtain ⟨r, e, h⟩ := d_Two F hF code hC
  rw [e, obind]
  exact ⟨_, rfl, h⟩

theorem d_HasEdge (F : Nat) (hF : 5000 ≤ F) (code : List Int) (hC : code.length ≤ 1048576) : ∃ r, S_spec_DrawHasEdge F code = some r ∧ DG r.1 r.2.1 := by
  unfold S_spec_DrawHasEdge
  obtain ⟨r, e, h⟩ := d_Two F hF code hC
  rw [e, obind]
  exact ⟨_, rfl, h⟩

theorem d_FormatGraph (F : Nat) (hF : 5000 ≤ F) (code : List Int) (hC : code.length ≤ 1048576) : ∃ r, S_spec_DrawFormatGraph F code = some r ∧ DG r.1 r.2 := by
  unfold S_spec_DrawFormatGraph
  obtain ⟨c, e, hc⟩ := d_New F hF code hC
  rw [e, obind]
  obtain ⟨a, ea, ca, hd⟩ := d_Any F (by omega) code hC c.1 c.2 hc
  rw [ea, obind]
  exact ⟨_, rfl, hd⟩

theorem d_NamedGraph (F : Nat) (hF : 5000 ≤ F) (code : List Int) (hC : code.length ≤ 1048576) : ∃ r, S_spec_DrawNamedGraph F code = some r := by
  unfold S_spec_DrawNamedGraph
  obtain ⟨c, e, hc⟩ := d_New F hF code hC
  rw [e, obind]
  obtain ⟨a, ea, ca, _⟩ := d_Pick F code hC c.1 c.2 hc ([([112, 97, 116, 104] : List UInt8), ([99, 121, 99, 108, 101] : List UInt8), ([99, 111, 109, 112, 108, 101, 116, 101] : List UInt8), ([115, 116, 97, 114] : List UInt8), ([119, 104, 101, 101, 108] : List UInt8), ([101, 109, 112, 116, 121] : List UInt8), ([] : List UInt8), ([80, 97, 116, 104] : List UInt8)] : List (List UInt8)) (by simp)
  rw [ea, obind]
  obtain ⟨b, eb, cb, _⟩ := d_Below F code hC a.2.1 a.2.2 ca 10
  rw [eb, obind]
  exact ⟨_, rfl⟩

theorem d_EqualGraphs (F : Nat) (hF : 5000 ≤ F) (code : List Int) (hC : code.length ≤ 1048576) : ∃ r, S_spec_DrawEqualGraphs F code = some r ∧ DG r.1 r.2.1 := by
  unfold S_spec_DrawEqualGraphs
  obtain ⟨c, e, hc⟩ := d_New F hF code hC
  rw [e, obind]
  obtain ⟨a, ea, ca, hd⟩ := d_Any F (by omega) code hC c.1 c.2 hc
  rw [ea, obind]
  obtain ⟨b, eb, cb⟩ := d_Once F code hC a.2.2.1 a.2.2.2 ca 2
  rw [eb, obind]
  split
  · unfold S_spec_l2Copy
    rw [catO_ok (by have := hd.2.2.2; simp; omega), obind, obind]
    exact ⟨_, rfl, hd⟩
  · obtain ⟨a2, ea2, ca2, hd2⟩ := d_Any F (by omega) code hC b.2.1 b.2.2 cb
    rw [ea2, obind]
    exact ⟨_, rfl, hd⟩

theorem d_Spoil (F : Nat) (hF : 2000 ≤ F) (code : List Int) (hC : code.length ≤ 1048576) (i h : Int) (hi : Cu code i) (s : List UInt8) (hs : s.length ≤ 100000) : ∃ r, S_spec_l1Spoil F code i h s = some r ∧ r.1.length ≤ 300000 := by
  unfold S_spec_l1Spoil
  by_cases h0 : s.length = 0
  · rw [if_pos (by simp [h0])]
    obtain ⟨a, ea, ca, ha⟩ := d_Text F hF code hC i h hi 3 (by omega) (by omega)
    rw [ea, obind]
    exact ⟨_, rfl, by dsimp only; omega⟩
  · rw [if_neg (by simpa using h0)]
    obtain ⟨a, ea, ca, a0, a1, _⟩ := d_Below F code hC i h hi (s.length : Int)
    have a1 := a1 (by omega)
    obtain ⟨k, hk⟩ : ∃ k : Nat, a.1 = (k : Int) := ⟨a.1.toNat, by omega⟩
    rw [ea, obind, hk]
    have hkl : k < s.length := by omega
    obtain ⟨b, eb, cb, _⟩ := d_Below F code hC a.2.1 a.2.2 ca 4
    rw [eb, obind, w64 (n := (k : Int) + 1) (by omega) (by omega)]
    have s1 := sl2O_ok (n := s.length) (i := 0) (j := (k : Int)) (by omega) (by omega) (by omega)
    have s2 := sl2O_ok (n := s.length) (i := (k : Int) + 1) (j := (s.length : Int)) (by omega) (by omega) (by omega)
    have s3 := sl2O_ok (n := s.length) (i := (k : Int)) (j := (s.length : Int)) (by omega) (by omega) (by omega)
    have l1 : ∀ p q : Nat, ((s.drop p).take q).length ≤ 100000 := fun p q => by simp; omega
    by_cases b0 : b.1 = 0
    · rw [if_pos (by simpa using b0), s1, obind, s2, obind, catO_ok (Nat.lt_of_le_of_lt (Nat.add_le_add (l1 _ _) (l1 _ _)) (by decide)), obind]
      refine ⟨_, rfl, ?_⟩
      dsimp only
      rw [List.length_append]
      exact Nat.le_trans (Nat.add_le_add (l1 _ _) (l1 _ _)) (by decide)
    · rw [if_neg (by simpa using b0)]
      by_cases b1 : b.1 = 1
      · obtain ⟨c, ec, cc, _⟩ := d_Byte F code hC b.2.1 b.2.2 cb
        rw [if_pos (by simpa using b1), s1, obind, s3, obind, ec, obind]
        have l2 : ∀ x : Int, (u8s ([x] : List Int)).length = 1 := fun x => by simp [u8s]
        have e1 : ∀ p q : Nat, ∀ x : Int, (((s.drop p).take q) ++ u8s ([x] : List Int)).length ≤ 100001 := fun p q x => by
          rw [List.length_append, l2]
          have := l1 p q
          omega
        rw [catO_ok (by rw [l2]; have := l1 (0 : Int).toNat ((k : Int).toNat - (0 : Int).toNat); omega), obind]
        rw [catO_ok (Nat.lt_of_le_of_lt (Nat.add_le_add (e1 _ _ _) (l1 _ _)) (by decide)), obind]
        refine ⟨_, rfl, ?_⟩
        dsimp only
        rw [List.length_append]
        have x1 := e1 (0 : Int).toNat ((k : Int).toNat - (0 : Int).toNat) (IntKind.u8.wrap c.1)
        have x2 := l1 (k : Int).toNat ((s.length : Int).toNat - (k : Int).toNat)
        simp only [Int.toNat_natCast, List.length_append, l2, List.length_take, List.length_drop] at x1 x2 ⊢
        omega
      · rw [if_neg (by simpa using b1)]
        by_cases b2 : b.1 = 2
        · rw [if_pos (by simpa using b2), s1, obind]
          exact ⟨_, rfl, Nat.le_trans (l1 _ _) (by decide)⟩
        · obtain ⟨c, ec, cc, _⟩ := d_Below F code hC b.2.1 b.2.2 cb 255
          rw [if_neg (by simpa using b2), s1, obind, idxL_get hkl, obind, s2, obind, ec, obind]
          have l2 : ∀ x : Int, (u8s ([x] : List Int)).length = 1 := fun x => by simp [u8s]
          rw [catO_ok (by rw [l2]; have := l1 (0 : Int).toNat ((k : Int).toNat - (0 : Int).toNat); omega), obind]
          rw [catO_ok (by
            rw [List.length_append, l2]
            have x1 := l1 (0 : Int).toNat ((k : Int).toNat - (0 : Int).toNat)
            have x2 := l1 ((k : Int) + 1).toNat ((s.length : Int).toNat - ((k : Int) + 1).toNat)
            omega), obind]
          refine ⟨_, rfl, ?_⟩
          dsimp only
          rw [List.length_append, List.length_append, l2]
          have x1 := l1 (0 : Int).toNat ((k : Int).toNat - (0 : Int).toNat)
          have x2 := l1 ((k : Int) + 1).toNat ((s.length : Int).toNat - ((k : Int) + 1).toNat)
          omega

end Go.Proofs.YtdalcpadcggklaaDoor
