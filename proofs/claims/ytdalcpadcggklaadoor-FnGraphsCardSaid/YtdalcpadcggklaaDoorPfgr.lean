/- Proved here: the functions on graphs agree on drawn graphs, and undo each other. -/
import Derived.Test.YtdalcpadcggklaaDoorPdrg
import Derived.Test.YtdalcpadcggklaaDoorPpg
import Derived.Test.YtdalcpadcggklaaDoorPord
import Derived.Test.YtdalcpadcggklaaDoorPcl
import Derived.Test.YtdalcpadcggklaaDoorProws
import Derived.Test.YtdalcpadcggklaaDoorPcomp
namespace Go.Proofs.YtdalcpadcggklaaDoor
open Go Go.RowKit
set_option linter.unusedVariables false
set_option linter.unusedSimpArgs false

theorem sameI (F : Nat) (a b : List Int) (hF : a.length < F) (hl : a.length ≤ 1048576) : S_laws_sameInts F a b = some (decide (a = b)) := by
  unfold S_laws_sameInts
  by_cases h : a.length = b.length
  · rw [if_neg (by simp [h]), eq_loop F a b h hF (by omega) (fun x => S_laws_sameInts_l2 F a b x) (fun x => rfl), obind]
    by_cases e : a = b
    · simp [e, S_laws_sameInts_j1]
    · simp [e]
  · rw [if_pos (by simp; omega)]
    have : a ≠ b := fun e => h (by rw [e])
    simp [this]

theorem sameL (F : Nat) (a : List (List Int)) (hF : a.length < F) (hl : a.length ≤ 1048576) (hr : sumL a ≤ 1048576) (hF2 : sumL a < F) : S_laws_sameLists F a a = some true := by
  unfold S_laws_sameLists
  rw [if_neg (by simp), show (0 : Int) = (fun k : Nat => (k : Int)) 0 from rfl]
  rw [loop_from0 (fun k : Nat => (k : Int)) (.inl ()) a.length ?_ ?_ hF, obind]
  · rfl
  · intro k hk
    unfold S_laws_sameLists_l2
    have := sumL_get a k hk
    rw [if_pos (by simpa using hk), idxL_get hk, obind, obind, sameI F _ _ (by omega) (by omega), obind, w64 (by omega) (by omega)]
    simp
  · unfold S_laws_sameLists_l2
    simp

theorem fmtG_le {m : Nat} {R : Nat → Nat} (g : VG m R) : (fmtG m R).length ≤ 50000 := by
  have h7 := g.n7
  have hl := eOut_len m h7 R m
  have hp := eOut_prs m R
  have a0 := Lib.itoa_length_le (m : Int) (by omega) (by omega)
  have b1 := fmtE_len h7 _ hp
  unfold fmtG
  simp only [List.length_append, List.length_cons, List.length_nil]
  omega
theorem fmtG_ne {m : Nat} {R : Nat → Nat} : fmtG m R ≠ [] := by
  unfold fmtG
  simp

theorem d_ParseGraph (F : Nat) (hF : 5000 ≤ F) (code : List Int) (hC : code.length ≤ 1048576) : ∃ r, S_spec_DrawParseGraph F code = some r ∧ r.length ≤ 1048576 := by
  unfold S_spec_DrawParseGraph
  obtain ⟨c, e, hc⟩ := d_New F hF code hC
  rw [e, obind]
  obtain ⟨a, ea, ca, hd⟩ := d_Any F (by omega) code hC c.1 c.2 hc
  obtain ⟨f, f1, f2, f3⟩ := kFormatGraph F (by omega) a.1 a.2.1 hd.2.1
  have hf : f.length ≤ 100000 := by
    cases hG : isG a.1 a.2.1 with
    | false => rw [f3 hG]; simp
    | true =>
      obtain ⟨m, R, h1, h2, g⟩ := isG_elim hG
      rw [h1, h2, sFormatGraph F (by omega) g] at f1
      have := fmtG_le g
      rw [← Option.some.inj f1]
      omega
  rw [ea, obind, f1, obind]
  obtain ⟨b, eb, cb, _⟩ := d_Below F code hC a.2.2.1 a.2.2.2 ca 4
  rw [eb, obind]
  by_cases b0 : b.1 = 0
  · obtain ⟨r, er, hr⟩ := d_Spoil F (by omega) code hC b.2.1 b.2.2 cb f hf
    rw [if_pos (by simpa using b0), er, obind]
    exact ⟨_, rfl, by omega⟩
  · rw [if_neg (by simpa using b0)]
    by_cases b1 : b.1 = 1
    · obtain ⟨r, er, cr, hr⟩ := d_Pick F code hC b.2.1 b.2.2 cb ([([] : List UInt8), ([51] : List UInt8), ([51, 58] : List UInt8), ([48, 58] : List UInt8), ([56, 58] : List UInt8), ([51, 58, 32, 48, 49, 32, 48, 50] : List UInt8), ([51, 58, 32, 48, 50, 32, 48, 49] : List UInt8), ([51, 58, 32, 49, 48] : List UInt8), ([51, 58, 32, 48, 49, 32, 48, 49] : List UInt8), ([51, 58, 32, 48, 51] : List UInt8), ([51, 58, 32, 32, 48, 49] : List UInt8), ([51, 59, 32, 48, 49] : List UInt8)] : List (List UInt8)) (by simp)
      rw [if_pos (by simpa using b1), er, obind]
      refine ⟨_, rfl, ?_⟩
      have hall : ∀ x : List UInt8, x ∈ ([([] : List UInt8), ([51] : List UInt8), ([51, 58] : List UInt8), ([48, 58] : List UInt8), ([56, 58] : List UInt8), ([51, 58, 32, 48, 49, 32, 48, 50] : List UInt8), ([51, 58, 32, 48, 50, 32, 48, 49] : List UInt8), ([51, 58, 32, 49, 48] : List UInt8), ([51, 58, 32, 48, 49, 32, 48, 49] : List UInt8), ([51, 58, 32, 48, 51] : List UInt8), ([51, 58, 32, 32, 48, 49] : List UInt8), ([51, 59, 32, 48, 49] : List UInt8)] : List (List UInt8)) → x.length ≤ 8 := by decide
      have := hall _ hr
      omega
    · rw [if_neg (by simpa using b1)]
      exact ⟨_, rfl, by omega⟩

/-! ### the edges of a graph and of its complement -/

theorem eInC {m : Nat} {R : Nat → Nat} (g : VG m R) {v : Nat} (hv : v < m) : ∀ k, v + 1 + k ≤ m → (eIn R v (v + 1) k).length + (eIn (compR m R) v (v + 1) k).length = k
  | 0, _ => rfl
  | k + 1, h => by
    have ih := eInC g hv k (by omega)
    rw [eIn_succ, eIn_succ, List.length_append, List.length_append, compB g hv (by omega)]
    have : (v + 1 + k != v) = true := by simp only [bne_iff_ne]; omega
    rw [this]
    cases (R v).testBit (v + 1 + k) <;> simp <;> omega
def tri (m : Nat) : Nat → Nat
  | 0 => 0
  | k + 1 => tri m k + (m - (k + 1))
theorem eOutC {m : Nat} {R : Nat → Nat} (g : VG m R) : ∀ k, k ≤ m → (eOut m R k).length + (eOut m (compR m R) k).length = tri m k
  | 0, _ => rfl
  | k + 1, h => by
    have ih := eOutC g k (by omega)
    have i2 := eInC g (v := k) (by omega) (m - (k + 1)) (by omega)
    rw [eOut_succ, eOut_succ, List.length_append, List.length_append]
    simp only [tri]
    omega
theorem tri_eq : ∀ m : Nat, m ≤ 7 → IntKind.i64.wrap (tri m m : Int) = IntKind.i64.wrap ((IntKind.i64.wrap ((m : Int) * (IntKind.i64.wrap ((m : Int) - 1)))).tdiv 2) := by decide +kernel

theorem compN (F : Nat) (hF : 8 ≤ F) (n : Int) (rows : List Int) (hr : Row64 rows) (hG : isG n rows = false) : S_spec_ComplementOf F n rows = some (0, [], false) ∧ S_impl_ComplementOf F n rows = some (0, [], false) := by
  constructor
  · unfold S_spec_ComplementOf
    rw [sIsGraph F hF n rows hr, obind, hG]
    rfl
  · unfold S_impl_ComplementOf
    rw [iIsGraph F hF n rows hr, obind, hG]
    rfl

theorem sAddC (F : Nat) (hF : 8 ≤ F) (n : Int) (rows : List Int) (hr : Row64 rows) (hl : rows.length ≤ 1048576) (v w : Int) : (∃ r, S_spec_AddEdge F n rows v w = some r ∧ r.2.2 = false) ∨ ∃ (m : Nat) (R : Nat → Nat) (a b : Nat), n = (m : Int) ∧ rows = rowsOf m R ∧ v = (a : Int) ∧ w = (b : Int) ∧ VG m R ∧ a < m ∧ b < m ∧ a ≠ b ∧ (R a).testBit b = false ∧ S_spec_AddEdge F n rows v w = some ((m : Int), rowsOf m (flipR R a b), true) := by
  cases hP : pairB n rows v w with
  | false =>
    left
    unfold S_spec_AddEdge S_spec_l2Copy
    rw [catO_ok (by simp; omega), obind, obind, sPair F hF n rows hr, obind, hP, if_pos (by simp)]
    exact ⟨_, rfl, rfl⟩
  | true =>
    obtain ⟨m, R, a, b, rfl, rfl, rfl, rfl, g, ha, hb, hne⟩ := pairB_elim hP
    cases hab : (R a).testBit b with
    | true =>
      left
      have := g.n7
      unfold S_spec_AddEdge S_spec_l2Copy
      rw [catO_ok (by simp; omega), obind, obind, sPair F hF _ _ hr, obind, hP, if_neg (by simp), sEdge F g ha (by omega), obind, hab]
      exact ⟨_, rfl, rfl⟩
    | false =>
      right
      exact ⟨m, R, a, b, rfl, rfl, rfl, rfl, g, ha, hb, hne, hab, sAdd F hF g ha hb hne hab⟩

theorem hasE_nat {m : Nat} {R : Nat → Nat} (g : VG m R) {a b : Nat} (ha : a < m) (hb : b < m) : hasE (m : Int) (rowsOf m R) (a : Int) (b : Int) = (R a).testBit b := by
  unfold hasE
  rw [isG_intro g, inB_iff.2 (show (0 : Int) ≤ (a : Int) ∧ (a : Int) ≤ (m : Int) - 1 by omega), inB_iff.2 (show (0 : Int) ≤ (b : Int) ∧ (b : Int) ≤ (m : Int) - 1 by omega), Int.toNat_natCast, Int.toNat_natCast, rowsOf_getD ha, hasB_nat]
  rfl

theorem iRem (F : Nat) (hF : 8 ≤ F) {m : Nat} {R : Nat → Nat} (g : VG m R) {a b : Nat} (ha : a < m) (hb : b < m) (hne : a ≠ b) (hab : (R a).testBit b = true) : S_impl_RemoveEdge F (m : Int) (rowsOf m R) (a : Int) (b : Int) = some ((m : Int), rowsOf m (flipR R a b), true) := by
  have := g.n7
  unfold S_impl_RemoveEdge S_impl_copyGraph
  rw [catO_ok (by simp [rowsOf_len]; omega), obind, obind, iHasEdge F hF _ (by unfold I64; omega) _ g.row64, hasE_nat g ha hb, hab, obind, if_neg (by simp), List.nil_append, iFlip F g ha hb hne, obind]

theorem flip2 {m : Nat} {R : Nat → Nat} {a b : Nat} (hne : a ≠ b) : rowsOf m (flipR (flipR R a b) b a) = rowsOf m R := by
  apply rowsOf_congr
  intro u _
  unfold flipR
  have hx : ∀ x y : Nat, x ^^^ y ^^^ y = x := fun x y => by rw [Nat.xor_assoc, Nat.xor_self, Nat.xor_zero]
  by_cases h1 : u = b
  · subst h1
    have : ¬ u = a := by omega
    simp [this, hx]
  · by_cases h2 : u = a
    · subst h2
      simp [h1, hx]
    · simp [h1, h2]
theorem flip_at {R : Nat → Nat} {a b : Nat} (hab : (R a).testBit b = false) : (flipR R a b a).testBit b = true := by
  unfold flipR
  rw [if_pos rfl, Nat.testBit_xor, hab, Nat.testBit_two_pow_self]
  rfl

theorem fgr_j5 (F : Nat) (hF : 2097152 ≤ F) (code : List Int) (hC : code.length ≤ 1048576) (q : Int × List Int) (hq : DG q.1 q.2) : S_laws_FnGraphs_j5 F code q = some true := by
  unfold S_laws_FnGraphs_j5
  obtain ⟨r1, e1, a1, a2, a3, a4⟩ := d_RemoveEdge F (by omega) code hC
  obtain ⟨x, x0, x1, x2⟩ := kRemoveEdge F (by omega) r1.1 a1 r1.2.1 a2 (by omega) r1.2.2.1 r1.2.2.2
  obtain ⟨r2, e2, b1, b2, b3, b4⟩ := d_HasEdge F (by omega) code hC
  obtain ⟨r3, e3⟩ := d_NamedGraph F (by omega) code hC
  obtain ⟨y, y0, y1, y2⟩ := kNamedGraph F hF r3.1 r3.2
  obtain ⟨r4, e4, c1, c2, c3, c4⟩ := d_EqualGraphs F (by omega) code hC
  obtain ⟨z, z0, z1, z2, z3⟩ := kEdgesOf F (by omega) q.1 q.2 hq.2.1
  rw [e1, obind, x2, obind, x1, obind, e2, obind, e3, obind, y2, obind, y1, obind, e4, obind]
  rw [sEqualGraphs F x.1 x.2.1 x.1 x.2.1 (by omega) (by omega), iHasEdge F (by omega) _ b1 _ b2, sHasEdge F (by omega) _ b1 _ b2, sEqualGraphs F y.1 y.2.1 y.1 y.2.1 (by omega) (by omega), iEqualGraphs F _ _ _ _ (by omega) (by omega), sEqualGraphs F r4.1 r4.2.1 _ _ (by omega) (by omega), z2, z3]
  simp only [obind, beq_self_eq_true, if_true, and_self, decide_true, S_laws_FnGraphs_j6, sameL F z (by omega) (by omega) (by omega) (by omega)]

theorem fgr_j3 (F : Nat) (hF : 2097152 ≤ F) (code : List Int) (hC : code.length ≤ 1048576) (q : Int × List Int) (hq : DG q.1 q.2) : S_laws_FnGraphs_j3 F code q = some true := by
  unfold S_laws_FnGraphs_j3
  have hj := fgr_j5 F hF code hC q hq
  obtain ⟨⟨n, rows, v, w⟩, e1, a1, a2, a3, a4⟩ := d_AddEdge F (by omega) code hC
  dsimp only at a1 a2 a3 a4
  obtain ⟨x, x0, x1, x2⟩ := kAddEdge F (by omega) n a1 rows a2 (by omega) v w
  rw [e1, obind, x2, obind, x1, obind, if_neg (by simp), sEqualGraphs F x.1 x.2.1 x.1 x.2.1 (by omega) (by omega), obind, if_neg (by simp)]
  unfold S_laws_FnGraphs_j4
  rcases sAddC F (by omega) n rows a2 (by omega) v w with ⟨r, h1, h2⟩ | ⟨m, R, a, b, rfl, rfl, rfl, rfl, g, ha, hb, hne, hab, h1⟩
  · rw [x1] at h1
    have h1 := Option.some.inj h1
    subst h1
    rw [if_neg (by simp [h2]), if_neg (by simp), if_neg (by simp [h2])]
    exact hj
  · rw [x1] at h1
    have h1 := Option.some.inj h1
    subst h1
    have g2 := flip_VG g ha hb hne
    have t1 := flip_at hab
    dsimp only
    rw [if_pos rfl, iHasEdge F (by omega) _ a1 _ g2.row64, obind, hasE_nat g2 ha hb, t1, if_neg (by simp), if_pos rfl, iRem F (by omega) g2 hb ha (Ne.symm hne) (by rw [← g2.sym a b ha hb]; exact t1), obind]
    dsimp only
    rw [if_neg (by simp), flip2 hne, sEqualGraphs F _ _ _ _ (by omega) (by omega), obind]
    unfold S_laws_FnGraphs_j7
    rw [if_neg (by simp)]
    exact hj

theorem fgr_j1 (F : Nat) (hF : 2097152 ≤ F) (code : List Int) (hC : code.length ≤ 1048576) (q : Int × List Int) (hq : DG q.1 q.2) : S_laws_FnGraphs_j1 F code q false = some true := by
  unfold S_laws_FnGraphs_j1
  have hj := fgr_j3 F hF code hC q hq
  obtain ⟨n, rows⟩ := q
  obtain ⟨a1, a2, a3, a4⟩ := hq
  dsimp only at a1 a2 a3 a4 ⊢
  rw [if_neg (by simp)]
  cases hG : isG n rows with
  | false =>
    obtain ⟨c1, c2⟩ := compN F (by omega) n rows a2 hG
    rw [c2, obind, c1, obind]
    dsimp only
    rw [if_neg (by simp), sEqualGraphs F _ _ _ _ (by simp; omega) (by simp), obind]
    unfold S_laws_FnGraphs_j2
    rw [if_neg (by simp), if_neg (by simp)]
    exact hj
  | true =>
    obtain ⟨m, R, rfl, rfl, g⟩ := isG_elim hG
    have gc := compV g
    have h7 := g.n7
    rw [iComplement F (by omega) g, obind, sComplement F (by omega) g, obind]
    dsimp only
    rw [if_neg (by simp), sEqualGraphs F _ _ _ _ (by rw [rowsOf_len]; omega) (by rw [rowsOf_len]; omega), obind]
    unfold S_laws_FnGraphs_j2
    dsimp only
    rw [if_neg (by simp), if_pos rfl, iComplement F (by omega) gc, obind]
    dsimp only
    rw [if_neg (by simp), compComp g, sEqualGraphs F _ _ _ _ (by rw [rowsOf_len]; omega) (by rw [rowsOf_len]; omega), obind, if_neg (by simp), iEdges F (by omega) g, obind, iEdges F (by omega) gc, obind]
    have ht := eOutC g m (by omega)
    have hte := tri_eq m h7
    have hs : (((eOut m R m).length : Int) + ((eOut m (compR m R) m).length : Int)) = (tri m m : Int) := by omega
    rw [hs, hte]
    unfold S_laws_FnGraphs_j8
    rw [if_neg (by simp)]
    exact hj

theorem P_FnGraphs (F : Nat) (hF : 2097152 ≤ F) (code : List Int) (h8 : ∀ x, x ∈ code → U8 x) (hm : code.length ≤ maxLen) : S_laws_FnGraphs F code = some true := by
  unfold S_laws_FnGraphs
  rw [bigL, obind]
  by_cases hl : (1048576 : Int) < (code.length : Int)
  · rw [if_pos (by simpa using hl)]
  · have hC : code.length ≤ 1048576 := by omega
    rw [if_neg (by simpa using hl)]
    obtain ⟨q, e, hd⟩ := d_FormatGraph F (by omega) code hC
    have hj := fgr_j1 F hF code hC q hd
    obtain ⟨a1, a2, a3, a4⟩ := hd
    obtain ⟨f, f1, f2, f3⟩ := kFormatGraph F (by omega) q.1 q.2 a2
    obtain ⟨t, et, ht⟩ := d_ParseGraph F (by omega) code hC
    obtain ⟨u, _, _, u1, u2⟩ := kParseGraph F hF t ht
    have hp : ∃ p, S_impl_ParseGraph F f = some p ∧ p.2.2 = isG q.1 q.2 ∧ (p.2.2 = true → p.1 = q.1 ∧ p.2.1 = q.2) := by
      cases hG : isG q.1 q.2 with
      | false =>
        rw [f3 hG]
        obtain ⟨p, p1, p2⟩ := iPG F hF [] (by simp)
        rcases p2 with rfl | ⟨m, R, g, h, _⟩
        · exact ⟨_, p1, rfl, by simp⟩
        · exact (fmtG_ne h).elim
      | true =>
        obtain ⟨m, R, h1, h2, g⟩ := isG_elim hG
        rw [h1, h2, iFormatGraph F (by omega) g] at f2
        rw [← Option.some.inj f2]
        exact ⟨_, iPG_acc F hF g, rfl, fun _ => ⟨h1.symm, h2.symm⟩⟩
    obtain ⟨p, p1, p2, p3⟩ := hp
    rw [e, obind, f2, obind, p1, obind, et, obind, u2, obind, u1, obind, f1, obind, if_neg (by simp), sIsGraph F (by omega) _ _ a2, obind, if_neg (by simp [p2])]
    by_cases hb : p.2.2 = true
    · obtain ⟨p4, p5⟩ := p3 hb
      rw [if_pos hb, p4, p5, sEqualGraphs F _ _ _ _ (by omega) (by omega), obind, if_neg (by simp), if_neg (by simp), iIsGraph F (by omega) _ _ a2, obind, obind, bne_self_eq_false]
      exact hj
    · rw [if_neg hb, if_neg (by simp), iIsGraph F (by omega) _ _ a2, obind, obind, bne_self_eq_false]
      exact hj

end Go.Proofs.YtdalcpadcggklaaDoor
