/- Proved here: named graphs: both programs make the same. -/
import Derived.Test.YtdalcpadcggklaaDoorPadd
namespace Go.Proofs.YtdalcpadcggklaaDoor
open Go Go.RowKit
set_option linter.unusedVariables false
set_option linter.unusedSimpArgs false

def sixN : List (List UInt8) := [[112, 97, 116, 104], [99, 121, 99, 108, 101], [99, 111, 109, 112, 108, 101, 116, 101], [115, 116, 97, 114], [119, 104, 101, 101, 108], [101, 109, 112, 116, 121]]

theorem strIn (F : Nat) (hF : 20 ≤ F) (s : List UInt8) : S_slices_Contains_str F sixN s = some (sixN.contains s) := by
  unfold S_slices_Contains_str S_slices_Index_str
  obtain ⟨r, hr, hh⟩ := loop_scan (body := fun x => S_slices_Index_str_l2 F sixN s x) (fun k : Nat => (k : Int)) (.inl ()) (fun k => .inr (k : Int)) (fun k => !(s == sixN.getD k [])) 6 0
    (fun k _ hk hp => by
      have h6 : sixN.length = 6 := rfl
      have hl : k < sixN.length := by omega
      unfold S_slices_Index_str_l2
      rw [if_pos (by simp; omega), idxL_get hl, obind, w64 (by omega) (by omega)]
      have e : sixN.getD k [] = sixN[k] := by simp [hl]
      rw [e] at hp
      rw [if_neg (by simpa using hp)]
      simp)
    (fun k _ hk hp => by
      have h6 : sixN.length = 6 := rfl
      have hl : k < sixN.length := by omega
      unfold S_slices_Index_str_l2
      have e : sixN.getD k [] = sixN[k] := by simp [hl]
      rw [e] at hp
      rw [if_pos (by simp; omega), idxL_get hl, obind, if_pos (by simpa using hp)])
    (by unfold S_slices_Index_str_l2; rfl) F (by omega)
  rw [show (((0 : Nat) : Int)) = 0 from rfl] at hr
  rw [hr, obind]
  rcases hh with ⟨h, rfl⟩ | ⟨k, _, hk, hp, hb, rfl⟩
  · have : sixN.contains s = false := by
      rw [← Bool.not_eq_true, List.contains_iff_mem]
      intro hm
      obtain ⟨i, hi, rfl⟩ := List.mem_iff_getElem.1 hm
      have hi6 : i < 6 := hi
      have := h i (by omega) (by omega)
      simp [hi] at this
    rw [this]
    rfl
  · have h6 : sixN.length = 6 := rfl
    have hk2 : k < sixN.length := by omega
    have hv : s = sixN[k] := by
      simp [hk2] at hp
      exact hp
    have : sixN.contains s = true := by rw [List.contains_iff_mem, hv]; exact List.getElem_mem hk2
    rw [this, obind]
    simp

theorem sAdd (F : Nat) (hF : 8 ≤ F) {m : Nat} {R : Nat → Nat} (g : VG m R) {v w : Nat} (hv : v < m) (hw : w < m) (hne : v ≠ w) (hb : (R v).testBit w = false) : S_spec_AddEdge F (m : Int) (rowsOf m R) (v : Int) (w : Int) = some ((m : Int), rowsOf m (flipR R v w), true) := by
  have h7 := g.n7
  have b1 := g.b128 hv
  obtain ⟨r, _, h1, h2⟩ := kAddEdge F hF (m : Int) (by unfold I64; omega) (rowsOf m R) g.row64 (by rw [rowsOf_len]; omega) (v : Int) (w : Int)
  have h3 : S_impl_AddEdge F (m : Int) (rowsOf m R) (v : Int) (w : Int) = some ((m : Int), rowsOf m (flipR R v w), true) := by
    unfold S_impl_AddEdge S_impl_copyGraph
    rw [catO_ok (by simp [rowsOf_len]; omega), obind, obind, iVertex2 F hF _ (by unfold I64; omega) _ g.row64, obind, isG_intro g, inB_iff.2 (show (0 : Int) ≤ (v : Int) ∧ (v : Int) ≤ (m : Int) - 1 by omega), inB_iff.2 (show (0 : Int) ≤ (w : Int) ∧ (w : Int) ≤ (m : Int) - 1 by omega), if_neg (by simp), if_neg (by simp; omega), rowsOf_idx hv, obind, iHasN F (by omega) (by omega), obind, hb]
    unfold S_impl_AddEdge_j1
    rw [if_neg (by simp)]
    dsimp only [List.nil_append]
    rw [iFlip F g hv hw hne, obind]
  rw [h3] at h2
  cases h2
  exact h1

theorem flip_bit {R : Nat → Nat} {v w : Nat} (hne : v ≠ w) (a b : Nat) (h : ¬ (a = v ∧ b = w)) (h2 : ¬ (a = w ∧ b = v)) : (flipR R v w a).testBit b = (R a).testBit b := by
  unfold flipR
  by_cases e1 : a = v
  · subst e1
    have : ¬ w = b := fun e => h ⟨rfl, e.symm⟩
    rw [if_pos rfl, Nat.testBit_xor, Nat.testBit_two_pow]
    simp [this]
  · rw [if_neg e1]
    by_cases e2 : a = w
    · subst e2
      have : ¬ v = b := fun e => h2 ⟨rfl, e.symm⟩
      rw [if_pos rfl, Nat.testBit_xor, Nat.testBit_two_pow]
      simp [this]
    · rw [if_neg e2]

def nmE (s : List UInt8) (n v w : Nat) : Bool :=
  if (s == [112, 97, 116, 104]) = true then w == v + 1 else if (s == [99, 121, 99, 108, 101]) = true then (w == v + 1 || (v == 0 && w == n - 1)) else if (s == [99, 111, 109, 112, 108, 101, 116, 101]) = true then true
  else if (s == [115, 116, 97, 114]) = true then v == 0 else if (s == [119, 104, 101, 101, 108]) = true then (v == 0 || (w == v + 1 || (v == 1 && w == n - 1))) else false
theorem castB (a b : Nat) : ((a : Int) == (b : Int)) = (a == b) := by
  rw [Bool.eq_iff_iff, beq_iff_eq, beq_iff_eq]; omega

theorem iNamed (F : Nat) (s : List UInt8) {n v w : Nat} (hn : n ≤ 7) (h1 : 1 ≤ n) (hv : v < n) (hw : w < n) : S_impl_isNamedEdge F s (n : Int) (v : Int) (w : Int) = some (nmE s n v w) := by
  unfold S_impl_isNamedEdge nmE S_impl_isNamedEdge_j1 S_impl_isNamedEdge_j2
  rw [w64 (n := (v : Int) + 1) (by omega) (by omega), w64 (n := (n : Int) - 1) (by omega) (by omega)]
  rw [show (v : Int) + 1 = ((v + 1 : Nat) : Int) by omega, show (n : Int) - 1 = ((n - 1 : Nat) : Int) by omega, castB, castB]
  rw [show ((v : Int) == 0) = (v == 0) from castB v 0, show ((v : Int) == 1) = (v == 1) from castB v 1]
  generalize (w == v + 1) = p
  generalize (v == 0) = q
  generalize (v == 1) = r
  generalize (w == n - 1) = u
  cases c1 : (s == [112, 97, 116, 104])
  · cases c2 : (s == [99, 121, 99, 108, 101])
    · cases c3 : (s == [99, 111, 109, 112, 108, 101, 116, 101])
      · cases c4 : (s == [115, 116, 97, 114])
        · cases c5 : (s == [119, 104, 101, 101, 108])
          · rfl
          · cases p <;> cases q <;> cases r <;> cases u <;> rfl
        · rfl
      · rfl
    · cases p <;> cases q <;> cases u <;> rfl
  · rfl

theorem sNamed (F : Nat) (s : List UInt8) (hs : sixN.contains s = true) {n v w : Nat} (hn : n ≤ 7) (h1 : 1 ≤ n) (hv : v < n) (hw : w < n) (x : Int) (l : List Int) : S_spec_NamedGraph_l5 F s (n : Int) (v : Int) x l (w : Int) = S_spec_NamedGraph_j7 F (v : Int) x l (w : Int) (nmE s n v w) := by
  unfold S_spec_NamedGraph_l5 nmE
  rw [if_pos (by simp; omega)]
  rw [w64 (n := (v : Int) + 1) (by omega) (by omega), w64 (n := (n : Int) - 1) (by omega) (by omega)]
  rw [show (v : Int) + 1 = ((v + 1 : Nat) : Int) by omega, show (n : Int) - 1 = ((n - 1 : Nat) : Int) by omega, castB, castB]
  rw [show ((v : Int) == 0) = (v == 0) from castB v 0, show ((v : Int) == 1) = (v == 1) from castB v 1]
  generalize (w == v + 1) = p
  generalize (v == 0) = q
  generalize (v == 1) = r
  generalize (w == n - 1) = u
  cases c1 : (s == [112, 97, 116, 104])
  · cases c2 : (s == [99, 121, 99, 108, 101])
    · cases c3 : (s == [99, 111, 109, 112, 108, 101, 116, 101])
      · cases c4 : (s == [115, 116, 97, 114])
        · cases c5 : (s == [119, 104, 101, 101, 108])
          · have c6 : (s == [101, 109, 112, 116, 121]) = true := by
              rw [List.contains_iff_mem] at hs
              simp only [sixN, List.mem_cons, List.not_mem_nil, or_false] at hs
              rw [beq_eq_false_iff_ne] at c1 c2 c3 c4 c5
              rw [beq_iff_eq]
              rcases hs with h | h | h | h | h | h
              · exact absurd h c1
              · exact absurd h c2
              · exact absurd h c3
              · exact absurd h c4
              · exact absurd h c5
              · exact h
            rw [c6]
            rfl
          · cases p <;> cases q <;> cases r <;> cases u <;> rfl
        · rfl
      · rfl
    · cases p <;> cases q <;> cases u <;> rfl
  · rfl

theorem nInner (F : Nat) (hF : 20 ≤ F) (s : List UInt8) (hs : sixN.contains s = true) {n : Nat} {R0 : Nat → Nat} (g0 : VG n R0) {v : Nat} (hv : v < n) (h0 : ∀ a b, v ≤ a → a < b → b < n → (R0 a).testBit b = false) :
    ∃ R : Nat → Nat, VG n R ∧ (∀ a b, v + 1 ≤ a → a < b → b < n → (R a).testBit b = false) ∧
      loopN (σ := Int × List Int × Int) (β := (Int × List Int) ⊕ (Int × List Int × Bool)) (fun x => S_spec_NamedGraph_l5 F s (n : Int) (v : Int) x.1 x.2.1 x.2.2) F ((n : Int), rowsOf n R0, ((v + 1 : Nat) : Int)) = some (.inl ((n : Int), rowsOf n R)) ∧
      loopN (σ := List Int × Int) (β := List Int) (fun x => S_impl_NamedGraph_l5 F s (n : Int) (v : Int) x.1 x.2) F (rowsOf n R0, ((v + 1 : Nat) : Int)) = some (rowsOf n R) := by
  have h7 := g0.n7
  have h1 := g0.n1
  obtain ⟨r, q, e1, e2, R, hg, hp, rfl, rfl⟩ := loop_sim (b1 := fun x : Int × List Int × Int => S_spec_NamedGraph_l5 F s (n : Int) (v : Int) x.1 x.2.1 x.2.2) (b2 := fun x : List Int × Int => S_impl_NamedGraph_l5 F s (n : Int) (v : Int) x.1 x.2)
    (fun a b => ∃ (R : Nat → Nat) (w : Nat), a = ((n : Int), rowsOf n R, (w : Int)) ∧ b = (rowsOf n R, (w : Int)) ∧ VG n R ∧ v < w ∧ w ≤ n ∧ (∀ b, w ≤ b → b < n → (R v).testBit b = false) ∧ ∀ a b, v < a → a < b → b < n → (R a).testBit b = false) (fun a => n - a.2.2.toNat)
    (fun a b => ∃ R : Nat → Nat, VG n R ∧ (∀ a b, v + 1 ≤ a → a < b → b < n → (R a).testBit b = false) ∧ a = .inl ((n : Int), rowsOf n R) ∧ b = rowsOf n R)
    (by
      rintro _ _ ⟨R, w, rfl, rfl, g, hvw, hwn, p1, p2⟩
      dsimp only
      by_cases hw : w < n
      · left
        rw [sNamed F s hs h7 h1 hv hw]
        unfold S_impl_NamedGraph_l5 S_spec_NamedGraph_j7 S_spec_NamedGraph_j6 S_impl_NamedGraph_j6
        rw [if_pos (show decide ((w : Int) < (n : Int)) = true by simp; omega), iNamed F s h7 h1 hv hw, obind, w64 (by omega) (by omega)]
        cases nmE s n v w with
        | false =>
          rw [if_neg (by simp), if_neg (by simp)]
          exact ⟨_, _, rfl, rfl, ⟨R, w + 1, by simp, by simp, g, by omega, by omega, fun b hb1 hb2 => p1 b (by omega) hb2, p2⟩, by dsimp only; omega⟩
        | true =>
          have hne : v ≠ w := by omega
          rw [if_pos rfl, if_pos rfl, sAdd F (by omega) g hv hw hne (p1 w (Nat.le_refl _) hw), obind, iFlip F g hv hw hne, obind]
          refine ⟨_, _, rfl, rfl, ⟨flipR R v w, w + 1, by simp, by simp, flip_VG g hv hw hne, by omega, by omega, fun b hb1 hb2 => ?_, fun a b ha hab hb => ?_⟩, by dsimp only; omega⟩
          · rw [flip_bit hne v b (by omega) (by omega)]
            exact p1 b (by omega) hb2
          · rw [flip_bit hne a b (by omega) (by omega)]
            exact p2 a b ha hab hb
      · right
        have : w = n := by omega
        subst this
        unfold S_spec_NamedGraph_l5 S_impl_NamedGraph_l5
        rw [if_neg (by simp), if_neg (by simp)]
        exact ⟨_, _, rfl, rfl, R, g, fun a b ha hab hb => p2 a b (by omega) hab hb, rfl, rfl⟩)
    F ((n : Int), rowsOf n R0, ((v + 1 : Nat) : Int)) (rowsOf n R0, ((v + 1 : Nat) : Int)) ⟨R0, v + 1, rfl, rfl, g0, by omega, by omega, fun b hb1 hb2 => h0 v b (Nat.le_refl _) (by omega) hb2, fun a b ha hab hb => h0 a b (by omega) hab hb⟩ (by dsimp only; omega)
  exact ⟨R, hg, hp, e1, e2⟩

theorem VG_zero {n : Nat} (h1 : 1 ≤ n) (h7 : n ≤ 7) : VG n (fun _ => 0) := ⟨h1, h7, fun v hv => Nat.pow_pos (by decide), fun v hv => by simp, fun v w hv hw => by simp⟩
theorem rowsOf_zero (n : Nat) : rowsOf n (fun _ => 0) = List.replicate n 0 := by
  apply List.ext_getElem
  · simp [rowsOf]
  · intro i h1 h2; simp [rowsOf]

theorem kNamedGraph (F : Nat) (hF : 2097152 ≤ F) (s : List UInt8) (n : Int) : ∃ r : Int × List Int × Bool, r.2.1.length ≤ 7 ∧ S_spec_NamedGraph F s n = some r ∧ S_impl_NamedGraph F s n = some r := by
  have hstr := strIn F (by omega) s
  unfold sixN at hstr
  unfold S_spec_NamedGraph S_impl_NamedGraph
  rw [sIn, obind, hstr, obind, iIn, obind]
  rw [show List.contains [[112, 97, 116, 104], [99, 121, 99, 108, 101], [99, 111, 109, 112, 108, 101, 116, 101], [115, 116, 97, 114], [119, 104, 101, 101, 108], [101, 109, 112, 116, 121]] s = sixN.contains s from rfl]
  unfold S_impl_NamedGraph_j1
  cases hB : inB n 1 7 with
  | false =>
    refine ⟨(0, [], false), by simp, rfl, ?_⟩
    cases sixN.contains s <;> rfl
  | true =>
    rw [inB_iff] at hB
    obtain ⟨m, rfl⟩ : ∃ m : Nat, n = m := ⟨n.toNat, by omega⟩
    rw [if_neg (by simp), mkO_ok (by omega) (by omega), obind, Int.toNat_natCast, ← rowsOf_zero]
    have g0 := VG_zero (n := m) (by omega) (by omega)
    cases hs : sixN.contains s with
    | true =>
      rw [if_neg (by simp), if_neg (by simp), obind]
      obtain ⟨r, q, e1, e2, R, rfl, rfl⟩ := loop_sim (b1 := fun x : Int × List Int × Int => S_spec_NamedGraph_l3 F s (m : Int) x.1 x.2.1 x.2.2) (b2 := fun x : List Int × Int => S_impl_NamedGraph_l3 F s (m : Int) x.1 x.2)
        (fun a b => ∃ (R : Nat → Nat) (v : Nat), a = ((m : Int), rowsOf m R, (v : Int)) ∧ b = (rowsOf m R, (v : Int)) ∧ VG m R ∧ v ≤ m ∧ ∀ a b, v ≤ a → a < b → b < m → (R a).testBit b = false) (fun a => m - a.2.2.toNat)
        (fun a b => ∃ R : Nat → Nat, a = .inl ((m : Int), rowsOf m R) ∧ b = rowsOf m R)
        (by
          rintro _ _ ⟨R, v, rfl, rfl, g, hvm, hp⟩
          unfold S_spec_NamedGraph_l3 S_impl_NamedGraph_l3
          dsimp only
          by_cases hv : v < m
          · left
            obtain ⟨R2, g2, hp2, i1, i2⟩ := nInner F (by omega) s hs g hv hp
            rw [if_pos (by simp; omega), if_pos (by simp; omega), w64 (by omega) (by omega), show (v : Int) + 1 = ((v + 1 : Nat) : Int) by omega, i1, i2, obind, obind]
            unfold S_spec_NamedGraph_j4 S_impl_NamedGraph_j4
            rw [w64 (by omega) (by omega), show (v : Int) + 1 = ((v + 1 : Nat) : Int) by omega]
            exact ⟨_, _, rfl, rfl, ⟨R2, v + 1, rfl, rfl, g2, by omega, hp2⟩, by dsimp only; omega⟩
          · right
            rw [if_neg (by simp; omega), if_neg (by simp; omega)]
            exact ⟨_, _, rfl, rfl, R, rfl, rfl⟩)
        F ((m : Int), rowsOf m (fun _ => 0), 0) (rowsOf m (fun _ => 0), 0) ⟨fun _ => 0, 0, rfl, rfl, g0, by omega, fun a b _ _ _ => by simp⟩ (by dsimp only; omega)
      rw [e1, e2, obind, obind]
      refine ⟨((m : Int), rowsOf m R, true), by simp [rowsOf_len]; omega, ?_, rfl⟩
      unfold S_spec_NamedGraph_j1 S_spec_NamedGraph_j2
      rw [List.contains_iff_mem] at hs
      simp only [sixN, List.mem_cons, List.not_mem_nil, or_false] at hs
      by_cases hm1 : (m : Int) == 1
      · dsimp only
        rw [if_pos hm1]
        rcases hs with rfl | rfl | rfl | rfl | rfl | rfl <;> rfl
      · dsimp only
        rw [if_neg hm1]
        rfl
    | false =>
      refine ⟨(0, [], false), by simp, ?_, rfl⟩
      have hn : ∀ t, t ∈ sixN → (s == t) = false := fun t ht => by
        rw [beq_eq_false_iff_ne]
        rintro rfl
        rw [List.contains_iff_mem.2 ht] at hs
        cases hs
      have n1 := hn [112, 97, 116, 104] (by simp [sixN])
      have n2 := hn [99, 121, 99, 108, 101] (by simp [sixN])
      have n3 := hn [99, 111, 109, 112, 108, 101, 116, 101] (by simp [sixN])
      have n4 := hn [115, 116, 97, 114] (by simp [sixN])
      have n5 := hn [119, 104, 101, 101, 108] (by simp [sixN])
      have n6 := hn [101, 109, 112, 116, 121] (by simp [sixN])
      obtain ⟨q, rfl⟩ : ∃ q, F = q + 2 := ⟨F - 2, by omega⟩
      by_cases hm1 : m = 1
      · subst hm1
        have a1 : S_spec_NamedGraph_l3 (q + 2) s ((1 : Nat) : Int) ((1 : Nat) : Int) (rowsOf 1 fun _ => 0) 0 = some (.inl (((1 : Nat) : Int), rowsOf 1 fun _ => 0, 1)) := by
          unfold S_spec_NamedGraph_l3
          rw [if_pos (by simp), w64 (by omega) (by omega)]
          simp only [loopN]
          unfold S_spec_NamedGraph_l5
          rw [if_neg (by simp), obind]
          unfold S_spec_NamedGraph_j4
          rw [w64 (by omega) (by omega)]
          rfl
        have a2 : S_spec_NamedGraph_l3 (q + 2) s ((1 : Nat) : Int) ((1 : Nat) : Int) (rowsOf 1 fun _ => 0) 1 = some (.inr (.inl (((1 : Nat) : Int), rowsOf 1 fun _ => 0))) := by
          unfold S_spec_NamedGraph_l3
          rw [if_neg (by simp)]
        simp only [loopN, a1, a2, obind]
        unfold S_spec_NamedGraph_j1 S_spec_NamedGraph_j2
        simp only [bne, n1, n2, n3, n4, n5, n6, Bool.not_false, if_true]
        rfl
      · have a1 : S_spec_NamedGraph_l3 (q + 2) s (m : Int) (m : Int) (rowsOf m fun _ => 0) 0 = some (.inr (.inr (0, [], false))) := by
          unfold S_spec_NamedGraph_l3
          rw [if_pos (by simp; omega), w64 (by omega) (by omega)]
          simp only [loopN]
          have : S_spec_NamedGraph_l5 (q + 2) s (m : Int) 0 (m : Int) (rowsOf m fun _ => 0) (0 + 1) = some (.inr (.inr (0, [], false))) := by
            unfold S_spec_NamedGraph_l5
            rw [if_pos (by simp; omega), n1, n2, n3, n4, n5, n6]
            rfl
          rw [this]
          rfl
        simp only [loopN, a1, obind]

end Go.Proofs.YtdalcpadcggklaaDoor
