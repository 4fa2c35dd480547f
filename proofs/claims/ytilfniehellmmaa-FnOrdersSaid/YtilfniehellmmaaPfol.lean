/- Proved here: the law on orders. -/
import Derived.Test.YtilfniehellmmaaPfor
import Derived.Test.YtilfniehellmmaaPcl
namespace Go.Proofs.Ytilfniehellmmaa
open Go Go.RowKit
set_option linter.unusedVariables false
set_option linter.unusedSimpArgs false

theorem sameI (F : Nat) (a b : List Int) (hF : a.length < F) (hl : a.length ≤ 1048576) : S_laws_sameInts F a b = some (decide (a = b)) := by
  unfold S_laws_sameInts
  by_cases h : a.length = b.length
  · rw [if_neg (by simp [h]), eq_loop F a b h hF (by omega) (fun x => S_laws_sameInts_l2 F a b x) (fun x => rfl), obind]
    by_cases e : a = b
    · simp [e, S_laws_sameInts_j1]
    · simp [e]
  · rw [if_pos (by simp; omega)]
    have : a ≠ b := fun e => h (by rw [e])
    simp [this]

theorem hasE_nat {m : Nat} {R : Nat → Nat} (g : VG m R) {a b : Nat} (ha : a < m) (hb : b < m) : hasE (m : Int) (rowsOf m R) (a : Int) (b : Int) = (R a).testBit b := by
  unfold hasE
  rw [isG_intro g, inB_iff.2 (show (0 : Int) ≤ (a : Int) ∧ (a : Int) ≤ (m : Int) - 1 by omega), inB_iff.2 (show (0 : Int) ≤ (b : Int) ∧ (b : Int) ≤ (m : Int) - 1 by omega), Int.toNat_natCast, Int.toNat_natCast, rowsOf_getD ha, hasB_nat]
  rfl

theorem distF (F : Nat) (hF : 2097152 ≤ F) (n : Int) (hn : I64 n) (rows : List Int) (hr : Row64 rows) (v w : Int) : ∃ x, S_spec_DistanceOf F n rows v w = some x ∧ S_impl_DistanceOf F n rows v w = some x ∧ S_impl_DistanceOf F n rows w v = some x ∧ (x = 1 → S_impl_HasEdge F n rows v w = some true) := by
  obtain ⟨x, h1, h2⟩ := kDistanceOf F hF n hn rows hr v w
  refine ⟨x, h1, h2, ?_⟩
  cases hc : (isG n rows && (inB v 0 (n - 1) && inB w 0 (n - 1))) with
  | false =>
    have hc2 : (isG n rows && (inB w 0 (n - 1) && inB v 0 (n - 1))) = false := by rw [Bool.and_comm (inB w 0 (n - 1))]; exact hc
    unfold S_impl_DistanceOf at h2 ⊢
    rw [iVertex2 F (by omega) n hn rows hr, obind, hc, if_pos (by simp)] at h2
    rw [iVertex2 F (by omega) n hn rows hr, obind, hc2, if_pos (by simp)]
    refine ⟨h2, fun h => ?_⟩
    have := Option.some.inj h2
    omega
  | true =>
    simp only [Bool.and_eq_true, inB_iff] at hc
    obtain ⟨hG, hv, hw⟩ := hc
    obtain ⟨m, R, rfl, rfl, g⟩ := isG_elim hG
    obtain ⟨a, rfl⟩ : ∃ a : Nat, v = a := ⟨v.toNat, by omega⟩
    obtain ⟨b, rfl⟩ : ∃ b : Nat, w = b := ⟨w.toNat, by omega⟩
    obtain ⟨y, e1, d1⟩ := iDist F (by omega) g (v := a) (w := b) (by omega) (by omega)
    obtain ⟨z, e2, d2⟩ := iDist F (by omega) g (v := b) (w := a) (by omega) (by omega)
    rw [e1] at h2
    have hy := Option.some.inj h2
    subst hy
    have hz := distOf_uniq (dist_symm g (by omega) (by omega) d1) d2
    refine ⟨by rw [e2, hz], fun h => ?_⟩
    subst h
    rw [iHasEdge F (by omega) _ hn _ g.row64, hasE_nat g (by omega) (by omega), dist_one g (by omega) d1]

/-! ### connected graphs -/

theorem In_trans {m : Nat} {R : Nat → Nat} (g : VG m R) {v u : Nat} (hv : v < m) (hu : u < m) {a : Nat} (h : In R v a u) : ∀ (b w : Nat), In R u b w → In R v (a + b) w
  | 0, w, hw => by
    rw [In_zero] at hw
    subst hw
    exact h
  | b + 1, w, hw => by
    rcases (In_succ g hu b w).1 hw with h1 | ⟨p, hp, h1, h2⟩
    · exact In_mono g hv (by omega) (In_trans g hv hu h b w h1)
    · exact (In_succ g hv (a + b) w).2 (.inr ⟨p, hp, In_trans g hv hu h b p h1, h2⟩)
theorem and_full {m x : Nat} (hx : x < 2 ^ m) : x &&& (2 ^ m - 1) = x := by
  rw [Nat.and_two_pow_sub_one_eq_mod, Nat.mod_eq_of_lt hx]
theorem itr_gr {m : Nat} {R : Nat → Nat} (g : VG m R) {s : Nat} (hs : s < 2 ^ m) : ∀ k, itr R (2 ^ m - 1) s k = gr R s k
  | 0 => rfl
  | k + 1 => by
    show stp R (2 ^ m - 1) (itr R (2 ^ m - 1) s k) = arnd R (gr R s k)
    rw [itr_gr g hs k]
    exact and_full (arnd_lt g (gr_lt g hs k))
theorem sum_ge : ∀ (l : List Int), (∀ x, x ∈ l → 1 ≤ x) → (l.length : Int) ≤ l.sum
  | [], _ => by simp
  | x :: l, h => by
    have h1 := h x (by simp)
    have h2 := sum_ge l fun y hy => h y (by simp [hy])
    rw [List.sum_cons, List.length_cons]
    omega

theorem conn (F : Nat) (hF : 2097152 ≤ F) {m : Nat} {R : Nat → Nat} (g : VG m R) {v : Nat} (hv : v < m) {l : List Int} (h : Bfs m R v l l.length) : S_impl_IsConnected F (m : Int) (rowsOf m R) = some ((l.length : Int) == (m : Int)) := by
  have h7 := g.n7
  have h1 := g.n1
  have hp := pow128 h7
  have hpos : 0 < 2 ^ m := Nat.pow_pos (by decide)
  have hp2 : 1 < 2 ^ m := by
    have : 2 ^ 1 ≤ 2 ^ m := Nat.pow_le_pow_right (by decide) h1
    omega
  obtain ⟨r, hl, _, k2, hgd, hsum⟩ := kParts3 F hF g (S := 2 ^ m - 1) (by omega)
  unfold S_impl_IsConnected S_impl_IsConnected_j1
  rw [iIsGraph F (by omega) _ _ g.row64, obind, isG_intro g, if_pos rfl, iAll F h7, obind, k2, obind]
  congr 1
  have hge : (r.length : Int) ≤ r.sum := sum_ge r fun x hx => by
    obtain ⟨c, u, hc, _, _, _, _, hb⟩ := hgd x hx
    have : 2 ^ u ≤ c := Nat.ge_two_pow_of_testBit hb
    have : 0 < 2 ^ u := Nat.two_pow_pos u
    omega
  have hlt : ∀ u, u < m → 2 ^ u < 2 ^ m := fun u hu => Nat.pow_lt_pow_right (by decide) hu
  rw [Bool.eq_iff_iff, beq_iff_eq, beq_iff_eq]
  constructor
  · intro hr
    have hr1 : r.length = 1 := by omega
    match r, hr1 with
    | [x], _ =>
      obtain ⟨c, u, hc, hc2, hst, hu, hce, hb⟩ := hgd x (by simp)
      have hcs : c = 2 ^ m - 1 := by
        have hs : ([x] : List Int).sum = x := by simp
        clear hgd
        omega
      have hall : ∀ w, w < m → In R u m w := fun w hw => by
        unfold In
        rw [← itr_gr g (hlt u hu), ← hce, hcs, Nat.testBit_two_pow_sub_one]
        simp [hw]
      have hvu := In_symm g hu m v (hall v hv)
      have hin : ∀ w : Nat, w < m → (w : Int) ∈ l := fun w hw => h.all g (m + m) w (In_trans g hv hu hvu m w (hall w hw))
      have hlen := h.ord.len
      rcases Nat.lt_or_ge l.length m with q | q
      · exfalso
        obtain ⟨w, hw, hc⟩ := h.ord.free h7 q
        rw [List.contains_iff_mem.2 (hin w hw)] at hc
        cases hc
      · omega
  · intro hlm
    have hin : ∀ w : Nat, w < m → (w : Int) ∈ l := fun w hw => by
      cases hc : l.contains (w : Int) with
      | true => exact List.contains_iff_mem.1 hc
      | false =>
        have := h.ord.room h7 hw hc
        omega
    match r with
    | [] =>
      exfalso
      have hs : ([] : List Int).sum = 0 := by simp
      clear hgd hge
      omega
    | x :: rest =>
      obtain ⟨c, u, hc, hc2, hst, hu, hce, hb⟩ := hgd x (by simp)
      obtain ⟨k, hk⟩ := h.rch u (hin u hu)
      have hku := In_symm g hv k u hk
      have hfix : arnd R c = c := by
        have : arnd R c &&& (2 ^ m - 1) = c := hst
        rwa [and_full (arnd_lt g hc2)] at this
      have hcg : c = gr R (2 ^ u) m := by rw [hce, itr_gr g (hlt u hu)]
      have hcs : c = 2 ^ m - 1 := ext7 (n := m) hc2 (by omega) fun w hw => by
        obtain ⟨j, hj⟩ := h.rch w (hin w hw)
        have hw2 := In_trans g hu hv hku j w hj
        rw [Nat.testBit_two_pow_sub_one]
        have : In R u (m + (k + j)) w := In_mono g hu (by omega) hw2
        unfold In at this
        rw [gr_fix (k := m) (by show arnd R (gr R (2 ^ u) m) = gr R (2 ^ u) m; rw [← hcg]; exact hfix), ← hcg] at this
        rw [this]
        simp [hw]
      have hrest : (rest.length : Int) ≤ rest.sum := sum_ge rest fun y hy => by
        obtain ⟨c, u, hc, _, _, _, _, hb⟩ := hgd y (by simp [hy])
        have : 2 ^ u ≤ c := Nat.ge_two_pow_of_testBit hb
        have : 0 < 2 ^ u := Nat.two_pow_pos u
        omega
      rw [List.sum_cons] at hsum
      rw [List.length_cons]
      clear hgd
      omega

/-! ### draws -/

theorem d_Ord (F : Nat) (hF : 5000 ≤ F) (code : List Int) (hC : code.length ≤ 1048576) : ∃ r, S_spec_DrawLexOrder F code = some r ∧ DG r.1 r.2.1 := by
  unfold S_spec_DrawLexOrder S_spec_l5Both
  obtain ⟨c, e, hc⟩ := d_New F hF code hC
  rw [e, obind]
  obtain ⟨a, ea, ca, hd⟩ := d_Any F (by omega) code hC c.1 c.2 hc
  rw [ea, obind]
  obtain ⟨b, eb, cb, _⟩ := d_Below F code hC a.2.2.1 a.2.2.2 ca 8
  rw [eb, obind, obind]
  exact ⟨_, rfl, hd⟩

theorem d_Dist (F : Nat) (hF : 5000 ≤ F) (code : List Int) (hC : code.length ≤ 1048576) : ∃ r, S_spec_DrawDistanceOf F code = some r ∧ DG r.1 r.2.1 := by
  unfold S_spec_DrawDistanceOf
  obtain ⟨r, e, h⟩ := d_Two F hF code hC
  rw [e, obind]
  exact ⟨_, rfl, h⟩

theorem d_Conn (F : Nat) (hF : 5000 ≤ F) (code : List Int) (hC : code.length ≤ 1048576) : ∃ r, S_spec_DrawIsConnected F code = some r ∧ DG r.1 r.2 := by
  unfold S_spec_DrawIsConnected
  obtain ⟨c, e, hc⟩ := d_New F hF code hC
  rw [e, obind]
  obtain ⟨a, ea, ca, hd⟩ := d_Any F (by omega) code hC c.1 c.2 hc
  rw [ea, obind]
  exact ⟨_, rfl, hd⟩

theorem d_List (F : Nat) (hF : 2000 ≤ F) (code : List Int) (hC : code.length ≤ 1048576) (i h : Int) (hi : Cu code i) (n : Int) (rows : List Int) : ∃ r, S_spec_l4List F code i h n rows = some r ∧ r.1.length ≤ 7 := by
  unfold S_spec_l4List
  obtain ⟨a, ea, ca, a0, a1, _⟩ := d_Below F code hC i h hi 6
  have a1 := a1 (by omega)
  rw [ea, obind]
  obtain ⟨b, e, hb1, hb2⟩ := loop_meas (body := fun s : Int × Int × (List Int) × Int => S_spec_l4List_l3 F code n s.1 s.2.1 s.2.2.1 s.2.2.2) (fun t => Cu code t.1 ∧ 0 ≤ t.2.2.2 ∧ (t.2.2.1.length : Int) + t.2.2.2 ≤ 5) (fun t => t.2.2.2.toNat) (fun b => Cu code b.1 ∧ b.2.2.length ≤ 5) (by
    rintro ⟨i, h, l, x⟩ ⟨hi, hx, hl⟩
    dsimp only at hi hx hl ⊢
    unfold S_spec_l4List_l3
    by_cases h0 : 0 < x
    · left
      obtain ⟨r, er, cr, _⟩ := d_Below F code hC i h hi (if (if n < 7 then n else 7) > 1 then (if n < 7 then n else 7) else 1)
      rw [if_pos (by simpa using h0), er, obind, catO_ok (by simp; omega), obind, w64 (by omega) (by omega)]
      exact ⟨_, rfl, ⟨cr, by dsimp only; omega, by dsimp only; simp; omega⟩, by dsimp only; omega⟩
    · right
      rw [if_neg (by simpa using h0)]
      exact ⟨_, rfl, hi, by dsimp only; omega⟩) F (a.2.1, a.2.2, [], a.1) ⟨ca, a0, by simp; omega⟩ (by dsimp only; omega)
  rw [e, obind]
  unfold S_spec_l4List_j1 S_spec_l4List_j2
  obtain ⟨c, ec, cc⟩ := d_Once F code hC b.1 b.2.1 hb1 14
  rw [ec, obind]
  split
  · obtain ⟨q, eq, cq, _⟩ := d_PickInt F code hC c.2.1 c.2.2 cc ([(-1), 7] : List (Int)) (by simp)
    rw [eq, obind, catO_ok (by simp; omega), obind]
    exact ⟨_, rfl, by simp; omega⟩
  · exact ⟨_, rfl, by dsimp only; omega⟩

theorem d_IsOrder (F : Nat) (hF : 2097152 ≤ F) (code : List Int) (hC : code.length ≤ 1048576) : ∃ r, S_spec_DrawIsOrder F code = some r ∧ DG r.1 r.2.1 ∧ r.2.2.length ≤ 7 := by
  unfold S_spec_DrawIsOrder
  obtain ⟨c, e, hc⟩ := d_New F (by omega) code hC
  rw [e, obind]
  obtain ⟨a, ea, ca, hd⟩ := d_Any F (by omega) code hC c.1 c.2 hc
  rw [ea, obind]
  obtain ⟨b, eb, cb, _⟩ := d_Below F code hC a.2.2.1 a.2.2.2 ca 3
  rw [eb, obind]
  obtain ⟨r, hl, e1, _⟩ := kLexOrder2 F hF a.1 hd.1 a.2.1 hd.2.1 b.1
  rw [e1, obind]
  have hj : ∀ x y p, Cu code x → ∃ r2, S_spec_DrawIsOrder_j1 F code a r x y p = some r2 ∧ DG r2.1 r2.2.1 ∧ r2.2.2.length ≤ 7 := by
    intro x y p hx
    unfold S_spec_DrawIsOrder_j1
    cases p with
    | true =>
      rw [if_pos rfl]
      exact ⟨_, rfl, hd, hl⟩
    | false =>
      rw [if_neg (by simp)]
      obtain ⟨q, eq, hq⟩ := d_List F (by omega) code hC x y hx a.1 a.2.1
      rw [eq, obind]
      exact ⟨_, rfl, hd, hq⟩
  split
  · obtain ⟨k, ek, ck⟩ := d_Once F code hC b.2.1 b.2.2 cb 3
    rw [ek, obind]
    exact hj _ _ _ ck
  · exact hj _ _ _ cb

theorem d_IsLex (F : Nat) (hF : 2097152 ≤ F) (code : List Int) (hC : code.length ≤ 1048576) : ∃ r, S_spec_DrawIsLexOrder F code = some r ∧ DG r.1 r.2.1 ∧ r.2.2.length ≤ 7 := by
  unfold S_spec_DrawIsLexOrder
  obtain ⟨c, e, hc⟩ := d_New F (by omega) code hC
  rw [e, obind]
  obtain ⟨a, ea, ca, hd⟩ := d_Any F (by omega) code hC c.1 c.2 hc
  rw [ea, obind]
  obtain ⟨b, eb, cb, _⟩ := d_Below F code hC a.2.2.1 a.2.2.2 ca 3
  rw [eb, obind]
  obtain ⟨r, hl, e1, _⟩ := kLexOrder2 F hF a.1 hd.1 a.2.1 hd.2.1 b.1
  rw [e1, obind]
  obtain ⟨d, ed, cd, _⟩ := d_Below F code hC b.2.1 b.2.2 cb 3
  rw [ed, obind]
  obtain ⟨q, hq, e2, _⟩ := kCardinalityOrder2 F hF a.1 hd.1 a.2.1 hd.2.1 d.1
  rw [e2, obind]
  have hj : ∀ x y p, Cu code x → ∃ r2, S_spec_DrawIsLexOrder_j1 F code a r q x y p = some r2 ∧ DG r2.1 r2.2.1 ∧ r2.2.2.length ≤ 7 := by
    intro x y p hx
    unfold S_spec_DrawIsLexOrder_j1
    cases p with
    | true =>
      rw [if_pos rfl]
      exact ⟨_, rfl, hd, hl⟩
    | false =>
      rw [if_neg (by simp)]
      split
      · exact ⟨_, rfl, hd, hq⟩
      · obtain ⟨q, eq, hq⟩ := d_List F (by omega) code hC x y hx a.1 a.2.1
        rw [eq, obind]
        exact ⟨_, rfl, hd, hq⟩
  split
  · obtain ⟨k, ek, ck⟩ := d_Once F code hC d.2.1 d.2.2 cd 2
    rw [ek, obind]
    exact hj _ _ _ ck
  · exact hj _ _ _ cd

theorem fol_j4 (F : Nat) (hF : 2097152 ≤ F) (code : List Int) (hC : code.length ≤ 1048576) : S_laws_FnOrders_j4 F code false = some true := by
  unfold S_laws_FnOrders_j4
  obtain ⟨r1, e1, a1, l1⟩ := d_IsLex F hF code hC
  obtain ⟨r2, e2, a2, l2⟩ := d_IsOrder F hF code hC
  obtain ⟨r3, e3, a3⟩ := d_Conn F (by omega) code hC
  obtain ⟨x1, s1, i1⟩ := kIsLexOrder F hF r1.1 a1.1 r1.2.1 a1.2.1 r1.2.2 (by omega)
  obtain ⟨x3, s3, i3⟩ := kIsConnected F hF r3.1 r3.2 a3.2.1
  rw [if_neg (by simp), e1, obind, e2, obind, e3, obind, i1, obind, s1, obind, if_pos (by simp), iIsOrder F (by omega) _ a2.1 _ a2.2.1 _ (by omega) (by omega), obind, sIsOrder F (by omega) _ _ a2.2.1 _ (by omega) (by omega), obind, if_pos (by simp), i3, obind, s3, obind]
  unfold S_laws_FnOrders_j5
  simp

theorem fol_j3 (F : Nat) (hF : 2097152 ≤ F) (code : List Int) (hC : code.length ≤ 1048576) : S_laws_FnOrders_j3 F code false = some true := by
  unfold S_laws_FnOrders_j3
  have hj := fol_j4 F hF code hC
  obtain ⟨r1, e1, a1⟩ := d_Dist F (by omega) code hC
  obtain ⟨x, h1, h2, h3, h4⟩ := distF F hF r1.1 a1.1 r1.2.1 a1.2.1 r1.2.2.1 r1.2.2.2
  rw [if_neg (by simp), e1, obind, h2, obind, h1, obind, if_neg (by simp), h3, obind, if_neg (by simp)]
  by_cases hx : x = 1
  · rw [if_pos (by simp [hx]), h4 hx, obind]
    exact hj
  · rw [if_neg (by simpa using hx)]
    exact hj

theorem fol_j1 (F : Nat) (hF : 2097152 ≤ F) (code : List Int) (hC : code.length ≤ 1048576) (n : Int) (rows : List Int) (st : Int) (hn : I64 n) (hr : Row64 rows) (r : List Int × Bool) (hl : r.1.length ≤ 7) (hb : r.2 = true ↔ isG n rows = true ∧ 0 ≤ st ∧ st < n) (h0 : r.2 = false → r.1 = []) (hB : ∀ (m v : Nat) (R : Nat → Nat), n = (m : Int) → rows = rowsOf m R → VG m R → st = (v : Int) → v < m → Bfs m R v r.1 r.1.length) : S_laws_FnOrders_j1 F code (n, rows, st) r r false = some true := by
  unfold S_laws_FnOrders_j1
  have hj := fol_j3 F hF code hC
  rw [if_neg (by simp)]
  cases h2 : r.2 with
  | false =>
    have hnil := h0 h2
    obtain ⟨l, b⟩ := r
    dsimp only at hnil h2
    subst hnil h2
    obtain ⟨q, rfl⟩ : ∃ q, F = q + 1 := ⟨F - 1, by omega⟩
    simp only [loopN]
    have e : S_laws_FnOrders_l6 (q + 1) (n, rows, st) ([], false) 1 = some (.inr (.inl ())) := by
      unfold S_laws_FnOrders_l6
      rw [if_neg (by simp)]
    rw [e]
    show S_laws_FnOrders_j2 (q + 1) code (n, rows, st) ([], false) ([], false) = some true
    unfold S_laws_FnOrders_j2
    rw [if_neg (by simp)]
    exact hj
  | true =>
    obtain ⟨hG, hs0, hs1⟩ := hb.1 h2
    obtain ⟨m, R, rfl, rfl, g⟩ := isG_elim hG
    obtain ⟨v, rfl⟩ : ∃ v : Nat, st = v := ⟨st.toNat, by omega⟩
    have hv : v < m := by omega
    have hbf := hB m v R rfl rfl g rfl hv
    have hlen : 1 ≤ r.1.length := by
      rcases Nat.eq_zero_or_pos r.1.length with h | h
      · have := hbf.hd
        rw [List.eq_nil_of_length_eq_zero h] at this
        cases this
      · exact h
    rw [show (1 : Int) = ((1 : Nat) : Int) from rfl]
    rw [loop_allO (body := fun s => S_laws_FnOrders_l6 F ((m : Int), rowsOf m R, (v : Int)) r s) (.inl ()) (.inr false) (fun _ => true) 1 r.1.length hlen ?_ ?_ (by omega), obind]
    · have ha : allB (r.1.length - 1) (fun _ => true) = true := by
        rw [allB_iff]; intro _ _; rfl
      simp only [ha, if_true]
      unfold S_laws_FnOrders_j2
      dsimp only
      rw [if_pos h2, conn F hF g hv hbf, obind, bne_self_eq_false]
      exact hj
    · intro k hk1 hk
      unfold S_laws_FnOrders_l6
      have hx := hbf.ord.mem _ (getD_mem hk)
      have hy := hbf.ord.mem _ (getD_mem (show k - 1 < r.1.length by omega))
      obtain ⟨a, ha⟩ : ∃ a : Nat, r.1.getD k 0 = (a : Int) := ⟨(r.1.getD k 0).toNat, by omega⟩
      obtain ⟨b, hbb⟩ : ∃ b : Nat, r.1.getD (k - 1) 0 = (b : Int) := ⟨(r.1.getD (k - 1) 0).toNat, by omega⟩
      obtain ⟨x, e1, d1⟩ := iDist F (by omega) g (v := v) (w := a) hv (by omega)
      obtain ⟨y, e2, d2⟩ := iDist F (by omega) g (v := v) (w := b) hv (by omega)
      have hkk : IntKind.i64.wrap ((k : Int) - 1) = ((k - 1 : Nat) : Int) := by rw [w64 (by omega) (by omega)]; omega
      have hle : ¬ x < y := by
        obtain ⟨t, ht⟩ := hbf.rch a (by rw [← ha]; exact getD_mem hk)
        rcases d1 with ⟨i, hi, c1, c2⟩ | ⟨_, c1⟩
        · have hib : In R v i b := by
            have := hbf.inc (k - 1) k (by omega) hk i (by rw [ha, Int.toNat_natCast]; exact c1)
            rwa [hbb, Int.toNat_natCast] at this
          rcases d2 with ⟨j, hj, c3, c4⟩ | ⟨_, c3⟩
          · intro hlt
            have := c4 i (by omega)
            unfold In at hib
            rw [hib] at this; cases this
          · unfold In at hib
            rw [c3 i] at hib; cases hib
        · unfold In at ht
          rw [c1 t] at ht; cases ht
      dsimp only
      rw [if_pos (by simpa using hk), idxL_getD hk, obind, hkk, idxL_getD (show k - 1 < r.1.length by omega), obind, ha, hbb, e1, obind, e2, obind, if_neg (by simpa using hle), w64 (by omega) (by omega)]
      simp
    · unfold S_laws_FnOrders_l6
      rw [if_neg (by simp)]

theorem P_FnOrders (F : Nat) (hF : 2097152 ≤ F) (code : List Int) (h8 : ∀ x, x ∈ code → U8 x) (hm : code.length ≤ maxLen) : S_laws_FnOrders F code = some true := by
  unfold S_laws_FnOrders
  rw [show S_laws_big F code = some (decide ((1048576 : Int) < (code.length : Int))) from rfl, obind]
  by_cases hl : (1048576 : Int) < (code.length : Int)
  · rw [if_pos (by simpa using hl)]
  · have hC : code.length ≤ 1048576 := by omega
    rw [if_neg (by simpa using hl)]
    obtain ⟨⟨n, rows, st⟩, e, hd⟩ := d_Ord F (by omega) code hC
    obtain ⟨a1, a2, a3, a4⟩ := hd
    dsimp only at a1 a2 a3 a4
    obtain ⟨p, pl, p1, p2, pb, pO⟩ := kLexOrder2 F hF n a1 rows a2 st
    obtain ⟨q, ql, q1, q2, qO⟩ := kCardinalityOrder2 F hF n a1 rows a2 st
    obtain ⟨r, rl, r1, r2, rb, r0, rB⟩ := kBreadthOrder2 F hF n a1 rows a2 st
    have hj := fol_j1 F hF code hC n rows st a1 a2 r rl rb r0 rB
    rw [e, obind]
    dsimp only
    rw [p2, obind, p1, obind, q2, obind, q1, obind, r2, obind, r1, obind, if_neg (by simp), sameI F _ _ (by omega) (by omega), obind, if_neg (by simp), if_neg (by simp), sameI F _ _ (by omega) (by omega), obind, if_neg (by simp), if_neg (by simp), sameI F _ _ (by omega) (by omega), obind, if_neg (by simp)]
    by_cases hp : p.2 = true
    · obtain ⟨hG, hs0, hs1⟩ := pb.1 hp
      obtain ⟨m, R, rfl, rfl, g⟩ := isG_elim hG
      obtain ⟨o1, o2, o3⟩ := pO m R rfl rfl g hs0 hs1
      obtain ⟨c1, c2⟩ := qO m R rfl rfl g hs0 hs1
      have hO := o1.isO g o2
      have hO2 := c1.isO g c2
      have hlx : allB (p.1.length - 1) (fun j => lexAt R p.1 (1 + j)) = true := by
        rw [allB_iff]
        intro j hj
        exact o3.lexAt o1 (by omega) (by omega)
      rw [if_pos hp, iIsOrder F (by omega) _ a1 _ a2 _ (by omega) (by omega), obind, hO, if_neg (by simp), iLexVal F hF g a1 p.1 (by omega) hO o1 o2, obind, hlx, if_neg (by simp), iIsOrder F (by omega) _ a1 _ a2 _ (by omega) (by omega), obind, hO2]
      exact hj
    · rw [if_neg hp]
      exact hj

end Go.Proofs.Ytilfniehellmmaa
