/- Proved here: that each Go function does what its shallow function says -/
import Derived.Test.YtfhjmoikggiblaaSh
import Derived.Test.YtfhjmoikggiblaaTy
import Derived.Test.YtfhjmoikggiblaaK11
namespace Go.Proofs.Ytfhjmoikggiblaa
open Go Go.RowKit
set_option linter.unusedVariables false
set_option linter.unusedSimpArgs false
set_option maxRecDepth 100000
set_option maxHeartbeats 4000000

theorem c_laws_szIntS (F : Nat) (p0_a : List Int) (p1_left : Int) (p0_av : Value) {r : Int} (hF : S_laws_szIntS F p0_a p1_left = some r) (w0 : World) (h0 : RdRow w0 p0_av (List.map (Value.int IntKind.i64) p0_a)) :
    Calls Try.prog 49 [p0_av, (Value.int IntKind.i64 p1_left)].toArray w0 (retPost fun v w' => v = (Value.int IntKind.i64 r) ∧ Mem Nob w0 w' []) := by
  have hM : Mem Nob w0 w0 [(false, rd p0_av (List.map (Value.int IntKind.i64) p0_a))] := (Mem.rcons (Mem.nil w0) h0 (by simp))
  refine enter2 Try.func49 rfl rfl rfl fun Q a hQr hQn hQp hS => ?_
  have hS : Sl 12 [(0, p0_av), (1, (Value.int IntKind.i64 p1_left))] a := hS
  unfold S_laws_szIntS at hF
  refine wp_seq_k fun K1 hK1 => ?_
  refine wp_region_lit ?_
  refine st_val hS rfl rfl (by decide) (rv_assign (hS.ev rfl)) fun a hS => ?_
  refine wpList_nil ?_
  refine hK1 _ _ ?_
  refine wp_seq_k fun K2 hK2 => ?_
  refine wp_region_lit ?_
  refine st_val hS rfl rfl (by decide) (rv_move (hS.ev rfl)) fun a hS => ?_
  refine st_val hS rfl rfl (by decide) (rv_move (hS.ev rfl)) fun a hS => ?_
  refine st_val hS rfl rfl (by decide) (rv_len_rowM Try.underlying22 (hS.ev rfl) (hM.get 0 rfl)) fun a hS => ?_
  refine st_val hS rfl rfl (by decide) (rv_sub (hS.ev rfl) (hS.ev rfl)) fun a hS => ?_
  refine st_val hS rfl rfl (by decide) (rv_assign (hS.ev rfl)) fun a hS => ?_
  refine wpList_nil ?_
  refine hK2 _ _ ?_
  refine wp_seq_k fun K3 hK3 => ?_
  refine wp_seq_k fun K6 hK6 => ?_
  refine wp_region_lit ?_
  refine st_val hS rfl rfl (by decide) (rv_move (hS.ev rfl)) fun a hS => ?_
  refine st_val hS rfl rfl (by decide) (rv_lss (hS.ev rfl) (hS.ev rfl)) fun a hS => ?_
  refine wpList_nil ?_
  refine hK6 _ _ ?_
  rcases ite_some hF with ⟨hc, hF⟩ | ⟨hc, hF⟩
  · refine cond_t hS rfl hc ?_
    refine wp_seq_k fun K7 hK7 => ?_
    refine wp_region_lit ?_
    refine st_val hS rfl rfl (by decide) (rv_assign (hS.ev rfl)) fun a hS => ?_
    refine wpList_nil ?_
    refine hK7 _ _ ?_
    refine wp_ret ?_
    cases hF
    exact hQr _ _ (r_1 hS rfl rfl ⟨rfl, hM.pick [] (by decide) rfl⟩)
  · refine cond_f hS rfl hc ?_
    refine wp_skip ?_
    refine hK3 _ _ ?_
    refine wp_seq_k fun K8 hK8 => ?_
    refine wp_region_lit ?_
    refine st_val hS rfl rfl (by decide) (rv_move (hS.ev rfl)) fun a hS => ?_
    refine st_val hS rfl rfl (by decide) (rv_assign (hS.ev rfl)) fun a hS => ?_
    refine wpList_nil ?_
    refine hK8 _ _ ?_
    refine wp_ret ?_
    cases hF
    exact hQr _ _ (r_1 hS rfl rfl ⟨rfl, hM.pick [] (by decide) rfl⟩)


theorem c_laws_szGraph (F : Nat) (p0_a_Size : Int) (p0_a_Rows : List Int) (p1_left : Int) (p0_a_Rowsv : Value) {r : Int} (hF : S_laws_szGraph F p0_a_Size p0_a_Rows p1_left = some r) (w0 : World) (h0 : RdRow w0 p0_a_Rowsv (List.map (Value.int IntKind.i64) p0_a_Rows)) :
    Calls Try.prog 15 [(Value.agg #[(Value.int IntKind.i64 p0_a_Size), p0_a_Rowsv]), (Value.int IntKind.i64 p1_left)].toArray w0 (retPost fun v w' => v = (Value.int IntKind.i64 r) ∧ Mem Nob w0 w' []) := by
  have hM : Mem Nob w0 w0 [(false, rd p0_a_Rowsv (List.map (Value.int IntKind.i64) p0_a_Rows))] := (Mem.rcons (Mem.nil w0) h0 (by simp))
  refine enter2 Try.func15 rfl rfl rfl fun Q a hQr hQn hQp hS => ?_
  have hS : Sl 12 [(0, (Value.agg #[(Value.int IntKind.i64 p0_a_Size), p0_a_Rowsv])), (1, (Value.int IntKind.i64 p1_left))] a := hS
  unfold S_laws_szGraph at hF
  refine wp_seq_k fun K1 hK1 => ?_
  refine wp_region_lit ?_
  obtain ⟨b3, w, hr, hM⟩ := hM.boxE (ρ := a.eval) (dst := some 2) (ty := _) (pos := _) (af := _) (gd := _) (x := .tmp 0) (T := 24) [(Value.int IntKind.i64 p0_a_Size), p0_a_Rowsv] (hS.ev rfl) rfl
  refine st_val hS rfl rfl (by decide) hr fun a hS => ?_
  refine st_val hS rfl rfl (by decide) (rv_assign (hS.ev rfl)) fun a hS => ?_
  refine wpList_nil ?_
  refine hK1 _ _ ?_
  refine wp_seq_k fun K4 hK4 => ?_
  refine wp_region_lit ?_
  refine st_val hS rfl rfl (by decide) (rv_fieldAddr ty_fd_24_1 (hS.ev rfl)) fun a hS => ?_
  refine st_val hS rfl rfl (by decide) (rv_load_bx (hS.ev rfl) ty_ag_22 (hM.get 0 rfl) rfl) fun a hS => ?_
  refine st_val hS rfl rfl (by decide) (rv_move (hS.ev rfl)) fun a hS => ?_
  obtain ⟨r6, hr, hF⟩ := bind_some hF
  refine st_wp hS rfl (wp_call hS rfl rfl (by decide) fn_ok_49 rfl (c_laws_szIntS F p0_a_Rows p1_left p0_a_Rowsv hr _ (hM.get 1 rfl)) fun v w a hK hS => ?_)
  obtain ⟨rfl, hN⟩ := hK
  have hM := hM.fra hN.fr
  refine st_val hS rfl rfl (by decide) (rv_assign (hS.ev rfl)) fun a hS => ?_
  refine wpList_nil ?_
  refine hK4 _ _ ?_
  refine wp_seq_k fun K7 hK7 => ?_
  refine wp_seq_k fun K10 hK10 => ?_
  refine wp_region_lit ?_
  refine st_val hS rfl rfl (by decide) (rv_move (hS.ev rfl)) fun a hS => ?_
  refine st_val hS rfl rfl (by decide) (rv_lss (hS.ev rfl) (hS.ev rfl)) fun a hS => ?_
  refine wpList_nil ?_
  refine hK10 _ _ ?_
  rcases ite_some hF with ⟨hc, hF⟩ | ⟨hc, hF⟩
  · refine cond_t hS rfl hc ?_
    refine wp_seq_k fun K11 hK11 => ?_
    refine wp_region_lit ?_
    refine st_val hS rfl rfl (by decide) (rv_assign (hS.ev rfl)) fun a hS => ?_
    refine wpList_nil ?_
    refine hK11 _ _ ?_
    refine wp_ret ?_
    cases hF
    exact hQr _ _ (r_1 hS rfl rfl ⟨rfl, hM.pick [] (by decide) rfl⟩)
  · refine cond_f hS rfl hc ?_
    refine wp_skip ?_
    refine hK7 _ _ ?_
    refine wp_seq_k fun K12 hK12 => ?_
    refine wp_region_lit ?_
    refine st_val hS rfl rfl (by decide) (rv_move (hS.ev rfl)) fun a hS => ?_
    refine st_val hS rfl rfl (by decide) (rv_assign (hS.ev rfl)) fun a hS => ?_
    refine wpList_nil ?_
    refine hK12 _ _ ?_
    refine wp_ret ?_
    cases hF
    exact hQr _ _ (r_1 hS rfl rfl ⟨rfl, hM.pick [] (by decide) rfl⟩)


theorem c_spec_l1In (F : Nat) (p0_x : Int) (p1_low : Int) (p2_high : Int) {r : Bool} (hF : S_spec_l1In F p0_x p1_low p2_high = some r) (w0 : World) :
    Calls Try.prog 77 [(Value.int IntKind.i64 p0_x), (Value.int IntKind.i64 p1_low), (Value.int IntKind.i64 p2_high)].toArray w0 (retPost fun v w' => v = (Value.bool r) ∧ Mem Nob w0 w' []) := by
  have hM : Mem Nob w0 w0 [] := (Mem.nil w0)
  refine enter2 Try.func77 rfl rfl rfl fun Q a hQr hQn hQp hS => ?_
  have hS : Sl 15 [(0, (Value.int IntKind.i64 p0_x)), (1, (Value.int IntKind.i64 p1_low)), (2, (Value.int IntKind.i64 p2_high))] a := hS
  unfold S_spec_l1In at hF
  refine wp_seq_k fun K1 hK1 => ?_
  refine wp_region_lit ?_
  refine st_val hS rfl rfl (by decide) (rv_assign (hS.ev rfl)) fun a hS => ?_
  refine wpList_nil ?_
  refine hK1 _ _ ?_
  refine wp_seq_k fun K2 hK2 => ?_
  have hJ1 : ∀ (p3 : Bool) (a : Act) (w : World), Sl 15 [(6, (Value.bool p3))] a → Mem Nob w0 w [] → S_spec_l1In_j1 F p3 = some r → K2 a w := by
    intro p3 a w hS hM hF
    unfold S_spec_l1In_j1 at hF
    refine hK2 _ _ ?_
    refine wp_ret ?_
    cases hF
    exact hQr _ _ (r_1 hS rfl rfl ⟨rfl, hM.pick [] (by decide) rfl⟩)
  refine wp_region_lit ?_
  refine st_val hS rfl rfl (by decide) (rv_move (hS.ev rfl)) fun a hS => ?_
  refine st_val hS rfl rfl (by decide) (rv_move (hS.ev rfl)) fun a hS => ?_
  refine st_val hS rfl rfl (by decide) (rv_geq (hS.ev rfl) (hS.ev rfl)) fun a hS => ?_
  refine st_val hS rfl rfl (by decide) (rv_move (hS.ev rfl)) fun a hS => ?_
  rcases ite_some hF with ⟨hc, hF⟩ | ⟨hc, hF⟩
  · have hS := hS.setb (t := 10) rfl hc
    refine st_val hS rfl rfl (by decide) (rv_move (hS.ev rfl)) fun a hS => ?_
    refine st_val hS rfl rfl (by decide) (rv_move (hS.ev rfl)) fun a hS => ?_
    refine st_val hS rfl rfl (by decide) (rv_leq (hS.ev rfl) (hS.ev rfl)) fun a hS => ?_
    refine st_val hS rfl rfl (by decide) (rv_pick_t (hS.ev rfl) (hS.ev rfl)) fun a hS => ?_
    refine st_val hS rfl rfl (by decide) (rv_assign (hS.ev rfl)) fun a hS => ?_
    refine wpList_nil ?_
    exact hJ1 (decide (p0_x ≤ p2_high)) _ _ (hS.sub (sub_cons rfl sub_nil)) (hM.pick [] (by decide) rfl) hF
  · have hS := hS.setb (t := 10) rfl hc
    refine st_skip hS rfl rfl (by decide) fun a hS => ?_
    refine st_skip hS rfl rfl (by decide) fun a hS => ?_
    refine st_skip hS rfl rfl (by decide) fun a hS => ?_
    refine st_val hS rfl rfl (by decide) (rv_pick_f (hS.ev rfl) (hS.ev rfl)) fun a hS => ?_
    refine st_val hS rfl rfl (by decide) (rv_assign (hS.ev rfl)) fun a hS => ?_
    refine wpList_nil ?_
    exact hJ1 false _ _ (hS.sub (sub_cons rfl sub_nil)) (hM.pick [] (by decide) rfl) hF


theorem c_spec_IsGraph (F : Nat) (p0_g_Size : Int) (p0_g_Rows : List Int) (p0_g_Rowsv : Value) {r : Bool} (hF : S_spec_IsGraph F p0_g_Size p0_g_Rows = some r) (w0 : World) (h0 : RdRow w0 p0_g_Rowsv (List.map (Value.int IntKind.i64) p0_g_Rows)) :
    Calls Try.prog 53 [(Value.agg #[(Value.int IntKind.i64 p0_g_Size), p0_g_Rowsv])].toArray w0 (retPost fun v w' => v = (Value.bool r) ∧ Mem Nob w0 w' []) := by
  have hM : Mem Nob w0 w0 [(false, rd p0_g_Rowsv (List.map (Value.int IntKind.i64) p0_g_Rows))] := (Mem.rcons (Mem.nil w0) h0 (by simp))
  refine enter2 Try.func53 rfl rfl rfl fun Q a hQr hQn hQp hS => ?_
  have hS : Sl 96 [(0, (Value.agg #[(Value.int IntKind.i64 p0_g_Size), p0_g_Rowsv]))] a := hS
  unfold S_spec_IsGraph at hF
  refine wp_seq_k fun K1 hK1 => ?_
  refine wp_region_lit ?_
  obtain ⟨b3, w, hr, hM⟩ := hM.boxE (ρ := a.eval) (dst := some 1) (ty := _) (pos := _) (af := _) (gd := _) (x := .tmp 0) (T := 27) [(Value.int IntKind.i64 p0_g_Size), p0_g_Rowsv] (hS.ev rfl) rfl
  refine st_val hS rfl rfl (by decide) hr fun a hS => ?_
  refine st_val hS rfl rfl (by decide) (rv_assign (hS.ev rfl)) fun a hS => ?_
  refine wpList_nil ?_
  refine hK1 _ _ ?_
  refine wp_seq_k fun K4 hK4 => ?_
  refine wp_seq_k fun K10 hK10 => ?_
  have hJ1 : ∀ (p12 : Bool) (a : Act) (w : World), Sl 96 [(1, (fdp b3 0)), (16, (Value.bool p12))] a → Mem Nob w0 w [(true, bx b3 27 [(Value.int IntKind.i64 p0_g_Size), p0_g_Rowsv]), (false, rd p0_g_Rowsv (List.map (Value.int IntKind.i64) p0_g_Rows))] → S_spec_IsGraph_j1 F p0_g_Size p0_g_Rows p12 = some r → K10 a w := by
    intro p12 a w hS hM hF
    unfold S_spec_IsGraph_j1 at hF
    refine hK10 _ _ ?_
    rcases ite_some hF with ⟨hc, hF⟩ | ⟨hc, hF⟩
    · refine cond_t hS rfl hc ?_
      refine wp_seq_k fun K13 hK13 => ?_
      refine wp_region_lit ?_
      refine st_val hS rfl rfl (by decide) (rv_assign (hS.ev rfl)) fun a hS => ?_
      refine wpList_nil ?_
      refine hK13 _ _ ?_
      refine wp_ret ?_
      cases hF
      exact hQr _ _ (r_1 hS rfl rfl ⟨rfl, hM.pick [] (by decide) rfl⟩)
    · refine cond_f hS rfl hc ?_
      refine wp_skip ?_
      refine hK4 _ _ ?_
      refine wp_seq_k fun K14 hK14 => ?_
      have hJ2 : ∀ (a : Act) (w : World), Sl 96 [] a → Mem Nob w0 w [] → S_spec_IsGraph_j2 F = some r → K14 a w := by
        intro a w hS hM hF
        unfold S_spec_IsGraph_j2 at hF
        refine hK14 _ _ ?_
        refine wp_seq_k fun K317 hK317 => ?_
        refine wp_region_lit ?_
        refine st_val hS rfl rfl (by decide) (rv_assign (hS.ev rfl)) fun a hS => ?_
        refine wpList_nil ?_
        refine hK317 _ _ ?_
        refine wp_ret ?_
        cases hF
        exact hQr _ _ (r_1 hS rfl rfl ⟨rfl, hM.pick [] (by decide) rfl⟩)
      refine wp_seq_k fun K318 hK318 => ?_
      refine wp_region_lit ?_
      refine st_val hS rfl rfl (by decide) (rv_assign (hS.ev rfl)) fun a hS => ?_
      refine wpList_nil ?_
      refine hK318 _ _ ?_
      refine wp_block ?_
      obtain ⟨lb3, hl3, hF3⟩ := bind_some hF
      refine wp_loop_sh (fun s => S_spec_IsGraph_l3 F p0_g_Size p0_g_Rows s) (fun s a w => Sl 96 [(1, (fdp b3 0)), (3, (Value.int IntKind.i64 s))] a ∧ Mem Nob w0 w [(true, bx b3 27 [(Value.int IntKind.i64 p0_g_Size), p0_g_Rowsv]), (false, rd p0_g_Rowsv (List.map (Value.int IntKind.i64) p0_g_Rows))]) hl3 ⟨(hS.sub (sub_cons rfl (sub_cons rfl sub_nil))), (hM.pick [0, 1] (by decide) rfl)⟩ ?_
      rintro K3 x319 a w res3 ⟨hS, hM⟩ hF hN3 hX3
      have hF : S_spec_IsGraph_l3 F p0_g_Size p0_g_Rows x319 = some res3 := hF
      have hS : Sl 96 [(1, (fdp b3 0)), (3, (Value.int IntKind.i64 x319))] a := hS
      have hM : Mem Nob w0 w [(true, bx b3 27 [(Value.int IntKind.i64 p0_g_Size), p0_g_Rowsv]), (false, rd p0_g_Rowsv (List.map (Value.int IntKind.i64) p0_g_Rows))] := hM
      unfold S_spec_IsGraph_l3 at hF
      refine wp_seq_k fun K470 hK470 => ?_
      refine wp_seq_k fun K472 hK472 => ?_
      refine wp_region_lit ?_
      refine st_val hS rfl rfl (by decide) (rv_move (hS.ev rfl)) fun a hS => ?_
      refine st_val hS rfl rfl (by decide) (rv_fieldAddr ty_fd_27_0 (hS.ev rfl)) fun a hS => ?_
      refine st_val hS rfl rfl (by decide) (rv_load_bx (hS.ev rfl) ty_ag_3 (hM.get 0 rfl) rfl) fun a hS => ?_
      refine st_val hS rfl rfl (by decide) (rv_lss (hS.ev rfl) (hS.ev rfl)) fun a hS => ?_
      refine wpList_nil ?_
      refine hK472 _ _ ?_
      rcases ite_some hF with ⟨hc, hF⟩ | ⟨hc, hF⟩
      · refine cond_t hS rfl hc ?_
        refine wp_skip ?_
        refine hK470 _ _ ?_
        refine wp_seq_k fun K473 hK473 => ?_
        have hJ4 : ∀ (a : Act) (w : World), Sl 96 [(1, (fdp b3 0)), (3, (Value.int IntKind.i64 x319))] a → Mem Nob w0 w [(true, bx b3 27 [(Value.int IntKind.i64 p0_g_Size), p0_g_Rowsv]), (false, rd p0_g_Rowsv (List.map (Value.int IntKind.i64) p0_g_Rows))] → S_spec_IsGraph_j4 F x319 = some res3 → K473 a w := by
          intro a w hS hM hF
          unfold S_spec_IsGraph_j4 at hF
          refine hK473 _ _ ?_
          refine wp_region_lit ?_
          refine st_val hS rfl rfl (by decide) (rv_move (hS.ev rfl)) fun a hS => ?_
          refine st_val hS rfl rfl (by decide) (rv_add (hS.ev rfl) (hS.ev rfl)) fun a hS => ?_
          refine st_val hS rfl rfl (by decide) (rv_assign (hS.ev rfl)) fun a hS => ?_
          refine wpList_nil ?_
          cases hF
          exact hN3 _ _ _ rfl ⟨(hS.sub (sub_cons rfl (sub_cons rfl sub_nil))), (hM.pick [0, 1] (by decide) rfl)⟩
        refine wp_block ?_
        refine wp_seq_k fun K547 hK547 => ?_
        refine wp_seq_k fun K557 hK557 => ?_
        have hJ5 : ∀ (p561 : Bool) (a : Act) (w : World), Sl 96 [(1, (fdp b3 0)), (3, (Value.int IntKind.i64 x319)), (50, (Value.bool p561))] a → Mem Nob w0 w [(true, bx b3 27 [(Value.int IntKind.i64 p0_g_Size), p0_g_Rowsv]), (false, rd p0_g_Rowsv (List.map (Value.int IntKind.i64) p0_g_Rows))] → S_spec_IsGraph_j5 F p0_g_Size p0_g_Rows x319 p561 = some res3 → K557 a w := by
          intro p561 a w hS hM hF
          unfold S_spec_IsGraph_j5 at hF
          refine hK557 _ _ ?_
          rcases ite_some hF with ⟨hc, hF⟩ | ⟨hc, hF⟩
          · refine cond_t hS rfl hc ?_
            refine wp_seq_k fun K562 hK562 => ?_
            refine wp_region_lit ?_
            refine st_val hS rfl rfl (by decide) (rv_assign (hS.ev rfl)) fun a hS => ?_
            refine wpList_nil ?_
            refine hK562 _ _ ?_
            refine wp_ret ?_
            cases hF
            have e := hX3 _ rfl
            subst e
            have hF := hF3
            cases hF
            exact hQr _ _ (r_1 hS rfl rfl ⟨rfl, hM.pick [] (by decide) rfl⟩)
          · refine cond_f hS rfl hc ?_
            refine wp_skip ?_
            refine hK547 _ _ ?_
            refine wp_seq_k fun K563 hK563 => ?_
            refine wp_region_lit ?_
            refine st_val hS rfl rfl (by decide) (rv_assign (hS.ev rfl)) fun a hS => ?_
            refine wpList_nil ?_
            refine hK563 _ _ ?_
            refine wp_block ?_
            obtain ⟨lb6, hl6, hF6⟩ := bind_some hF
            refine wp_loop_sh (fun s => S_spec_IsGraph_l6 F p0_g_Size p0_g_Rows x319 s) (fun s a w => Sl 96 [(1, (fdp b3 0)), (3, (Value.int IntKind.i64 x319)), (4, (Value.int IntKind.i64 s))] a ∧ Mem Nob w0 w [(true, bx b3 27 [(Value.int IntKind.i64 p0_g_Size), p0_g_Rowsv]), (false, rd p0_g_Rowsv (List.map (Value.int IntKind.i64) p0_g_Rows))]) hl6 ⟨(hS.sub (sub_cons rfl (sub_cons rfl (sub_cons rfl sub_nil)))), (hM.pick [0, 1] (by decide) rfl)⟩ ?_
            rintro K6 x564 a w res6 ⟨hS, hM⟩ hF hN6 hX6
            have hF : S_spec_IsGraph_l6 F p0_g_Size p0_g_Rows x319 x564 = some res6 := hF
            have hS : Sl 96 [(1, (fdp b3 0)), (3, (Value.int IntKind.i64 x319)), (4, (Value.int IntKind.i64 x564))] a := hS
            have hM : Mem Nob w0 w [(true, bx b3 27 [(Value.int IntKind.i64 p0_g_Size), p0_g_Rowsv]), (false, rd p0_g_Rowsv (List.map (Value.int IntKind.i64) p0_g_Rows))] := hM
            unfold S_spec_IsGraph_l6 at hF
            refine wp_seq_k fun K591 hK591 => ?_
            refine wp_seq_k fun K593 hK593 => ?_
            refine wp_region_lit ?_
            refine st_val hS rfl rfl (by decide) (rv_move (hS.ev rfl)) fun a hS => ?_
            refine st_val hS rfl rfl (by decide) (rv_fieldAddr ty_fd_27_0 (hS.ev rfl)) fun a hS => ?_
            refine st_val hS rfl rfl (by decide) (rv_load_bx (hS.ev rfl) ty_ag_3 (hM.get 0 rfl) rfl) fun a hS => ?_
            refine st_val hS rfl rfl (by decide) (rv_lss (hS.ev rfl) (hS.ev rfl)) fun a hS => ?_
            refine wpList_nil ?_
            refine hK593 _ _ ?_
            rcases ite_some hF with ⟨hc, hF⟩ | ⟨hc, hF⟩
            · refine cond_t hS rfl hc ?_
              refine wp_skip ?_
              refine hK591 _ _ ?_
              refine wp_seq_k fun K594 hK594 => ?_
              refine wp_block ?_
              refine wp_seq_k fun K606 hK606 => ?_
              have hJ7 : ∀ (p611 : Bool) (a : Act) (w : World), Sl 96 [(1, (fdp b3 0)), (3, (Value.int IntKind.i64 x319)), (4, (Value.int IntKind.i64 x564)), (95, (Value.bool p611))] a → Mem Nob w0 w [(true, bx b3 27 [(Value.int IntKind.i64 p0_g_Size), p0_g_Rowsv]), (false, rd p0_g_Rowsv (List.map (Value.int IntKind.i64) p0_g_Rows))] → S_spec_IsGraph_j7 F x564 p611 = some res6 → K606 a w := by
                intro p611 a w hS hM hF
                unfold S_spec_IsGraph_j7 at hF
                refine hK606 _ _ ?_
                rcases ite_some hF with ⟨hc, hF⟩ | ⟨hc, hF⟩
                · refine cond_t hS rfl hc ?_
                  refine wp_seq_k fun K612 hK612 => ?_
                  refine wp_region_lit ?_
                  refine st_val hS rfl rfl (by decide) (rv_assign (hS.ev rfl)) fun a hS => ?_
                  refine wpList_nil ?_
                  refine hK612 _ _ ?_
                  refine wp_ret ?_
                  cases hF
                  have e := hX6 _ rfl
                  subst e
                  have hF := hF6
                  cases hF
                  have e := hX3 _ rfl
                  subst e
                  have hF := hF3
                  cases hF
                  exact hQr _ _ (r_1 hS rfl rfl ⟨rfl, hM.pick [] (by decide) rfl⟩)
                · refine cond_f hS rfl hc ?_
                  refine wp_skip ?_
                  refine hK594 _ _ ?_
                  refine wp_region_lit ?_
                  refine st_val hS rfl rfl (by decide) (rv_move (hS.ev rfl)) fun a hS => ?_
                  refine st_val hS rfl rfl (by decide) (rv_add (hS.ev rfl) (hS.ev rfl)) fun a hS => ?_
                  refine st_val hS rfl rfl (by decide) (rv_assign (hS.ev rfl)) fun a hS => ?_
                  refine wpList_nil ?_
                  cases hF
                  exact hN6 _ _ _ rfl ⟨(hS.sub (sub_cons rfl (sub_cons rfl (sub_cons rfl sub_nil)))), (hM.pick [0, 1] (by decide) rfl)⟩
              refine an_start Nob ty_mixed fun w hf => ?_
              have hM := hM.fra hf
              have hB := hM
              have hM := hB.reg0
              refine an_take hS (i := 0) rfl (by kernel_rfl) (by kernel_rfl) (by kernel_rfl) rfl (by decide) (fun c a a' w hd h => hQp c a a' w hd h) rfl (fun w' hC' => (rv_fieldAddr ty_fd_27_1 (hS.ev rfl))) hM.fr fun a hS => ?_
              refine an_take hS (i := 1) rfl (by kernel_rfl) (by kernel_rfl) (by kernel_rfl) rfl (by decide) (fun c a a' w hd h => hQp c a a' w hd h) rfl (fun w' hC' => (rv_load_bx (hS.ev rfl) ty_ag_22 ((hB.fra hC').get 0 rfl) rfl)) hM.fr fun a hS => ?_
              refine an_take hS (i := 2) rfl (by kernel_rfl) (by kernel_rfl) (by kernel_rfl) rfl (by decide) (fun c a a' w hd h => hQp c a a' w hd h) rfl (fun w' hC' => (rv_move (hS.ev rfl))) hM.fr fun a hS => ?_
              obtain ⟨x613, hx, hF⟩ := bind_some hF
              obtain ⟨hi0, hi1, hex613⟩ := idxL_some hx
              refine an_take hS (i := 3) rfl (by kernel_rfl) (by kernel_rfl) (by kernel_rfl) rfl (by decide) (fun c a a' w hd h => hQp c a a' w hd h) rfl (fun w' hC' => (rv_indexAddr Try.underlying22 ty_el_3 (hS.ev rfl) (hS.ev rfl) (hM.get 1 rfl) hi0 (map_len hi1))) hM.fr fun a hS => ?_
              refine an_take hS (i := 4) rfl (by kernel_rfl) (by kernel_rfl) (by kernel_rfl) rfl (by decide) (fun c a a' w hd h => hQp c a a' w hd h) rfl (fun w' hC' => (rv_load_el (hS.ev rfl) ty_ag_3 ((hB.fra hC').get 1 rfl) (mget hex613))) hM.fr fun a hS => ?_
              refine an_take hS (i := 5) rfl (by kernel_rfl) (by kernel_rfl) (by kernel_rfl) rfl (by decide) (fun c a a' w hd h => hQp c a a' w hd h) rfl (fun w' hC' => (rv_move (hS.ev rfl))) hM.fr fun a hS => ?_
              obtain ⟨_, hx, hF⟩ := bind_some hF
              have hi0 := nnO_some hx
              refine an_take hS (i := 6) rfl (by kernel_rfl) (by kernel_rfl) (by kernel_rfl) rfl (by decide) (fun c a a' w hd h => hQp c a a' w hd h) rfl (fun w' hC' => (rv_shr (hS.ev rfl) (hS.ev rfl) hi0)) hM.fr fun a hS => ?_
              refine an_take hS (i := 7) rfl (by kernel_rfl) (by kernel_rfl) (by kernel_rfl) rfl (by decide) (fun c a a' w hd h => hQp c a a' w hd h) rfl (fun w' hC' => (rv_and (hS.ev rfl) (hS.ev rfl))) hM.fr fun a hS => ?_
              refine an_take hS (i := 8) rfl (by kernel_rfl) (by kernel_rfl) (by kernel_rfl) rfl (by decide) (fun c a a' w hd h => hQp c a a' w hd h) rfl (fun w' hC' => (rv_eql (hS.ev rfl) (hS.ev rfl))) hM.fr fun a hS => ?_
              refine an_take hS (i := 9) rfl (by kernel_rfl) (by kernel_rfl) (by kernel_rfl) rfl (by decide) (fun c a a' w hd h => hQp c a a' w hd h) rfl (fun w' hC' => (rv_move (hS.ev rfl))) hM.fr fun a hS => ?_
              rcases ite_some hF with ⟨hc, hF⟩ | ⟨hc, hF⟩
              · have hS := hS.setb (t := 66) rfl hc
                refine an_take hS (i := 10) rfl (by kernel_rfl) (by kernel_rfl) (by kernel_rfl) rfl (by decide) (fun c a a' w hd h => hQp c a a' w hd h) rfl (fun w' hC' => (rv_fieldAddr ty_fd_27_1 (hS.ev rfl))) hM.fr fun a hS => ?_
                refine an_take hS (i := 11) rfl (by kernel_rfl) (by kernel_rfl) (by kernel_rfl) rfl (by decide) (fun c a a' w hd h => hQp c a a' w hd h) rfl (fun w' hC' => (rv_load_bx (hS.ev rfl) ty_ag_22 ((hB.fra hC').get 0 rfl) rfl)) hM.fr fun a hS => ?_
                refine an_take hS (i := 12) rfl (by kernel_rfl) (by kernel_rfl) (by kernel_rfl) rfl (by decide) (fun c a a' w hd h => hQp c a a' w hd h) rfl (fun w' hC' => (rv_move (hS.ev rfl))) hM.fr fun a hS => ?_
                obtain ⟨x614, hx, hF⟩ := bind_some hF
                obtain ⟨hi0, hi1, hex614⟩ := idxL_some hx
                refine an_take hS (i := 13) rfl (by kernel_rfl) (by kernel_rfl) (by kernel_rfl) rfl (by decide) (fun c a a' w hd h => hQp c a a' w hd h) rfl (fun w' hC' => (rv_indexAddr Try.underlying22 ty_el_3 (hS.ev rfl) (hS.ev rfl) (hM.get 1 rfl) hi0 (map_len hi1))) hM.fr fun a hS => ?_
                refine an_take hS (i := 14) rfl (by kernel_rfl) (by kernel_rfl) (by kernel_rfl) rfl (by decide) (fun c a a' w hd h => hQp c a a' w hd h) rfl (fun w' hC' => (rv_load_el (hS.ev rfl) ty_ag_3 ((hB.fra hC').get 1 rfl) (mget hex614))) hM.fr fun a hS => ?_
                refine an_take hS (i := 15) rfl (by kernel_rfl) (by kernel_rfl) (by kernel_rfl) rfl (by decide) (fun c a a' w hd h => hQp c a a' w hd h) rfl (fun w' hC' => (rv_lss (hS.ev rfl) (hS.ev rfl))) hM.fr fun a hS => ?_
                refine an_take hS (i := 16) rfl (by kernel_rfl) (by kernel_rfl) (by kernel_rfl) rfl (by decide) (fun c a a' w hd h => hQp c a a' w hd h) rfl (fun w' hC' => (rv_move (hS.ev rfl))) hM.fr fun a hS => ?_
                rcases ite_some hF with ⟨hc, hF⟩ | ⟨hc, hF⟩
                · have hS := hS.setb (t := 73) rfl hc
                  refine an_skip hS (i := 17) rfl (by kernel_rfl) (by kernel_rfl) (by kernel_rfl) rfl (by decide) (fun c a a' w hd h => hQp c a a' w hd h) rfl hM.fr fun a hS => ?_
                  refine an_skip hS (i := 18) rfl (by kernel_rfl) (by kernel_rfl) (by kernel_rfl) rfl (by decide) (fun c a a' w hd h => hQp c a a' w hd h) rfl hM.fr fun a hS => ?_
                  refine an_skip hS (i := 19) rfl (by kernel_rfl) (by kernel_rfl) (by kernel_rfl) rfl (by decide) (fun c a a' w hd h => hQp c a a' w hd h) rfl hM.fr fun a hS => ?_
                  refine an_skip hS (i := 20) rfl (by kernel_rfl) (by kernel_rfl) (by kernel_rfl) rfl (by decide) (fun c a a' w hd h => hQp c a a' w hd h) rfl hM.fr fun a hS => ?_
                  refine an_skip hS (i := 21) rfl (by kernel_rfl) (by kernel_rfl) (by kernel_rfl) rfl (by decide) (fun c a a' w hd h => hQp c a a' w hd h) rfl hM.fr fun a hS => ?_
                  refine an_skip hS (i := 22) rfl (by kernel_rfl) (by kernel_rfl) (by kernel_rfl) rfl (by decide) (fun c a a' w hd h => hQp c a a' w hd h) rfl hM.fr fun a hS => ?_
                  refine an_skip hS (i := 23) rfl (by kernel_rfl) (by kernel_rfl) (by kernel_rfl) rfl (by decide) (fun c a a' w hd h => hQp c a a' w hd h) rfl hM.fr fun a hS => ?_
                  refine an_skip hS (i := 24) rfl (by kernel_rfl) (by kernel_rfl) (by kernel_rfl) rfl (by decide) (fun c a a' w hd h => hQp c a a' w hd h) rfl hM.fr fun a hS => ?_
                  refine an_skip hS (i := 25) rfl (by kernel_rfl) (by kernel_rfl) (by kernel_rfl) rfl (by decide) (fun c a a' w hd h => hQp c a a' w hd h) rfl hM.fr fun a hS => ?_
                  refine an_take hS (i := 26) rfl (by kernel_rfl) (by kernel_rfl) (by kernel_rfl) rfl (by decide) (fun c a a' w hd h => hQp c a a' w hd h) rfl (fun w' hC' => (rv_pick_t (hS.ev rfl) (hS.ev rfl))) hM.fr fun a hS => ?_
                  refine an_take hS (i := 27) rfl (by kernel_rfl) (by kernel_rfl) (by kernel_rfl) rfl (by decide) (fun c a a' w hd h => hQp c a a' w hd h) rfl (fun w' hC' => (rv_move (hS.ev rfl))) hM.fr fun a hS => ?_
                  refine an_skip hS (i := 28) rfl (by kernel_rfl) (by kernel_rfl) (by kernel_rfl) rfl (by decide) (fun c a a' w hd h => hQp c a a' w hd h) rfl hM.fr fun a hS => ?_
                  refine an_skip hS (i := 29) rfl (by kernel_rfl) (by kernel_rfl) (by kernel_rfl) rfl (by decide) (fun c a a' w hd h => hQp c a a' w hd h) rfl hM.fr fun a hS => ?_
                  refine an_skip hS (i := 30) rfl (by kernel_rfl) (by kernel_rfl) (by kernel_rfl) rfl (by decide) (fun c a a' w hd h => hQp c a a' w hd h) rfl hM.fr fun a hS => ?_
                  refine an_skip hS (i := 31) rfl (by kernel_rfl) (by kernel_rfl) (by kernel_rfl) rfl (by decide) (fun c a a' w hd h => hQp c a a' w hd h) rfl hM.fr fun a hS => ?_
                  refine an_skip hS (i := 32) rfl (by kernel_rfl) (by kernel_rfl) (by kernel_rfl) rfl (by decide) (fun c a a' w hd h => hQp c a a' w hd h) rfl hM.fr fun a hS => ?_
                  refine an_skip hS (i := 33) rfl (by kernel_rfl) (by kernel_rfl) (by kernel_rfl) rfl (by decide) (fun c a a' w hd h => hQp c a a' w hd h) rfl hM.fr fun a hS => ?_
                  refine an_skip hS (i := 34) rfl (by kernel_rfl) (by kernel_rfl) (by kernel_rfl) rfl (by decide) (fun c a a' w hd h => hQp c a a' w hd h) rfl hM.fr fun a hS => ?_
                  refine an_skip hS (i := 35) rfl (by kernel_rfl) (by kernel_rfl) (by kernel_rfl) rfl (by decide) (fun c a a' w hd h => hQp c a a' w hd h) rfl hM.fr fun a hS => ?_
                  refine an_skip hS (i := 36) rfl (by kernel_rfl) (by kernel_rfl) (by kernel_rfl) rfl (by decide) (fun c a a' w hd h => hQp c a a' w hd h) rfl hM.fr fun a hS => ?_
                  refine an_take hS (i := 37) rfl (by kernel_rfl) (by kernel_rfl) (by kernel_rfl) rfl (by decide) (fun c a a' w hd h => hQp c a a' w hd h) rfl (fun w' hC' => (rv_pick_t (hS.ev rfl) (hS.ev rfl))) hM.fr fun a hS => ?_
                  refine an_take hS (i := 38) rfl (by kernel_rfl) (by kernel_rfl) (by kernel_rfl) rfl (by decide) (fun c a a' w hd h => hQp c a a' w hd h) rfl (fun w' hC' => (rv_pick_t (hS.ev rfl) (hS.ev rfl))) hM.fr fun a hS => ?_
                  refine an_done (by kernel_rfl) ?_
                  have hN := hM.pick [] (by decide) rfl
                  have hM := Mem.callo (A := []) (B := [(true, bx b3 27 [(Value.int IntKind.i64 p0_g_Size), p0_g_Rowsv]), (false, rd p0_g_Rowsv (List.map (Value.int IntKind.i64) p0_g_Rows))]) hB rfl (hN.memS fun _ h => h.elim) rfl
                  exact hJ7 true _ _ (hS.sub (sub_cons rfl (sub_cons rfl (sub_cons rfl (sub_cons rfl sub_nil))))) (hM.pick [0, 1] (by decide) rfl) hF
                · have hS := hS.setb (t := 73) rfl hc
                  refine an_take hS (i := 17) rfl (by kernel_rfl) (by kernel_rfl) (by kernel_rfl) rfl (by decide) (fun c a a' w hd h => hQp c a a' w hd h) rfl (fun w' hC' => (rv_fieldAddr ty_fd_27_1 (hS.ev rfl))) hM.fr fun a hS => ?_
                  refine an_take hS (i := 18) rfl (by kernel_rfl) (by kernel_rfl) (by kernel_rfl) rfl (by decide) (fun c a a' w hd h => hQp c a a' w hd h) rfl (fun w' hC' => (rv_load_bx (hS.ev rfl) ty_ag_22 ((hB.fra hC').get 0 rfl) rfl)) hM.fr fun a hS => ?_
                  refine an_take hS (i := 19) rfl (by kernel_rfl) (by kernel_rfl) (by kernel_rfl) rfl (by decide) (fun c a a' w hd h => hQp c a a' w hd h) rfl (fun w' hC' => (rv_move (hS.ev rfl))) hM.fr fun a hS => ?_
                  obtain ⟨x615, hx, hF⟩ := bind_some hF
                  obtain ⟨hi0, hi1, hex615⟩ := idxL_some hx
                  refine an_take hS (i := 20) rfl (by kernel_rfl) (by kernel_rfl) (by kernel_rfl) rfl (by decide) (fun c a a' w hd h => hQp c a a' w hd h) rfl (fun w' hC' => (rv_indexAddr Try.underlying22 ty_el_3 (hS.ev rfl) (hS.ev rfl) (hM.get 1 rfl) hi0 (map_len hi1))) hM.fr fun a hS => ?_
                  refine an_take hS (i := 21) rfl (by kernel_rfl) (by kernel_rfl) (by kernel_rfl) rfl (by decide) (fun c a a' w hd h => hQp c a a' w hd h) rfl (fun w' hC' => (rv_load_el (hS.ev rfl) ty_ag_3 ((hB.fra hC').get 1 rfl) (mget hex615))) hM.fr fun a hS => ?_
                  refine an_take hS (i := 22) rfl (by kernel_rfl) (by kernel_rfl) (by kernel_rfl) rfl (by decide) (fun c a a' w hd h => hQp c a a' w hd h) rfl (fun w' hC' => (rv_fieldAddr ty_fd_27_0 (hS.ev rfl))) hM.fr fun a hS => ?_
                  refine an_take hS (i := 23) rfl (by kernel_rfl) (by kernel_rfl) (by kernel_rfl) rfl (by decide) (fun c a a' w hd h => hQp c a a' w hd h) rfl (fun w' hC' => (rv_load_bx (hS.ev rfl) ty_ag_3 ((hB.fra hC').get 0 rfl) rfl)) hM.fr fun a hS => ?_
                  obtain ⟨_, hx, hF⟩ := bind_some hF
                  have hi0 := nnO_some hx
                  refine an_take hS (i := 24) rfl (by kernel_rfl) (by kernel_rfl) (by kernel_rfl) rfl (by decide) (fun c a a' w hd h => hQp c a a' w hd h) rfl (fun w' hC' => (rv_shl (hS.ev rfl) (hS.ev rfl) hi0)) hM.fr fun a hS => ?_
                  refine an_take hS (i := 25) rfl (by kernel_rfl) (by kernel_rfl) (by kernel_rfl) rfl (by decide) (fun c a a' w hd h => hQp c a a' w hd h) rfl (fun w' hC' => (rv_geq (hS.ev rfl) (hS.ev rfl))) hM.fr fun a hS => ?_
                  refine an_take hS (i := 26) rfl (by kernel_rfl) (by kernel_rfl) (by kernel_rfl) rfl (by decide) (fun c a a' w hd h => hQp c a a' w hd h) rfl (fun w' hC' => (rv_pick_f (hS.ev rfl) (hS.ev rfl))) hM.fr fun a hS => ?_
                  refine an_take hS (i := 27) rfl (by kernel_rfl) (by kernel_rfl) (by kernel_rfl) rfl (by decide) (fun c a a' w hd h => hQp c a a' w hd h) rfl (fun w' hC' => (rv_move (hS.ev rfl))) hM.fr fun a hS => ?_
                  rcases ite_some hF with ⟨hc, hF⟩ | ⟨hc, hF⟩
                  · have hS := hS.setb (t := 84) rfl hc
                    refine an_skip hS (i := 28) rfl (by kernel_rfl) (by kernel_rfl) (by kernel_rfl) rfl (by decide) (fun c a a' w hd h => hQp c a a' w hd h) rfl hM.fr fun a hS => ?_
                    refine an_skip hS (i := 29) rfl (by kernel_rfl) (by kernel_rfl) (by kernel_rfl) rfl (by decide) (fun c a a' w hd h => hQp c a a' w hd h) rfl hM.fr fun a hS => ?_
                    refine an_skip hS (i := 30) rfl (by kernel_rfl) (by kernel_rfl) (by kernel_rfl) rfl (by decide) (fun c a a' w hd h => hQp c a a' w hd h) rfl hM.fr fun a hS => ?_
                    refine an_skip hS (i := 31) rfl (by kernel_rfl) (by kernel_rfl) (by kernel_rfl) rfl (by decide) (fun c a a' w hd h => hQp c a a' w hd h) rfl hM.fr fun a hS => ?_
                    refine an_skip hS (i := 32) rfl (by kernel_rfl) (by kernel_rfl) (by kernel_rfl) rfl (by decide) (fun c a a' w hd h => hQp c a a' w hd h) rfl hM.fr fun a hS => ?_
                    refine an_skip hS (i := 33) rfl (by kernel_rfl) (by kernel_rfl) (by kernel_rfl) rfl (by decide) (fun c a a' w hd h => hQp c a a' w hd h) rfl hM.fr fun a hS => ?_
                    refine an_skip hS (i := 34) rfl (by kernel_rfl) (by kernel_rfl) (by kernel_rfl) rfl (by decide) (fun c a a' w hd h => hQp c a a' w hd h) rfl hM.fr fun a hS => ?_
                    refine an_skip hS (i := 35) rfl (by kernel_rfl) (by kernel_rfl) (by kernel_rfl) rfl (by decide) (fun c a a' w hd h => hQp c a a' w hd h) rfl hM.fr fun a hS => ?_
                    refine an_skip hS (i := 36) rfl (by kernel_rfl) (by kernel_rfl) (by kernel_rfl) rfl (by decide) (fun c a a' w hd h => hQp c a a' w hd h) rfl hM.fr fun a hS => ?_
                    refine an_take hS (i := 37) rfl (by kernel_rfl) (by kernel_rfl) (by kernel_rfl) rfl (by decide) (fun c a a' w hd h => hQp c a a' w hd h) rfl (fun w' hC' => (rv_pick_t (hS.ev rfl) (hS.ev rfl))) hM.fr fun a hS => ?_
                    refine an_take hS (i := 38) rfl (by kernel_rfl) (by kernel_rfl) (by kernel_rfl) rfl (by decide) (fun c a a' w hd h => hQp c a a' w hd h) rfl (fun w' hC' => (rv_pick_t (hS.ev rfl) (hS.ev rfl))) hM.fr fun a hS => ?_
                    refine an_done (by kernel_rfl) ?_
                    have hN := hM.pick [] (by decide) rfl
                    have hM := Mem.callo (A := []) (B := [(true, bx b3 27 [(Value.int IntKind.i64 p0_g_Size), p0_g_Rowsv]), (false, rd p0_g_Rowsv (List.map (Value.int IntKind.i64) p0_g_Rows))]) hB rfl (hN.memS fun _ h => h.elim) rfl
                    exact hJ7 true _ _ (hS.sub (sub_cons rfl (sub_cons rfl (sub_cons rfl (sub_cons rfl sub_nil))))) (hM.pick [0, 1] (by decide) rfl) hF
                  · have hS := hS.setb (t := 84) rfl hc
                    refine an_take hS (i := 28) rfl (by kernel_rfl) (by kernel_rfl) (by kernel_rfl) rfl (by decide) (fun c a a' w hd h => hQp c a a' w hd h) rfl (fun w' hC' => (rv_fieldAddr ty_fd_27_1 (hS.ev rfl))) hM.fr fun a hS => ?_
                    refine an_take hS (i := 29) rfl (by kernel_rfl) (by kernel_rfl) (by kernel_rfl) rfl (by decide) (fun c a a' w hd h => hQp c a a' w hd h) rfl (fun w' hC' => (rv_load_bx (hS.ev rfl) ty_ag_22 ((hB.fra hC').get 0 rfl) rfl)) hM.fr fun a hS => ?_
                    refine an_take hS (i := 30) rfl (by kernel_rfl) (by kernel_rfl) (by kernel_rfl) rfl (by decide) (fun c a a' w hd h => hQp c a a' w hd h) rfl (fun w' hC' => (rv_move (hS.ev rfl))) hM.fr fun a hS => ?_
                    obtain ⟨x616, hx, hF⟩ := bind_some hF
                    obtain ⟨hi0, hi1, hex616⟩ := idxL_some hx
                    refine an_take hS (i := 31) rfl (by kernel_rfl) (by kernel_rfl) (by kernel_rfl) rfl (by decide) (fun c a a' w hd h => hQp c a a' w hd h) rfl (fun w' hC' => (rv_indexAddr Try.underlying22 ty_el_3 (hS.ev rfl) (hS.ev rfl) (hM.get 1 rfl) hi0 (map_len hi1))) hM.fr fun a hS => ?_
                    refine an_take hS (i := 32) rfl (by kernel_rfl) (by kernel_rfl) (by kernel_rfl) rfl (by decide) (fun c a a' w hd h => hQp c a a' w hd h) rfl (fun w' hC' => (rv_load_el (hS.ev rfl) ty_ag_3 ((hB.fra hC').get 1 rfl) (mget hex616))) hM.fr fun a hS => ?_
                    refine an_take hS (i := 33) rfl (by kernel_rfl) (by kernel_rfl) (by kernel_rfl) rfl (by decide) (fun c a a' w hd h => hQp c a a' w hd h) rfl (fun w' hC' => (rv_move (hS.ev rfl))) hM.fr fun a hS => ?_
                    obtain ⟨_, hx, hF⟩ := bind_some hF
                    have hi0 := nnO_some hx
                    refine an_take hS (i := 34) rfl (by kernel_rfl) (by kernel_rfl) (by kernel_rfl) rfl (by decide) (fun c a a' w hd h => hQp c a a' w hd h) rfl (fun w' hC' => (rv_shr (hS.ev rfl) (hS.ev rfl) hi0)) hM.fr fun a hS => ?_
                    refine an_take hS (i := 35) rfl (by kernel_rfl) (by kernel_rfl) (by kernel_rfl) rfl (by decide) (fun c a a' w hd h => hQp c a a' w hd h) rfl (fun w' hC' => (rv_and (hS.ev rfl) (hS.ev rfl))) hM.fr fun a hS => ?_
                    refine an_take hS (i := 36) rfl (by kernel_rfl) (by kernel_rfl) (by kernel_rfl) rfl (by decide) (fun c a a' w hd h => hQp c a a' w hd h) rfl (fun w' hC' => (rv_eql (hS.ev rfl) (hS.ev rfl))) hM.fr fun a hS => ?_
                    refine an_take hS (i := 37) rfl (by kernel_rfl) (by kernel_rfl) (by kernel_rfl) rfl (by decide) (fun c a a' w hd h => hQp c a a' w hd h) rfl (fun w' hC' => (rv_pick_f (hS.ev rfl) (hS.ev rfl))) hM.fr fun a hS => ?_
                    refine an_take hS (i := 38) rfl (by kernel_rfl) (by kernel_rfl) (by kernel_rfl) rfl (by decide) (fun c a a' w hd h => hQp c a a' w hd h) rfl (fun w' hC' => (rv_pick_t (hS.ev rfl) (hS.ev rfl))) hM.fr fun a hS => ?_
                    refine an_done (by kernel_rfl) ?_
                    have hN := hM.pick [] (by decide) rfl
                    have hM := Mem.callo (A := []) (B := [(true, bx b3 27 [(Value.int IntKind.i64 p0_g_Size), p0_g_Rowsv]), (false, rd p0_g_Rowsv (List.map (Value.int IntKind.i64) p0_g_Rows))]) hB rfl (hN.memS fun _ h => h.elim) rfl
                    exact hJ7 ((bAnd (shR x616 x319) 1) == 0) _ _ (hS.sub (sub_cons rfl (sub_cons rfl (sub_cons rfl (sub_cons rfl sub_nil))))) (hM.pick [0, 1] (by decide) rfl) hF
              · have hS := hS.setb (t := 66) rfl hc
                refine an_skip hS (i := 10) rfl (by kernel_rfl) (by kernel_rfl) (by kernel_rfl) rfl (by decide) (fun c a a' w hd h => hQp c a a' w hd h) rfl hM.fr fun a hS => ?_
                refine an_skip hS (i := 11) rfl (by kernel_rfl) (by kernel_rfl) (by kernel_rfl) rfl (by decide) (fun c a a' w hd h => hQp c a a' w hd h) rfl hM.fr fun a hS => ?_
                refine an_skip hS (i := 12) rfl (by kernel_rfl) (by kernel_rfl) (by kernel_rfl) rfl (by decide) (fun c a a' w hd h => hQp c a a' w hd h) rfl hM.fr fun a hS => ?_
                refine an_skip hS (i := 13) rfl (by kernel_rfl) (by kernel_rfl) (by kernel_rfl) rfl (by decide) (fun c a a' w hd h => hQp c a a' w hd h) rfl hM.fr fun a hS => ?_
                refine an_skip hS (i := 14) rfl (by kernel_rfl) (by kernel_rfl) (by kernel_rfl) rfl (by decide) (fun c a a' w hd h => hQp c a a' w hd h) rfl hM.fr fun a hS => ?_
                refine an_skip hS (i := 15) rfl (by kernel_rfl) (by kernel_rfl) (by kernel_rfl) rfl (by decide) (fun c a a' w hd h => hQp c a a' w hd h) rfl hM.fr fun a hS => ?_
                refine an_skip hS (i := 16) rfl (by kernel_rfl) (by kernel_rfl) (by kernel_rfl) rfl (by decide) (fun c a a' w hd h => hQp c a a' w hd h) rfl hM.fr fun a hS => ?_
                refine an_skip hS (i := 17) rfl (by kernel_rfl) (by kernel_rfl) (by kernel_rfl) rfl (by decide) (fun c a a' w hd h => hQp c a a' w hd h) rfl hM.fr fun a hS => ?_
                refine an_skip hS (i := 18) rfl (by kernel_rfl) (by kernel_rfl) (by kernel_rfl) rfl (by decide) (fun c a a' w hd h => hQp c a a' w hd h) rfl hM.fr fun a hS => ?_
                refine an_skip hS (i := 19) rfl (by kernel_rfl) (by kernel_rfl) (by kernel_rfl) rfl (by decide) (fun c a a' w hd h => hQp c a a' w hd h) rfl hM.fr fun a hS => ?_
                refine an_skip hS (i := 20) rfl (by kernel_rfl) (by kernel_rfl) (by kernel_rfl) rfl (by decide) (fun c a a' w hd h => hQp c a a' w hd h) rfl hM.fr fun a hS => ?_
                refine an_skip hS (i := 21) rfl (by kernel_rfl) (by kernel_rfl) (by kernel_rfl) rfl (by decide) (fun c a a' w hd h => hQp c a a' w hd h) rfl hM.fr fun a hS => ?_
                refine an_skip hS (i := 22) rfl (by kernel_rfl) (by kernel_rfl) (by kernel_rfl) rfl (by decide) (fun c a a' w hd h => hQp c a a' w hd h) rfl hM.fr fun a hS => ?_
                refine an_skip hS (i := 23) rfl (by kernel_rfl) (by kernel_rfl) (by kernel_rfl) rfl (by decide) (fun c a a' w hd h => hQp c a a' w hd h) rfl hM.fr fun a hS => ?_
                refine an_skip hS (i := 24) rfl (by kernel_rfl) (by kernel_rfl) (by kernel_rfl) rfl (by decide) (fun c a a' w hd h => hQp c a a' w hd h) rfl hM.fr fun a hS => ?_
                refine an_skip hS (i := 25) rfl (by kernel_rfl) (by kernel_rfl) (by kernel_rfl) rfl (by decide) (fun c a a' w hd h => hQp c a a' w hd h) rfl hM.fr fun a hS => ?_
                refine an_skip hS (i := 26) rfl (by kernel_rfl) (by kernel_rfl) (by kernel_rfl) rfl (by decide) (fun c a a' w hd h => hQp c a a' w hd h) rfl hM.fr fun a hS => ?_
                refine an_skip hS (i := 27) rfl (by kernel_rfl) (by kernel_rfl) (by kernel_rfl) rfl (by decide) (fun c a a' w hd h => hQp c a a' w hd h) rfl hM.fr fun a hS => ?_
                refine an_skip hS (i := 28) rfl (by kernel_rfl) (by kernel_rfl) (by kernel_rfl) rfl (by decide) (fun c a a' w hd h => hQp c a a' w hd h) rfl hM.fr fun a hS => ?_
                refine an_skip hS (i := 29) rfl (by kernel_rfl) (by kernel_rfl) (by kernel_rfl) rfl (by decide) (fun c a a' w hd h => hQp c a a' w hd h) rfl hM.fr fun a hS => ?_
                refine an_skip hS (i := 30) rfl (by kernel_rfl) (by kernel_rfl) (by kernel_rfl) rfl (by decide) (fun c a a' w hd h => hQp c a a' w hd h) rfl hM.fr fun a hS => ?_
                refine an_skip hS (i := 31) rfl (by kernel_rfl) (by kernel_rfl) (by kernel_rfl) rfl (by decide) (fun c a a' w hd h => hQp c a a' w hd h) rfl hM.fr fun a hS => ?_
                refine an_skip hS (i := 32) rfl (by kernel_rfl) (by kernel_rfl) (by kernel_rfl) rfl (by decide) (fun c a a' w hd h => hQp c a a' w hd h) rfl hM.fr fun a hS => ?_
                refine an_skip hS (i := 33) rfl (by kernel_rfl) (by kernel_rfl) (by kernel_rfl) rfl (by decide) (fun c a a' w hd h => hQp c a a' w hd h) rfl hM.fr fun a hS => ?_
                refine an_skip hS (i := 34) rfl (by kernel_rfl) (by kernel_rfl) (by kernel_rfl) rfl (by decide) (fun c a a' w hd h => hQp c a a' w hd h) rfl hM.fr fun a hS => ?_
                refine an_skip hS (i := 35) rfl (by kernel_rfl) (by kernel_rfl) (by kernel_rfl) rfl (by decide) (fun c a a' w hd h => hQp c a a' w hd h) rfl hM.fr fun a hS => ?_
                refine an_skip hS (i := 36) rfl (by kernel_rfl) (by kernel_rfl) (by kernel_rfl) rfl (by decide) (fun c a a' w hd h => hQp c a a' w hd h) rfl hM.fr fun a hS => ?_
                refine an_skip hS (i := 37) rfl (by kernel_rfl) (by kernel_rfl) (by kernel_rfl) rfl (by decide) (fun c a a' w hd h => hQp c a a' w hd h) rfl hM.fr fun a hS => ?_
                refine an_take hS (i := 38) rfl (by kernel_rfl) (by kernel_rfl) (by kernel_rfl) rfl (by decide) (fun c a a' w hd h => hQp c a a' w hd h) rfl (fun w' hC' => (rv_pick_f (hS.ev rfl) (hS.ev rfl))) hM.fr fun a hS => ?_
                refine an_done (by kernel_rfl) ?_
                have hN := hM.pick [] (by decide) rfl
                have hM := Mem.callo (A := []) (B := [(true, bx b3 27 [(Value.int IntKind.i64 p0_g_Size), p0_g_Rowsv]), (false, rd p0_g_Rowsv (List.map (Value.int IntKind.i64) p0_g_Rows))]) hB rfl (hN.memS fun _ h => h.elim) rfl
                exact hJ7 false _ _ (hS.sub (sub_cons rfl (sub_cons rfl (sub_cons rfl (sub_cons rfl sub_nil))))) (hM.pick [0, 1] (by decide) rfl) hF
            · refine cond_f hS rfl hc ?_
              refine wp_exit ?_
              cases hF
              exact hJ4 _ _ (hS.sub (sub_cons rfl (sub_cons rfl sub_nil))) (hM.pick [0, 1] (by decide) rfl) (by have e := hX6 _ rfl; subst e; exact hF6)
        refine an_start Nob ty_mixed fun w hf => ?_
        have hM := hM.fra hf
        have hB := hM
        have hM := hB.reg0
        refine an_take hS (i := 0) rfl (by kernel_rfl) (by kernel_rfl) (by kernel_rfl) rfl (by decide) (fun c a a' w hd h => hQp c a a' w hd h) rfl (fun w' hC' => (rv_fieldAddr ty_fd_27_1 (hS.ev rfl))) hM.fr fun a hS => ?_
        refine an_take hS (i := 1) rfl (by kernel_rfl) (by kernel_rfl) (by kernel_rfl) rfl (by decide) (fun c a a' w hd h => hQp c a a' w hd h) rfl (fun w' hC' => (rv_load_bx (hS.ev rfl) ty_ag_22 ((hB.fra hC').get 0 rfl) rfl)) hM.fr fun a hS => ?_
        refine an_take hS (i := 2) rfl (by kernel_rfl) (by kernel_rfl) (by kernel_rfl) rfl (by decide) (fun c a a' w hd h => hQp c a a' w hd h) rfl (fun w' hC' => (rv_move (hS.ev rfl))) hM.fr fun a hS => ?_
        obtain ⟨x617, hx, hF⟩ := bind_some hF
        obtain ⟨hi0, hi1, hex617⟩ := idxL_some hx
        refine an_take hS (i := 3) rfl (by kernel_rfl) (by kernel_rfl) (by kernel_rfl) rfl (by decide) (fun c a a' w hd h => hQp c a a' w hd h) rfl (fun w' hC' => (rv_indexAddr Try.underlying22 ty_el_3 (hS.ev rfl) (hS.ev rfl) (hM.get 1 rfl) hi0 (map_len hi1))) hM.fr fun a hS => ?_
        refine an_take hS (i := 4) rfl (by kernel_rfl) (by kernel_rfl) (by kernel_rfl) rfl (by decide) (fun c a a' w hd h => hQp c a a' w hd h) rfl (fun w' hC' => (rv_load_el (hS.ev rfl) ty_ag_3 ((hB.fra hC').get 1 rfl) (mget hex617))) hM.fr fun a hS => ?_
        refine an_take hS (i := 5) rfl (by kernel_rfl) (by kernel_rfl) (by kernel_rfl) rfl (by decide) (fun c a a' w hd h => hQp c a a' w hd h) rfl (fun w' hC' => (rv_lss (hS.ev rfl) (hS.ev rfl))) hM.fr fun a hS => ?_
        refine an_take hS (i := 6) rfl (by kernel_rfl) (by kernel_rfl) (by kernel_rfl) rfl (by decide) (fun c a a' w hd h => hQp c a a' w hd h) rfl (fun w' hC' => (rv_move (hS.ev rfl))) hM.fr fun a hS => ?_
        rcases ite_some hF with ⟨hc, hF⟩ | ⟨hc, hF⟩
        · have hS := hS.setb (t := 29) rfl hc
          refine an_skip hS (i := 7) rfl (by kernel_rfl) (by kernel_rfl) (by kernel_rfl) rfl (by decide) (fun c a a' w hd h => hQp c a a' w hd h) rfl hM.fr fun a hS => ?_
          refine an_skip hS (i := 8) rfl (by kernel_rfl) (by kernel_rfl) (by kernel_rfl) rfl (by decide) (fun c a a' w hd h => hQp c a a' w hd h) rfl hM.fr fun a hS => ?_
          refine an_skip hS (i := 9) rfl (by kernel_rfl) (by kernel_rfl) (by kernel_rfl) rfl (by decide) (fun c a a' w hd h => hQp c a a' w hd h) rfl hM.fr fun a hS => ?_
          refine an_skip hS (i := 10) rfl (by kernel_rfl) (by kernel_rfl) (by kernel_rfl) rfl (by decide) (fun c a a' w hd h => hQp c a a' w hd h) rfl hM.fr fun a hS => ?_
          refine an_skip hS (i := 11) rfl (by kernel_rfl) (by kernel_rfl) (by kernel_rfl) rfl (by decide) (fun c a a' w hd h => hQp c a a' w hd h) rfl hM.fr fun a hS => ?_
          refine an_skip hS (i := 12) rfl (by kernel_rfl) (by kernel_rfl) (by kernel_rfl) rfl (by decide) (fun c a a' w hd h => hQp c a a' w hd h) rfl hM.fr fun a hS => ?_
          refine an_skip hS (i := 13) rfl (by kernel_rfl) (by kernel_rfl) (by kernel_rfl) rfl (by decide) (fun c a a' w hd h => hQp c a a' w hd h) rfl hM.fr fun a hS => ?_
          refine an_skip hS (i := 14) rfl (by kernel_rfl) (by kernel_rfl) (by kernel_rfl) rfl (by decide) (fun c a a' w hd h => hQp c a a' w hd h) rfl hM.fr fun a hS => ?_
          refine an_skip hS (i := 15) rfl (by kernel_rfl) (by kernel_rfl) (by kernel_rfl) rfl (by decide) (fun c a a' w hd h => hQp c a a' w hd h) rfl hM.fr fun a hS => ?_
          refine an_take hS (i := 16) rfl (by kernel_rfl) (by kernel_rfl) (by kernel_rfl) rfl (by decide) (fun c a a' w hd h => hQp c a a' w hd h) rfl (fun w' hC' => (rv_pick_t (hS.ev rfl) (hS.ev rfl))) hM.fr fun a hS => ?_
          refine an_take hS (i := 17) rfl (by kernel_rfl) (by kernel_rfl) (by kernel_rfl) rfl (by decide) (fun c a a' w hd h => hQp c a a' w hd h) rfl (fun w' hC' => (rv_move (hS.ev rfl))) hM.fr fun a hS => ?_
          refine an_skip hS (i := 18) rfl (by kernel_rfl) (by kernel_rfl) (by kernel_rfl) rfl (by decide) (fun c a a' w hd h => hQp c a a' w hd h) rfl hM.fr fun a hS => ?_
          refine an_skip hS (i := 19) rfl (by kernel_rfl) (by kernel_rfl) (by kernel_rfl) rfl (by decide) (fun c a a' w hd h => hQp c a a' w hd h) rfl hM.fr fun a hS => ?_
          refine an_skip hS (i := 20) rfl (by kernel_rfl) (by kernel_rfl) (by kernel_rfl) rfl (by decide) (fun c a a' w hd h => hQp c a a' w hd h) rfl hM.fr fun a hS => ?_
          refine an_skip hS (i := 21) rfl (by kernel_rfl) (by kernel_rfl) (by kernel_rfl) rfl (by decide) (fun c a a' w hd h => hQp c a a' w hd h) rfl hM.fr fun a hS => ?_
          refine an_skip hS (i := 22) rfl (by kernel_rfl) (by kernel_rfl) (by kernel_rfl) rfl (by decide) (fun c a a' w hd h => hQp c a a' w hd h) rfl hM.fr fun a hS => ?_
          refine an_skip hS (i := 23) rfl (by kernel_rfl) (by kernel_rfl) (by kernel_rfl) rfl (by decide) (fun c a a' w hd h => hQp c a a' w hd h) rfl hM.fr fun a hS => ?_
          refine an_skip hS (i := 24) rfl (by kernel_rfl) (by kernel_rfl) (by kernel_rfl) rfl (by decide) (fun c a a' w hd h => hQp c a a' w hd h) rfl hM.fr fun a hS => ?_
          refine an_skip hS (i := 25) rfl (by kernel_rfl) (by kernel_rfl) (by kernel_rfl) rfl (by decide) (fun c a a' w hd h => hQp c a a' w hd h) rfl hM.fr fun a hS => ?_
          refine an_skip hS (i := 26) rfl (by kernel_rfl) (by kernel_rfl) (by kernel_rfl) rfl (by decide) (fun c a a' w hd h => hQp c a a' w hd h) rfl hM.fr fun a hS => ?_
          refine an_take hS (i := 27) rfl (by kernel_rfl) (by kernel_rfl) (by kernel_rfl) rfl (by decide) (fun c a a' w hd h => hQp c a a' w hd h) rfl (fun w' hC' => (rv_pick_t (hS.ev rfl) (hS.ev rfl))) hM.fr fun a hS => ?_
          refine an_done (by kernel_rfl) ?_
          have hN := hM.pick [] (by decide) rfl
          have hM := Mem.callo (A := []) (B := [(true, bx b3 27 [(Value.int IntKind.i64 p0_g_Size), p0_g_Rowsv]), (false, rd p0_g_Rowsv (List.map (Value.int IntKind.i64) p0_g_Rows))]) hB rfl (hN.memS fun _ h => h.elim) rfl
          exact hJ5 true _ _ (hS.sub (sub_cons rfl (sub_cons rfl (sub_cons rfl sub_nil)))) (hM.pick [0, 1] (by decide) rfl) hF
        · have hS := hS.setb (t := 29) rfl hc
          refine an_take hS (i := 7) rfl (by kernel_rfl) (by kernel_rfl) (by kernel_rfl) rfl (by decide) (fun c a a' w hd h => hQp c a a' w hd h) rfl (fun w' hC' => (rv_fieldAddr ty_fd_27_1 (hS.ev rfl))) hM.fr fun a hS => ?_
          refine an_take hS (i := 8) rfl (by kernel_rfl) (by kernel_rfl) (by kernel_rfl) rfl (by decide) (fun c a a' w hd h => hQp c a a' w hd h) rfl (fun w' hC' => (rv_load_bx (hS.ev rfl) ty_ag_22 ((hB.fra hC').get 0 rfl) rfl)) hM.fr fun a hS => ?_
          refine an_take hS (i := 9) rfl (by kernel_rfl) (by kernel_rfl) (by kernel_rfl) rfl (by decide) (fun c a a' w hd h => hQp c a a' w hd h) rfl (fun w' hC' => (rv_move (hS.ev rfl))) hM.fr fun a hS => ?_
          obtain ⟨x618, hx, hF⟩ := bind_some hF
          obtain ⟨hi0, hi1, hex618⟩ := idxL_some hx
          refine an_take hS (i := 10) rfl (by kernel_rfl) (by kernel_rfl) (by kernel_rfl) rfl (by decide) (fun c a a' w hd h => hQp c a a' w hd h) rfl (fun w' hC' => (rv_indexAddr Try.underlying22 ty_el_3 (hS.ev rfl) (hS.ev rfl) (hM.get 1 rfl) hi0 (map_len hi1))) hM.fr fun a hS => ?_
          refine an_take hS (i := 11) rfl (by kernel_rfl) (by kernel_rfl) (by kernel_rfl) rfl (by decide) (fun c a a' w hd h => hQp c a a' w hd h) rfl (fun w' hC' => (rv_load_el (hS.ev rfl) ty_ag_3 ((hB.fra hC').get 1 rfl) (mget hex618))) hM.fr fun a hS => ?_
          refine an_take hS (i := 12) rfl (by kernel_rfl) (by kernel_rfl) (by kernel_rfl) rfl (by decide) (fun c a a' w hd h => hQp c a a' w hd h) rfl (fun w' hC' => (rv_fieldAddr ty_fd_27_0 (hS.ev rfl))) hM.fr fun a hS => ?_
          refine an_take hS (i := 13) rfl (by kernel_rfl) (by kernel_rfl) (by kernel_rfl) rfl (by decide) (fun c a a' w hd h => hQp c a a' w hd h) rfl (fun w' hC' => (rv_load_bx (hS.ev rfl) ty_ag_3 ((hB.fra hC').get 0 rfl) rfl)) hM.fr fun a hS => ?_
          obtain ⟨_, hx, hF⟩ := bind_some hF
          have hi0 := nnO_some hx
          refine an_take hS (i := 14) rfl (by kernel_rfl) (by kernel_rfl) (by kernel_rfl) rfl (by decide) (fun c a a' w hd h => hQp c a a' w hd h) rfl (fun w' hC' => (rv_shl (hS.ev rfl) (hS.ev rfl) hi0)) hM.fr fun a hS => ?_
          refine an_take hS (i := 15) rfl (by kernel_rfl) (by kernel_rfl) (by kernel_rfl) rfl (by decide) (fun c a a' w hd h => hQp c a a' w hd h) rfl (fun w' hC' => (rv_geq (hS.ev rfl) (hS.ev rfl))) hM.fr fun a hS => ?_
          refine an_take hS (i := 16) rfl (by kernel_rfl) (by kernel_rfl) (by kernel_rfl) rfl (by decide) (fun c a a' w hd h => hQp c a a' w hd h) rfl (fun w' hC' => (rv_pick_f (hS.ev rfl) (hS.ev rfl))) hM.fr fun a hS => ?_
          refine an_take hS (i := 17) rfl (by kernel_rfl) (by kernel_rfl) (by kernel_rfl) rfl (by decide) (fun c a a' w hd h => hQp c a a' w hd h) rfl (fun w' hC' => (rv_move (hS.ev rfl))) hM.fr fun a hS => ?_
          rcases ite_some hF with ⟨hc, hF⟩ | ⟨hc, hF⟩
          · have hS := hS.setb (t := 40) rfl hc
            refine an_skip hS (i := 18) rfl (by kernel_rfl) (by kernel_rfl) (by kernel_rfl) rfl (by decide) (fun c a a' w hd h => hQp c a a' w hd h) rfl hM.fr fun a hS => ?_
            refine an_skip hS (i := 19) rfl (by kernel_rfl) (by kernel_rfl) (by kernel_rfl) rfl (by decide) (fun c a a' w hd h => hQp c a a' w hd h) rfl hM.fr fun a hS => ?_
            refine an_skip hS (i := 20) rfl (by kernel_rfl) (by kernel_rfl) (by kernel_rfl) rfl (by decide) (fun c a a' w hd h => hQp c a a' w hd h) rfl hM.fr fun a hS => ?_
            refine an_skip hS (i := 21) rfl (by kernel_rfl) (by kernel_rfl) (by kernel_rfl) rfl (by decide) (fun c a a' w hd h => hQp c a a' w hd h) rfl hM.fr fun a hS => ?_
            refine an_skip hS (i := 22) rfl (by kernel_rfl) (by kernel_rfl) (by kernel_rfl) rfl (by decide) (fun c a a' w hd h => hQp c a a' w hd h) rfl hM.fr fun a hS => ?_
            refine an_skip hS (i := 23) rfl (by kernel_rfl) (by kernel_rfl) (by kernel_rfl) rfl (by decide) (fun c a a' w hd h => hQp c a a' w hd h) rfl hM.fr fun a hS => ?_
            refine an_skip hS (i := 24) rfl (by kernel_rfl) (by kernel_rfl) (by kernel_rfl) rfl (by decide) (fun c a a' w hd h => hQp c a a' w hd h) rfl hM.fr fun a hS => ?_
            refine an_skip hS (i := 25) rfl (by kernel_rfl) (by kernel_rfl) (by kernel_rfl) rfl (by decide) (fun c a a' w hd h => hQp c a a' w hd h) rfl hM.fr fun a hS => ?_
            refine an_skip hS (i := 26) rfl (by kernel_rfl) (by kernel_rfl) (by kernel_rfl) rfl (by decide) (fun c a a' w hd h => hQp c a a' w hd h) rfl hM.fr fun a hS => ?_
            refine an_take hS (i := 27) rfl (by kernel_rfl) (by kernel_rfl) (by kernel_rfl) rfl (by decide) (fun c a a' w hd h => hQp c a a' w hd h) rfl (fun w' hC' => (rv_pick_t (hS.ev rfl) (hS.ev rfl))) hM.fr fun a hS => ?_
            refine an_done (by kernel_rfl) ?_
            have hN := hM.pick [] (by decide) rfl
            have hM := Mem.callo (A := []) (B := [(true, bx b3 27 [(Value.int IntKind.i64 p0_g_Size), p0_g_Rowsv]), (false, rd p0_g_Rowsv (List.map (Value.int IntKind.i64) p0_g_Rows))]) hB rfl (hN.memS fun _ h => h.elim) rfl
            exact hJ5 true _ _ (hS.sub (sub_cons rfl (sub_cons rfl (sub_cons rfl sub_nil)))) (hM.pick [0, 1] (by decide) rfl) hF
          · have hS := hS.setb (t := 40) rfl hc
            refine an_take hS (i := 18) rfl (by kernel_rfl) (by kernel_rfl) (by kernel_rfl) rfl (by decide) (fun c a a' w hd h => hQp c a a' w hd h) rfl (fun w' hC' => (rv_fieldAddr ty_fd_27_1 (hS.ev rfl))) hM.fr fun a hS => ?_
            refine an_take hS (i := 19) rfl (by kernel_rfl) (by kernel_rfl) (by kernel_rfl) rfl (by decide) (fun c a a' w hd h => hQp c a a' w hd h) rfl (fun w' hC' => (rv_load_bx (hS.ev rfl) ty_ag_22 ((hB.fra hC').get 0 rfl) rfl)) hM.fr fun a hS => ?_
            refine an_take hS (i := 20) rfl (by kernel_rfl) (by kernel_rfl) (by kernel_rfl) rfl (by decide) (fun c a a' w hd h => hQp c a a' w hd h) rfl (fun w' hC' => (rv_move (hS.ev rfl))) hM.fr fun a hS => ?_
            obtain ⟨x619, hx, hF⟩ := bind_some hF
            obtain ⟨hi0, hi1, hex619⟩ := idxL_some hx
            refine an_take hS (i := 21) rfl (by kernel_rfl) (by kernel_rfl) (by kernel_rfl) rfl (by decide) (fun c a a' w hd h => hQp c a a' w hd h) rfl (fun w' hC' => (rv_indexAddr Try.underlying22 ty_el_3 (hS.ev rfl) (hS.ev rfl) (hM.get 1 rfl) hi0 (map_len hi1))) hM.fr fun a hS => ?_
            refine an_take hS (i := 22) rfl (by kernel_rfl) (by kernel_rfl) (by kernel_rfl) rfl (by decide) (fun c a a' w hd h => hQp c a a' w hd h) rfl (fun w' hC' => (rv_load_el (hS.ev rfl) ty_ag_3 ((hB.fra hC').get 1 rfl) (mget hex619))) hM.fr fun a hS => ?_
            refine an_take hS (i := 23) rfl (by kernel_rfl) (by kernel_rfl) (by kernel_rfl) rfl (by decide) (fun c a a' w hd h => hQp c a a' w hd h) rfl (fun w' hC' => (rv_move (hS.ev rfl))) hM.fr fun a hS => ?_
            obtain ⟨_, hx, hF⟩ := bind_some hF
            have hi0 := nnO_some hx
            refine an_take hS (i := 24) rfl (by kernel_rfl) (by kernel_rfl) (by kernel_rfl) rfl (by decide) (fun c a a' w hd h => hQp c a a' w hd h) rfl (fun w' hC' => (rv_shr (hS.ev rfl) (hS.ev rfl) hi0)) hM.fr fun a hS => ?_
            refine an_take hS (i := 25) rfl (by kernel_rfl) (by kernel_rfl) (by kernel_rfl) rfl (by decide) (fun c a a' w hd h => hQp c a a' w hd h) rfl (fun w' hC' => (rv_and (hS.ev rfl) (hS.ev rfl))) hM.fr fun a hS => ?_
            refine an_take hS (i := 26) rfl (by kernel_rfl) (by kernel_rfl) (by kernel_rfl) rfl (by decide) (fun c a a' w hd h => hQp c a a' w hd h) rfl (fun w' hC' => (rv_eql (hS.ev rfl) (hS.ev rfl))) hM.fr fun a hS => ?_
            refine an_take hS (i := 27) rfl (by kernel_rfl) (by kernel_rfl) (by kernel_rfl) rfl (by decide) (fun c a a' w hd h => hQp c a a' w hd h) rfl (fun w' hC' => (rv_pick_f (hS.ev rfl) (hS.ev rfl))) hM.fr fun a hS => ?_
            refine an_done (by kernel_rfl) ?_
            have hN := hM.pick [] (by decide) rfl
            have hM := Mem.callo (A := []) (B := [(true, bx b3 27 [(Value.int IntKind.i64 p0_g_Size), p0_g_Rowsv]), (false, rd p0_g_Rowsv (List.map (Value.int IntKind.i64) p0_g_Rows))]) hB rfl (hN.memS fun _ h => h.elim) rfl
            exact hJ5 ((bAnd (shR x619 x319) 1) == 1) _ _ (hS.sub (sub_cons rfl (sub_cons rfl (sub_cons rfl sub_nil)))) (hM.pick [0, 1] (by decide) rfl) hF
      · refine cond_f hS rfl hc ?_
        refine wp_exit ?_
        cases hF
        exact hJ2 _ _ (hS.sub sub_nil) (hM.pick [] (by decide) rfl) (by have e := hX3 _ rfl; subst e; exact hF3)
  refine wp_region_lit ?_
  refine st_val hS rfl rfl (by decide) (rv_fieldAddr ty_fd_27_0 (hS.ev rfl)) fun a hS => ?_
  refine st_val hS rfl rfl (by decide) (rv_load_bx (hS.ev rfl) ty_ag_3 (hM.get 0 rfl) rfl) fun a hS => ?_
  obtain ⟨r620, hr, hF⟩ := bind_some hF
  refine st_wp hS rfl (wp_call hS rfl rfl (by decide) fn_ok_77 rfl (c_spec_l1In F p0_g_Size 1 7 hr _) fun v w a hK hS => ?_)
  obtain ⟨rfl, hN⟩ := hK
  have hM := hM.fra hN.fr
  refine st_val hS rfl rfl (by decide) (rv_not (hS.ev rfl)) fun a hS => ?_
  refine st_val hS rfl rfl (by decide) (rv_move (hS.ev rfl)) fun a hS => ?_
  rcases ite_some hF with ⟨hc, hF⟩ | ⟨hc, hF⟩
  · have hS := hS.setb (t := 9) rfl hc
    refine st_skip hS rfl rfl (by decide) fun a hS => ?_
    refine st_skip hS rfl rfl (by decide) fun a hS => ?_
    refine st_skip hS rfl rfl (by decide) fun a hS => ?_
    refine st_skip hS rfl rfl (by decide) fun a hS => ?_
    refine st_skip hS rfl rfl (by decide) fun a hS => ?_
    refine st_skip hS rfl rfl (by decide) fun a hS => ?_
    refine st_val hS rfl rfl (by decide) (rv_pick_t (hS.ev rfl) (hS.ev rfl)) fun a hS => ?_
    refine wpList_nil ?_
    exact hJ1 true _ _ (hS.sub (sub_cons rfl (sub_cons rfl sub_nil))) (hM.pick [0, 1] (by decide) rfl) hF
  · have hS := hS.setb (t := 9) rfl hc
    refine st_val hS rfl rfl (by decide) (rv_fieldAddr ty_fd_27_1 (hS.ev rfl)) fun a hS => ?_
    refine st_val hS rfl rfl (by decide) (rv_load_bx (hS.ev rfl) ty_ag_22 (hM.get 0 rfl) rfl) fun a hS => ?_
    refine st_val hS rfl rfl (by decide) (rv_len_rowM Try.underlying22 (hS.ev rfl) (hM.get 1 rfl)) fun a hS => ?_
    refine st_val hS rfl rfl (by decide) (rv_fieldAddr ty_fd_27_0 (hS.ev rfl)) fun a hS => ?_
    refine st_val hS rfl rfl (by decide) (rv_load_bx (hS.ev rfl) ty_ag_3 (hM.get 0 rfl) rfl) fun a hS => ?_
    refine st_val hS rfl rfl (by decide) (rv_neq (hS.ev rfl) (hS.ev rfl)) fun a hS => ?_
    refine st_val hS rfl rfl (by decide) (rv_pick_f (hS.ev rfl) (hS.ev rfl)) fun a hS => ?_
    refine wpList_nil ?_
    exact hJ1 ((p0_g_Rows.length : Int) != p0_g_Size) _ _ (hS.sub (sub_cons rfl (sub_cons rfl sub_nil))) (hM.pick [0, 1] (by decide) rfl) hF


theorem c_spec_IsSet (F : Nat) (p0_g_Size : Int) (p0_g_Rows : List Int) (p1_set : Int) (p0_g_Rowsv : Value) {r : Bool} (hF : S_spec_IsSet F p0_g_Size p0_g_Rows p1_set = some r) (w0 : World) (h0 : RdRow w0 p0_g_Rowsv (List.map (Value.int IntKind.i64) p0_g_Rows)) :
    Calls Try.prog 50 [(Value.agg #[(Value.int IntKind.i64 p0_g_Size), p0_g_Rowsv]), (Value.int IntKind.i64 p1_set)].toArray w0 (retPost fun v w' => v = (Value.bool r) ∧ Mem Nob w0 w' []) := by
  have hM : Mem Nob w0 w0 [(false, rd p0_g_Rowsv (List.map (Value.int IntKind.i64) p0_g_Rows))] := (Mem.rcons (Mem.nil w0) h0 (by simp))
  refine enter2 Try.func50 rfl rfl rfl fun Q a hQr hQn hQp hS => ?_
  have hS : Sl 18 [(0, (Value.agg #[(Value.int IntKind.i64 p0_g_Size), p0_g_Rowsv])), (1, (Value.int IntKind.i64 p1_set))] a := hS
  unfold S_spec_IsSet at hF
  refine wp_seq_k fun K1 hK1 => ?_
  refine wp_region_lit ?_
  obtain ⟨b3, w, hr, hM⟩ := hM.boxE (ρ := a.eval) (dst := some 2) (ty := _) (pos := _) (af := _) (gd := _) (x := .tmp 0) (T := 27) [(Value.int IntKind.i64 p0_g_Size), p0_g_Rowsv] (hS.ev rfl) rfl
  refine st_val hS rfl rfl (by decide) hr fun a hS => ?_
  refine st_val hS rfl rfl (by decide) (rv_assign (hS.ev rfl)) fun a hS => ?_
  refine wpList_nil ?_
  refine hK1 _ _ ?_
  refine wp_seq_k fun K4 hK4 => ?_
  have hJ1 : ∀ (p6 : Bool) (a : Act) (w : World), Sl 18 [(4, (Value.bool p6))] a → Mem Nob w0 w [] → S_spec_IsSet_j1 F p6 = some r → K4 a w := by
    intro p6 a w hS hM hF
    unfold S_spec_IsSet_j1 at hF
    refine hK4 _ _ ?_
    refine wp_ret ?_
    cases hF
    exact hQr _ _ (r_1 hS rfl rfl ⟨rfl, hM.pick [] (by decide) rfl⟩)
  refine wp_region_lit ?_
  refine st_val hS rfl rfl (by decide) (rv_load_agg (hS.ev rfl) ty_ag_27 (hM.get 0 rfl) ty_sz_27) fun a hS => ?_
  obtain ⟨r7, hr, hF⟩ := bind_some hF
  refine st_wp hS rfl (wp_call hS rfl rfl (by decide) fn_ok_53 rfl (c_spec_IsGraph F p0_g_Size p0_g_Rows p0_g_Rowsv hr _ (hM.get 1 rfl)) fun v w a hK hS => ?_)
  obtain ⟨rfl, hN⟩ := hK
  have hM := hM.fra hN.fr
  refine st_val hS rfl rfl (by decide) (rv_move (hS.ev rfl)) fun a hS => ?_
  rcases ite_some hF with ⟨hc, hF⟩ | ⟨hc, hF⟩
  · have hS := hS.setb (t := 7) rfl hc
    refine st_val hS rfl rfl (by decide) (rv_move (hS.ev rfl)) fun a hS => ?_
    refine st_val hS rfl rfl (by decide) (rv_geq (hS.ev rfl) (hS.ev rfl)) fun a hS => ?_
    refine st_val hS rfl rfl (by decide) (rv_pick_t (hS.ev rfl) (hS.ev rfl)) fun a hS => ?_
    refine st_val hS rfl rfl (by decide) (rv_move (hS.ev rfl)) fun a hS => ?_
    rcases ite_some hF with ⟨hc, hF⟩ | ⟨hc, hF⟩
    · have hS := hS.setb (t := 11) rfl hc
      refine st_val hS rfl rfl (by decide) (rv_move (hS.ev rfl)) fun a hS => ?_
      refine st_val hS rfl rfl (by decide) (rv_fieldAddr ty_fd_27_0 (hS.ev rfl)) fun a hS => ?_
      refine st_val hS rfl rfl (by decide) (rv_load_bx (hS.ev rfl) ty_ag_3 (hM.get 0 rfl) rfl) fun a hS => ?_
      obtain ⟨_, hx, hF⟩ := bind_some hF
      have hi0 := nnO_some hx
      refine st_val hS rfl rfl (by decide) (rv_shl (hS.ev rfl) (hS.ev rfl) hi0) fun a hS => ?_
      refine st_val hS rfl rfl (by decide) (rv_lss (hS.ev rfl) (hS.ev rfl)) fun a hS => ?_
      refine st_val hS rfl rfl (by decide) (rv_pick_t (hS.ev rfl) (hS.ev rfl)) fun a hS => ?_
      refine st_val hS rfl rfl (by decide) (rv_assign (hS.ev rfl)) fun a hS => ?_
      refine wpList_nil ?_
      exact hJ1 (decide (p1_set < (shL 1 p0_g_Size))) _ _ (hS.sub (sub_cons rfl sub_nil)) (hM.pick [] (by decide) rfl) hF
    · have hS := hS.setb (t := 11) rfl hc
      refine st_skip hS rfl rfl (by decide) fun a hS => ?_
      refine st_skip hS rfl rfl (by decide) fun a hS => ?_
      refine st_skip hS rfl rfl (by decide) fun a hS => ?_
      refine st_skip hS rfl rfl (by decide) fun a hS => ?_
      refine st_skip hS rfl rfl (by decide) fun a hS => ?_
      refine st_val hS rfl rfl (by decide) (rv_pick_f (hS.ev rfl) (hS.ev rfl)) fun a hS => ?_
      refine st_val hS rfl rfl (by decide) (rv_assign (hS.ev rfl)) fun a hS => ?_
      refine wpList_nil ?_
      exact hJ1 false _ _ (hS.sub (sub_cons rfl sub_nil)) (hM.pick [] (by decide) rfl) hF
  · have hS := hS.setb (t := 7) rfl hc
    refine st_skip hS rfl rfl (by decide) fun a hS => ?_
    refine st_skip hS rfl rfl (by decide) fun a hS => ?_
    refine st_val hS rfl rfl (by decide) (rv_pick_f (hS.ev rfl) (hS.ev rfl)) fun a hS => ?_
    refine st_val hS rfl rfl (by decide) (rv_move (hS.ev rfl)) fun a hS => ?_
    refine st_skip hS rfl rfl (by decide) fun a hS => ?_
    refine st_skip hS rfl rfl (by decide) fun a hS => ?_
    refine st_skip hS rfl rfl (by decide) fun a hS => ?_
    refine st_skip hS rfl rfl (by decide) fun a hS => ?_
    refine st_skip hS rfl rfl (by decide) fun a hS => ?_
    refine st_val hS rfl rfl (by decide) (rv_pick_f (hS.ev rfl) (hS.ev rfl)) fun a hS => ?_
    refine st_val hS rfl rfl (by decide) (rv_assign (hS.ev rfl)) fun a hS => ?_
    refine wpList_nil ?_
    exact hJ1 false _ _ (hS.sub (sub_cons rfl sub_nil)) (hM.pick [] (by decide) rfl) hF


theorem c_spec_AroundSet (F : Nat) (p0_g_Size : Int) (p0_g_Rows : List Int) (p1_set : Int) (p0_g_Rowsv : Value) {r : Int} (hF : S_spec_AroundSet F p0_g_Size p0_g_Rows p1_set = some r) (w0 : World) (h0 : RdRow w0 p0_g_Rowsv (List.map (Value.int IntKind.i64) p0_g_Rows)) :
    Calls Try.prog 16 [(Value.agg #[(Value.int IntKind.i64 p0_g_Size), p0_g_Rowsv]), (Value.int IntKind.i64 p1_set)].toArray w0 (retPost fun v w' => v = (Value.int IntKind.i64 r) ∧ Mem Nob w0 w' []) := by
  have hM : Mem Nob w0 w0 [(false, rd p0_g_Rowsv (List.map (Value.int IntKind.i64) p0_g_Rows))] := (Mem.rcons (Mem.nil w0) h0 (by simp))
  refine enter2 Try.func16 rfl rfl rfl fun Q a hQr hQn hQp hS => ?_
  have hS : Sl 31 [(0, (Value.agg #[(Value.int IntKind.i64 p0_g_Size), p0_g_Rowsv])), (1, (Value.int IntKind.i64 p1_set))] a := hS
  unfold S_spec_AroundSet at hF
  refine wp_seq_k fun K1 hK1 => ?_
  refine wp_region_lit ?_
  obtain ⟨b3, w, hr, hM⟩ := hM.boxE (ρ := a.eval) (dst := some 2) (ty := _) (pos := _) (af := _) (gd := _) (x := .tmp 0) (T := 27) [(Value.int IntKind.i64 p0_g_Size), p0_g_Rowsv] (hS.ev rfl) rfl
  refine st_val hS rfl rfl (by decide) hr fun a hS => ?_
  refine st_val hS rfl rfl (by decide) (rv_assign (hS.ev rfl)) fun a hS => ?_
  refine wpList_nil ?_
  refine hK1 _ _ ?_
  refine wp_seq_k fun K4 hK4 => ?_
  refine wp_seq_k fun K9 hK9 => ?_
  refine wp_region_lit ?_
  refine st_val hS rfl rfl (by decide) (rv_load_agg (hS.ev rfl) ty_ag_27 (hM.get 0 rfl) ty_sz_27) fun a hS => ?_
  refine st_val hS rfl rfl (by decide) (rv_move (hS.ev rfl)) fun a hS => ?_
  obtain ⟨r11, hr, hF⟩ := bind_some hF
  refine st_wp hS rfl (wp_call hS rfl rfl (by decide) fn_ok_50 rfl (c_spec_IsSet F p0_g_Size p0_g_Rows p1_set p0_g_Rowsv hr _ (hM.get 1 rfl)) fun v w a hK hS => ?_)
  obtain ⟨rfl, hN⟩ := hK
  have hM := hM.fra hN.fr
  refine st_val hS rfl rfl (by decide) (rv_not (hS.ev rfl)) fun a hS => ?_
  refine wpList_nil ?_
  refine hK9 _ _ ?_
  rcases ite_some hF with ⟨hc, hF⟩ | ⟨hc, hF⟩
  · refine cond_t hS rfl hc ?_
    refine wp_seq_k fun K12 hK12 => ?_
    refine wp_region_lit ?_
    refine st_val hS rfl rfl (by decide) (rv_assign (hS.ev rfl)) fun a hS => ?_
    refine wpList_nil ?_
    refine hK12 _ _ ?_
    refine wp_ret ?_
    cases hF
    exact hQr _ _ (r_1 hS rfl rfl ⟨rfl, hM.pick [] (by decide) rfl⟩)
  · refine cond_f hS rfl hc ?_
    refine wp_skip ?_
    refine hK4 _ _ ?_
    refine wp_seq_k fun K13 hK13 => ?_
    refine wp_region_lit ?_
    refine st_val hS rfl rfl (by decide) (rv_move (hS.ev rfl)) fun a hS => ?_
    refine st_val hS rfl rfl (by decide) (rv_assign (hS.ev rfl)) fun a hS => ?_
    refine wpList_nil ?_
    refine hK13 _ _ ?_
    refine wp_seq_k fun K14 hK14 => ?_
    have hJ1 : ∀ (x36 : Int) (a : Act) (w : World), Sl 31 [(5, (Value.int IntKind.i64 x36))] a → Mem Nob w0 w [] → S_spec_AroundSet_j1 F x36 = some r → K14 a w := by
      intro x36 a w hS hM hF
      unfold S_spec_AroundSet_j1 at hF
      refine hK14 _ _ ?_
      refine wp_seq_k fun K37 hK37 => ?_
      refine wp_region_lit ?_
      refine st_val hS rfl rfl (by decide) (rv_move (hS.ev rfl)) fun a hS => ?_
      refine st_val hS rfl rfl (by decide) (rv_assign (hS.ev rfl)) fun a hS => ?_
      refine wpList_nil ?_
      refine hK37 _ _ ?_
      refine wp_ret ?_
      cases hF
      exact hQr _ _ (r_1 hS rfl rfl ⟨rfl, hM.pick [] (by decide) rfl⟩)
    refine wp_seq_k fun K38 hK38 => ?_
    refine wp_region_lit ?_
    refine st_val hS rfl rfl (by decide) (rv_assign (hS.ev rfl)) fun a hS => ?_
    refine wpList_nil ?_
    refine hK38 _ _ ?_
    refine wp_block ?_
    obtain ⟨lb2, hl2, hF2⟩ := bind_some hF
    refine wp_loop_sh (fun s => S_spec_AroundSet_l2 F p0_g_Size p0_g_Rows p1_set s.1 s.2) (fun s a w => Sl 31 [(1, (Value.int IntKind.i64 p1_set)), (2, (fdp b3 0)), (5, (Value.int IntKind.i64 s.1)), (6, (Value.int IntKind.i64 s.2))] a ∧ Mem Nob w0 w [(true, bx b3 27 [(Value.int IntKind.i64 p0_g_Size), p0_g_Rowsv]), (false, rd p0_g_Rowsv (List.map (Value.int IntKind.i64) p0_g_Rows))]) hl2 ⟨(hS.sub (sub_cons rfl (sub_cons rfl (sub_cons rfl (sub_cons rfl sub_nil))))), (hM.pick [0, 1] (by decide) rfl)⟩ ?_
    rintro K2 ⟨x39, x40⟩ a w res2 ⟨hS, hM⟩ hF hN2 hX2
    have hF : S_spec_AroundSet_l2 F p0_g_Size p0_g_Rows p1_set x39 x40 = some res2 := hF
    have hS : Sl 31 [(1, (Value.int IntKind.i64 p1_set)), (2, (fdp b3 0)), (5, (Value.int IntKind.i64 x39)), (6, (Value.int IntKind.i64 x40))] a := hS
    have hM : Mem Nob w0 w [(true, bx b3 27 [(Value.int IntKind.i64 p0_g_Size), p0_g_Rowsv]), (false, rd p0_g_Rowsv (List.map (Value.int IntKind.i64) p0_g_Rows))] := hM
    unfold S_spec_AroundSet_l2 at hF
    refine wp_seq_k fun K50 hK50 => ?_
    refine wp_seq_k fun K52 hK52 => ?_
    refine wp_region_lit ?_
    refine st_val hS rfl rfl (by decide) (rv_move (hS.ev rfl)) fun a hS => ?_
    refine st_val hS rfl rfl (by decide) (rv_fieldAddr ty_fd_27_0 (hS.ev rfl)) fun a hS => ?_
    refine st_val hS rfl rfl (by decide) (rv_load_bx (hS.ev rfl) ty_ag_3 (hM.get 0 rfl) rfl) fun a hS => ?_
    refine st_val hS rfl rfl (by decide) (rv_lss (hS.ev rfl) (hS.ev rfl)) fun a hS => ?_
    refine wpList_nil ?_
    refine hK52 _ _ ?_
    rcases ite_some hF with ⟨hc, hF⟩ | ⟨hc, hF⟩
    · refine cond_t hS rfl hc ?_
      refine wp_skip ?_
      refine hK50 _ _ ?_
      refine wp_seq_k fun K53 hK53 => ?_
      have hJ3 : ∀ (x56 : Int) (a : Act) (w : World), Sl 31 [(1, (Value.int IntKind.i64 p1_set)), (2, (fdp b3 0)), (5, (Value.int IntKind.i64 x56)), (6, (Value.int IntKind.i64 x40))] a → Mem Nob w0 w [(true, bx b3 27 [(Value.int IntKind.i64 p0_g_Size), p0_g_Rowsv]), (false, rd p0_g_Rowsv (List.map (Value.int IntKind.i64) p0_g_Rows))] → S_spec_AroundSet_j3 F x40 x56 = some res2 → K53 a w := by
        intro x56 a w hS hM hF
        unfold S_spec_AroundSet_j3 at hF
        refine hK53 _ _ ?_
        refine wp_region_lit ?_
        refine st_val hS rfl rfl (by decide) (rv_move (hS.ev rfl)) fun a hS => ?_
        refine st_val hS rfl rfl (by decide) (rv_add (hS.ev rfl) (hS.ev rfl)) fun a hS => ?_
        refine st_val hS rfl rfl (by decide) (rv_assign (hS.ev rfl)) fun a hS => ?_
        refine wpList_nil ?_
        cases hF
        exact hN2 _ _ _ rfl ⟨(hS.sub (sub_cons rfl (sub_cons rfl (sub_cons rfl (sub_cons rfl sub_nil))))), (hM.pick [0, 1] (by decide) rfl)⟩
      refine wp_block ?_
      refine wp_seq_k fun K57 hK57 => ?_
      refine wp_region_lit ?_
      refine st_val hS rfl rfl (by decide) (rv_move (hS.ev rfl)) fun a hS => ?_
      refine st_val hS rfl rfl (by decide) (rv_move (hS.ev rfl)) fun a hS => ?_
      obtain ⟨_, hx, hF⟩ := bind_some hF
      have hi0 := nnO_some hx
      refine st_val hS rfl rfl (by decide) (rv_shr (hS.ev rfl) (hS.ev rfl) hi0) fun a hS => ?_
      refine st_val hS rfl rfl (by decide) (rv_and (hS.ev rfl) (hS.ev rfl)) fun a hS => ?_
      refine st_val hS rfl rfl (by decide) (rv_eql (hS.ev rfl) (hS.ev rfl)) fun a hS => ?_
      refine wpList_nil ?_
      refine hK57 _ _ ?_
      rcases ite_some hF with ⟨hc, hF⟩ | ⟨hc, hF⟩
      · refine cond_t hS rfl hc ?_
        refine wp_region_lit ?_
        refine st_val hS rfl rfl (by decide) (rv_move (hS.ev rfl)) fun a hS => ?_
        refine st_val hS rfl rfl (by decide) (rv_fieldAddr ty_fd_27_1 (hS.ev rfl)) fun a hS => ?_
        refine st_val hS rfl rfl (by decide) (rv_load_bx (hS.ev rfl) ty_ag_22 (hM.get 0 rfl) rfl) fun a hS => ?_
        refine st_val hS rfl rfl (by decide) (rv_move (hS.ev rfl)) fun a hS => ?_
        obtain ⟨x58, hx, hF⟩ := bind_some hF
        obtain ⟨hi0, hi1, hex58⟩ := idxL_some hx
        refine st_val hS rfl rfl (by decide) (rv_indexAddr Try.underlying22 ty_el_3 (hS.ev rfl) (hS.ev rfl) (hM.get 1 rfl) hi0 (map_len hi1)) fun a hS => ?_
        refine st_val hS rfl rfl (by decide) (rv_load_el (hS.ev rfl) ty_ag_3 (hM.get 1 rfl) (mget hex58)) fun a hS => ?_
        refine st_val hS rfl rfl (by decide) (rv_or (hS.ev rfl) (hS.ev rfl)) fun a hS => ?_
        refine st_val hS rfl rfl (by decide) (rv_assign (hS.ev rfl)) fun a hS => ?_
        refine wpList_nil ?_
        exact hJ3 (bOr x39 x58) _ _ (hS.sub (sub_cons rfl (sub_cons rfl (sub_cons rfl (sub_cons rfl sub_nil))))) (hM.pick [0, 1] (by decide) rfl) hF
      · refine cond_f hS rfl hc ?_
        refine wp_skip ?_
        exact hJ3 x39 _ _ (hS.sub (sub_cons rfl (sub_cons rfl (sub_cons rfl (sub_cons rfl sub_nil))))) (hM.pick [0, 1] (by decide) rfl) hF
    · refine cond_f hS rfl hc ?_
      refine wp_exit ?_
      cases hF
      exact hJ1 x39 _ _ (hS.sub (sub_cons rfl sub_nil)) (hM.pick [] (by decide) rfl) (by have e := hX2 _ rfl; subst e; exact hF2)


theorem c_laws_toIntS (F : Nat) (p0_a : List Int) (p0_av : Value) {r : (List (Int))} (hF : S_laws_toIntS F p0_a = some r) (w0 : World) (h0 : RdRow w0 p0_av (List.map (Value.int IntKind.i64) p0_a)) :
    Calls Try.prog 25 [p0_av].toArray w0 (retPost fun v w' => Mem Nob w0 w' [(true, ow 3 v (List.map (Value.int IntKind.i64) r))]) := by
  have hM : Mem Nob w0 w0 [(false, rd p0_av (List.map (Value.int IntKind.i64) p0_a))] := (Mem.rcons (Mem.nil w0) h0 (by simp))
  refine enter2 Try.func25 rfl rfl rfl fun Q a hQr hQn hQp hS => ?_
  have hS : Sl 22 [(0, p0_av)] a := hS
  unfold S_laws_toIntS at hF
  refine wp_seq_k fun K1 hK1 => ?_
  refine wp_region_lit ?_
  refine st_val hS rfl rfl (by decide) (rv_assign (hS.ev rfl)) fun a hS => ?_
  refine wpList_nil ?_
  refine hK1 _ _ ?_
  refine wp_seq_k fun K2 hK2 => ?_
  refine wp_region_lit ?_
  refine st_val hS rfl rfl (by decide) (rv_move (hS.ev rfl)) fun a hS => ?_
  refine st_val hS rfl rfl (by decide) (rv_len_rowM Try.underlying22 (hS.ev rfl) (hM.get 0 rfl)) fun a hS => ?_
  obtain ⟨_, hx, hF⟩ := bind_some hF
  obtain ⟨v4, w, hr, hM⟩ := hM.makeE (f := (Value.int IntKind.i64)) (c := (0 : Int)) (ρ := a.eval) (dst := some 7) (ty := _) (pos := _) (af := _) (gd := _) (x := .tmp 6) (y := .tmp 6) Try.underlying22 ty_el_3 i64_one (by decide) (hS.ev rfl) (hS.ev rfl) (mkO_some hx)
  refine st_val hS rfl rfl (by decide) hr fun a hS => ?_
  refine st_val hS rfl rfl (by decide) (rv_assign (hS.ev rfl)) fun a hS => ?_
  refine wpList_nil ?_
  refine hK2 _ _ ?_
  refine wp_seq_k fun K5 hK5 => ?_
  have hJ1 : ∀ (l34 : List Int) (a : Act) (w : World), Sl 22 [(3, v4)] a → Mem Nob w0 w [(true, ow 3 v4 (List.map (Value.int IntKind.i64) l34))] → S_laws_toIntS_j1 F l34 = some r → K5 a w := by
    intro l34 a w hS hM hF
    unfold S_laws_toIntS_j1 at hF
    refine hK5 _ _ ?_
    refine wp_seq_k fun K35 hK35 => ?_
    refine wp_region_lit ?_
    refine st_val hS rfl rfl (by decide) (rv_move (hS.ev rfl)) fun a hS => ?_
    refine st_val hS rfl rfl (by decide) (rv_assign (hS.ev rfl)) fun a hS => ?_
    refine wpList_nil ?_
    refine hK35 _ _ ?_
    refine wp_ret ?_
    cases hF
    exact hQr _ _ (r_1 hS rfl rfl (hM.pick [0] (by decide) rfl))
  refine wp_seq_k fun K36 hK36 => ?_
  refine wp_region_lit ?_
  refine st_val hS rfl rfl (by decide) (rv_assign (hS.ev rfl)) fun a hS => ?_
  refine wpList_nil ?_
  refine hK36 _ _ ?_
  refine wp_block ?_
  obtain ⟨lb2, hl2, hF2⟩ := bind_some hF
  refine wp_loop_sh (fun s => S_laws_toIntS_l2 F p0_a s.1 s.2) (fun s a w => Sl 22 [(0, p0_av), (3, v4), (4, (Value.int IntKind.i64 s.2))] a ∧ Mem Nob w0 w [(false, rd p0_av (List.map (Value.int IntKind.i64) p0_a)), (true, ow 3 v4 (List.map (Value.int IntKind.i64) s.1))]) hl2 ⟨(hS.sub (sub_cons rfl (sub_cons rfl (sub_cons rfl sub_nil)))), (hM.pick [1, 0] (by decide) rfl)⟩ ?_
  rintro K2 ⟨l46, x47⟩ a w res2 ⟨hS, hM⟩ hF hN2 hX2
  have hF : S_laws_toIntS_l2 F p0_a l46 x47 = some res2 := hF
  have hS : Sl 22 [(0, p0_av), (3, v4), (4, (Value.int IntKind.i64 x47))] a := hS
  have hM : Mem Nob w0 w [(false, rd p0_av (List.map (Value.int IntKind.i64) p0_a)), (true, ow 3 v4 (List.map (Value.int IntKind.i64) l46))] := hM
  unfold S_laws_toIntS_l2 at hF
  refine wp_seq_k fun K56 hK56 => ?_
  refine wp_seq_k fun K58 hK58 => ?_
  refine wp_region_lit ?_
  refine st_val hS rfl rfl (by decide) (rv_move (hS.ev rfl)) fun a hS => ?_
  refine st_val hS rfl rfl (by decide) (rv_move (hS.ev rfl)) fun a hS => ?_
  refine st_val hS rfl rfl (by decide) (rv_len_rowM Try.underlying22 (hS.ev rfl) (hM.get 0 rfl)) fun a hS => ?_
  refine st_val hS rfl rfl (by decide) (rv_lss (hS.ev rfl) (hS.ev rfl)) fun a hS => ?_
  refine wpList_nil ?_
  refine hK58 _ _ ?_
  rcases ite_some hF with ⟨hc, hF⟩ | ⟨hc, hF⟩
  · refine cond_t hS rfl hc ?_
    refine wp_skip ?_
    refine hK56 _ _ ?_
    refine wp_seq_k fun K59 hK59 => ?_
    refine wp_block ?_
    refine wp_region_lit ?_
    refine st_val hS rfl rfl (by decide) (rv_move (hS.ev rfl)) fun a hS => ?_
    refine st_val hS rfl rfl (by decide) (rv_move (hS.ev rfl)) fun a hS => ?_
    refine st_val hS rfl rfl (by decide) (rv_move (hS.ev rfl)) fun a hS => ?_
    refine st_val hS rfl rfl (by decide) (rv_move (hS.ev rfl)) fun a hS => ?_
    obtain ⟨x62, hx, hF⟩ := bind_some hF
    obtain ⟨hi0, hi1, hex62⟩ := idxL_some hx
    refine st_val hS rfl rfl (by decide) (rv_indexAddr Try.underlying22 ty_el_3 (hS.ev rfl) (hS.ev rfl) (hM.get 0 rfl) hi0 (map_len hi1)) fun a hS => ?_
    refine st_val hS rfl rfl (by decide) (rv_load_el (hS.ev rfl) ty_ag_3 (hM.get 0 rfl) (mget hex62)) fun a hS => ?_
    obtain ⟨x63, hx, hF⟩ := bind_some hF
    obtain ⟨hi0, hi1, hex63⟩ := idxL_some hx
    refine st_val hS rfl rfl (by decide) (rv_indexAddr Try.underlying22 ty_el_3 (hS.ev rfl) (hS.ev rfl) (rd_of_ow (hM.get 1 rfl)) hi0 (map_len hi1)) fun a hS => ?_
    have hM := hM.pick [1, 0] (by decide) rfl
    obtain ⟨w, hr, hM⟩ := hM.st_el (f := (Value.int IntKind.i64)) (n := x47.toNat) (c := x62) (ρ := a.eval) (dst := none) (ty := _) (pos := _) (af := _) (gd := _) (x := .tmp 20) (y := .tmp 19) i64_one (hS.ev rfl) (hS.ev rfl) ty_sz_3 (List.getElem?_eq_some_iff.1 hex63).1
    refine st_unit hS rfl rfl hr ?_
    refine wpList_nil ?_
    refine hK59 _ _ ?_
    refine wp_region_lit ?_
    refine st_val hS rfl rfl (by decide) (rv_move (hS.ev rfl)) fun a hS => ?_
    refine st_val hS rfl rfl (by decide) (rv_add (hS.ev rfl) (hS.ev rfl)) fun a hS => ?_
    refine st_val hS rfl rfl (by decide) (rv_assign (hS.ev rfl)) fun a hS => ?_
    refine wpList_nil ?_
    cases hF
    exact hN2 _ _ _ rfl ⟨(hS.sub (sub_cons rfl (sub_cons rfl (sub_cons rfl sub_nil)))), (hM.pick [1, 0] (by decide) rfl)⟩
  · refine cond_f hS rfl hc ?_
    refine wp_exit ?_
    cases hF
    exact hJ1 l46 _ _ (hS.sub (sub_cons rfl sub_nil)) (hM.pick [1] (by decide) rfl) (by have e := hX2 _ rfl; subst e; exact hF2)


theorem c_laws_toGraph (F : Nat) (p0_a_Size : Int) (p0_a_Rows : List Int) (p0_a_Rowsv : Value) {r : Int × (List (Int))} (hF : S_laws_toGraph F p0_a_Size p0_a_Rows = some r) (w0 : World) (h0 : RdRow w0 p0_a_Rowsv (List.map (Value.int IntKind.i64) p0_a_Rows)) :
    Calls Try.prog 17 [(Value.agg #[(Value.int IntKind.i64 p0_a_Size), p0_a_Rowsv])].toArray w0 (retPost fun v w' => ∃ v16, v = (Value.agg #[(Value.int IntKind.i64 r.1), v16]) ∧ Mem Nob w0 w' [(true, ow 3 v16 (List.map (Value.int IntKind.i64) r.2))]) := by
  have hM : Mem Nob w0 w0 [(false, rd p0_a_Rowsv (List.map (Value.int IntKind.i64) p0_a_Rows))] := (Mem.rcons (Mem.nil w0) h0 (by simp))
  refine enter2 Try.func17 rfl rfl rfl fun Q a hQr hQn hQp hS => ?_
  have hS : Sl 12 [(0, (Value.agg #[(Value.int IntKind.i64 p0_a_Size), p0_a_Rowsv]))] a := hS
  unfold S_laws_toGraph at hF
  refine wp_seq_k fun K1 hK1 => ?_
  refine wp_region_lit ?_
  obtain ⟨b4, w, hr, hM⟩ := hM.boxE (ρ := a.eval) (dst := some 1) (ty := _) (pos := _) (af := _) (gd := _) (x := .tmp 0) (T := 24) [(Value.int IntKind.i64 p0_a_Size), p0_a_Rowsv] (hS.ev rfl) rfl
  refine st_val hS rfl rfl (by decide) hr fun a hS => ?_
  obtain ⟨b5, w, hr, hM⟩ := hM.allocE (ρ := a.eval) (dst := some 2) (ty := _) (pos := _) (af := _) (gd := _) (T := 27) (P := Try.prog) [(Value.int IntKind.i64 0), (Value.slice none 0 0)] ty_zr_27 rfl
  refine st_val hS rfl rfl (by decide) hr fun a hS => ?_
  have hM := hM.addNil 3
  refine wpList_nil ?_
  refine hK1 _ _ ?_
  refine wp_seq_k fun K6 hK6 => ?_
  refine wp_region_lit ?_
  obtain ⟨b8, w, hr, hM⟩ := hM.allocE (ρ := a.eval) (dst := some 3) (ty := _) (pos := _) (af := _) (gd := _) (T := 27) (P := Try.prog) [(Value.int IntKind.i64 0), (Value.slice none 0 0)] ty_zr_27 rfl
  refine st_val hS rfl rfl (by decide) hr fun a hS => ?_
  have hM := hM.addNil 3
  refine wpList_nil ?_
  refine hK6 _ _ ?_
  refine wp_seq_k fun K9 hK9 => ?_
  refine wp_region_lit ?_
  refine st_val hS rfl rfl (by decide) (rv_fieldAddr ty_fd_24_0 (hS.ev rfl)) fun a hS => ?_
  refine st_val hS rfl rfl (by decide) (rv_load_bx (hS.ev rfl) ty_ag_3 (hM.get 4 rfl) rfl) fun a hS => ?_
  refine st_val hS rfl rfl (by decide) (rv_fieldAddr ty_fd_27_0 (hS.ev rfl)) fun a hS => ?_
  have hM := hM.pick [1, 0, 2, 3, 4, 5] (by decide) rfl
  obtain ⟨w, hr, hM⟩ := hM.st_bx1 (n := 0) (cs' := [(Value.int IntKind.i64 p0_a_Size), (Value.slice none 0 0)]) (ρ := a.eval) (dst := none) (ty := _) (pos := _) (af := _) (gd := _) (x := .tmp 6) (y := .tmp 5) (hS.ev rfl) (hS.ev rfl) ty_sz_3 rfl rfl rfl
  refine st_unit hS rfl rfl hr ?_
  refine wpList_nil ?_
  refine hK9 _ _ ?_
  refine wp_seq_k fun K10 hK10 => ?_
  refine wp_region_lit ?_
  refine st_val hS rfl rfl (by decide) (rv_fieldAddr ty_fd_24_1 (hS.ev rfl)) fun a hS => ?_
  refine st_val hS rfl rfl (by decide) (rv_load_bx (hS.ev rfl) ty_ag_22 (hM.get 4 rfl) rfl) fun a hS => ?_
  obtain ⟨r13, hr, hF⟩ := bind_some hF
  refine st_wp hS rfl (wp_call hS rfl rfl (by decide) fn_ok_25 rfl (c_laws_toIntS F p0_a_Rows p0_a_Rowsv hr _ (hM.get 5 rfl)) fun v14 w a hK hS => ?_)
  have hN := hK
  have hM := hM.add hN rfl
  refine st_val hS rfl rfl (by decide) (rv_fieldAddr ty_fd_27_1 (hS.ev rfl)) fun a hS => ?_
  have hM := hM.pick [1, 0, 2, 3, 4, 5, 6] (by decide) rfl
  obtain ⟨w, hr, hM⟩ := hM.st_bx1 (n := 1) (cs' := [(Value.int IntKind.i64 p0_a_Size), v14]) (ρ := a.eval) (dst := none) (ty := _) (pos := _) (af := _) (gd := _) (x := .tmp 10) (y := .tmp 9) (hS.ev rfl) (hS.ev rfl) ty_sz_22 (rd_one (rd_of_ow (hM.get 1 rfl))) rfl rfl
  refine st_unit hS rfl rfl hr ?_
  refine wpList_nil ?_
  refine hK10 _ _ ?_
  refine wp_seq_k fun K15 hK15 => ?_
  refine wp_region_lit ?_
  refine st_val hS rfl rfl (by decide) (rv_load_agg (hS.ev rfl) ty_ag_27 (hM.get 0 rfl) ty_sz_27) fun a hS => ?_
  have hM := hM.pick [4, 0, 1, 2, 3, 5, 6] (by decide) rfl
  obtain ⟨w, hr, hM⟩ := hM.st_agg (us := [(Value.int IntKind.i64 p0_a_Size), v14]) (ρ := a.eval) (dst := none) (ty := _) (pos := _) (af := _) (gd := _) (x := .tmp 2) (y := .tmp 11) (hS.ev rfl) (hS.ev rfl) ty_sz_27 (all1_cons rfl (all1_cons (rd_one (rd_of_ow (hM.get 2 rfl))) all1_nil)) rfl
  refine st_unit hS rfl rfl hr ?_
  refine wpList_nil ?_
  refine hK15 _ _ ?_
  refine wp_ret ?_
  cases hF
  exact hQr _ _ (r_c hS rfl ⟨_, rfl, run_loadAgg ty_ag_27 (hM.get 0 rfl) ty_sz_27⟩ ⟨v14, rfl, hM.pick [2] (by decide) rfl⟩)


theorem c_impl_within (F : Nat) (p0_n : Int) (p1_low : Int) (p2_high : Int) {r : Bool} (hF : S_impl_within F p0_n p1_low p2_high = some r) (w0 : World) :
    Calls Try.prog 66 [(Value.int IntKind.i64 p0_n), (Value.int IntKind.i64 p1_low), (Value.int IntKind.i64 p2_high)].toArray w0 (retPost fun v w' => v = (Value.bool r) ∧ Mem Nob w0 w' []) := by
  have hM : Mem Nob w0 w0 [] := (Mem.nil w0)
  refine enter2 Try.func66 rfl rfl rfl fun Q a hQr hQn hQp hS => ?_
  have hS : Sl 15 [(0, (Value.int IntKind.i64 p0_n)), (1, (Value.int IntKind.i64 p1_low)), (2, (Value.int IntKind.i64 p2_high))] a := hS
  unfold S_impl_within at hF
  refine wp_seq_k fun K1 hK1 => ?_
  refine wp_region_lit ?_
  refine st_val hS rfl rfl (by decide) (rv_assign (hS.ev rfl)) fun a hS => ?_
  refine wpList_nil ?_
  refine hK1 _ _ ?_
  refine wp_seq_k fun K2 hK2 => ?_
  have hJ1 : ∀ (p3 : Bool) (a : Act) (w : World), Sl 15 [(6, (Value.bool p3))] a → Mem Nob w0 w [] → S_impl_within_j1 F p3 = some r → K2 a w := by
    intro p3 a w hS hM hF
    unfold S_impl_within_j1 at hF
    refine hK2 _ _ ?_
    refine wp_ret ?_
    cases hF
    exact hQr _ _ (r_1 hS rfl rfl ⟨rfl, hM.pick [] (by decide) rfl⟩)
  refine wp_region_lit ?_
  refine st_val hS rfl rfl (by decide) (rv_move (hS.ev rfl)) fun a hS => ?_
  refine st_val hS rfl rfl (by decide) (rv_move (hS.ev rfl)) fun a hS => ?_
  refine st_val hS rfl rfl (by decide) (rv_leq (hS.ev rfl) (hS.ev rfl)) fun a hS => ?_
  refine st_val hS rfl rfl (by decide) (rv_move (hS.ev rfl)) fun a hS => ?_
  rcases ite_some hF with ⟨hc, hF⟩ | ⟨hc, hF⟩
  · have hS := hS.setb (t := 10) rfl hc
    refine st_val hS rfl rfl (by decide) (rv_move (hS.ev rfl)) fun a hS => ?_
    refine st_val hS rfl rfl (by decide) (rv_move (hS.ev rfl)) fun a hS => ?_
    refine st_val hS rfl rfl (by decide) (rv_leq (hS.ev rfl) (hS.ev rfl)) fun a hS => ?_
    refine st_val hS rfl rfl (by decide) (rv_pick_t (hS.ev rfl) (hS.ev rfl)) fun a hS => ?_
    refine st_val hS rfl rfl (by decide) (rv_assign (hS.ev rfl)) fun a hS => ?_
    refine wpList_nil ?_
    exact hJ1 (decide (p0_n ≤ p2_high)) _ _ (hS.sub (sub_cons rfl sub_nil)) (hM.pick [] (by decide) rfl) hF
  · have hS := hS.setb (t := 10) rfl hc
    refine st_skip hS rfl rfl (by decide) fun a hS => ?_
    refine st_skip hS rfl rfl (by decide) fun a hS => ?_
    refine st_skip hS rfl rfl (by decide) fun a hS => ?_
    refine st_val hS rfl rfl (by decide) (rv_pick_f (hS.ev rfl) (hS.ev rfl)) fun a hS => ?_
    refine st_val hS rfl rfl (by decide) (rv_assign (hS.ev rfl)) fun a hS => ?_
    refine wpList_nil ?_
    exact hJ1 false _ _ (hS.sub (sub_cons rfl sub_nil)) (hM.pick [] (by decide) rfl) hF


theorem c_impl_has (F : Nat) (p0_set : Int) (p1_v : Int) {r : Bool} (hF : S_impl_has F p0_set p1_v = some r) (w0 : World) :
    Calls Try.prog 74 [(Value.int IntKind.i64 p0_set), (Value.int IntKind.i64 p1_v)].toArray w0 (retPost fun v w' => v = (Value.bool r) ∧ Mem Nob w0 w' []) := by
  have hM : Mem Nob w0 w0 [] := (Mem.nil w0)
  refine enter2 Try.func74 rfl rfl rfl fun Q a hQr hQn hQp hS => ?_
  have hS : Sl 10 [(0, (Value.int IntKind.i64 p0_set)), (1, (Value.int IntKind.i64 p1_v))] a := hS
  unfold S_impl_has at hF
  refine wp_seq_k fun K1 hK1 => ?_
  refine wp_region_lit ?_
  refine st_val hS rfl rfl (by decide) (rv_assign (hS.ev rfl)) fun a hS => ?_
  refine wpList_nil ?_
  refine hK1 _ _ ?_
  refine wp_seq_k fun K2 hK2 => ?_
  refine wp_region_lit ?_
  refine st_val hS rfl rfl (by decide) (rv_move (hS.ev rfl)) fun a hS => ?_
  refine st_val hS rfl rfl (by decide) (rv_move (hS.ev rfl)) fun a hS => ?_
  obtain ⟨_, hx, hF⟩ := bind_some hF
  have hi0 := nnO_some hx
  refine st_val hS rfl rfl (by decide) (rv_shr (hS.ev rfl) (hS.ev rfl) hi0) fun a hS => ?_
  refine st_val hS rfl rfl (by decide) (rv_and (hS.ev rfl) (hS.ev rfl)) fun a hS => ?_
  refine st_val hS rfl rfl (by decide) (rv_eql (hS.ev rfl) (hS.ev rfl)) fun a hS => ?_
  refine st_val hS rfl rfl (by decide) (rv_assign (hS.ev rfl)) fun a hS => ?_
  refine wpList_nil ?_
  refine hK2 _ _ ?_
  refine wp_ret ?_
  cases hF
  exact hQr _ _ (r_1 hS rfl rfl ⟨rfl, hM.pick [] (by decide) rfl⟩)


theorem c_impl_IsGraph (F : Nat) (p0_g_Size : Int) (p0_g_Rows : List Int) (p0_g_Rowsv : Value) {r : Bool} (hF : S_impl_IsGraph F p0_g_Size p0_g_Rows = some r) (w0 : World) (h0 : RdRow w0 p0_g_Rowsv (List.map (Value.int IntKind.i64) p0_g_Rows)) :
    Calls Try.prog 54 [(Value.agg #[(Value.int IntKind.i64 p0_g_Size), p0_g_Rowsv])].toArray w0 (retPost fun v w' => v = (Value.bool r) ∧ Mem Nob w0 w' []) := by
  have hM : Mem Nob w0 w0 [(false, rd p0_g_Rowsv (List.map (Value.int IntKind.i64) p0_g_Rows))] := (Mem.rcons (Mem.nil w0) h0 (by simp))
  refine enter2 Try.func54 rfl rfl rfl fun Q a hQr hQn hQp hS => ?_
  have hS : Sl 66 [(0, (Value.agg #[(Value.int IntKind.i64 p0_g_Size), p0_g_Rowsv]))] a := hS
  unfold S_impl_IsGraph at hF
  refine wp_seq_k fun K1 hK1 => ?_
  refine wp_region_lit ?_
  obtain ⟨b3, w, hr, hM⟩ := hM.boxE (ρ := a.eval) (dst := some 1) (ty := _) (pos := _) (af := _) (gd := _) (x := .tmp 0) (T := 27) [(Value.int IntKind.i64 p0_g_Size), p0_g_Rowsv] (hS.ev rfl) rfl
  refine st_val hS rfl rfl (by decide) hr fun a hS => ?_
  refine st_val hS rfl rfl (by decide) (rv_assign (hS.ev rfl)) fun a hS => ?_
  refine wpList_nil ?_
  refine hK1 _ _ ?_
  refine wp_seq_k fun K4 hK4 => ?_
  refine wp_seq_k fun K10 hK10 => ?_
  have hJ1 : ∀ (p12 : Bool) (a : Act) (w : World), Sl 66 [(1, (fdp b3 0)), (19, (Value.bool p12))] a → Mem Nob w0 w [(true, bx b3 27 [(Value.int IntKind.i64 p0_g_Size), p0_g_Rowsv]), (false, rd p0_g_Rowsv (List.map (Value.int IntKind.i64) p0_g_Rows))] → S_impl_IsGraph_j1 F p0_g_Size p0_g_Rows p12 = some r → K10 a w := by
    intro p12 a w hS hM hF
    unfold S_impl_IsGraph_j1 at hF
    refine hK10 _ _ ?_
    rcases ite_some hF with ⟨hc, hF⟩ | ⟨hc, hF⟩
    · refine cond_t hS rfl hc ?_
      refine wp_seq_k fun K13 hK13 => ?_
      refine wp_region_lit ?_
      refine st_val hS rfl rfl (by decide) (rv_assign (hS.ev rfl)) fun a hS => ?_
      refine wpList_nil ?_
      refine hK13 _ _ ?_
      refine wp_ret ?_
      cases hF
      exact hQr _ _ (r_1 hS rfl rfl ⟨rfl, hM.pick [] (by decide) rfl⟩)
    · refine cond_f hS rfl hc ?_
      refine wp_skip ?_
      refine hK4 _ _ ?_
      refine wp_seq_k fun K14 hK14 => ?_
      have hJ2 : ∀ (a : Act) (w : World), Sl 66 [(1, (fdp b3 0))] a → Mem Nob w0 w [(true, bx b3 27 [(Value.int IntKind.i64 p0_g_Size), p0_g_Rowsv]), (false, rd p0_g_Rowsv (List.map (Value.int IntKind.i64) p0_g_Rows))] → S_impl_IsGraph_j2 F p0_g_Rows = some r → K14 a w := by
        intro a w hS hM hF
        unfold S_impl_IsGraph_j2 at hF
        refine hK14 _ _ ?_
        refine wp_seq_k fun K63 hK63 => ?_
        have hJ3 : ∀ (a : Act) (w : World), Sl 66 [] a → Mem Nob w0 w [] → S_impl_IsGraph_j3 F = some r → K63 a w := by
          intro a w hS hM hF
          unfold S_impl_IsGraph_j3 at hF
          refine hK63 _ _ ?_
          refine wp_seq_k fun K260 hK260 => ?_
          refine wp_region_lit ?_
          refine st_val hS rfl rfl (by decide) (rv_assign (hS.ev rfl)) fun a hS => ?_
          refine wpList_nil ?_
          refine hK260 _ _ ?_
          refine wp_ret ?_
          cases hF
          exact hQr _ _ (r_1 hS rfl rfl ⟨rfl, hM.pick [] (by decide) rfl⟩)
        refine wp_seq_k fun K261 hK261 => ?_
        refine wp_region_lit ?_
        refine st_val hS rfl rfl (by decide) (rv_fieldAddr ty_fd_27_1 (hS.ev rfl)) fun a hS => ?_
        refine st_val hS rfl rfl (by decide) (rv_load_bx (hS.ev rfl) ty_ag_22 (hM.get 0 rfl) rfl) fun a hS => ?_
        refine st_val hS rfl rfl (by decide) (rv_len_rowM Try.underlying22 (hS.ev rfl) (hM.get 1 rfl)) fun a hS => ?_
        refine st_val hS rfl rfl (by decide) (rv_move (hS.ev rfl)) fun a hS => ?_
        refine wpList_nil ?_
        refine hK261 _ _ ?_
        refine wp_block ?_
        obtain ⟨lb4, hl4, hF4⟩ := bind_some hF
        refine wp_loop_sh (fun s => S_impl_IsGraph_l4 F p0_g_Rows s) (fun s a w => Sl 66 [(1, (fdp b3 0)), (42, p0_g_Rowsv), (43, (Value.int IntKind.i64 (p0_g_Rows.length : Int))), (44, (Value.int IntKind.i64 s))] a ∧ Mem Nob w0 w [(true, bx b3 27 [(Value.int IntKind.i64 p0_g_Size), p0_g_Rowsv]), (false, rd p0_g_Rowsv (List.map (Value.int IntKind.i64) p0_g_Rows))]) hl4 ⟨(hS.sub (sub_cons rfl (sub_cons rfl (sub_cons rfl (sub_cons rfl sub_nil))))), (hM.pick [0, 1] (by decide) rfl)⟩ ?_
        rintro K4 x262 a w res4 ⟨hS, hM⟩ hF hN4 hX4
        have hF : S_impl_IsGraph_l4 F p0_g_Rows x262 = some res4 := hF
        have hS : Sl 66 [(1, (fdp b3 0)), (42, p0_g_Rowsv), (43, (Value.int IntKind.i64 (p0_g_Rows.length : Int))), (44, (Value.int IntKind.i64 x262))] a := hS
        have hM : Mem Nob w0 w [(true, bx b3 27 [(Value.int IntKind.i64 p0_g_Size), p0_g_Rowsv]), (false, rd p0_g_Rowsv (List.map (Value.int IntKind.i64) p0_g_Rows))] := hM
        unfold S_impl_IsGraph_l4 at hF
        refine wp_seq_k fun K360 hK360 => ?_
        refine wp_region_lit ?_
        refine st_val hS rfl rfl (by decide) (rv_lss (hS.ev rfl) (hS.ev rfl)) fun a hS => ?_
        refine wpList_nil ?_
        refine hK360 _ _ ?_
        refine wp_seq_k fun K361 hK361 => ?_
        rcases ite_some hF with ⟨hc, hF⟩ | ⟨hc, hF⟩
        · refine cond_t hS rfl hc ?_
          refine wp_skip ?_
          refine hK361 _ _ ?_
          refine wp_seq_k fun K362 hK362 => ?_
          have hJ5 : ∀ (a : Act) (w : World), Sl 66 [(1, (fdp b3 0)), (42, p0_g_Rowsv), (43, (Value.int IntKind.i64 (p0_g_Rows.length : Int))), (44, (Value.int IntKind.i64 x262))] a → Mem Nob w0 w [(true, bx b3 27 [(Value.int IntKind.i64 p0_g_Size), p0_g_Rowsv]), (false, rd p0_g_Rowsv (List.map (Value.int IntKind.i64) p0_g_Rows))] → S_impl_IsGraph_j5 F x262 = some res4 → K362 a w := by
            intro a w hS hM hF
            unfold S_impl_IsGraph_j5 at hF
            refine hK362 _ _ ?_
            refine wp_region_lit ?_
            refine st_val hS rfl rfl (by decide) (rv_add (hS.ev rfl) (hS.ev rfl)) fun a hS => ?_
            refine st_val hS rfl rfl (by decide) (rv_move (hS.ev rfl)) fun a hS => ?_
            refine wpList_nil ?_
            cases hF
            exact hN4 _ _ _ rfl ⟨(hS.sub (sub_cons rfl (sub_cons rfl (sub_cons rfl (sub_cons rfl sub_nil))))), (hM.pick [0, 1] (by decide) rfl)⟩
          refine wp_block ?_
          refine wp_seq_k fun K410 hK410 => ?_
          refine wp_region_lit ?_
          refine st_val hS rfl rfl (by decide) (rv_move (hS.ev rfl)) fun a hS => ?_
          obtain ⟨x412, hx, hF⟩ := bind_some hF
          obtain ⟨hi0, hi1, hex412⟩ := idxL_some hx
          refine st_val hS rfl rfl (by decide) (rv_indexAddr Try.underlying22 ty_el_3 (hS.ev rfl) (hS.ev rfl) (hM.get 1 rfl) hi0 (map_len hi1)) fun a hS => ?_
          refine st_val hS rfl rfl (by decide) (rv_load_el (hS.ev rfl) ty_ag_3 (hM.get 1 rfl) (mget hex412)) fun a hS => ?_
          refine st_val hS rfl rfl (by decide) (rv_assign (hS.ev rfl)) fun a hS => ?_
          refine st_val hS rfl rfl (by decide) (rv_assign (hS.ev rfl)) fun a hS => ?_
          refine wpList_nil ?_
          refine hK410 _ _ ?_
          refine wp_seq_k fun K413 hK413 => ?_
          refine wp_region_lit ?_
          refine st_val hS rfl rfl (by decide) (rv_move (hS.ev rfl)) fun a hS => ?_
          refine st_val hS rfl rfl (by decide) (rv_move (hS.ev rfl)) fun a hS => ?_
          refine wpList_nil ?_
          refine hK413 _ _ ?_
          refine wp_block ?_
          obtain ⟨lb6, hl6, hF6⟩ := bind_some hF
          refine wp_loop_sh (fun s => S_impl_IsGraph_l6 F p0_g_Rows x262 x412 s) (fun s a w => Sl 66 [(1, (fdp b3 0)), (5, (Value.int IntKind.i64 x262)), (6, (Value.int IntKind.i64 x412)), (42, p0_g_Rowsv), (43, (Value.int IntKind.i64 (p0_g_Rows.length : Int))), (44, (Value.int IntKind.i64 x262)), (49, (Value.int IntKind.i64 x262)), (50, (Value.int IntKind.i64 s))] a ∧ Mem Nob w0 w [(true, bx b3 27 [(Value.int IntKind.i64 p0_g_Size), p0_g_Rowsv]), (false, rd p0_g_Rowsv (List.map (Value.int IntKind.i64) p0_g_Rows))]) hl6 ⟨(hS.sub (sub_cons rfl (sub_cons rfl (sub_cons rfl (sub_cons rfl (sub_cons rfl (sub_cons rfl (sub_cons rfl (sub_cons rfl sub_nil))))))))), (hM.pick [0, 1] (by decide) rfl)⟩ ?_
          rintro K6 x414 a w res6 ⟨hS, hM⟩ hF hN6 hX6
          have hF : S_impl_IsGraph_l6 F p0_g_Rows x262 x412 x414 = some res6 := hF
          have hS : Sl 66 [(1, (fdp b3 0)), (5, (Value.int IntKind.i64 x262)), (6, (Value.int IntKind.i64 x412)), (42, p0_g_Rowsv), (43, (Value.int IntKind.i64 (p0_g_Rows.length : Int))), (44, (Value.int IntKind.i64 x262)), (49, (Value.int IntKind.i64 x262)), (50, (Value.int IntKind.i64 x414))] a := hS
          have hM : Mem Nob w0 w [(true, bx b3 27 [(Value.int IntKind.i64 p0_g_Size), p0_g_Rowsv]), (false, rd p0_g_Rowsv (List.map (Value.int IntKind.i64) p0_g_Rows))] := hM
          unfold S_impl_IsGraph_l6 at hF
          refine wp_seq_k fun K436 hK436 => ?_
          refine wp_region_lit ?_
          refine st_val hS rfl rfl (by decide) (rv_lss (hS.ev rfl) (hS.ev rfl)) fun a hS => ?_
          refine wpList_nil ?_
          refine hK436 _ _ ?_
          refine wp_seq_k fun K437 hK437 => ?_
          rcases ite_some hF with ⟨hc, hF⟩ | ⟨hc, hF⟩
          · refine cond_t hS rfl hc ?_
            refine wp_skip ?_
            refine hK437 _ _ ?_
            refine wp_seq_k fun K438 hK438 => ?_
            refine wp_block ?_
            refine wp_seq_k fun K448 hK448 => ?_
            refine wp_region_lit ?_
            refine st_val hS rfl rfl (by decide) (rv_move (hS.ev rfl)) fun a hS => ?_
            refine st_val hS rfl rfl (by decide) (rv_assign (hS.ev rfl)) fun a hS => ?_
            refine wpList_nil ?_
            refine hK448 _ _ ?_
            refine wp_seq_k fun K449 hK449 => ?_
            refine an_start Nob ty_mixed fun w hf => ?_
            have hM := hM.fra hf
            have hB := hM
            have hM := hB.reg0
            refine an_take hS (i := 0) rfl (by kernel_rfl) (by kernel_rfl) (by kernel_rfl) rfl (by decide) (fun c a a' w hd h => hQp c a a' w hd h) rfl (fun w' hC' => (rv_move (hS.ev rfl))) hM.fr fun a hS => ?_
            refine an_take hS (i := 1) rfl (by kernel_rfl) (by kernel_rfl) (by kernel_rfl) rfl (by decide) (fun c a a' w hd h => hQp c a a' w hd h) rfl (fun w' hC' => (rv_move (hS.ev rfl))) hM.fr fun a hS => ?_
            refine an_take hS (i := 3) rfl (by kernel_rfl) (by kernel_rfl) (by kernel_rfl) rfl (by decide) (fun c a a' w hd h => hQp c a a' w hd h) rfl (fun w' hC' => (rv_fieldAddr ty_fd_27_1 (hS.ev rfl))) hM.fr fun a hS => ?_
            refine an_take hS (i := 4) rfl (by kernel_rfl) (by kernel_rfl) (by kernel_rfl) rfl (by decide) (fun c a a' w hd h => hQp c a a' w hd h) rfl (fun w' hC' => (rv_load_bx (hS.ev rfl) ty_ag_22 ((hB.fra hC').get 0 rfl) rfl)) hM.fr fun a hS => ?_
            refine an_take hS (i := 5) rfl (by kernel_rfl) (by kernel_rfl) (by kernel_rfl) rfl (by decide) (fun c a a' w hd h => hQp c a a' w hd h) rfl (fun w' hC' => (rv_move (hS.ev rfl))) hM.fr fun a hS => ?_
            obtain ⟨x453, hx, hF⟩ := bind_some hF
            obtain ⟨hi0, hi1, hex453⟩ := idxL_some hx
            refine an_take hS (i := 6) rfl (by kernel_rfl) (by kernel_rfl) (by kernel_rfl) rfl (by decide) (fun c a a' w hd h => hQp c a a' w hd h) rfl (fun w' hC' => (rv_indexAddr Try.underlying22 ty_el_3 (hS.ev rfl) (hS.ev rfl) (hM.get 1 rfl) hi0 (map_len hi1))) hM.fr fun a hS => ?_
            refine an_take hS (i := 7) rfl (by kernel_rfl) (by kernel_rfl) (by kernel_rfl) rfl (by decide) (fun c a a' w hd h => hQp c a a' w hd h) rfl (fun w' hC' => (rv_load_el (hS.ev rfl) ty_ag_3 ((hB.fra hC').get 1 rfl) (mget hex453))) hM.fr fun a hS => ?_
            refine an_take hS (i := 8) rfl (by kernel_rfl) (by kernel_rfl) (by kernel_rfl) rfl (by decide) (fun c a a' w hd h => hQp c a a' w hd h) rfl (fun w' hC' => (rv_move (hS.ev rfl))) hM.fr fun a hS => ?_
            obtain ⟨r454, hr, hF⟩ := bind_some hF
            refine an_one hS (i := 2) rfl (by kernel_rfl) rfl ?_
            refine wp_call hS rfl rfl (by decide) fn_ok_74 rfl (c_impl_has F x412 x414 hr _) fun v w a hK hS => ?_
            obtain ⟨rfl, hN⟩ := hK
            have hM := hM.fra hN.fr
            refine ⟨hM.fr, ?_⟩
            obtain ⟨r455, hr, hF⟩ := bind_some hF
            refine an_one hS (i := 9) rfl (by kernel_rfl) rfl ?_
            refine wp_call hS rfl rfl (by decide) fn_ok_74 rfl (c_impl_has F x453 x262 hr _) fun v w a hK hS => ?_
            obtain ⟨rfl, hN⟩ := hK
            have hM := hM.fra hN.fr
            refine ⟨hM.fr, ?_⟩
            refine an_take hS (i := 10) rfl (by kernel_rfl) (by kernel_rfl) (by kernel_rfl) rfl (by decide) (fun c a a' w hd h => hQp c a a' w hd h) rfl (fun w' hC' => (rv_bneq Try.underlying4 (hS.ev rfl) (hS.ev rfl))) hM.fr fun a hS => ?_
            refine an_done (by kernel_rfl) ?_
            have hN := hM.pick [] (by decide) rfl
            have hM := Mem.callo (A := []) (B := [(true, bx b3 27 [(Value.int IntKind.i64 p0_g_Size), p0_g_Rowsv]), (false, rd p0_g_Rowsv (List.map (Value.int IntKind.i64) p0_g_Rows))]) hB rfl (hN.memS fun _ h => h.elim) rfl
            refine hK449 _ _ ?_
            rcases ite_some hF with ⟨hc, hF⟩ | ⟨hc, hF⟩
            · refine cond_t hS rfl hc ?_
              refine wp_seq_k fun K456 hK456 => ?_
              refine wp_region_lit ?_
              refine st_val hS rfl rfl (by decide) (rv_assign (hS.ev rfl)) fun a hS => ?_
              refine wpList_nil ?_
              refine hK456 _ _ ?_
              refine wp_ret ?_
              cases hF
              have e := hX6 _ rfl
              subst e
              have hF := hF6
              cases hF
              have e := hX4 _ rfl
              subst e
              have hF := hF4
              cases hF
              exact hQr _ _ (r_1 hS rfl rfl ⟨rfl, hM.pick [] (by decide) rfl⟩)
            · refine cond_f hS rfl hc ?_
              refine wp_skip ?_
              refine hK438 _ _ ?_
              refine wp_region_lit ?_
              refine st_val hS rfl rfl (by decide) (rv_add (hS.ev rfl) (hS.ev rfl)) fun a hS => ?_
              refine st_val hS rfl rfl (by decide) (rv_move (hS.ev rfl)) fun a hS => ?_
              refine wpList_nil ?_
              cases hF
              exact hN6 _ _ _ rfl ⟨(hS.sub (sub_cons rfl (sub_cons rfl (sub_cons rfl (sub_cons rfl (sub_cons rfl (sub_cons rfl (sub_cons rfl (sub_cons rfl sub_nil))))))))), (hM.pick [0, 1] (by decide) rfl)⟩
          · refine cond_f hS rfl hc ?_
            refine wp_exit ?_
            cases hF
            exact hJ5 _ _ (hS.sub (sub_cons rfl (sub_cons rfl (sub_cons rfl (sub_cons rfl sub_nil))))) (hM.pick [0, 1] (by decide) rfl) (by have e := hX6 _ rfl; subst e; exact hF6)
        · refine cond_f hS rfl hc ?_
          refine wp_exit ?_
          cases hF
          exact hJ3 _ _ (hS.sub sub_nil) (hM.pick [] (by decide) rfl) (by have e := hX4 _ rfl; subst e; exact hF4)
      refine wp_seq_k fun K457 hK457 => ?_
      refine wp_region_lit ?_
      refine st_val hS rfl rfl (by decide) (rv_fieldAddr ty_fd_27_1 (hS.ev rfl)) fun a hS => ?_
      refine st_val hS rfl rfl (by decide) (rv_load_bx (hS.ev rfl) ty_ag_22 (hM.get 0 rfl) rfl) fun a hS => ?_
      refine st_val hS rfl rfl (by decide) (rv_len_rowM Try.underlying22 (hS.ev rfl) (hM.get 1 rfl)) fun a hS => ?_
      refine st_val hS rfl rfl (by decide) (rv_move (hS.ev rfl)) fun a hS => ?_
      refine wpList_nil ?_
      refine hK457 _ _ ?_
      refine wp_block ?_
      obtain ⟨lb7, hl7, hF7⟩ := bind_some hF
      refine wp_loop_sh (fun s => S_impl_IsGraph_l7 F p0_g_Size p0_g_Rows s) (fun s a w => Sl 66 [(1, (fdp b3 0)), (21, p0_g_Rowsv), (22, (Value.int IntKind.i64 (p0_g_Rows.length : Int))), (23, (Value.int IntKind.i64 s))] a ∧ Mem Nob w0 w [(true, bx b3 27 [(Value.int IntKind.i64 p0_g_Size), p0_g_Rowsv]), (false, rd p0_g_Rowsv (List.map (Value.int IntKind.i64) p0_g_Rows))]) hl7 ⟨(hS.sub (sub_cons rfl (sub_cons rfl (sub_cons rfl (sub_cons rfl sub_nil))))), (hM.pick [0, 1] (by decide) rfl)⟩ ?_
      rintro K7 x458 a w res7 ⟨hS, hM⟩ hF hN7 hX7
      have hF : S_impl_IsGraph_l7 F p0_g_Size p0_g_Rows x458 = some res7 := hF
      have hS : Sl 66 [(1, (fdp b3 0)), (21, p0_g_Rowsv), (22, (Value.int IntKind.i64 (p0_g_Rows.length : Int))), (23, (Value.int IntKind.i64 x458))] a := hS
      have hM : Mem Nob w0 w [(true, bx b3 27 [(Value.int IntKind.i64 p0_g_Size), p0_g_Rowsv]), (false, rd p0_g_Rowsv (List.map (Value.int IntKind.i64) p0_g_Rows))] := hM
      unfold S_impl_IsGraph_l7 at hF
      refine wp_seq_k fun K482 hK482 => ?_
      refine wp_region_lit ?_
      refine st_val hS rfl rfl (by decide) (rv_lss (hS.ev rfl) (hS.ev rfl)) fun a hS => ?_
      refine wpList_nil ?_
      refine hK482 _ _ ?_
      refine wp_seq_k fun K483 hK483 => ?_
      rcases ite_some hF with ⟨hc, hF⟩ | ⟨hc, hF⟩
      · refine cond_t hS rfl hc ?_
        refine wp_skip ?_
        refine hK483 _ _ ?_
        refine wp_seq_k fun K484 hK484 => ?_
        refine wp_block ?_
        refine wp_seq_k fun K495 hK495 => ?_
        refine wp_region_lit ?_
        refine st_val hS rfl rfl (by decide) (rv_move (hS.ev rfl)) fun a hS => ?_
        obtain ⟨x497, hx, hF⟩ := bind_some hF
        obtain ⟨hi0, hi1, hex497⟩ := idxL_some hx
        refine st_val hS rfl rfl (by decide) (rv_indexAddr Try.underlying22 ty_el_3 (hS.ev rfl) (hS.ev rfl) (hM.get 1 rfl) hi0 (map_len hi1)) fun a hS => ?_
        refine st_val hS rfl rfl (by decide) (rv_load_el (hS.ev rfl) ty_ag_3 (hM.get 1 rfl) (mget hex497)) fun a hS => ?_
        refine st_val hS rfl rfl (by decide) (rv_assign (hS.ev rfl)) fun a hS => ?_
        refine st_val hS rfl rfl (by decide) (rv_assign (hS.ev rfl)) fun a hS => ?_
        refine wpList_nil ?_
        refine hK495 _ _ ?_
        refine wp_seq_k fun K498 hK498 => ?_
        have hJ8 : ∀ (p501 : Bool) (a : Act) (w : World), Sl 66 [(1, (fdp b3 0)), (21, p0_g_Rowsv), (22, (Value.int IntKind.i64 (p0_g_Rows.length : Int))), (23, (Value.int IntKind.i64 x458)), (39, (Value.bool p501))] a → Mem Nob w0 w [(true, bx b3 27 [(Value.int IntKind.i64 p0_g_Size), p0_g_Rowsv]), (false, rd p0_g_Rowsv (List.map (Value.int IntKind.i64) p0_g_Rows))] → S_impl_IsGraph_j8 F x458 p501 = some res7 → K498 a w := by
          intro p501 a w hS hM hF
          unfold S_impl_IsGraph_j8 at hF
          refine hK498 _ _ ?_
          rcases ite_some hF with ⟨hc, hF⟩ | ⟨hc, hF⟩
          · refine cond_t hS rfl hc ?_
            refine wp_seq_k fun K502 hK502 => ?_
            refine wp_region_lit ?_
            refine st_val hS rfl rfl (by decide) (rv_assign (hS.ev rfl)) fun a hS => ?_
            refine wpList_nil ?_
            refine hK502 _ _ ?_
            refine wp_ret ?_
            cases hF
            have e := hX7 _ rfl
            subst e
            have hF := hF7
            cases hF
            exact hQr _ _ (r_1 hS rfl rfl ⟨rfl, hM.pick [] (by decide) rfl⟩)
          · refine cond_f hS rfl hc ?_
            refine wp_skip ?_
            refine hK484 _ _ ?_
            refine wp_region_lit ?_
            refine st_val hS rfl rfl (by decide) (rv_add (hS.ev rfl) (hS.ev rfl)) fun a hS => ?_
            refine st_val hS rfl rfl (by decide) (rv_move (hS.ev rfl)) fun a hS => ?_
            refine wpList_nil ?_
            cases hF
            exact hN7 _ _ _ rfl ⟨(hS.sub (sub_cons rfl (sub_cons rfl (sub_cons rfl (sub_cons rfl sub_nil))))), (hM.pick [0, 1] (by decide) rfl)⟩
        refine wp_region_lit ?_
        refine st_val hS rfl rfl (by decide) (rv_move (hS.ev rfl)) fun a hS => ?_
        refine st_val hS rfl rfl (by decide) (rv_fieldAddr ty_fd_27_0 (hS.ev rfl)) fun a hS => ?_
        refine st_val hS rfl rfl (by decide) (rv_load_bx (hS.ev rfl) ty_ag_3 (hM.get 0 rfl) rfl) fun a hS => ?_
        obtain ⟨_, hx, hF⟩ := bind_some hF
        have hi0 := nnO_some hx
        refine st_val hS rfl rfl (by decide) (rv_shl (hS.ev rfl) (hS.ev rfl) hi0) fun a hS => ?_
        refine st_val hS rfl rfl (by decide) (rv_sub (hS.ev rfl) (hS.ev rfl)) fun a hS => ?_
        obtain ⟨r503, hr, hF⟩ := bind_some hF
        refine st_wp hS rfl (wp_call hS rfl rfl (by decide) fn_ok_66 rfl (c_impl_within F x497 0 (IntKind.i64.wrap ((shL 1 p0_g_Size) - 1)) hr _) fun v w a hK hS => ?_)
        obtain ⟨rfl, hN⟩ := hK
        have hM := hM.fra hN.fr
        refine st_val hS rfl rfl (by decide) (rv_not (hS.ev rfl)) fun a hS => ?_
        refine st_val hS rfl rfl (by decide) (rv_move (hS.ev rfl)) fun a hS => ?_
        rcases ite_some hF with ⟨hc, hF⟩ | ⟨hc, hF⟩
        · have hS := hS.setb (t := 35) rfl hc
          refine st_skip hS rfl rfl (by decide) fun a hS => ?_
          refine st_skip hS rfl rfl (by decide) fun a hS => ?_
          refine st_skip hS rfl rfl (by decide) fun a hS => ?_
          refine st_val hS rfl rfl (by decide) (rv_pick_t (hS.ev rfl) (hS.ev rfl)) fun a hS => ?_
          refine wpList_nil ?_
          exact hJ8 true _ _ (hS.sub (sub_cons rfl (sub_cons rfl (sub_cons rfl (sub_cons rfl (sub_cons rfl sub_nil)))))) (hM.pick [0, 1] (by decide) rfl) hF
        · have hS := hS.setb (t := 35) rfl hc
          refine st_val hS rfl rfl (by decide) (rv_move (hS.ev rfl)) fun a hS => ?_
          refine st_val hS rfl rfl (by decide) (rv_move (hS.ev rfl)) fun a hS => ?_
          obtain ⟨r504, hr, hF⟩ := bind_some hF
          refine st_wp hS rfl (wp_call hS rfl rfl (by decide) fn_ok_74 rfl (c_impl_has F x497 x458 hr _) fun v w a hK hS => ?_)
          obtain ⟨rfl, hN⟩ := hK
          have hM := hM.fra hN.fr
          refine st_val hS rfl rfl (by decide) (rv_pick_f (hS.ev rfl) (hS.ev rfl)) fun a hS => ?_
          refine wpList_nil ?_
          exact hJ8 r504 _ _ (hS.sub (sub_cons rfl (sub_cons rfl (sub_cons rfl (sub_cons rfl (sub_cons rfl sub_nil)))))) (hM.pick [0, 1] (by decide) rfl) hF
      · refine cond_f hS rfl hc ?_
        refine wp_exit ?_
        cases hF
        exact hJ2 _ _ (hS.sub (sub_cons rfl sub_nil)) (hM.pick [0, 1] (by decide) rfl) (by have e := hX7 _ rfl; subst e; exact hF7)
  refine wp_region_lit ?_
  refine st_val hS rfl rfl (by decide) (rv_fieldAddr ty_fd_27_0 (hS.ev rfl)) fun a hS => ?_
  refine st_val hS rfl rfl (by decide) (rv_load_bx (hS.ev rfl) ty_ag_3 (hM.get 0 rfl) rfl) fun a hS => ?_
  obtain ⟨r505, hr, hF⟩ := bind_some hF
  refine st_wp hS rfl (wp_call hS rfl rfl (by decide) fn_ok_66 rfl (c_impl_within F p0_g_Size 1 7 hr _) fun v w a hK hS => ?_)
  obtain ⟨rfl, hN⟩ := hK
  have hM := hM.fra hN.fr
  refine st_val hS rfl rfl (by decide) (rv_not (hS.ev rfl)) fun a hS => ?_
  refine st_val hS rfl rfl (by decide) (rv_move (hS.ev rfl)) fun a hS => ?_
  rcases ite_some hF with ⟨hc, hF⟩ | ⟨hc, hF⟩
  · have hS := hS.setb (t := 12) rfl hc
    refine st_skip hS rfl rfl (by decide) fun a hS => ?_
    refine st_skip hS rfl rfl (by decide) fun a hS => ?_
    refine st_skip hS rfl rfl (by decide) fun a hS => ?_
    refine st_skip hS rfl rfl (by decide) fun a hS => ?_
    refine st_skip hS rfl rfl (by decide) fun a hS => ?_
    refine st_skip hS rfl rfl (by decide) fun a hS => ?_
    refine st_val hS rfl rfl (by decide) (rv_pick_t (hS.ev rfl) (hS.ev rfl)) fun a hS => ?_
    refine wpList_nil ?_
    exact hJ1 true _ _ (hS.sub (sub_cons rfl (sub_cons rfl sub_nil))) (hM.pick [0, 1] (by decide) rfl) hF
  · have hS := hS.setb (t := 12) rfl hc
    refine st_val hS rfl rfl (by decide) (rv_fieldAddr ty_fd_27_1 (hS.ev rfl)) fun a hS => ?_
    refine st_val hS rfl rfl (by decide) (rv_load_bx (hS.ev rfl) ty_ag_22 (hM.get 0 rfl) rfl) fun a hS => ?_
    refine st_val hS rfl rfl (by decide) (rv_len_rowM Try.underlying22 (hS.ev rfl) (hM.get 1 rfl)) fun a hS => ?_
    refine st_val hS rfl rfl (by decide) (rv_fieldAddr ty_fd_27_0 (hS.ev rfl)) fun a hS => ?_
    refine st_val hS rfl rfl (by decide) (rv_load_bx (hS.ev rfl) ty_ag_3 (hM.get 0 rfl) rfl) fun a hS => ?_
    refine st_val hS rfl rfl (by decide) (rv_neq (hS.ev rfl) (hS.ev rfl)) fun a hS => ?_
    refine st_val hS rfl rfl (by decide) (rv_pick_f (hS.ev rfl) (hS.ev rfl)) fun a hS => ?_
    refine wpList_nil ?_
    exact hJ1 ((p0_g_Rows.length : Int) != p0_g_Size) _ _ (hS.sub (sub_cons rfl (sub_cons rfl sub_nil))) (hM.pick [0, 1] (by decide) rfl) hF


theorem c_impl_all (F : Nat) (p0_g_Size : Int) (p0_g_Rows : List Int) (p0_g_Rowsv : Value) {r : Int} (hF : S_impl_all F p0_g_Size p0_g_Rows = some r) (w0 : World) (h0 : RdRow w0 p0_g_Rowsv (List.map (Value.int IntKind.i64) p0_g_Rows)) :
    Calls Try.prog 56 [(Value.agg #[(Value.int IntKind.i64 p0_g_Size), p0_g_Rowsv])].toArray w0 (retPost fun v w' => v = (Value.int IntKind.i64 r) ∧ Mem Nob w0 w' []) := by
  have hM : Mem Nob w0 w0 [(false, rd p0_g_Rowsv (List.map (Value.int IntKind.i64) p0_g_Rows))] := (Mem.rcons (Mem.nil w0) h0 (by simp))
  refine enter2 Try.func56 rfl rfl rfl fun Q a hQr hQn hQp hS => ?_
  have hS : Sl 7 [(0, (Value.agg #[(Value.int IntKind.i64 p0_g_Size), p0_g_Rowsv]))] a := hS
  unfold S_impl_all at hF
  refine wp_seq_k fun K1 hK1 => ?_
  refine wp_region_lit ?_
  obtain ⟨b3, w, hr, hM⟩ := hM.boxE (ρ := a.eval) (dst := some 1) (ty := _) (pos := _) (af := _) (gd := _) (x := .tmp 0) (T := 27) [(Value.int IntKind.i64 p0_g_Size), p0_g_Rowsv] (hS.ev rfl) rfl
  refine st_val hS rfl rfl (by decide) hr fun a hS => ?_
  refine st_val hS rfl rfl (by decide) (rv_assign (hS.ev rfl)) fun a hS => ?_
  refine wpList_nil ?_
  refine hK1 _ _ ?_
  refine wp_seq_k fun K4 hK4 => ?_
  refine wp_region_lit ?_
  refine st_val hS rfl rfl (by decide) (rv_fieldAddr ty_fd_27_0 (hS.ev rfl)) fun a hS => ?_
  refine st_val hS rfl rfl (by decide) (rv_load_bx (hS.ev rfl) ty_ag_3 (hM.get 0 rfl) rfl) fun a hS => ?_
  obtain ⟨_, hx, hF⟩ := bind_some hF
  have hi0 := nnO_some hx
  refine st_val hS rfl rfl (by decide) (rv_shl (hS.ev rfl) (hS.ev rfl) hi0) fun a hS => ?_
  refine st_val hS rfl rfl (by decide) (rv_sub (hS.ev rfl) (hS.ev rfl)) fun a hS => ?_
  refine st_val hS rfl rfl (by decide) (rv_assign (hS.ev rfl)) fun a hS => ?_
  refine wpList_nil ?_
  refine hK4 _ _ ?_
  refine wp_ret ?_
  cases hF
  exact hQr _ _ (r_1 hS rfl rfl ⟨rfl, hM.pick [] (by decide) rfl⟩)


theorem c_impl_IsSet (F : Nat) (p0_g_Size : Int) (p0_g_Rows : List Int) (p1_set : Int) (p0_g_Rowsv : Value) {r : Bool} (hF : S_impl_IsSet F p0_g_Size p0_g_Rows p1_set = some r) (w0 : World) (h0 : RdRow w0 p0_g_Rowsv (List.map (Value.int IntKind.i64) p0_g_Rows)) :
    Calls Try.prog 51 [(Value.agg #[(Value.int IntKind.i64 p0_g_Size), p0_g_Rowsv]), (Value.int IntKind.i64 p1_set)].toArray w0 (retPost fun v w' => v = (Value.bool r) ∧ Mem Nob w0 w' []) := by
  have hM : Mem Nob w0 w0 [(false, rd p0_g_Rowsv (List.map (Value.int IntKind.i64) p0_g_Rows))] := (Mem.rcons (Mem.nil w0) h0 (by simp))
  refine enter2 Try.func51 rfl rfl rfl fun Q a hQr hQn hQp hS => ?_
  have hS : Sl 13 [(0, (Value.agg #[(Value.int IntKind.i64 p0_g_Size), p0_g_Rowsv])), (1, (Value.int IntKind.i64 p1_set))] a := hS
  unfold S_impl_IsSet at hF
  refine wp_seq_k fun K1 hK1 => ?_
  refine wp_region_lit ?_
  obtain ⟨b3, w, hr, hM⟩ := hM.boxE (ρ := a.eval) (dst := some 2) (ty := _) (pos := _) (af := _) (gd := _) (x := .tmp 0) (T := 27) [(Value.int IntKind.i64 p0_g_Size), p0_g_Rowsv] (hS.ev rfl) rfl
  refine st_val hS rfl rfl (by decide) hr fun a hS => ?_
  refine st_val hS rfl rfl (by decide) (rv_assign (hS.ev rfl)) fun a hS => ?_
  refine wpList_nil ?_
  refine hK1 _ _ ?_
  refine wp_seq_k fun K4 hK4 => ?_
  have hJ1 : ∀ (p8 : Bool) (a : Act) (w : World), Sl 13 [(4, (Value.bool p8))] a → Mem Nob w0 w [] → S_impl_IsSet_j1 F p8 = some r → K4 a w := by
    intro p8 a w hS hM hF
    unfold S_impl_IsSet_j1 at hF
    refine hK4 _ _ ?_
    refine wp_ret ?_
    cases hF
    exact hQr _ _ (r_1 hS rfl rfl ⟨rfl, hM.pick [] (by decide) rfl⟩)
  refine wp_region_lit ?_
  refine st_val hS rfl rfl (by decide) (rv_load_agg (hS.ev rfl) ty_ag_27 (hM.get 0 rfl) ty_sz_27) fun a hS => ?_
  obtain ⟨r9, hr, hF⟩ := bind_some hF
  refine st_wp hS rfl (wp_call hS rfl rfl (by decide) fn_ok_54 rfl (c_impl_IsGraph F p0_g_Size p0_g_Rows p0_g_Rowsv hr _ (hM.get 1 rfl)) fun v w a hK hS => ?_)
  obtain ⟨rfl, hN⟩ := hK
  have hM := hM.fra hN.fr
  refine st_val hS rfl rfl (by decide) (rv_move (hS.ev rfl)) fun a hS => ?_
  rcases ite_some hF with ⟨hc, hF⟩ | ⟨hc, hF⟩
  · have hS := hS.setb (t := 7) rfl hc
    refine st_val hS rfl rfl (by decide) (rv_move (hS.ev rfl)) fun a hS => ?_
    refine st_val hS rfl rfl (by decide) (rv_load_agg (hS.ev rfl) ty_ag_27 (hM.get 0 rfl) ty_sz_27) fun a hS => ?_
    obtain ⟨r10, hr, hF⟩ := bind_some hF
    refine st_wp hS rfl (wp_call hS rfl rfl (by decide) fn_ok_56 rfl (c_impl_all F p0_g_Size p0_g_Rows p0_g_Rowsv hr _ (hM.get 1 rfl)) fun v w a hK hS => ?_)
    obtain ⟨rfl, hN⟩ := hK
    have hM := hM.fra hN.fr
    obtain ⟨r11, hr, hF⟩ := bind_some hF
    refine st_wp hS rfl (wp_call hS rfl rfl (by decide) fn_ok_66 rfl (c_impl_within F p1_set 0 r10 hr _) fun v w a hK hS => ?_)
    obtain ⟨rfl, hN⟩ := hK
    have hM := hM.fra hN.fr
    refine st_val hS rfl rfl (by decide) (rv_pick_t (hS.ev rfl) (hS.ev rfl)) fun a hS => ?_
    refine st_val hS rfl rfl (by decide) (rv_assign (hS.ev rfl)) fun a hS => ?_
    refine wpList_nil ?_
    exact hJ1 r11 _ _ (hS.sub (sub_cons rfl sub_nil)) (hM.pick [] (by decide) rfl) hF
  · have hS := hS.setb (t := 7) rfl hc
    refine st_skip hS rfl rfl (by decide) fun a hS => ?_
    refine st_skip hS rfl rfl (by decide) fun a hS => ?_
    refine st_skip hS rfl rfl (by decide) fun a hS => ?_
    refine st_skip hS rfl rfl (by decide) fun a hS => ?_
    refine st_val hS rfl rfl (by decide) (rv_pick_f (hS.ev rfl) (hS.ev rfl)) fun a hS => ?_
    refine st_val hS rfl rfl (by decide) (rv_assign (hS.ev rfl)) fun a hS => ?_
    refine wpList_nil ?_
    exact hJ1 false _ _ (hS.sub (sub_cons rfl sub_nil)) (hM.pick [] (by decide) rfl) hF


theorem c_impl_ListOf (F : Nat) (p0_set : Int) {r : (List (Int))} (hF : S_impl_ListOf F p0_set = some r) (w0 : World) :
    Calls Try.prog 80 [(Value.int IntKind.i64 p0_set)].toArray w0 (retPost fun v w' => Mem Nob w0 w' [(true, ow 3 v (List.map (Value.int IntKind.i64) r))]) := by
  have hM : Mem Nob w0 w0 [] := (Mem.nil w0)
  refine enter2 Try.func80 rfl rfl rfl fun Q a hQr hQn hQp hS => ?_
  have hS : Sl 22 [(0, (Value.int IntKind.i64 p0_set))] a := hS
  unfold S_impl_ListOf at hF
  refine wp_seq_k fun K1 hK1 => ?_
  refine wp_region_lit ?_
  refine st_val hS rfl rfl (by decide) (rv_assign (hS.ev rfl)) fun a hS => ?_
  refine wpList_nil ?_
  refine hK1 _ _ ?_
  refine wp_seq_k fun K2 hK2 => ?_
  refine wp_region_lit ?_
  obtain ⟨v4, w, hr, hM⟩ := Mem.litE (f := (Value.int IntKind.i64)) (dst := some 5) (ty := _) (pos := _) (af := _) (gd := _) (ps := []) ([] : List (Int)) i64_one hM hS Try.underlying22 ty_el_3 rfl rfl rfl rfl
  refine st_val hS rfl rfl (by decide) hr fun a hS => ?_
  refine st_val hS rfl rfl (by decide) (rv_assign (hS.ev rfl)) fun a hS => ?_
  refine wpList_nil ?_
  refine hK2 _ _ ?_
  refine wp_seq_k fun K5 hK5 => ?_
  refine wp_seq_k fun K10 hK10 => ?_
  refine wp_region_lit ?_
  refine st_val hS rfl rfl (by decide) (rv_move (hS.ev rfl)) fun a hS => ?_
  obtain ⟨r12, hr, hF⟩ := bind_some hF
  refine st_wp hS rfl (wp_call hS rfl rfl (by decide) fn_ok_66 rfl (c_impl_within F p0_set 0 127 hr _) fun v w a hK hS => ?_)
  obtain ⟨rfl, hN⟩ := hK
  have hM := hM.fra hN.fr
  refine st_val hS rfl rfl (by decide) (rv_not (hS.ev rfl)) fun a hS => ?_
  refine wpList_nil ?_
  refine hK10 _ _ ?_
  rcases ite_some hF with ⟨hc, hF⟩ | ⟨hc, hF⟩
  · refine cond_t hS rfl hc ?_
    refine wp_seq_k fun K13 hK13 => ?_
    refine wp_region_lit ?_
    refine st_val hS rfl rfl (by decide) (rv_move (hS.ev rfl)) fun a hS => ?_
    refine st_val hS rfl rfl (by decide) (rv_assign (hS.ev rfl)) fun a hS => ?_
    refine wpList_nil ?_
    refine hK13 _ _ ?_
    refine wp_ret ?_
    cases hF
    exact hQr _ _ (r_1 hS rfl rfl (hM.pick [0] (by decide) rfl))
  · refine cond_f hS rfl hc ?_
    refine wp_skip ?_
    refine hK5 _ _ ?_
    refine wp_seq_k fun K14 hK14 => ?_
    have hJ1 : ∀ (l54 : List Int) (v53 : Value) (a : Act) (w : World), Sl 22 [(3, v53)] a → Mem Nob w0 w [(true, ow 3 v53 (List.map (Value.int IntKind.i64) l54))] → S_impl_ListOf_j1 F l54 = some r → K14 a w := by
      intro l54 v53 a w hS hM hF
      unfold S_impl_ListOf_j1 at hF
      refine hK14 _ _ ?_
      refine wp_seq_k fun K55 hK55 => ?_
      refine wp_region_lit ?_
      refine st_val hS rfl rfl (by decide) (rv_move (hS.ev rfl)) fun a hS => ?_
      refine st_val hS rfl rfl (by decide) (rv_assign (hS.ev rfl)) fun a hS => ?_
      refine wpList_nil ?_
      refine hK55 _ _ ?_
      refine wp_ret ?_
      cases hF
      exact hQr _ _ (r_1 hS rfl rfl (hM.pick [0] (by decide) rfl))
    refine wp_seq_k fun K56 hK56 => ?_
    refine wp_region_lit ?_
    refine st_val hS rfl rfl (by decide) (rv_move (hS.ev rfl)) fun a hS => ?_
    refine wpList_nil ?_
    refine hK56 _ _ ?_
    refine wp_block ?_
    obtain ⟨lb2, hl2, hF2⟩ := bind_some hF
    refine wp_loop_sh (fun s => S_impl_ListOf_l2 F p0_set s.1 s.2) (fun s a w => ∃ (v57 : Value), Sl 22 [(0, (Value.int IntKind.i64 p0_set)), (3, v57), (10, (Value.int IntKind.i64 s.2))] a ∧ Mem Nob w0 w [(true, ow 3 v57 (List.map (Value.int IntKind.i64) s.1))]) hl2 ⟨v4, (hS.sub (sub_cons rfl (sub_cons rfl (sub_cons rfl sub_nil)))), (hM.pick [0] (by decide) rfl)⟩ ?_
    rintro K2 ⟨l58, x59⟩ a w res2 ⟨v57, hS, hM⟩ hF hN2 hX2
    have hF : S_impl_ListOf_l2 F p0_set l58 x59 = some res2 := hF
    have hS : Sl 22 [(0, (Value.int IntKind.i64 p0_set)), (3, v57), (10, (Value.int IntKind.i64 x59))] a := hS
    have hM : Mem Nob w0 w [(true, ow 3 v57 (List.map (Value.int IntKind.i64) l58))] := hM
    unfold S_impl_ListOf_l2 at hF
    refine wp_seq_k fun K77 hK77 => ?_
    refine wp_region_lit ?_
    refine st_val hS rfl rfl (by decide) (rv_lss (hS.ev rfl) (hS.ev rfl)) fun a hS => ?_
    refine wpList_nil ?_
    refine hK77 _ _ ?_
    refine wp_seq_k fun K78 hK78 => ?_
    rcases ite_some hF with ⟨hc, hF⟩ | ⟨hc, hF⟩
    · refine cond_t hS rfl hc ?_
      refine wp_skip ?_
      refine hK78 _ _ ?_
      refine wp_seq_k fun K79 hK79 => ?_
      have hJ3 : ∀ (l87 : List Int) (v86 : Value) (a : Act) (w : World), Sl 22 [(0, (Value.int IntKind.i64 p0_set)), (3, v86), (10, (Value.int IntKind.i64 x59))] a → Mem Nob w0 w [(true, ow 3 v86 (List.map (Value.int IntKind.i64) l87))] → S_impl_ListOf_j3 F x59 l87 = some res2 → K79 a w := by
        intro l87 v86 a w hS hM hF
        unfold S_impl_ListOf_j3 at hF
        refine hK79 _ _ ?_
        refine wp_region_lit ?_
        refine st_val hS rfl rfl (by decide) (rv_add (hS.ev rfl) (hS.ev rfl)) fun a hS => ?_
        refine st_val hS rfl rfl (by decide) (rv_move (hS.ev rfl)) fun a hS => ?_
        refine wpList_nil ?_
        cases hF
        exact hN2 _ _ _ rfl ⟨v86, (hS.sub (sub_cons rfl (sub_cons rfl (sub_cons rfl sub_nil)))), (hM.pick [0] (by decide) rfl)⟩
      refine wp_block ?_
      refine wp_seq_k fun K88 hK88 => ?_
      refine wp_region_lit ?_
      refine st_val hS rfl rfl (by decide) (rv_move (hS.ev rfl)) fun a hS => ?_
      refine st_val hS rfl rfl (by decide) (rv_assign (hS.ev rfl)) fun a hS => ?_
      refine wpList_nil ?_
      refine hK88 _ _ ?_
      refine wp_seq_k fun K89 hK89 => ?_
      refine wp_region_lit ?_
      refine st_val hS rfl rfl (by decide) (rv_move (hS.ev rfl)) fun a hS => ?_
      refine st_val hS rfl rfl (by decide) (rv_move (hS.ev rfl)) fun a hS => ?_
      obtain ⟨r91, hr, hF⟩ := bind_some hF
      refine st_wp hS rfl (wp_call hS rfl rfl (by decide) fn_ok_74 rfl (c_impl_has F p0_set x59 hr _) fun v w a hK hS => ?_)
      obtain ⟨rfl, hN⟩ := hK
      have hM := hM.fra hN.fr
      refine wpList_nil ?_
      refine hK89 _ _ ?_
      rcases ite_some hF with ⟨hc, hF⟩ | ⟨hc, hF⟩
      · refine cond_t hS rfl hc ?_
        refine wp_region_lit ?_
        refine st_val hS rfl rfl (by decide) (rv_move (hS.ev rfl)) fun a hS => ?_
        refine st_val hS rfl rfl (by decide) (rv_move (hS.ev rfl)) fun a hS => ?_
        obtain ⟨v92, w, hr, hM⟩ := Mem.litE (f := (Value.int IntKind.i64)) (dst := some 18) (ty := _) (pos := _) (af := _) (gd := _) (ps := [(0, .tmp 17)]) ([x59] : List (Int)) i64_one hM hS Try.underlying22 ty_el_3 rfl rfl rfl rfl
        refine st_val hS rfl rfl (by decide) hr fun a hS => ?_
        obtain ⟨_, hx, hF⟩ := bind_some hF
        have hM := hM.pick [1, 0] (by decide) rfl
        obtain ⟨v93, w, hr, hM⟩ := Mem.appE (f := (Value.int IntKind.i64)) (S := _) (R := [(true, ow 3 v92 (List.map (Value.int IntKind.i64) ([x59] : List (Int))))]) (ρ := a.eval) (dst := some 19) (ty := _) (pos := _) (af := _) (gd := _) (x := .tmp 16) (y := .tmp 18) i64_one hM Try.underlying22 ty_el_3 rfl (by decide) (hS.ev rfl) (hS.ev rfl) (rd_of_ow (hM.get 1 rfl)) (catO_some hx)
        refine st_val hS rfl rfl (by decide) hr fun a hS => ?_
        refine st_val hS rfl rfl (by decide) (rv_assign (hS.ev rfl)) fun a hS => ?_
        refine wpList_nil ?_
        exact hJ3 (l58 ++ ([x59] : List (Int))) v93 _ _ (hS.sub (sub_cons rfl (sub_cons rfl (sub_cons rfl sub_nil)))) (hM.pick [0] (by decide) rfl) hF
      · refine cond_f hS rfl hc ?_
        refine wp_skip ?_
        exact hJ3 l58 v57 _ _ (hS.sub (sub_cons rfl (sub_cons rfl (sub_cons rfl sub_nil)))) (hM.pick [0] (by decide) rfl) hF
    · refine cond_f hS rfl hc ?_
      refine wp_exit ?_
      cases hF
      exact hJ1 l58 v57 _ _ (hS.sub (sub_cons rfl sub_nil)) (hM.pick [0] (by decide) rfl) (by have e := hX2 _ rfl; subst e; exact hF2)


end Go.Proofs.Ytfhjmoikggiblaa
