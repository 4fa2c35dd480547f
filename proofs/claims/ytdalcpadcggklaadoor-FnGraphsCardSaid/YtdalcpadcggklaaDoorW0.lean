/- Proved here: that each Go function does what its shallow function says -/
import Derived.Test.YtdalcpadcggklaaDoorSh
import Derived.Test.YtdalcpadcggklaaDoorTy
import Derived.Test.YtdalcpadcggklaaDoorK13
import Derived.Test.YtdalcpadcggklaaDoorKS
namespace Go.Proofs.YtdalcpadcggklaaDoor
open Go Go.RowKit
set_option linter.unusedVariables false
set_option linter.unusedSimpArgs false
set_option maxRecDepth 100000
set_option maxHeartbeats 40000000

open Go.IntKind (i64)
open Go.Value (int)
theorem c_spec_l1In (F : Nat) (p0_x : Int) (p1_low : Int) (p2_high : Int) {r : Bool} (hF : S_spec_l1In F p0_x p1_low p2_high = some r) (w0 : World) :
    Calls Tryd.prog 75 [(int i64 p0_x), (int i64 p1_low), (int i64 p2_high)].toArray w0 (retPost fun v w' => v = (Value.bool r) ∧ Mem Nob w0 w' []) := by
 have hM : Mem Nob w0 w0 [] := (Mem.nil w0)
 refine enter2 Tryd.func75 rfl rfl rfl fun Q a hQr hQn hQp hS => ?_
 have hS : Sl 15 [(0, (int i64 p0_x)), (1, (int i64 p1_low)), (2, (int i64 p2_high))] a := hS
 unfold S_spec_l1In at hF
 refine wp_seq_k fun K1 hK1 => ?_
 refine wp_region_lit ?_
 refine st_val hS rfl rfl (by decide) (rv_assign (hS.ev rfl)) fun a hS => ?_
 refine wpList_nil ?_
 refine hK1 _ _ ?_
 refine wp_seq_k fun K2 hK2 => ?_
 have hJ1 : ∀ (p3 : Bool) (a : Act) (w : World), Sl 15 [(6, (Value.bool p3))] a → Mem Nob w0 w [] → S_spec_l1In_j1 F p3 = some r → K2 a w := by
  intro p3 a w hS hM hF
  unfold S_spec_l1In_j1 at hF
  refine hK2 _ _ ?_
  refine wp_ret ?_
  cases hF
  exact hQr _ _ (r_1 hS rfl rfl ⟨rfl, hM.pk [] (by decide) pn⟩)
 refine wp_region_lit ?_
 refine st_val hS rfl rfl (by decide) (rv_move (hS.ev rfl)) fun a hS => ?_
 refine st_val hS rfl rfl (by decide) (rv_move (hS.ev rfl)) fun a hS => ?_
 refine st_val hS rfl rfl (by decide) (rv_geq (hS.ev rfl) (hS.ev rfl)) fun a hS => ?_
 refine st_val hS rfl rfl (by decide) (rv_move (hS.ev rfl)) fun a hS => ?_
 rcases ite_some hF with ⟨hc, hF⟩ | ⟨hc, hF⟩
 ·have hS := hS.setb (t := 10) rfl hc
  refine st_val hS rfl rfl (by decide) (rv_move (hS.ev rfl)) fun a hS => ?_
  refine st_val hS rfl rfl (by decide) (rv_move (hS.ev rfl)) fun a hS => ?_
  refine st_val hS rfl rfl (by decide) (rv_leq (hS.ev rfl) (hS.ev rfl)) fun a hS => ?_
  refine st_val hS rfl rfl (by decide) (rv_pick_t (hS.ev rfl) (hS.ev rfl)) fun a hS => ?_
  refine st_val hS rfl rfl (by decide) (rv_assign (hS.ev rfl)) fun a hS => ?_
  refine wpList_nil ?_
  exact hJ1 (decide (p0_x ≤ p2_high)) _ _ (hS.sub (sub_cons rfl sub_nil)) (hM.pk [] (by decide) pn) hF
 ·have hS := hS.setb (t := 10) rfl hc
  refine st_skip hS rfl rfl (by decide) fun a hS => ?_
  refine st_skip hS rfl rfl (by decide) fun a hS => ?_
  refine st_skip hS rfl rfl (by decide) fun a hS => ?_
  refine st_val hS rfl rfl (by decide) (rv_pick_f (hS.ev rfl) (hS.ev rfl)) fun a hS => ?_
  refine st_val hS rfl rfl (by decide) (rv_assign (hS.ev rfl)) fun a hS => ?_
  refine wpList_nil ?_
  exact hJ1 false _ _ (hS.sub (sub_cons rfl sub_nil)) (hM.pk [] (by decide) pn) hF


theorem c_spec_IsGraph (F : Nat) (p0_g_Size : Int) (p0_g_Rows : List Int) (p0_g_Rowsv : Value) {r : Bool} (hF : S_spec_IsGraph F p0_g_Size p0_g_Rows = some r) (w0 : World) (h0 : RdRow w0 p0_g_Rowsv (List.map (int i64) p0_g_Rows)) :
    Calls Tryd.prog 39 [(Value.agg #[(int i64 p0_g_Size), p0_g_Rowsv])].toArray w0 (retPost fun v w' => v = (Value.bool r) ∧ Mem Nob w0 w' []) := by
 have hM : Mem Nob w0 w0 [(false, rd p0_g_Rowsv (List.map (int i64) p0_g_Rows))] := (Mem.rcons (Mem.nil w0) h0 (by simp))
 refine enter2 Tryd.func39 rfl rfl rfl fun Q a hQr hQn hQp hS => ?_
 have hS : Sl 96 [(0, (Value.agg #[(int i64 p0_g_Size), p0_g_Rowsv]))] a := hS
 unfold S_spec_IsGraph at hF
 refine wp_seq_k fun K1 hK1 => ?_
 refine wp_region_lit ?_
 obtain ⟨b3, w, hr, hM⟩ := hM.boxE (ρ := a.eval) (dst := some 1) (ty := _) (pos := _) (af := _) (gd := _) (x := .tmp 0) (T := 26) [(int i64 p0_g_Size), p0_g_Rowsv] (hS.ev rfl) rfl
 refine st_val hS rfl rfl (by decide) hr fun a hS => ?_
 refine st_val hS rfl rfl (by decide) (rv_assign (hS.ev rfl)) fun a hS => ?_
 refine wpList_nil ?_
 refine hK1 _ _ ?_
 refine wp_seq_k fun K4 hK4 => ?_
 refine wp_seq_k fun K10 hK10 => ?_
 have hJ1 : ∀ (p12 : Bool) (a : Act) (w : World), Sl 96 [(1, (fdp b3 0)), (16, (Value.bool p12))] a → Mem Nob w0 w [(true, bx b3 26 [(int i64 p0_g_Size), p0_g_Rowsv]), (false, rd p0_g_Rowsv (List.map (int i64) p0_g_Rows))] → S_spec_IsGraph_j1 F p0_g_Size p0_g_Rows p12 = some r → K10 a w := by
  intro p12 a w hS hM hF
  unfold S_spec_IsGraph_j1 at hF
  refine hK10 _ _ ?_
  rcases ite_some hF with ⟨hc, hF⟩ | ⟨hc, hF⟩
  ·refine cond_t hS rfl hc ?_
   refine wp_seq_k fun K13 hK13 => ?_
   refine wp_region_lit ?_
   refine st_val hS rfl rfl (by decide) (rv_assign (hS.ev rfl)) fun a hS => ?_
   refine wpList_nil ?_
   refine hK13 _ _ ?_
   refine wp_ret ?_
   cases hF
   exact hQr _ _ (r_1 hS rfl rfl ⟨rfl, hM.pk [] (by decide) pn⟩)
  ·refine cond_f hS rfl hc ?_
   refine wp_skip ?_
   refine hK4 _ _ ?_
   refine wp_seq_k fun K14 hK14 => ?_
   have hJ2 : ∀ (a : Act) (w : World), Sl 96 [] a → Mem Nob w0 w [] → S_spec_IsGraph_j2 F = some r → K14 a w := by
    intro a w hS hM hF
    unfold S_spec_IsGraph_j2 at hF
    refine hK14 _ _ ?_
    refine wp_seq_k fun K317 hK317 => ?_
    refine wp_region_lit ?_
    refine st_val hS rfl rfl (by decide) (rv_assign (hS.ev rfl)) fun a hS => ?_
    refine wpList_nil ?_
    refine hK317 _ _ ?_
    refine wp_ret ?_
    cases hF
    exact hQr _ _ (r_1 hS rfl rfl ⟨rfl, hM.pk [] (by decide) pn⟩)
   refine wp_seq_k fun K318 hK318 => ?_
   refine wp_region_lit ?_
   refine st_val hS rfl rfl (by decide) (rv_assign (hS.ev rfl)) fun a hS => ?_
   refine wpList_nil ?_
   refine hK318 _ _ ?_
   refine wp_block ?_
   obtain ⟨lb3, hl3, hF3⟩ := bind_some hF
   refine wp_loop_sh (fun s => S_spec_IsGraph_l3 F p0_g_Size p0_g_Rows s) (fun s a w => Sl 96 [(1, (fdp b3 0)), (3, (int i64 s))] a ∧ Mem Nob w0 w [(true, bx b3 26 [(int i64 p0_g_Size), p0_g_Rowsv]), (false, rd p0_g_Rowsv (List.map (int i64) p0_g_Rows))]) hl3 ⟨(hS.sub (sub_cons rfl (sub_cons rfl sub_nil))), (hM.pk [0, 1] (by decide) (pc rfl (pc rfl pn)))⟩ ?_
   rintro K3 x319 a w res3 ⟨hS, hM⟩ hF hN3 hX3
   have hF : S_spec_IsGraph_l3 F p0_g_Size p0_g_Rows x319 = some res3 := hF
   have hS : Sl 96 [(1, (fdp b3 0)), (3, (int i64 x319))] a := hS
   have hM : Mem Nob w0 w [(true, bx b3 26 [(int i64 p0_g_Size), p0_g_Rowsv]), (false, rd p0_g_Rowsv (List.map (int i64) p0_g_Rows))] := hM
   unfold S_spec_IsGraph_l3 at hF
   refine wp_seq_k fun K470 hK470 => ?_
   refine wp_seq_k fun K472 hK472 => ?_
   refine wp_region_lit ?_
   refine st_val hS rfl rfl (by decide) (rv_move (hS.ev rfl)) fun a hS => ?_
   refine st_val hS rfl rfl (by decide) (rv_fieldAddr ty_fd_26_0 (hS.ev rfl)) fun a hS => ?_
   refine st_val hS rfl rfl (by decide) (rv_load_bx (hS.ev rfl) ty_ag_3 (hM.get 0 rfl) rfl) fun a hS => ?_
   refine st_val hS rfl rfl (by decide) (rv_lss (hS.ev rfl) (hS.ev rfl)) fun a hS => ?_
   refine wpList_nil ?_
   refine hK472 _ _ ?_
   rcases ite_some hF with ⟨hc, hF⟩ | ⟨hc, hF⟩
   ·refine cond_t hS rfl hc ?_
    refine wp_skip ?_
    refine hK470 _ _ ?_
    refine wp_seq_k fun K473 hK473 => ?_
    have hJ4 : ∀ (a : Act) (w : World), Sl 96 [(1, (fdp b3 0)), (3, (int i64 x319))] a → Mem Nob w0 w [(true, bx b3 26 [(int i64 p0_g_Size), p0_g_Rowsv]), (false, rd p0_g_Rowsv (List.map (int i64) p0_g_Rows))] → S_spec_IsGraph_j4 F x319 = some res3 → K473 a w := by
     intro a w hS hM hF
     unfold S_spec_IsGraph_j4 at hF
     refine hK473 _ _ ?_
     refine wp_region_lit ?_
     refine st_val hS rfl rfl (by decide) (rv_move (hS.ev rfl)) fun a hS => ?_
     refine st_val hS rfl rfl (by decide) (rv_add (hS.ev rfl) (hS.ev rfl)) fun a hS => ?_
     refine st_val hS rfl rfl (by decide) (rv_assign (hS.ev rfl)) fun a hS => ?_
     refine wpList_nil ?_
     cases hF
     exact hN3 _ _ _ rfl ⟨(hS.sub (sub_cons rfl (sub_cons rfl sub_nil))), (hM.pk [0, 1] (by decide) (pc rfl (pc rfl pn)))⟩
    refine wp_block ?_
    refine wp_seq_k fun K547 hK547 => ?_
    refine wp_seq_k fun K557 hK557 => ?_
    have hJ5 : ∀ (p561 : Bool) (a : Act) (w : World), Sl 96 [(1, (fdp b3 0)), (3, (int i64 x319)), (50, (Value.bool p561))] a → Mem Nob w0 w [(true, bx b3 26 [(int i64 p0_g_Size), p0_g_Rowsv]), (false, rd p0_g_Rowsv (List.map (int i64) p0_g_Rows))] → S_spec_IsGraph_j5 F p0_g_Size p0_g_Rows x319 p561 = some res3 → K557 a w := by
     intro p561 a w hS hM hF
     unfold S_spec_IsGraph_j5 at hF
     refine hK557 _ _ ?_
     rcases ite_some hF with ⟨hc, hF⟩ | ⟨hc, hF⟩
     ·refine cond_t hS rfl hc ?_
      refine wp_seq_k fun K562 hK562 => ?_
      refine wp_region_lit ?_
      refine st_val hS rfl rfl (by decide) (rv_assign (hS.ev rfl)) fun a hS => ?_
      refine wpList_nil ?_
      refine hK562 _ _ ?_
      refine wp_ret ?_
      cases hF
      have e := hX3 _ rfl
      subst e
      have hF := hF3
      cases hF
      exact hQr _ _ (r_1 hS rfl rfl ⟨rfl, hM.pk [] (by decide) pn⟩)
     ·refine cond_f hS rfl hc ?_
      refine wp_skip ?_
      refine hK547 _ _ ?_
      refine wp_seq_k fun K563 hK563 => ?_
      refine wp_region_lit ?_
      refine st_val hS rfl rfl (by decide) (rv_assign (hS.ev rfl)) fun a hS => ?_
      refine wpList_nil ?_
      refine hK563 _ _ ?_
      refine wp_block ?_
      obtain ⟨lb6, hl6, hF6⟩ := bind_some hF
      refine wp_loop_sh (fun s => S_spec_IsGraph_l6 F p0_g_Size p0_g_Rows x319 s) (fun s a w => Sl 96 [(1, (fdp b3 0)), (3, (int i64 x319)), (4, (int i64 s))] a ∧ Mem Nob w0 w [(true, bx b3 26 [(int i64 p0_g_Size), p0_g_Rowsv]), (false, rd p0_g_Rowsv (List.map (int i64) p0_g_Rows))]) hl6 ⟨(hS.sub (sub_cons rfl (sub_cons rfl (sub_cons rfl sub_nil)))), (hM.pk [0, 1] (by decide) (pc rfl (pc rfl pn)))⟩ ?_
      rintro K6 x564 a w res6 ⟨hS, hM⟩ hF hN6 hX6
      have hF : S_spec_IsGraph_l6 F p0_g_Size p0_g_Rows x319 x564 = some res6 := hF
      have hS : Sl 96 [(1, (fdp b3 0)), (3, (int i64 x319)), (4, (int i64 x564))] a := hS
      have hM : Mem Nob w0 w [(true, bx b3 26 [(int i64 p0_g_Size), p0_g_Rowsv]), (false, rd p0_g_Rowsv (List.map (int i64) p0_g_Rows))] := hM
      unfold S_spec_IsGraph_l6 at hF
      refine wp_seq_k fun K591 hK591 => ?_
      refine wp_seq_k fun K593 hK593 => ?_
      refine wp_region_lit ?_
      refine st_val hS rfl rfl (by decide) (rv_move (hS.ev rfl)) fun a hS => ?_
      refine st_val hS rfl rfl (by decide) (rv_fieldAddr ty_fd_26_0 (hS.ev rfl)) fun a hS => ?_
      refine st_val hS rfl rfl (by decide) (rv_load_bx (hS.ev rfl) ty_ag_3 (hM.get 0 rfl) rfl) fun a hS => ?_
      refine st_val hS rfl rfl (by decide) (rv_lss (hS.ev rfl) (hS.ev rfl)) fun a hS => ?_
      refine wpList_nil ?_
      refine hK593 _ _ ?_
      rcases ite_some hF with ⟨hc, hF⟩ | ⟨hc, hF⟩
      ·refine cond_t hS rfl hc ?_
       refine wp_skip ?_
       refine hK591 _ _ ?_
       refine wp_seq_k fun K594 hK594 => ?_
       refine wp_block ?_
       refine wp_seq_k fun K606 hK606 => ?_
       have hJ7 : ∀ (p611 : Bool) (a : Act) (w : World), Sl 96 [(1, (fdp b3 0)), (3, (int i64 x319)), (4, (int i64 x564)), (95, (Value.bool p611))] a → Mem Nob w0 w [(true, bx b3 26 [(int i64 p0_g_Size), p0_g_Rowsv]), (false, rd p0_g_Rowsv (List.map (int i64) p0_g_Rows))] → S_spec_IsGraph_j7 F x564 p611 = some res6 → K606 a w := by
        intro p611 a w hS hM hF
        unfold S_spec_IsGraph_j7 at hF
        refine hK606 _ _ ?_
        rcases ite_some hF with ⟨hc, hF⟩ | ⟨hc, hF⟩
        ·refine cond_t hS rfl hc ?_
         refine wp_seq_k fun K612 hK612 => ?_
         refine wp_region_lit ?_
         refine st_val hS rfl rfl (by decide) (rv_assign (hS.ev rfl)) fun a hS => ?_
         refine wpList_nil ?_
         refine hK612 _ _ ?_
         refine wp_ret ?_
         cases hF
         have e := hX6 _ rfl
         subst e
         have hF := hF6
         cases hF
         have e := hX3 _ rfl
         subst e
         have hF := hF3
         cases hF
         exact hQr _ _ (r_1 hS rfl rfl ⟨rfl, hM.pk [] (by decide) pn⟩)
        ·refine cond_f hS rfl hc ?_
         refine wp_skip ?_
         refine hK594 _ _ ?_
         refine wp_region_lit ?_
         refine st_val hS rfl rfl (by decide) (rv_move (hS.ev rfl)) fun a hS => ?_
         refine st_val hS rfl rfl (by decide) (rv_add (hS.ev rfl) (hS.ev rfl)) fun a hS => ?_
         refine st_val hS rfl rfl (by decide) (rv_assign (hS.ev rfl)) fun a hS => ?_
         refine wpList_nil ?_
         cases hF
         exact hN6 _ _ _ rfl ⟨(hS.sub (sub_cons rfl (sub_cons rfl (sub_cons rfl sub_nil)))), (hM.pk [0, 1] (by decide) (pc rfl (pc rfl pn)))⟩
       refine an_startB 39 Nob ty_mixed (by kernel_rfl) fun w hf => ?_
       have hM := hM.fra hf
       have hB := hM
       have hM := hB.reg0
       try dsimp only [ro] at hM
       refine tkB hS 0 1 (by as_aux_lemma => kernel_rfl) rfl rfl rfl hQp rfl (fun w' hC' => (rv_fieldAddr ty_fd_26_1 (hS.ev rfl))) hM.fr fun a hS => ?_
       refine tkB hS 1 3 (by as_aux_lemma => kernel_rfl) rfl rfl rfl hQp rfl (fun w' hC' => (rv_load_bx (hS.ev rfl) ty_ag_24 ((hB.fra hC').get 0 rfl) rfl)) hM.fr fun a hS => ?_
       refine tkB hS 2 7 (by as_aux_lemma => kernel_rfl) rfl rfl rfl hQp rfl (fun w' hC' => (rv_move (hS.ev rfl))) hM.fr fun a hS => ?_
       obtain ⟨x613, hx, hF⟩ := bind_some hF
       obtain ⟨hi0, hi1, hex613⟩ := idxL_some hx
       refine tkB hS 3 15 (by as_aux_lemma => kernel_rfl) rfl rfl rfl hQp rfl (fun w' hC' => (rv_indexAddr Tryd.underlying24 ty_el_3 (hS.ev rfl) (hS.ev rfl) (hM.get 1 rfl) hi0 (map_len hi1))) hM.fr fun a hS => ?_
       refine tkB hS 4 31 (by as_aux_lemma => kernel_rfl) rfl rfl rfl hQp rfl (fun w' hC' => (rv_load_el (hS.ev rfl) ty_ag_3 ((hB.fra hC').get 1 rfl) (mget hex613))) hM.fr fun a hS => ?_
       refine tkB hS 5 63 (by as_aux_lemma => kernel_rfl) rfl rfl rfl hQp rfl (fun w' hC' => (rv_move (hS.ev rfl))) hM.fr fun a hS => ?_
       obtain ⟨_, hx, hF⟩ := bind_some hF
       have hi0 := nnO_some hx
       refine tkB hS 6 127 (by as_aux_lemma => kernel_rfl) rfl rfl rfl hQp rfl (fun w' hC' => (rv_shr (hS.ev rfl) (hS.ev rfl) hi0)) hM.fr fun a hS => ?_
       refine tkB hS 7 255 (by as_aux_lemma => kernel_rfl) rfl rfl rfl hQp rfl (fun w' hC' => (rv_and (hS.ev rfl) (hS.ev rfl))) hM.fr fun a hS => ?_
       refine tkB hS 8 511 (by as_aux_lemma => kernel_rfl) rfl rfl rfl hQp rfl (fun w' hC' => (rv_eql (hS.ev rfl) (hS.ev rfl))) hM.fr fun a hS => ?_
       refine tkB hS 9 1023 (by as_aux_lemma => kernel_rfl) rfl rfl rfl hQp rfl (fun w' hC' => (rv_move (hS.ev rfl))) hM.fr fun a hS => ?_
       rcases ite_some hF with ⟨hc, hF⟩ | ⟨hc, hF⟩
       ·have hS := hS.setb (t := 66) rfl hc
        refine tkB hS 10 2047 (by as_aux_lemma => kernel_rfl) rfl rfl rfl hQp rfl (fun w' hC' => (rv_fieldAddr ty_fd_26_1 (hS.ev rfl))) hM.fr fun a hS => ?_
        refine tkB hS 11 4095 (by as_aux_lemma => kernel_rfl) rfl rfl rfl hQp rfl (fun w' hC' => (rv_load_bx (hS.ev rfl) ty_ag_24 ((hB.fra hC').get 0 rfl) rfl)) hM.fr fun a hS => ?_
        refine tkB hS 12 8191 (by as_aux_lemma => kernel_rfl) rfl rfl rfl hQp rfl (fun w' hC' => (rv_move (hS.ev rfl))) hM.fr fun a hS => ?_
        obtain ⟨x614, hx, hF⟩ := bind_some hF
        obtain ⟨hi0, hi1, hex614⟩ := idxL_some hx
        refine tkB hS 13 16383 (by as_aux_lemma => kernel_rfl) rfl rfl rfl hQp rfl (fun w' hC' => (rv_indexAddr Tryd.underlying24 ty_el_3 (hS.ev rfl) (hS.ev rfl) (hM.get 1 rfl) hi0 (map_len hi1))) hM.fr fun a hS => ?_
        refine tkB hS 14 32767 (by as_aux_lemma => kernel_rfl) rfl rfl rfl hQp rfl (fun w' hC' => (rv_load_el (hS.ev rfl) ty_ag_3 ((hB.fra hC').get 1 rfl) (mget hex614))) hM.fr fun a hS => ?_
        refine tkB hS 15 65535 (by as_aux_lemma => kernel_rfl) rfl rfl rfl hQp rfl (fun w' hC' => (rv_lss (hS.ev rfl) (hS.ev rfl))) hM.fr fun a hS => ?_
        refine tkB hS 16 131071 (by as_aux_lemma => kernel_rfl) rfl rfl rfl hQp rfl (fun w' hC' => (rv_move (hS.ev rfl))) hM.fr fun a hS => ?_
        rcases ite_some hF with ⟨hc, hF⟩ | ⟨hc, hF⟩
        ·have hS := hS.setb (t := 73) rfl hc
         refine skB hS [17, 18, 19, 20, 21, 22, 23, 24, 25] [74, 75, 76, 77, 78, 79, 80, 81, 82] 67108863 13 rfl (by as_aux_lemma => kernel_rfl) hQp hM.fr fun a hS => ?_
         refine tkB hS 26 134217727 (by as_aux_lemma => kernel_rfl) rfl rfl rfl hQp rfl (fun w' hC' => (rv_pick_t (hS.ev rfl) (hS.ev rfl))) hM.fr fun a hS => ?_
         refine tkB hS 27 268435455 (by as_aux_lemma => kernel_rfl) rfl rfl rfl hQp rfl (fun w' hC' => (rv_move (hS.ev rfl))) hM.fr fun a hS => ?_
         refine skB hS [28, 29, 30, 31, 32, 33, 34, 35, 36] [85, 86, 87, 88, 89, 90, 91, 92, 93] 137438953471 2 rfl (by as_aux_lemma => kernel_rfl) hQp hM.fr fun a hS => ?_
         refine tkB hS 37 274877906943 (by as_aux_lemma => kernel_rfl) rfl rfl rfl hQp rfl (fun w' hC' => (rv_pick_t (hS.ev rfl) (hS.ev rfl))) hM.fr fun a hS => ?_
         refine tkB hS 38 549755813887 (by as_aux_lemma => kernel_rfl) rfl rfl rfl hQp rfl (fun w' hC' => (rv_pick_t (hS.ev rfl) (hS.ev rfl))) hM.fr fun a hS => ?_
         refine an_done (by as_aux_lemma => kernel_rfl) ?_
         have hN := hM.pk [] (by decide) pn
         have hM := Mem.callo0 hB hN rfl
         exact hJ7 true _ _ (hS.sub (sub_cons rfl (sub_cons rfl (sub_cons rfl (sub_cons rfl sub_nil))))) (hM.pk [0, 1] (by decide) (pc rfl (pc rfl pn))) hF
        ·have hS := hS.setb (t := 73) rfl hc
         refine tkB hS 17 262143 (by as_aux_lemma => kernel_rfl) rfl rfl rfl hQp rfl (fun w' hC' => (rv_fieldAddr ty_fd_26_1 (hS.ev rfl))) hM.fr fun a hS => ?_
         refine tkB hS 18 524287 (by as_aux_lemma => kernel_rfl) rfl rfl rfl hQp rfl (fun w' hC' => (rv_load_bx (hS.ev rfl) ty_ag_24 ((hB.fra hC').get 0 rfl) rfl)) hM.fr fun a hS => ?_
         refine tkB hS 19 1048575 (by as_aux_lemma => kernel_rfl) rfl rfl rfl hQp rfl (fun w' hC' => (rv_move (hS.ev rfl))) hM.fr fun a hS => ?_
         obtain ⟨x615, hx, hF⟩ := bind_some hF
         obtain ⟨hi0, hi1, hex615⟩ := idxL_some hx
         refine tkB hS 20 2097151 (by as_aux_lemma => kernel_rfl) rfl rfl rfl hQp rfl (fun w' hC' => (rv_indexAddr Tryd.underlying24 ty_el_3 (hS.ev rfl) (hS.ev rfl) (hM.get 1 rfl) hi0 (map_len hi1))) hM.fr fun a hS => ?_
         refine tkB hS 21 4194303 (by as_aux_lemma => kernel_rfl) rfl rfl rfl hQp rfl (fun w' hC' => (rv_load_el (hS.ev rfl) ty_ag_3 ((hB.fra hC').get 1 rfl) (mget hex615))) hM.fr fun a hS => ?_
         refine tkB hS 22 8388607 (by as_aux_lemma => kernel_rfl) rfl rfl rfl hQp rfl (fun w' hC' => (rv_fieldAddr ty_fd_26_0 (hS.ev rfl))) hM.fr fun a hS => ?_
         refine tkB hS 23 16777215 (by as_aux_lemma => kernel_rfl) rfl rfl rfl hQp rfl (fun w' hC' => (rv_load_bx (hS.ev rfl) ty_ag_3 ((hB.fra hC').get 0 rfl) rfl)) hM.fr fun a hS => ?_
         obtain ⟨_, hx, hF⟩ := bind_some hF
         have hi0 := nnO_some hx
         refine tkB hS 24 33554431 (by as_aux_lemma => kernel_rfl) rfl rfl rfl hQp rfl (fun w' hC' => (rv_shl (hS.ev rfl) (hS.ev rfl) hi0)) hM.fr fun a hS => ?_
         refine tkB hS 25 67108863 (by as_aux_lemma => kernel_rfl) rfl rfl rfl hQp rfl (fun w' hC' => (rv_geq (hS.ev rfl) (hS.ev rfl))) hM.fr fun a hS => ?_
         refine tkB hS 26 134217727 (by as_aux_lemma => kernel_rfl) rfl rfl rfl hQp rfl (fun w' hC' => (rv_pick_f (hS.ev rfl) (hS.ev rfl))) hM.fr fun a hS => ?_
         refine tkB hS 27 268435455 (by as_aux_lemma => kernel_rfl) rfl rfl rfl hQp rfl (fun w' hC' => (rv_move (hS.ev rfl))) hM.fr fun a hS => ?_
         rcases ite_some hF with ⟨hc, hF⟩ | ⟨hc, hF⟩
         ·have hS := hS.setb (t := 84) rfl hc
          refine skB hS [28, 29, 30, 31, 32, 33, 34, 35, 36] [85, 86, 87, 88, 89, 90, 91, 92, 93] 137438953471 2 rfl (by as_aux_lemma => kernel_rfl) hQp hM.fr fun a hS => ?_
          refine tkB hS 37 274877906943 (by as_aux_lemma => kernel_rfl) rfl rfl rfl hQp rfl (fun w' hC' => (rv_pick_t (hS.ev rfl) (hS.ev rfl))) hM.fr fun a hS => ?_
          refine tkB hS 38 549755813887 (by as_aux_lemma => kernel_rfl) rfl rfl rfl hQp rfl (fun w' hC' => (rv_pick_t (hS.ev rfl) (hS.ev rfl))) hM.fr fun a hS => ?_
          refine an_done (by as_aux_lemma => kernel_rfl) ?_
          have hN := hM.pk [] (by decide) pn
          have hM := Mem.callo0 hB hN rfl
          exact hJ7 true _ _ (hS.sub (sub_cons rfl (sub_cons rfl (sub_cons rfl (sub_cons rfl sub_nil))))) (hM.pk [0, 1] (by decide) (pc rfl (pc rfl pn))) hF
         ·have hS := hS.setb (t := 84) rfl hc
          refine tkB hS 28 536870911 (by as_aux_lemma => kernel_rfl) rfl rfl rfl hQp rfl (fun w' hC' => (rv_fieldAddr ty_fd_26_1 (hS.ev rfl))) hM.fr fun a hS => ?_
          refine tkB hS 29 1073741823 (by as_aux_lemma => kernel_rfl) rfl rfl rfl hQp rfl (fun w' hC' => (rv_load_bx (hS.ev rfl) ty_ag_24 ((hB.fra hC').get 0 rfl) rfl)) hM.fr fun a hS => ?_
          refine tkB hS 30 2147483647 (by as_aux_lemma => kernel_rfl) rfl rfl rfl hQp rfl (fun w' hC' => (rv_move (hS.ev rfl))) hM.fr fun a hS => ?_
          obtain ⟨x616, hx, hF⟩ := bind_some hF
          obtain ⟨hi0, hi1, hex616⟩ := idxL_some hx
          refine tkB hS 31 4294967295 (by as_aux_lemma => kernel_rfl) rfl rfl rfl hQp rfl (fun w' hC' => (rv_indexAddr Tryd.underlying24 ty_el_3 (hS.ev rfl) (hS.ev rfl) (hM.get 1 rfl) hi0 (map_len hi1))) hM.fr fun a hS => ?_
          refine tkB hS 32 8589934591 (by as_aux_lemma => kernel_rfl) rfl rfl rfl hQp rfl (fun w' hC' => (rv_load_el (hS.ev rfl) ty_ag_3 ((hB.fra hC').get 1 rfl) (mget hex616))) hM.fr fun a hS => ?_
          refine tkB hS 33 17179869183 (by as_aux_lemma => kernel_rfl) rfl rfl rfl hQp rfl (fun w' hC' => (rv_move (hS.ev rfl))) hM.fr fun a hS => ?_
          obtain ⟨_, hx, hF⟩ := bind_some hF
          have hi0 := nnO_some hx
          refine tkB hS 34 34359738367 (by as_aux_lemma => kernel_rfl) rfl rfl rfl hQp rfl (fun w' hC' => (rv_shr (hS.ev rfl) (hS.ev rfl) hi0)) hM.fr fun a hS => ?_
          refine tkB hS 35 68719476735 (by as_aux_lemma => kernel_rfl) rfl rfl rfl hQp rfl (fun w' hC' => (rv_and (hS.ev rfl) (hS.ev rfl))) hM.fr fun a hS => ?_
          refine tkB hS 36 137438953471 (by as_aux_lemma => kernel_rfl) rfl rfl rfl hQp rfl (fun w' hC' => (rv_eql (hS.ev rfl) (hS.ev rfl))) hM.fr fun a hS => ?_
          refine tkB hS 37 274877906943 (by as_aux_lemma => kernel_rfl) rfl rfl rfl hQp rfl (fun w' hC' => (rv_pick_f (hS.ev rfl) (hS.ev rfl))) hM.fr fun a hS => ?_
          refine tkB hS 38 549755813887 (by as_aux_lemma => kernel_rfl) rfl rfl rfl hQp rfl (fun w' hC' => (rv_pick_t (hS.ev rfl) (hS.ev rfl))) hM.fr fun a hS => ?_
          refine an_done (by as_aux_lemma => kernel_rfl) ?_
          have hN := hM.pk [] (by decide) pn
          have hM := Mem.callo0 hB hN rfl
          exact hJ7 ((bAnd (shR x616 x319) 1) == 0) _ _ (hS.sub (sub_cons rfl (sub_cons rfl (sub_cons rfl (sub_cons rfl sub_nil))))) (hM.pk [0, 1] (by decide) (pc rfl (pc rfl pn))) hF
       ·have hS := hS.setb (t := 66) rfl hc
        refine skB hS [10, 11, 12, 13, 14, 15, 16, 17, 18, 19, 20, 21, 22, 23, 24, 25, 26, 27, 28, 29, 30, 31, 32, 33, 34, 35, 36, 37] [67, 68, 69, 70, 71, 72, 73, 74, 75, 76, 77, 78, 79, 80, 81, 82, 83, 84, 85, 86, 87, 88, 89, 90, 91, 92, 93, 94] 274877906943 1 rfl (by as_aux_lemma => kernel_rfl) hQp hM.fr fun a hS => ?_
        refine tkB hS 38 549755813887 (by as_aux_lemma => kernel_rfl) rfl rfl rfl hQp rfl (fun w' hC' => (rv_pick_f (hS.ev rfl) (hS.ev rfl))) hM.fr fun a hS => ?_
        refine an_done (by as_aux_lemma => kernel_rfl) ?_
        have hN := hM.pk [] (by decide) pn
        have hM := Mem.callo0 hB hN rfl
        exact hJ7 false _ _ (hS.sub (sub_cons rfl (sub_cons rfl (sub_cons rfl (sub_cons rfl sub_nil))))) (hM.pk [0, 1] (by decide) (pc rfl (pc rfl pn))) hF
      ·refine cond_f hS rfl hc ?_
       refine wp_exit ?_
       cases hF
       exact hJ4 _ _ (hS.sub (sub_cons rfl (sub_cons rfl sub_nil))) (hM.pk [0, 1] (by decide) (pc rfl (pc rfl pn))) (by have e := hX6 _ rfl; subst e; exact hF6)
    refine an_startB 28 Nob ty_mixed (by kernel_rfl) fun w hf => ?_
    have hM := hM.fra hf
    have hB := hM
    have hM := hB.reg0
    try dsimp only [ro] at hM
    refine tkB hS 0 1 (by as_aux_lemma => kernel_rfl) rfl rfl rfl hQp rfl (fun w' hC' => (rv_fieldAddr ty_fd_26_1 (hS.ev rfl))) hM.fr fun a hS => ?_
    refine tkB hS 1 3 (by as_aux_lemma => kernel_rfl) rfl rfl rfl hQp rfl (fun w' hC' => (rv_load_bx (hS.ev rfl) ty_ag_24 ((hB.fra hC').get 0 rfl) rfl)) hM.fr fun a hS => ?_
    refine tkB hS 2 7 (by as_aux_lemma => kernel_rfl) rfl rfl rfl hQp rfl (fun w' hC' => (rv_move (hS.ev rfl))) hM.fr fun a hS => ?_
    obtain ⟨x617, hx, hF⟩ := bind_some hF
    obtain ⟨hi0, hi1, hex617⟩ := idxL_some hx
    refine tkB hS 3 15 (by as_aux_lemma => kernel_rfl) rfl rfl rfl hQp rfl (fun w' hC' => (rv_indexAddr Tryd.underlying24 ty_el_3 (hS.ev rfl) (hS.ev rfl) (hM.get 1 rfl) hi0 (map_len hi1))) hM.fr fun a hS => ?_
    refine tkB hS 4 31 (by as_aux_lemma => kernel_rfl) rfl rfl rfl hQp rfl (fun w' hC' => (rv_load_el (hS.ev rfl) ty_ag_3 ((hB.fra hC').get 1 rfl) (mget hex617))) hM.fr fun a hS => ?_
    refine tkB hS 5 63 (by as_aux_lemma => kernel_rfl) rfl rfl rfl hQp rfl (fun w' hC' => (rv_lss (hS.ev rfl) (hS.ev rfl))) hM.fr fun a hS => ?_
    refine tkB hS 6 127 (by as_aux_lemma => kernel_rfl) rfl rfl rfl hQp rfl (fun w' hC' => (rv_move (hS.ev rfl))) hM.fr fun a hS => ?_
    rcases ite_some hF with ⟨hc, hF⟩ | ⟨hc, hF⟩
    ·have hS := hS.setb (t := 29) rfl hc
     refine skB hS [7, 8, 9, 10, 11, 12, 13, 14, 15] [30, 31, 32, 33, 34, 35, 36, 37, 38] 65535 12 rfl (by as_aux_lemma => kernel_rfl) hQp hM.fr fun a hS => ?_
     refine tkB hS 16 131071 (by as_aux_lemma => kernel_rfl) rfl rfl rfl hQp rfl (fun w' hC' => (rv_pick_t (hS.ev rfl) (hS.ev rfl))) hM.fr fun a hS => ?_
     refine tkB hS 17 262143 (by as_aux_lemma => kernel_rfl) rfl rfl rfl hQp rfl (fun w' hC' => (rv_move (hS.ev rfl))) hM.fr fun a hS => ?_
     refine skB hS [18, 19, 20, 21, 22, 23, 24, 25, 26] [41, 42, 43, 44, 45, 46, 47, 48, 49] 134217727 1 rfl (by as_aux_lemma => kernel_rfl) hQp hM.fr fun a hS => ?_
     refine tkB hS 27 268435455 (by as_aux_lemma => kernel_rfl) rfl rfl rfl hQp rfl (fun w' hC' => (rv_pick_t (hS.ev rfl) (hS.ev rfl))) hM.fr fun a hS => ?_
     refine an_done (by as_aux_lemma => kernel_rfl) ?_
     have hN := hM.pk [] (by decide) pn
     have hM := Mem.callo0 hB hN rfl
     exact hJ5 true _ _ (hS.sub (sub_cons rfl (sub_cons rfl (sub_cons rfl sub_nil)))) (hM.pk [0, 1] (by decide) (pc rfl (pc rfl pn))) hF
    ·have hS := hS.setb (t := 29) rfl hc
     refine tkB hS 7 255 (by as_aux_lemma => kernel_rfl) rfl rfl rfl hQp rfl (fun w' hC' => (rv_fieldAddr ty_fd_26_1 (hS.ev rfl))) hM.fr fun a hS => ?_
     refine tkB hS 8 511 (by as_aux_lemma => kernel_rfl) rfl rfl rfl hQp rfl (fun w' hC' => (rv_load_bx (hS.ev rfl) ty_ag_24 ((hB.fra hC').get 0 rfl) rfl)) hM.fr fun a hS => ?_
     refine tkB hS 9 1023 (by as_aux_lemma => kernel_rfl) rfl rfl rfl hQp rfl (fun w' hC' => (rv_move (hS.ev rfl))) hM.fr fun a hS => ?_
     obtain ⟨x618, hx, hF⟩ := bind_some hF
     obtain ⟨hi0, hi1, hex618⟩ := idxL_some hx
     refine tkB hS 10 2047 (by as_aux_lemma => kernel_rfl) rfl rfl rfl hQp rfl (fun w' hC' => (rv_indexAddr Tryd.underlying24 ty_el_3 (hS.ev rfl) (hS.ev rfl) (hM.get 1 rfl) hi0 (map_len hi1))) hM.fr fun a hS => ?_
     refine tkB hS 11 4095 (by as_aux_lemma => kernel_rfl) rfl rfl rfl hQp rfl (fun w' hC' => (rv_load_el (hS.ev rfl) ty_ag_3 ((hB.fra hC').get 1 rfl) (mget hex618))) hM.fr fun a hS => ?_
     refine tkB hS 12 8191 (by as_aux_lemma => kernel_rfl) rfl rfl rfl hQp rfl (fun w' hC' => (rv_fieldAddr ty_fd_26_0 (hS.ev rfl))) hM.fr fun a hS => ?_
     refine tkB hS 13 16383 (by as_aux_lemma => kernel_rfl) rfl rfl rfl hQp rfl (fun w' hC' => (rv_load_bx (hS.ev rfl) ty_ag_3 ((hB.fra hC').get 0 rfl) rfl)) hM.fr fun a hS => ?_
     obtain ⟨_, hx, hF⟩ := bind_some hF
     have hi0 := nnO_some hx
     refine tkB hS 14 32767 (by as_aux_lemma => kernel_rfl) rfl rfl rfl hQp rfl (fun w' hC' => (rv_shl (hS.ev rfl) (hS.ev rfl) hi0)) hM.fr fun a hS => ?_
     refine tkB hS 15 65535 (by as_aux_lemma => kernel_rfl) rfl rfl rfl hQp rfl (fun w' hC' => (rv_geq (hS.ev rfl) (hS.ev rfl))) hM.fr fun a hS => ?_
     refine tkB hS 16 131071 (by as_aux_lemma => kernel_rfl) rfl rfl rfl hQp rfl (fun w' hC' => (rv_pick_f (hS.ev rfl) (hS.ev rfl))) hM.fr fun a hS => ?_
     refine tkB hS 17 262143 (by as_aux_lemma => kernel_rfl) rfl rfl rfl hQp rfl (fun w' hC' => (rv_move (hS.ev rfl))) hM.fr fun a hS => ?_
     rcases ite_some hF with ⟨hc, hF⟩ | ⟨hc, hF⟩
     ·have hS := hS.setb (t := 40) rfl hc
      refine skB hS [18, 19, 20, 21, 22, 23, 24, 25, 26] [41, 42, 43, 44, 45, 46, 47, 48, 49] 134217727 1 rfl (by as_aux_lemma => kernel_rfl) hQp hM.fr fun a hS => ?_
      refine tkB hS 27 268435455 (by as_aux_lemma => kernel_rfl) rfl rfl rfl hQp rfl (fun w' hC' => (rv_pick_t (hS.ev rfl) (hS.ev rfl))) hM.fr fun a hS => ?_
      refine an_done (by as_aux_lemma => kernel_rfl) ?_
      have hN := hM.pk [] (by decide) pn
      have hM := Mem.callo0 hB hN rfl
      exact hJ5 true _ _ (hS.sub (sub_cons rfl (sub_cons rfl (sub_cons rfl sub_nil)))) (hM.pk [0, 1] (by decide) (pc rfl (pc rfl pn))) hF
     ·have hS := hS.setb (t := 40) rfl hc
      refine tkB hS 18 524287 (by as_aux_lemma => kernel_rfl) rfl rfl rfl hQp rfl (fun w' hC' => (rv_fieldAddr ty_fd_26_1 (hS.ev rfl))) hM.fr fun a hS => ?_
      refine tkB hS 19 1048575 (by as_aux_lemma => kernel_rfl) rfl rfl rfl hQp rfl (fun w' hC' => (rv_load_bx (hS.ev rfl) ty_ag_24 ((hB.fra hC').get 0 rfl) rfl)) hM.fr fun a hS => ?_
      refine tkB hS 20 2097151 (by as_aux_lemma => kernel_rfl) rfl rfl rfl hQp rfl (fun w' hC' => (rv_move (hS.ev rfl))) hM.fr fun a hS => ?_
      obtain ⟨x619, hx, hF⟩ := bind_some hF
      obtain ⟨hi0, hi1, hex619⟩ := idxL_some hx
      refine tkB hS 21 4194303 (by as_aux_lemma => kernel_rfl) rfl rfl rfl hQp rfl (fun w' hC' => (rv_indexAddr Tryd.underlying24 ty_el_3 (hS.ev rfl) (hS.ev rfl) (hM.get 1 rfl) hi0 (map_len hi1))) hM.fr fun a hS => ?_
      refine tkB hS 22 8388607 (by as_aux_lemma => kernel_rfl) rfl rfl rfl hQp rfl (fun w' hC' => (rv_load_el (hS.ev rfl) ty_ag_3 ((hB.fra hC').get 1 rfl) (mget hex619))) hM.fr fun a hS => ?_
      refine tkB hS 23 16777215 (by as_aux_lemma => kernel_rfl) rfl rfl rfl hQp rfl (fun w' hC' => (rv_move (hS.ev rfl))) hM.fr fun a hS => ?_
      obtain ⟨_, hx, hF⟩ := bind_some hF
      have hi0 := nnO_some hx
      refine tkB hS 24 33554431 (by as_aux_lemma => kernel_rfl) rfl rfl rfl hQp rfl (fun w' hC' => (rv_shr (hS.ev rfl) (hS.ev rfl) hi0)) hM.fr fun a hS => ?_
      refine tkB hS 25 67108863 (by as_aux_lemma => kernel_rfl) rfl rfl rfl hQp rfl (fun w' hC' => (rv_and (hS.ev rfl) (hS.ev rfl))) hM.fr fun a hS => ?_
      refine tkB hS 26 134217727 (by as_aux_lemma => kernel_rfl) rfl rfl rfl hQp rfl (fun w' hC' => (rv_eql (hS.ev rfl) (hS.ev rfl))) hM.fr fun a hS => ?_
      refine tkB hS 27 268435455 (by as_aux_lemma => kernel_rfl) rfl rfl rfl hQp rfl (fun w' hC' => (rv_pick_f (hS.ev rfl) (hS.ev rfl))) hM.fr fun a hS => ?_
      refine an_done (by as_aux_lemma => kernel_rfl) ?_
      have hN := hM.pk [] (by decide) pn
      have hM := Mem.callo0 hB hN rfl
      exact hJ5 ((bAnd (shR x619 x319) 1) == 1) _ _ (hS.sub (sub_cons rfl (sub_cons rfl (sub_cons rfl sub_nil)))) (hM.pk [0, 1] (by decide) (pc rfl (pc rfl pn))) hF
   ·refine cond_f hS rfl hc ?_
    refine wp_exit ?_
    cases hF
    exact hJ2 _ _ (hS.sub sub_nil) (hM.pk [] (by decide) pn) (by have e := hX3 _ rfl; subst e; exact hF3)
 refine wp_region_lit ?_
 refine st_val hS rfl rfl (by decide) (rv_fieldAddr ty_fd_26_0 (hS.ev rfl)) fun a hS => ?_
 refine st_val hS rfl rfl (by decide) (rv_load_bx (hS.ev rfl) ty_ag_3 (hM.get 0 rfl) rfl) fun a hS => ?_
 obtain ⟨r620, hr, hF⟩ := bind_some hF
 refine st_wp hS rfl (wp_call hS rfl rfl (by decide) fn_ok_75 rfl (c_spec_l1In F p0_g_Size 1 7 hr _) fun v w a hK hS => ?_)
 obtain ⟨rfl, hN⟩ := hK
 have hM := hM.fra hN.fr
 refine st_val hS rfl rfl (by decide) (rv_not (hS.ev rfl)) fun a hS => ?_
 refine st_val hS rfl rfl (by decide) (rv_move (hS.ev rfl)) fun a hS => ?_
 rcases ite_some hF with ⟨hc, hF⟩ | ⟨hc, hF⟩
 ·have hS := hS.setb (t := 9) rfl hc
  refine st_skip hS rfl rfl (by decide) fun a hS => ?_
  refine st_skip hS rfl rfl (by decide) fun a hS => ?_
  refine st_skip hS rfl rfl (by decide) fun a hS => ?_
  refine st_skip hS rfl rfl (by decide) fun a hS => ?_
  refine st_skip hS rfl rfl (by decide) fun a hS => ?_
  refine st_skip hS rfl rfl (by decide) fun a hS => ?_
  refine st_val hS rfl rfl (by decide) (rv_pick_t (hS.ev rfl) (hS.ev rfl)) fun a hS => ?_
  refine wpList_nil ?_
  exact hJ1 true _ _ (hS.sub (sub_cons rfl (sub_cons rfl sub_nil))) (hM.pk [0, 1] (by decide) (pc rfl (pc rfl pn))) hF
 ·have hS := hS.setb (t := 9) rfl hc
  refine st_val hS rfl rfl (by decide) (rv_fieldAddr ty_fd_26_1 (hS.ev rfl)) fun a hS => ?_
  refine st_val hS rfl rfl (by decide) (rv_load_bx (hS.ev rfl) ty_ag_24 (hM.get 0 rfl) rfl) fun a hS => ?_
  refine st_val hS rfl rfl (by decide) (rv_len_rowM Tryd.underlying24 (hS.ev rfl) (hM.get 1 rfl)) fun a hS => ?_
  refine st_val hS rfl rfl (by decide) (rv_fieldAddr ty_fd_26_0 (hS.ev rfl)) fun a hS => ?_
  refine st_val hS rfl rfl (by decide) (rv_load_bx (hS.ev rfl) ty_ag_3 (hM.get 0 rfl) rfl) fun a hS => ?_
  refine st_val hS rfl rfl (by decide) (rv_neq (hS.ev rfl) (hS.ev rfl)) fun a hS => ?_
  refine st_val hS rfl rfl (by decide) (rv_pick_f (hS.ev rfl) (hS.ev rfl)) fun a hS => ?_
  refine wpList_nil ?_
  exact hJ1 ((p0_g_Rows.length : Int) != p0_g_Size) _ _ (hS.sub (sub_cons rfl (sub_cons rfl sub_nil))) (hM.pk [0, 1] (by decide) (pc rfl (pc rfl pn))) hF


theorem c_spec_ComplementOf (F : Nat) (p0_g_Size : Int) (p0_g_Rows : List Int) (p0_g_Rowsv : Value) {r : Int × (List (Int)) × Bool} (hF : S_spec_ComplementOf F p0_g_Size p0_g_Rows = some r) (w0 : World) (h0 : RdRow w0 p0_g_Rowsv (List.map (int i64) p0_g_Rows)) :
    Calls Tryd.prog 21 [(Value.agg #[(int i64 p0_g_Size), p0_g_Rowsv])].toArray w0 (retPost fun v w' => ∃ v104, v = (Value.tuple #[(Value.agg #[(int i64 r.1), v104]), (Value.bool r.2.2)]) ∧ Mem Nob w0 w' [(true, ow 3 v104 (List.map (int i64) r.2.1))]) := by
 have hM : Mem Nob w0 w0 [(false, rd p0_g_Rowsv (List.map (int i64) p0_g_Rows))] := (Mem.rcons (Mem.nil w0) h0 (by simp))
 refine enter2 Tryd.func21 rfl rfl rfl fun Q a hQr hQn hQp hS => ?_
 have hS : Sl 38 [(0, (Value.agg #[(int i64 p0_g_Size), p0_g_Rowsv]))] a := hS
 unfold S_spec_ComplementOf at hF
 refine wp_seq_k fun K1 hK1 => ?_
 refine wp_region_lit ?_
 obtain ⟨b4, w, hr, hM⟩ := hM.boxE (ρ := a.eval) (dst := some 1) (ty := _) (pos := _) (af := _) (gd := _) (x := .tmp 0) (T := 26) [(int i64 p0_g_Size), p0_g_Rowsv] (hS.ev rfl) rfl
 refine st_val hS rfl rfl (by decide) hr fun a hS => ?_
 obtain ⟨b5, w, hr, hM⟩ := hM.allocE (ρ := a.eval) (dst := some 2) (ty := _) (pos := _) (af := _) (gd := _) (T := 26) (P := Tryd.prog) [(int i64 0), (Value.slice none 0 0)] ty_zr_26 rfl
 refine st_val hS rfl rfl (by decide) hr fun a hS => ?_
 have hM := hM.addNil 3
 refine st_val hS rfl rfl (by decide) (rv_assign (hS.ev rfl)) fun a hS => ?_
 refine wpList_nil ?_
 refine hK1 _ _ ?_
 refine wp_seq_k fun K6 hK6 => ?_
 refine wp_seq_k fun K11 hK11 => ?_
 refine wp_region_lit ?_
 refine st_val hS rfl rfl (by decide) (rv_load_agg (hS.ev rfl) ty_ag_26 (hM.get 2 rfl) ty_sz_26) fun a hS => ?_
 obtain ⟨r13, hr, hF⟩ := bind_some hF
 refine st_wp hS rfl (wp_call hS rfl rfl (by decide) fn_ok_39 rfl (c_spec_IsGraph F p0_g_Size p0_g_Rows p0_g_Rowsv hr _ (hM.get 3 rfl)) fun v w a hK hS => ?_)
 obtain ⟨rfl, hN⟩ := hK
 have hM := hM.fra hN.fr
 refine st_val hS rfl rfl (by decide) (rv_not (hS.ev rfl)) fun a hS => ?_
 refine wpList_nil ?_
 refine hK11 _ _ ?_
 rcases ite_some hF with ⟨hc, hF⟩ | ⟨hc, hF⟩
 ·refine cond_t hS rfl hc ?_
  refine wp_seq_k fun K14 hK14 => ?_
  refine wp_region_lit ?_
  refine st_val hS rfl rfl (by decide) (rv_build hS ty_st_26 rfl (by simp) ones_nil) fun a hS => ?_
  have hM := hM.pk [1, 0, 2, 3] (by decide) (pc rfl (pc rfl (pc rfl (pc rfl pn))))
  obtain ⟨w, hr, hM⟩ := hM.st_agg (us := [(int i64 0), (Value.slice none 0 0)]) (ρ := a.eval) (dst := none) (ty := _) (pos := _) (af := _) (gd := _) (x := .tmp 2) (y := .tmp 9) (hS.ev rfl) (hS.ev rfl) ty_sz_26 (all1_cons rfl (all1_cons rfl all1_nil)) rfl
  refine st_unit hS rfl rfl hr ?_
  have hM := hM.addNil 3
  refine st_val hS rfl rfl (by decide) (rv_assign (hS.ev rfl)) fun a hS => ?_
  refine wpList_nil ?_
  refine hK14 _ _ ?_
  have hS : Sl 38 [(2, (fdp b5 0)), (3, (Value.bool false))] a := hS.sub (sub_cons rfl (sub_cons rfl sub_nil))
  have hM := hM.pk [0, 1] (by decide) (pc rfl (pc rfl pn))
  refine wp_ret ?_
  cases hF
  exact hQr _ _ (r_cc hS rfl ⟨_, rfl, run_loadAgg ty_ag_26 (hM.get 1 rfl) ty_sz_26⟩ rfl ⟨(Value.slice none 0 0), rfl, hM.pk [0] (by decide) (pc rfl pn)⟩)
 ·refine cond_f hS rfl hc ?_
  refine wp_skip ?_
  refine hK6 _ _ ?_
  refine wp_seq_k fun K15 hK15 => ?_
  refine wp_region_lit ?_
  refine st_val hS rfl rfl (by decide) (rv_fieldAddr ty_fd_26_0 (hS.ev rfl)) fun a hS => ?_
  refine st_val hS rfl rfl (by decide) (rv_load_bx (hS.ev rfl) ty_ag_3 (hM.get 2 rfl) rfl) fun a hS => ?_
  refine st_val hS rfl rfl (by decide) (rv_build hS ty_st_26 rfl (by simp) (ones_cons (by rw [hS.ev (v := (int i64 p0_g_Size)) rfl]; rfl) ones_nil)) fun a hS => ?_
  obtain ⟨b17, w, hr, hM⟩ := hM.allocE (ρ := a.eval) (dst := some 4) (ty := _) (pos := _) (af := _) (gd := _) (T := 26) (P := Tryd.prog) [(int i64 0), (Value.slice none 0 0)] ty_zr_26 rfl
  refine st_val hS rfl rfl (by decide) hr fun a hS => ?_
  have hM := hM.addNil 3
  have hM := hM.pk [1, 0, 2, 3, 4, 5] (by decide) (pc rfl (pc rfl (pc rfl (pc rfl (pc rfl (pc rfl pn))))))
  obtain ⟨w, hr, hM⟩ := hM.st_agg (us := [(int i64 p0_g_Size), (Value.slice none 0 0)]) (ρ := a.eval) (dst := none) (ty := _) (pos := _) (af := _) (gd := _) (x := .tmp 4) (y := .tmp 12) (hS.ev rfl) (hS.ev rfl) ty_sz_26 (all1_cons rfl (all1_cons rfl all1_nil)) rfl
  refine st_unit hS rfl rfl hr ?_
  have hM := hM.addNil 3
  refine wpList_nil ?_
  refine hK15 _ _ ?_
  have hS : Sl 38 [(1, (fdp b4 0)), (2, (fdp b5 0)), (4, (fdp b17 0))] a := hS.sub (sub_cons rfl (sub_cons rfl (sub_cons rfl sub_nil)))
  have hM := hM.pk [0, 1, 3, 4, 5, 6] (by decide) (pc rfl (pc rfl (pc rfl (pc rfl (pc rfl (pc rfl pn))))))
  refine wp_seq_k fun K18 hK18 => ?_
  have hJ1 : ∀ (l61 : List Int) (v60 : Value) (a : Act) (w : World), Sl 38 [(2, (fdp b5 0)), (4, (fdp b17 0))] a → Mem Nob w0 w [(true, bx b5 26 [(int i64 0), (Value.slice none 0 0)]), (true, ow 3 (Value.slice none 0 0) (List.map (int i64) ([] : List (Int)))), (true, bx b17 26 [(int i64 p0_g_Size), v60]), (true, ow 3 v60 (List.map (int i64) l61))] → S_spec_ComplementOf_j1 F p0_g_Size l61 = some r → K18 a w := by
   intro l61 v60 a w hS hM hF
   unfold S_spec_ComplementOf_j1 at hF
   refine hK18 _ _ ?_
   refine wp_seq_k fun K62 hK62 => ?_
   refine wp_region_lit ?_
   refine st_val hS rfl rfl (by decide) (rv_load_agg (hS.ev rfl) ty_ag_26 (hM.get 2 rfl) ty_sz_26) fun a hS => ?_
   obtain ⟨w, hr, hM⟩ := hM.st_agg (us := [(int i64 p0_g_Size), v60]) (ρ := a.eval) (dst := none) (ty := _) (pos := _) (af := _) (gd := _) (x := .tmp 2) (y := .tmp 37) (hS.ev rfl) (hS.ev rfl) ty_sz_26 (all1_cons rfl (all1_cons (rd_one (rd_of_ow (hM.get 3 rfl))) all1_nil)) rfl
   refine st_unit hS rfl rfl hr ?_
   refine st_val hS rfl rfl (by decide) (rv_assign (hS.ev rfl)) fun a hS => ?_
   refine wpList_nil ?_
   refine hK62 _ _ ?_
   refine wp_ret ?_
   cases hF
   exact hQr _ _ (r_cc hS rfl ⟨_, rfl, run_loadAgg ty_ag_26 (hM.get 0 rfl) ty_sz_26⟩ rfl ⟨v60, rfl, hM.pk [3] (by decide) (pc rfl pn)⟩)
  refine wp_seq_k fun K63 hK63 => ?_
  refine wp_region_lit ?_
  refine st_val hS rfl rfl (by decide) (rv_assign (hS.ev rfl)) fun a hS => ?_
  refine wpList_nil ?_
  refine hK63 _ _ ?_
  refine wp_block ?_
  obtain ⟨lb2, hl2, hF2⟩ := bind_some hF
  refine wp_loop_sh (fun s => S_spec_ComplementOf_l2 F p0_g_Size p0_g_Rows s.1 s.2) (fun s a w => ∃ (v77 : Value), Sl 38 [(1, (fdp b4 0)), (2, (fdp b5 0)), (4, (fdp b17 0)), (5, (int i64 s.2))] a ∧ Mem Nob w0 w [(true, bx b4 26 [(int i64 p0_g_Size), p0_g_Rowsv]), (false, rd p0_g_Rowsv (List.map (int i64) p0_g_Rows)), (true, bx b5 26 [(int i64 0), (Value.slice none 0 0)]), (true, ow 3 (Value.slice none 0 0) (List.map (int i64) ([] : List (Int)))), (true, bx b17 26 [(int i64 p0_g_Size), v77]), (true, ow 3 v77 (List.map (int i64) s.1))]) hl2 ⟨(Value.slice none 0 0), (hS.sub (sub_cons rfl (sub_cons rfl (sub_cons rfl (sub_cons rfl sub_nil))))), (hM.pk [4, 5, 3, 2, 1, 0] (by decide) (pc rfl (pc rfl (pc rfl (pc rfl (pc rfl (pc rfl pn)))))))⟩ ?_
  rintro K2 ⟨l78, x79⟩ a w res2 ⟨v77, hS, hM⟩ hF hN2 hX2
  have hF : S_spec_ComplementOf_l2 F p0_g_Size p0_g_Rows l78 x79 = some res2 := hF
  have hS : Sl 38 [(1, (fdp b4 0)), (2, (fdp b5 0)), (4, (fdp b17 0)), (5, (int i64 x79))] a := hS
  have hM : Mem Nob w0 w [(true, bx b4 26 [(int i64 p0_g_Size), p0_g_Rowsv]), (false, rd p0_g_Rowsv (List.map (int i64) p0_g_Rows)), (true, bx b5 26 [(int i64 0), (Value.slice none 0 0)]), (true, ow 3 (Value.slice none 0 0) (List.map (int i64) ([] : List (Int)))), (true, bx b17 26 [(int i64 p0_g_Size), v77]), (true, ow 3 v77 (List.map (int i64) l78))] := hM
  unfold S_spec_ComplementOf_l2 at hF
  refine wp_seq_k fun K92 hK92 => ?_
  refine wp_seq_k fun K94 hK94 => ?_
  refine wp_region_lit ?_
  refine st_val hS rfl rfl (by decide) (rv_move (hS.ev rfl)) fun a hS => ?_
  refine st_val hS rfl rfl (by decide) (rv_fieldAddr ty_fd_26_0 (hS.ev rfl)) fun a hS => ?_
  refine st_val hS rfl rfl (by decide) (rv_load_bx (hS.ev rfl) ty_ag_3 (hM.get 0 rfl) rfl) fun a hS => ?_
  refine st_val hS rfl rfl (by decide) (rv_lss (hS.ev rfl) (hS.ev rfl)) fun a hS => ?_
  refine wpList_nil ?_
  refine hK94 _ _ ?_
  rcases ite_some hF with ⟨hc, hF⟩ | ⟨hc, hF⟩
  ·refine cond_t hS rfl hc ?_
   refine wp_skip ?_
   refine hK92 _ _ ?_
   refine wp_seq_k fun K95 hK95 => ?_
   have hJ3 : ∀ (l100 : List Int) (v99 : Value) (a : Act) (w : World), Sl 38 [(1, (fdp b4 0)), (2, (fdp b5 0)), (4, (fdp b17 0)), (5, (int i64 x79))] a → Mem Nob w0 w [(true, bx b4 26 [(int i64 p0_g_Size), p0_g_Rowsv]), (false, rd p0_g_Rowsv (List.map (int i64) p0_g_Rows)), (true, bx b5 26 [(int i64 0), (Value.slice none 0 0)]), (true, ow 3 (Value.slice none 0 0) (List.map (int i64) ([] : List (Int)))), (true, bx b17 26 [(int i64 p0_g_Size), v99]), (true, ow 3 v99 (List.map (int i64) l100))] → S_spec_ComplementOf_j3 F x79 l100 = some res2 → K95 a w := by
    intro l100 v99 a w hS hM hF
    unfold S_spec_ComplementOf_j3 at hF
    refine hK95 _ _ ?_
    refine wp_region_lit ?_
    refine st_val hS rfl rfl (by decide) (rv_move (hS.ev rfl)) fun a hS => ?_
    refine st_val hS rfl rfl (by decide) (rv_add (hS.ev rfl) (hS.ev rfl)) fun a hS => ?_
    refine st_val hS rfl rfl (by decide) (rv_assign (hS.ev rfl)) fun a hS => ?_
    refine wpList_nil ?_
    cases hF
    exact hN2 _ _ _ rfl ⟨v99, (hS.sub (sub_cons rfl (sub_cons rfl (sub_cons rfl (sub_cons rfl sub_nil))))), (hM.pk [0, 1, 2, 3, 4, 5] (by decide) (pc rfl (pc rfl (pc rfl (pc rfl (pc rfl (pc rfl pn)))))))⟩
   refine wp_block ?_
   have hM := hM.pk [5, 4, 0, 1, 2, 3] (by decide) (pc rfl (pc rfl (pc rfl (pc rfl (pc rfl (pc rfl pn))))))
   refine an_start (feet [(true, ow 3 v77 (List.map (int i64) l78)), (true, bx b17 26 [(int i64 p0_g_Size), v77])]) ty_mixed fun w hf => ?_
   have hM := hM.fra hf
   have hB := hM
   have hM := Mem.regA (A := [(true, ow 3 v77 (List.map (int i64) l78)), (true, bx b17 26 [(int i64 p0_g_Size), v77])]) (R := [(true, bx b4 26 [(int i64 p0_g_Size), p0_g_Rowsv]), (false, rd p0_g_Rowsv (List.map (int i64) p0_g_Rows)), (true, bx b5 26 [(int i64 0), (Value.slice none 0 0)]), (true, ow 3 (Value.slice none 0 0) (List.map (int i64) ([] : List (Int))))]) hB rfl
   refine an_take hS (i := 0) rfl (by kernel_rfl) (by kernel_rfl) (by kernel_rfl) rfl (by decide) hQp rfl (fun w' hC' => (rv_fieldAddr ty_fd_26_1 (hS.ev rfl))) hM.fr fun a hS => ?_
   refine an_take hS (i := 2) rfl (by kernel_rfl) (by kernel_rfl) (by kernel_rfl) rfl (by decide) hQp rfl (fun w' hC' => (rv_fieldAddr ty_fd_26_0 (hS.ev rfl))) hM.fr fun a hS => ?_
   refine an_take hS (i := 3) rfl (by kernel_rfl) (by kernel_rfl) (by kernel_rfl) rfl (by decide) hQp rfl (fun w' hC' => (rv_load_bx (hS.ev rfl) ty_ag_3 (Mem.getFA (A := [(true, ow 3 v77 (List.map (int i64) l78)), (true, bx b17 26 [(int i64 p0_g_Size), v77])]) (R := [(true, bx b4 26 [(int i64 p0_g_Size), p0_g_Rowsv]), (false, rd p0_g_Rowsv (List.map (int i64) p0_g_Rows)), (true, bx b5 26 [(int i64 0), (Value.slice none 0 0)]), (true, ow 3 (Value.slice none 0 0) (List.map (int i64) ([] : List (Int))))]) hB rfl 0 rfl hC') rfl)) hM.fr fun a hS => ?_
   obtain ⟨_, hx, hF⟩ := bind_some hF
   have hi0 := nnO_some hx
   refine an_take hS (i := 4) rfl (by kernel_rfl) (by kernel_rfl) (by kernel_rfl) rfl (by decide) hQp rfl (fun w' hC' => (rv_shl (hS.ev rfl) (hS.ev rfl) hi0)) hM.fr fun a hS => ?_
   refine an_take hS (i := 5) rfl (by kernel_rfl) (by kernel_rfl) (by kernel_rfl) rfl (by decide) hQp rfl (fun w' hC' => (rv_sub (hS.ev rfl) (hS.ev rfl))) hM.fr fun a hS => ?_
   refine an_take hS (i := 6) rfl (by kernel_rfl) (by kernel_rfl) (by kernel_rfl) rfl (by decide) hQp rfl (fun w' hC' => (rv_fieldAddr ty_fd_26_1 (hS.ev rfl))) hM.fr fun a hS => ?_
   refine an_take hS (i := 7) rfl (by kernel_rfl) (by kernel_rfl) (by kernel_rfl) rfl (by decide) hQp rfl (fun w' hC' => (rv_load_bx (hS.ev rfl) ty_ag_24 (Mem.getFA (A := [(true, ow 3 v77 (List.map (int i64) l78)), (true, bx b17 26 [(int i64 p0_g_Size), v77])]) (R := [(true, bx b4 26 [(int i64 p0_g_Size), p0_g_Rowsv]), (false, rd p0_g_Rowsv (List.map (int i64) p0_g_Rows)), (true, bx b5 26 [(int i64 0), (Value.slice none 0 0)]), (true, ow 3 (Value.slice none 0 0) (List.map (int i64) ([] : List (Int))))]) hB rfl 0 rfl hC') rfl)) hM.fr fun a hS => ?_
   refine an_take hS (i := 8) rfl (by kernel_rfl) (by kernel_rfl) (by kernel_rfl) rfl (by decide) hQp rfl (fun w' hC' => (rv_move (hS.ev rfl))) hM.fr fun a hS => ?_
   obtain ⟨x101, hx, hF⟩ := bind_some hF
   obtain ⟨hi0, hi1, hex101⟩ := idxL_some hx
   refine an_take hS (i := 9) rfl (by kernel_rfl) (by kernel_rfl) (by kernel_rfl) rfl (by decide) hQp rfl (fun w' hC' => (rv_indexAddr Tryd.underlying24 ty_el_3 (hS.ev rfl) (hS.ev rfl) (hM.get 3 rfl) hi0 (map_len hi1))) hM.fr fun a hS => ?_
   refine an_take hS (i := 10) rfl (by kernel_rfl) (by kernel_rfl) (by kernel_rfl) rfl (by decide) hQp rfl (fun w' hC' => (rv_load_el (hS.ev rfl) ty_ag_3 (Mem.getFA (A := [(true, ow 3 v77 (List.map (int i64) l78)), (true, bx b17 26 [(int i64 p0_g_Size), v77])]) (R := [(true, bx b4 26 [(int i64 p0_g_Size), p0_g_Rowsv]), (false, rd p0_g_Rowsv (List.map (int i64) p0_g_Rows)), (true, bx b5 26 [(int i64 0), (Value.slice none 0 0)]), (true, ow 3 (Value.slice none 0 0) (List.map (int i64) ([] : List (Int))))]) hB rfl 1 rfl hC') (mget hex101))) hM.fr fun a hS => ?_
   refine an_take hS (i := 11) rfl (by kernel_rfl) (by kernel_rfl) (by kernel_rfl) rfl (by decide) hQp rfl (fun w' hC' => (rv_sub (hS.ev rfl) (hS.ev rfl))) hM.fr fun a hS => ?_
   refine an_take hS (i := 12) rfl (by kernel_rfl) (by kernel_rfl) (by kernel_rfl) rfl (by decide) hQp rfl (fun w' hC' => (rv_move (hS.ev rfl))) hM.fr fun a hS => ?_
   obtain ⟨_, hx, hF⟩ := bind_some hF
   have hi0 := nnO_some hx
   refine an_take hS (i := 13) rfl (by kernel_rfl) (by kernel_rfl) (by kernel_rfl) rfl (by decide) hQp rfl (fun w' hC' => (rv_shl (hS.ev rfl) (hS.ev rfl) hi0)) hM.fr fun a hS => ?_
   refine an_take hS (i := 14) rfl (by kernel_rfl) (by kernel_rfl) (by kernel_rfl) rfl (by decide) hQp rfl (fun w' hC' => (rv_sub (hS.ev rfl) (hS.ev rfl))) hM.fr fun a hS => ?_
   refine an_two hS (i := 1) (j := 15) rfl rfl (by kernel_rfl) rfl rfl ?_ ?_
   ·refine wp_val hS rfl (by decide) (rv_load_bx (hS.ev rfl) ty_ag_24 (hM.get 1 rfl) rfl) fun a hS => ⟨hM.fr, ?_⟩
    obtain ⟨v102, w, hr, hM⟩ := Mem.litE (f := (int i64)) (dst := some 34) (ty := _) (pos := _) (af := _) (gd := _) (ps := [(0, .tmp 33)]) ([(i64.wrap ((i64.wrap ((i64.wrap ((shL 1 p0_g_Size) - 1)) - x101)) - (shL 1 x79)))] : List (Int)) i64_one hM hS Tryd.underlying24 ty_el_3 rfl rfl rfl rfl
    refine an_one hS (i := 15) rfl (by kernel_rfl) rfl ?_
    refine wp_val hS rfl (by decide) hr fun a hS => ⟨hM.fr, ?_⟩
    obtain ⟨_, hx, hF⟩ := bind_some hF
    have hM := hM.pk [1, 0, 2, 3, 4, 5, 6] (by decide) (pc rfl (pc rfl (pc rfl (pc rfl (pc rfl (pc rfl (pc rfl pn)))))))
    obtain ⟨v103, w, hr, hM⟩ := Mem.appE (f := (int i64)) (S := _) (R := [(true, ow 3 v102 (List.map (int i64) ([(i64.wrap ((i64.wrap ((i64.wrap ((shL 1 p0_g_Size) - 1)) - x101)) - (shL 1 x79)))] : List (Int)))), (true, bx b17 26 [(int i64 p0_g_Size), v77]), (false, bx b4 26 [(int i64 p0_g_Size), p0_g_Rowsv]), (false, rd p0_g_Rowsv (List.map (int i64) p0_g_Rows)), (false, bx b5 26 [(int i64 0), (Value.slice none 0 0)]), (false, ow 3 (Value.slice none 0 0) (List.map (int i64) ([] : List (Int))))]) (ρ := a.eval) (dst := some 35) (ty := _) (pos := _) (af := _) (gd := _) (x := .tmp 20) (y := .tmp 34) i64_one hM Tryd.underlying24 ty_el_3 rfl (by decide) (hS.ev rfl) (hS.ev rfl) (rd_of_ow (hM.get 1 rfl)) (catO_some hx)
    refine an_one hS (i := 16) rfl (by kernel_rfl) rfl ?_
    refine wp_val hS rfl (by decide) hr fun a hS => ⟨hM.fr, ?_⟩
    refine an_take hS (i := 17) rfl (by kernel_rfl) (by kernel_rfl) (by kernel_rfl) rfl (by decide) hQp rfl (fun w' hC' => (rv_fieldAddr ty_fd_26_1 (hS.ev rfl))) hM.fr fun a hS => ?_
    have hM := hM.pk [2, 0, 1, 3, 4, 5, 6] (by decide) (pc rfl (pc rfl (pc rfl (pc rfl (pc rfl (pc rfl (pc rfl pn)))))))
    obtain ⟨w, hr, hM⟩ := hM.st_bx1 (n := 1) (cs' := [(int i64 p0_g_Size), v103]) (ρ := a.eval) (dst := none) (ty := _) (pos := _) (af := _) (gd := _) (x := .tmp 36) (y := .tmp 35) (hS.ev rfl) (hS.ev rfl) ty_sz_24 (rd_one (rd_of_ow (hM.get 1 rfl))) rfl rfl
    refine an_one hS (i := 18) rfl (by kernel_rfl) rfl ?_
    refine wp_unit hS rfl hr ⟨hM.fr, ?_⟩
    refine an_done (by kernel_rfl) ?_
    have hN := hM.pk [0, 1, 2] (by decide) (pc rfl (pc rfl (pc rfl pn)))
    have hM := Mem.callo (A := [(true, ow 3 v77 (List.map (int i64) l78)), (true, bx b17 26 [(int i64 p0_g_Size), v77])]) (B := [(true, bx b4 26 [(int i64 p0_g_Size), p0_g_Rowsv]), (false, rd p0_g_Rowsv (List.map (int i64) p0_g_Rows)), (true, bx b5 26 [(int i64 0), (Value.slice none 0 0)]), (true, ow 3 (Value.slice none 0 0) (List.map (int i64) ([] : List (Int))))]) hB rfl (hN.memS fun _ h => h) rfl
    exact hJ3 (l78 ++ ([(i64.wrap ((i64.wrap ((i64.wrap ((shL 1 p0_g_Size) - 1)) - x101)) - (shL 1 x79)))] : List (Int))) v103 _ _ (hS.sub (sub_cons rfl (sub_cons rfl (sub_cons rfl (sub_cons rfl sub_nil))))) (hM.pk [3, 4, 5, 6, 0, 1] (by decide) (pc rfl (pc rfl (pc rfl (pc rfl (pc rfl (pc rfl pn))))))) hF
   ·obtain ⟨v102, w, hr, hM⟩ := Mem.litE (f := (int i64)) (dst := some 34) (ty := _) (pos := _) (af := _) (gd := _) (ps := [(0, .tmp 33)]) ([(i64.wrap ((i64.wrap ((i64.wrap ((shL 1 p0_g_Size) - 1)) - x101)) - (shL 1 x79)))] : List (Int)) i64_one hM hS Tryd.underlying24 ty_el_3 rfl rfl rfl rfl
    refine wp_val hS rfl (by decide) hr fun a hS => ⟨hM.fr, ?_⟩
    refine an_one hS (i := 1) rfl (by kernel_rfl) rfl ?_
    refine wp_val hS rfl (by decide) (rv_load_bx (hS.ev rfl) ty_ag_24 (hM.get 2 rfl) rfl) fun a hS => ⟨hM.fr, ?_⟩
    obtain ⟨_, hx, hF⟩ := bind_some hF
    have hM := hM.pk [1, 0, 2, 3, 4, 5, 6] (by decide) (pc rfl (pc rfl (pc rfl (pc rfl (pc rfl (pc rfl (pc rfl pn)))))))
    obtain ⟨v103, w, hr, hM⟩ := Mem.appE (f := (int i64)) (S := _) (R := [(true, ow 3 v102 (List.map (int i64) ([(i64.wrap ((i64.wrap ((i64.wrap ((shL 1 p0_g_Size) - 1)) - x101)) - (shL 1 x79)))] : List (Int)))), (true, bx b17 26 [(int i64 p0_g_Size), v77]), (false, bx b4 26 [(int i64 p0_g_Size), p0_g_Rowsv]), (false, rd p0_g_Rowsv (List.map (int i64) p0_g_Rows)), (false, bx b5 26 [(int i64 0), (Value.slice none 0 0)]), (false, ow 3 (Value.slice none 0 0) (List.map (int i64) ([] : List (Int))))]) (ρ := a.eval) (dst := some 35) (ty := _) (pos := _) (af := _) (gd := _) (x := .tmp 20) (y := .tmp 34) i64_one hM Tryd.underlying24 ty_el_3 rfl (by decide) (hS.ev rfl) (hS.ev rfl) (rd_of_ow (hM.get 1 rfl)) (catO_some hx)
    refine an_one hS (i := 16) rfl (by kernel_rfl) rfl ?_
    refine wp_val hS rfl (by decide) hr fun a hS => ⟨hM.fr, ?_⟩
    refine an_take hS (i := 17) rfl (by kernel_rfl) (by kernel_rfl) (by kernel_rfl) rfl (by decide) hQp rfl (fun w' hC' => (rv_fieldAddr ty_fd_26_1 (hS.ev rfl))) hM.fr fun a hS => ?_
    have hM := hM.pk [2, 0, 1, 3, 4, 5, 6] (by decide) (pc rfl (pc rfl (pc rfl (pc rfl (pc rfl (pc rfl (pc rfl pn)))))))
    obtain ⟨w, hr, hM⟩ := hM.st_bx1 (n := 1) (cs' := [(int i64 p0_g_Size), v103]) (ρ := a.eval) (dst := none) (ty := _) (pos := _) (af := _) (gd := _) (x := .tmp 36) (y := .tmp 35) (hS.ev rfl) (hS.ev rfl) ty_sz_24 (rd_one (rd_of_ow (hM.get 1 rfl))) rfl rfl
    refine an_one hS (i := 18) rfl (by kernel_rfl) rfl ?_
    refine wp_unit hS rfl hr ⟨hM.fr, ?_⟩
    refine an_done (by kernel_rfl) ?_
    have hN := hM.pk [0, 1, 2] (by decide) (pc rfl (pc rfl (pc rfl pn)))
    have hM := Mem.callo (A := [(true, ow 3 v77 (List.map (int i64) l78)), (true, bx b17 26 [(int i64 p0_g_Size), v77])]) (B := [(true, bx b4 26 [(int i64 p0_g_Size), p0_g_Rowsv]), (false, rd p0_g_Rowsv (List.map (int i64) p0_g_Rows)), (true, bx b5 26 [(int i64 0), (Value.slice none 0 0)]), (true, ow 3 (Value.slice none 0 0) (List.map (int i64) ([] : List (Int))))]) hB rfl (hN.memS fun _ h => h) rfl
    exact hJ3 (l78 ++ ([(i64.wrap ((i64.wrap ((i64.wrap ((shL 1 p0_g_Size) - 1)) - x101)) - (shL 1 x79)))] : List (Int))) v103 _ _ (hS.sub (sub_cons rfl (sub_cons rfl (sub_cons rfl (sub_cons rfl sub_nil))))) (hM.pk [3, 4, 5, 6, 0, 1] (by decide) (pc rfl (pc rfl (pc rfl (pc rfl (pc rfl (pc rfl pn))))))) hF
  ·refine cond_f hS rfl hc ?_
   refine wp_exit ?_
   cases hF
   exact hJ1 l78 v77 _ _ (hS.sub (sub_cons rfl (sub_cons rfl sub_nil))) (hM.pk [2, 3, 4, 5] (by decide) (pc rfl (pc rfl (pc rfl (pc rfl pn))))) (by have e := hX2 _ rfl; subst e; exact hF2)


theorem c_spec_EqualGraphs (F : Nat) (p0_a_Size : Int) (p0_a_Rows : List Int) (p1_b_Size : Int) (p1_b_Rows : List Int) (p0_a_Rowsv : Value) (p1_b_Rowsv : Value) {r : Bool} (hF : S_spec_EqualGraphs F p0_a_Size p0_a_Rows p1_b_Size p1_b_Rows = some r) (w0 : World) (h0 : RdRow w0 p0_a_Rowsv (List.map (int i64) p0_a_Rows)) (h1 : RdRow w0 p1_b_Rowsv (List.map (int i64) p1_b_Rows)) :
    Calls Tryd.prog 28 [(Value.agg #[(int i64 p0_a_Size), p0_a_Rowsv]), (Value.agg #[(int i64 p1_b_Size), p1_b_Rowsv])].toArray w0 (retPost fun v w' => v = (Value.bool r) ∧ Mem Nob w0 w' []) := by
 have hM : Mem Nob w0 w0 [(false, rd p0_a_Rowsv (List.map (int i64) p0_a_Rows)), (false, rd p1_b_Rowsv (List.map (int i64) p1_b_Rows))] := (Mem.rcons (Mem.rcons (Mem.nil w0) h1 (by simp)) h0 (by simp))
 refine enter2 Tryd.func28 rfl rfl rfl fun Q a hQr hQn hQp hS => ?_
 have hS : Sl 38 [(0, (Value.agg #[(int i64 p0_a_Size), p0_a_Rowsv])), (1, (Value.agg #[(int i64 p1_b_Size), p1_b_Rowsv]))] a := hS
 unfold S_spec_EqualGraphs at hF
 refine wp_seq_k fun K1 hK1 => ?_
 refine wp_region_lit ?_
 obtain ⟨b4, w, hr, hM⟩ := hM.boxE (ρ := a.eval) (dst := some 2) (ty := _) (pos := _) (af := _) (gd := _) (x := .tmp 0) (T := 26) [(int i64 p0_a_Size), p0_a_Rowsv] (hS.ev rfl) rfl
 refine st_val hS rfl rfl (by decide) hr fun a hS => ?_
 obtain ⟨b5, w, hr, hM⟩ := hM.boxE (ρ := a.eval) (dst := some 3) (ty := _) (pos := _) (af := _) (gd := _) (x := .tmp 1) (T := 26) [(int i64 p1_b_Size), p1_b_Rowsv] (hS.ev rfl) rfl
 refine st_val hS rfl rfl (by decide) hr fun a hS => ?_
 refine st_val hS rfl rfl (by decide) (rv_assign (hS.ev rfl)) fun a hS => ?_
 refine wpList_nil ?_
 refine hK1 _ _ ?_
 refine wp_seq_k fun K6 hK6 => ?_
 refine wp_seq_k fun K10 hK10 => ?_
 have hJ1 : ∀ (p11 : Bool) (a : Act) (w : World), Sl 38 [(2, (fdp b4 0)), (3, (fdp b5 0)), (19, (Value.bool p11))] a → Mem Nob w0 w [(true, bx b4 26 [(int i64 p0_a_Size), p0_a_Rowsv]), (false, rd p0_a_Rowsv (List.map (int i64) p0_a_Rows)), (true, bx b5 26 [(int i64 p1_b_Size), p1_b_Rowsv]), (false, rd p1_b_Rowsv (List.map (int i64) p1_b_Rows))] → S_spec_EqualGraphs_j1 F p0_a_Rows p1_b_Rows p11 = some r → K10 a w := by
  intro p11 a w hS hM hF
  unfold S_spec_EqualGraphs_j1 at hF
  refine hK10 _ _ ?_
  rcases ite_some hF with ⟨hc, hF⟩ | ⟨hc, hF⟩
  ·refine cond_t hS rfl hc ?_
   refine wp_seq_k fun K12 hK12 => ?_
   refine wp_region_lit ?_
   refine st_val hS rfl rfl (by decide) (rv_assign (hS.ev rfl)) fun a hS => ?_
   refine wpList_nil ?_
   refine hK12 _ _ ?_
   have hS : Sl 38 [(4, (Value.bool false))] a := hS.sub (sub_cons rfl sub_nil)
   have hM := hM.pk [] (by decide) pn
   refine wp_ret ?_
   cases hF
   exact hQr _ _ (r_1 hS rfl rfl ⟨rfl, hM.pk [] (by decide) pn⟩)
  ·refine cond_f hS rfl hc ?_
   refine wp_skip ?_
   refine hK6 _ _ ?_
   refine wp_seq_k fun K13 hK13 => ?_
   have hJ2 : ∀ (a : Act) (w : World), Sl 38 [] a → Mem Nob w0 w [] → S_spec_EqualGraphs_j2 F = some r → K13 a w := by
    intro a w hS hM hF
    unfold S_spec_EqualGraphs_j2 at hF
    refine hK13 _ _ ?_
    refine wp_seq_k fun K48 hK48 => ?_
    refine wp_region_lit ?_
    refine st_val hS rfl rfl (by decide) (rv_assign (hS.ev rfl)) fun a hS => ?_
    refine wpList_nil ?_
    refine hK48 _ _ ?_
    refine wp_ret ?_
    cases hF
    exact hQr _ _ (r_1 hS rfl rfl ⟨rfl, hM.pk [] (by decide) pn⟩)
   refine wp_seq_k fun K49 hK49 => ?_
   refine wp_region_lit ?_
   refine st_val hS rfl rfl (by decide) (rv_assign (hS.ev rfl)) fun a hS => ?_
   refine wpList_nil ?_
   refine hK49 _ _ ?_
   refine wp_block ?_
   obtain ⟨lb3, hl3, hF3⟩ := bind_some hF
   refine wp_loop_sh (fun s => S_spec_EqualGraphs_l3 F p0_a_Rows p1_b_Rows s) (fun s a w => Sl 38 [(2, (fdp b4 0)), (3, (fdp b5 0)), (5, (int i64 s))] a ∧ Mem Nob w0 w [(true, bx b4 26 [(int i64 p0_a_Size), p0_a_Rowsv]), (false, rd p0_a_Rowsv (List.map (int i64) p0_a_Rows)), (true, bx b5 26 [(int i64 p1_b_Size), p1_b_Rowsv]), (false, rd p1_b_Rowsv (List.map (int i64) p1_b_Rows))]) hl3 ⟨(hS.sub (sub_cons rfl (sub_cons rfl (sub_cons rfl sub_nil)))), (hM.pk [0, 1, 2, 3] (by decide) (pc rfl (pc rfl (pc rfl (pc rfl pn)))))⟩ ?_
   rintro K3 x50 a w res3 ⟨hS, hM⟩ hF hN3 hX3
   have hF : S_spec_EqualGraphs_l3 F p0_a_Rows p1_b_Rows x50 = some res3 := hF
   have hS : Sl 38 [(2, (fdp b4 0)), (3, (fdp b5 0)), (5, (int i64 x50))] a := hS
   have hM : Mem Nob w0 w [(true, bx b4 26 [(int i64 p0_a_Size), p0_a_Rowsv]), (false, rd p0_a_Rowsv (List.map (int i64) p0_a_Rows)), (true, bx b5 26 [(int i64 p1_b_Size), p1_b_Rowsv]), (false, rd p1_b_Rowsv (List.map (int i64) p1_b_Rows))] := hM
   unfold S_spec_EqualGraphs_l3 at hF
   refine wp_seq_k fun K67 hK67 => ?_
   refine wp_seq_k fun K69 hK69 => ?_
   refine wp_region_lit ?_
   refine st_val hS rfl rfl (by decide) (rv_move (hS.ev rfl)) fun a hS => ?_
   refine st_val hS rfl rfl (by decide) (rv_fieldAddr ty_fd_26_1 (hS.ev rfl)) fun a hS => ?_
   refine st_val hS rfl rfl (by decide) (rv_load_bx (hS.ev rfl) ty_ag_24 (hM.get 0 rfl) rfl) fun a hS => ?_
   refine st_val hS rfl rfl (by decide) (rv_len_rowM Tryd.underlying24 (hS.ev rfl) (hM.get 1 rfl)) fun a hS => ?_
   refine st_val hS rfl rfl (by decide) (rv_lss (hS.ev rfl) (hS.ev rfl)) fun a hS => ?_
   refine wpList_nil ?_
   refine hK69 _ _ ?_
   rcases ite_some hF with ⟨hc, hF⟩ | ⟨hc, hF⟩
   ·refine cond_t hS rfl hc ?_
    refine wp_skip ?_
    refine hK67 _ _ ?_
    refine wp_seq_k fun K70 hK70 => ?_
    refine wp_block ?_
    refine wp_seq_k fun K77 hK77 => ?_
    refine an_startB 11 Nob ty_mixed (by kernel_rfl) fun w hf => ?_
    have hM := hM.fra hf
    have hB := hM
    have hM := hB.reg0
    try dsimp only [ro] at hM
    refine tkB hS 0 1 (by kernel_rfl) rfl rfl rfl hQp rfl (fun w' hC' => (rv_fieldAddr ty_fd_26_1 (hS.ev rfl))) hM.fr fun a hS => ?_
    refine tkB hS 1 3 (by kernel_rfl) rfl rfl rfl hQp rfl (fun w' hC' => (rv_load_bx (hS.ev rfl) ty_ag_24 ((hB.fra hC').get 0 rfl) rfl)) hM.fr fun a hS => ?_
    refine tkB hS 2 7 (by kernel_rfl) rfl rfl rfl hQp rfl (fun w' hC' => (rv_move (hS.ev rfl))) hM.fr fun a hS => ?_
    obtain ⟨x80, hx, hF⟩ := bind_some hF
    obtain ⟨hi0, hi1, hex80⟩ := idxL_some hx
    refine tkB hS 3 15 (by kernel_rfl) rfl rfl rfl hQp rfl (fun w' hC' => (rv_indexAddr Tryd.underlying24 ty_el_3 (hS.ev rfl) (hS.ev rfl) (hM.get 1 rfl) hi0 (map_len hi1))) hM.fr fun a hS => ?_
    refine tkB hS 4 31 (by kernel_rfl) rfl rfl rfl hQp rfl (fun w' hC' => (rv_load_el (hS.ev rfl) ty_ag_3 ((hB.fra hC').get 1 rfl) (mget hex80))) hM.fr fun a hS => ?_
    refine tkB hS 5 63 (by kernel_rfl) rfl rfl rfl hQp rfl (fun w' hC' => (rv_fieldAddr ty_fd_26_1 (hS.ev rfl))) hM.fr fun a hS => ?_
    refine tkB hS 6 127 (by kernel_rfl) rfl rfl rfl hQp rfl (fun w' hC' => (rv_load_bx (hS.ev rfl) ty_ag_24 ((hB.fra hC').get 2 rfl) rfl)) hM.fr fun a hS => ?_
    refine tkB hS 7 255 (by kernel_rfl) rfl rfl rfl hQp rfl (fun w' hC' => (rv_move (hS.ev rfl))) hM.fr fun a hS => ?_
    obtain ⟨x81, hx, hF⟩ := bind_some hF
    obtain ⟨hi0, hi1, hex81⟩ := idxL_some hx
    refine tkB hS 8 511 (by kernel_rfl) rfl rfl rfl hQp rfl (fun w' hC' => (rv_indexAddr Tryd.underlying24 ty_el_3 (hS.ev rfl) (hS.ev rfl) (hM.get 3 rfl) hi0 (map_len hi1))) hM.fr fun a hS => ?_
    refine tkB hS 9 1023 (by kernel_rfl) rfl rfl rfl hQp rfl (fun w' hC' => (rv_load_el (hS.ev rfl) ty_ag_3 ((hB.fra hC').get 3 rfl) (mget hex81))) hM.fr fun a hS => ?_
    refine tkB hS 10 2047 (by kernel_rfl) rfl rfl rfl hQp rfl (fun w' hC' => (rv_neq (hS.ev rfl) (hS.ev rfl))) hM.fr fun a hS => ?_
    refine an_done (by kernel_rfl) ?_
    have hN := hM.pk [] (by decide) pn
    have hM := Mem.callo0 hB hN rfl
    refine hK77 _ _ ?_
    have hS : Sl 38 [(2, (fdp b4 0)), (3, (fdp b5 0)), (5, (int i64 x50)), (37, (Value.bool (x80 != x81)))] a := hS.sub (sub_cons rfl (sub_cons rfl (sub_cons rfl (sub_cons rfl sub_nil))))
    rcases ite_some hF with ⟨hc, hF⟩ | ⟨hc, hF⟩
    ·refine cond_t hS rfl hc ?_
     refine wp_seq_k fun K82 hK82 => ?_
     refine wp_region_lit ?_
     refine st_val hS rfl rfl (by decide) (rv_assign (hS.ev rfl)) fun a hS => ?_
     refine wpList_nil ?_
     refine hK82 _ _ ?_
     have hS : Sl 38 [(4, (Value.bool false))] a := hS.sub (sub_cons rfl sub_nil)
     have hM := hM.pk [] (by decide) pn
     refine wp_ret ?_
     cases hF
     have e := hX3 _ rfl
     subst e
     have hF := hF3
     cases hF
     exact hQr _ _ (r_1 hS rfl rfl ⟨rfl, hM.pk [] (by decide) pn⟩)
    ·refine cond_f hS rfl hc ?_
     refine wp_skip ?_
     refine hK70 _ _ ?_
     refine wp_region_lit ?_
     refine st_val hS rfl rfl (by decide) (rv_move (hS.ev rfl)) fun a hS => ?_
     refine st_val hS rfl rfl (by decide) (rv_add (hS.ev rfl) (hS.ev rfl)) fun a hS => ?_
     refine st_val hS rfl rfl (by decide) (rv_assign (hS.ev rfl)) fun a hS => ?_
     refine wpList_nil ?_
     cases hF
     exact hN3 _ _ _ rfl ⟨(hS.sub (sub_cons rfl (sub_cons rfl (sub_cons rfl sub_nil)))), (hM.pk [0, 1, 2, 3] (by decide) (pc rfl (pc rfl (pc rfl (pc rfl pn)))))⟩
   ·refine cond_f hS rfl hc ?_
    refine wp_exit ?_
    cases hF
    exact hJ2 _ _ (hS.sub sub_nil) (hM.pk [] (by decide) pn) (by have e := hX3 _ rfl; subst e; exact hF3)
 refine wp_region_lit ?_
 refine st_val hS rfl rfl (by decide) (rv_fieldAddr ty_fd_26_0 (hS.ev rfl)) fun a hS => ?_
 refine st_val hS rfl rfl (by decide) (rv_load_bx (hS.ev rfl) ty_ag_3 (hM.get 1 rfl) rfl) fun a hS => ?_
 refine st_val hS rfl rfl (by decide) (rv_fieldAddr ty_fd_26_0 (hS.ev rfl)) fun a hS => ?_
 refine st_val hS rfl rfl (by decide) (rv_load_bx (hS.ev rfl) ty_ag_3 (hM.get 0 rfl) rfl) fun a hS => ?_
 refine st_val hS rfl rfl (by decide) (rv_neq (hS.ev rfl) (hS.ev rfl)) fun a hS => ?_
 refine st_val hS rfl rfl (by decide) (rv_move (hS.ev rfl)) fun a hS => ?_
 rcases ite_some hF with ⟨hc, hF⟩ | ⟨hc, hF⟩
 ·have hS := hS.setb (t := 11) rfl hc
  refine st_skip hS rfl rfl (by decide) fun a hS => ?_
  refine st_skip hS rfl rfl (by decide) fun a hS => ?_
  refine st_skip hS rfl rfl (by decide) fun a hS => ?_
  refine st_skip hS rfl rfl (by decide) fun a hS => ?_
  refine st_skip hS rfl rfl (by decide) fun a hS => ?_
  refine st_skip hS rfl rfl (by decide) fun a hS => ?_
  refine st_skip hS rfl rfl (by decide) fun a hS => ?_
  refine st_val hS rfl rfl (by decide) (rv_pick_t (hS.ev rfl) (hS.ev rfl)) fun a hS => ?_
  refine wpList_nil ?_
  exact hJ1 true _ _ (hS.sub (sub_cons rfl (sub_cons rfl (sub_cons rfl sub_nil)))) (hM.pk [1, 2, 0, 3] (by decide) (pc rfl (pc rfl (pc rfl (pc rfl pn))))) hF
 ·have hS := hS.setb (t := 11) rfl hc
  refine st_val hS rfl rfl (by decide) (rv_fieldAddr ty_fd_26_1 (hS.ev rfl)) fun a hS => ?_
  refine st_val hS rfl rfl (by decide) (rv_load_bx (hS.ev rfl) ty_ag_24 (hM.get 1 rfl) rfl) fun a hS => ?_
  refine st_val hS rfl rfl (by decide) (rv_len_rowM Tryd.underlying24 (hS.ev rfl) (hM.get 2 rfl)) fun a hS => ?_
  refine st_val hS rfl rfl (by decide) (rv_fieldAddr ty_fd_26_1 (hS.ev rfl)) fun a hS => ?_
  refine st_val hS rfl rfl (by decide) (rv_load_bx (hS.ev rfl) ty_ag_24 (hM.get 0 rfl) rfl) fun a hS => ?_
  refine st_val hS rfl rfl (by decide) (rv_len_rowM Tryd.underlying24 (hS.ev rfl) (hM.get 3 rfl)) fun a hS => ?_
  refine st_val hS rfl rfl (by decide) (rv_neq (hS.ev rfl) (hS.ev rfl)) fun a hS => ?_
  refine st_val hS rfl rfl (by decide) (rv_pick_f (hS.ev rfl) (hS.ev rfl)) fun a hS => ?_
  refine wpList_nil ?_
  exact hJ1 ((p0_a_Rows.length : Int) != (p1_b_Rows.length : Int)) _ _ (hS.sub (sub_cons rfl (sub_cons rfl (sub_cons rfl sub_nil)))) (hM.pk [1, 2, 0, 3] (by decide) (pc rfl (pc rfl (pc rfl (pc rfl pn))))) hF


theorem c_impl_within (F : Nat) (p0_n : Int) (p1_low : Int) (p2_high : Int) {r : Bool} (hF : S_impl_within F p0_n p1_low p2_high = some r) (w0 : World) :
    Calls Tryd.prog 61 [(int i64 p0_n), (int i64 p1_low), (int i64 p2_high)].toArray w0 (retPost fun v w' => v = (Value.bool r) ∧ Mem Nob w0 w' []) := by
 have hM : Mem Nob w0 w0 [] := (Mem.nil w0)
 refine enter2 Tryd.func61 rfl rfl rfl fun Q a hQr hQn hQp hS => ?_
 have hS : Sl 15 [(0, (int i64 p0_n)), (1, (int i64 p1_low)), (2, (int i64 p2_high))] a := hS
 unfold S_impl_within at hF
 refine wp_seq_k fun K1 hK1 => ?_
 refine wp_region_lit ?_
 refine st_val hS rfl rfl (by decide) (rv_assign (hS.ev rfl)) fun a hS => ?_
 refine wpList_nil ?_
 refine hK1 _ _ ?_
 refine wp_seq_k fun K2 hK2 => ?_
 have hJ1 : ∀ (p3 : Bool) (a : Act) (w : World), Sl 15 [(6, (Value.bool p3))] a → Mem Nob w0 w [] → S_impl_within_j1 F p3 = some r → K2 a w := by
  intro p3 a w hS hM hF
  unfold S_impl_within_j1 at hF
  refine hK2 _ _ ?_
  refine wp_ret ?_
  cases hF
  exact hQr _ _ (r_1 hS rfl rfl ⟨rfl, hM.pk [] (by decide) pn⟩)
 refine wp_region_lit ?_
 refine st_val hS rfl rfl (by decide) (rv_move (hS.ev rfl)) fun a hS => ?_
 refine st_val hS rfl rfl (by decide) (rv_move (hS.ev rfl)) fun a hS => ?_
 refine st_val hS rfl rfl (by decide) (rv_leq (hS.ev rfl) (hS.ev rfl)) fun a hS => ?_
 refine st_val hS rfl rfl (by decide) (rv_move (hS.ev rfl)) fun a hS => ?_
 rcases ite_some hF with ⟨hc, hF⟩ | ⟨hc, hF⟩
 ·have hS := hS.setb (t := 10) rfl hc
  refine st_val hS rfl rfl (by decide) (rv_move (hS.ev rfl)) fun a hS => ?_
  refine st_val hS rfl rfl (by decide) (rv_move (hS.ev rfl)) fun a hS => ?_
  refine st_val hS rfl rfl (by decide) (rv_leq (hS.ev rfl) (hS.ev rfl)) fun a hS => ?_
  refine st_val hS rfl rfl (by decide) (rv_pick_t (hS.ev rfl) (hS.ev rfl)) fun a hS => ?_
  refine st_val hS rfl rfl (by decide) (rv_assign (hS.ev rfl)) fun a hS => ?_
  refine wpList_nil ?_
  exact hJ1 (decide (p0_n ≤ p2_high)) _ _ (hS.sub (sub_cons rfl sub_nil)) (hM.pk [] (by decide) pn) hF
 ·have hS := hS.setb (t := 10) rfl hc
  refine st_skip hS rfl rfl (by decide) fun a hS => ?_
  refine st_skip hS rfl rfl (by decide) fun a hS => ?_
  refine st_skip hS rfl rfl (by decide) fun a hS => ?_
  refine st_val hS rfl rfl (by decide) (rv_pick_f (hS.ev rfl) (hS.ev rfl)) fun a hS => ?_
  refine st_val hS rfl rfl (by decide) (rv_assign (hS.ev rfl)) fun a hS => ?_
  refine wpList_nil ?_
  exact hJ1 false _ _ (hS.sub (sub_cons rfl sub_nil)) (hM.pk [] (by decide) pn) hF


theorem c_impl_has (F : Nat) (p0_set : Int) (p1_v : Int) {r : Bool} (hF : S_impl_has F p0_set p1_v = some r) (w0 : World) :
    Calls Tryd.prog 63 [(int i64 p0_set), (int i64 p1_v)].toArray w0 (retPost fun v w' => v = (Value.bool r) ∧ Mem Nob w0 w' []) := by
 have hM : Mem Nob w0 w0 [] := (Mem.nil w0)
 refine enter2 Tryd.func63 rfl rfl rfl fun Q a hQr hQn hQp hS => ?_
 have hS : Sl 10 [(0, (int i64 p0_set)), (1, (int i64 p1_v))] a := hS
 unfold S_impl_has at hF
 refine wp_seq_k fun K1 hK1 => ?_
 refine wp_region_lit ?_
 refine st_val hS rfl rfl (by decide) (rv_assign (hS.ev rfl)) fun a hS => ?_
 refine wpList_nil ?_
 refine hK1 _ _ ?_
 refine wp_seq_k fun K2 hK2 => ?_
 refine wp_region_lit ?_
 refine st_val hS rfl rfl (by decide) (rv_move (hS.ev rfl)) fun a hS => ?_
 refine st_val hS rfl rfl (by decide) (rv_move (hS.ev rfl)) fun a hS => ?_
 obtain ⟨_, hx, hF⟩ := bind_some hF
 have hi0 := nnO_some hx
 refine st_val hS rfl rfl (by decide) (rv_shr (hS.ev rfl) (hS.ev rfl) hi0) fun a hS => ?_
 refine st_val hS rfl rfl (by decide) (rv_and (hS.ev rfl) (hS.ev rfl)) fun a hS => ?_
 refine st_val hS rfl rfl (by decide) (rv_eql (hS.ev rfl) (hS.ev rfl)) fun a hS => ?_
 refine st_val hS rfl rfl (by decide) (rv_assign (hS.ev rfl)) fun a hS => ?_
 refine wpList_nil ?_
 refine hK2 _ _ ?_
 refine wp_ret ?_
 cases hF
 exact hQr _ _ (r_1 hS rfl rfl ⟨rfl, hM.pk [] (by decide) pn⟩)


theorem c_impl_IsGraph (F : Nat) (p0_g_Size : Int) (p0_g_Rows : List Int) (p0_g_Rowsv : Value) {r : Bool} (hF : S_impl_IsGraph F p0_g_Size p0_g_Rows = some r) (w0 : World) (h0 : RdRow w0 p0_g_Rowsv (List.map (int i64) p0_g_Rows)) :
    Calls Tryd.prog 40 [(Value.agg #[(int i64 p0_g_Size), p0_g_Rowsv])].toArray w0 (retPost fun v w' => v = (Value.bool r) ∧ Mem Nob w0 w' []) := by
 have hM : Mem Nob w0 w0 [(false, rd p0_g_Rowsv (List.map (int i64) p0_g_Rows))] := (Mem.rcons (Mem.nil w0) h0 (by simp))
 refine enter2 Tryd.func40 rfl rfl rfl fun Q a hQr hQn hQp hS => ?_
 have hS : Sl 66 [(0, (Value.agg #[(int i64 p0_g_Size), p0_g_Rowsv]))] a := hS
 unfold S_impl_IsGraph at hF
 refine wp_seq_k fun K1 hK1 => ?_
 refine wp_region_lit ?_
 obtain ⟨b3, w, hr, hM⟩ := hM.boxE (ρ := a.eval) (dst := some 1) (ty := _) (pos := _) (af := _) (gd := _) (x := .tmp 0) (T := 26) [(int i64 p0_g_Size), p0_g_Rowsv] (hS.ev rfl) rfl
 refine st_val hS rfl rfl (by decide) hr fun a hS => ?_
 refine st_val hS rfl rfl (by decide) (rv_assign (hS.ev rfl)) fun a hS => ?_
 refine wpList_nil ?_
 refine hK1 _ _ ?_
 refine wp_seq_k fun K4 hK4 => ?_
 refine wp_seq_k fun K10 hK10 => ?_
 have hJ1 : ∀ (p12 : Bool) (a : Act) (w : World), Sl 66 [(1, (fdp b3 0)), (19, (Value.bool p12))] a → Mem Nob w0 w [(true, bx b3 26 [(int i64 p0_g_Size), p0_g_Rowsv]), (false, rd p0_g_Rowsv (List.map (int i64) p0_g_Rows))] → S_impl_IsGraph_j1 F p0_g_Size p0_g_Rows p12 = some r → K10 a w := by
  intro p12 a w hS hM hF
  unfold S_impl_IsGraph_j1 at hF
  refine hK10 _ _ ?_
  rcases ite_some hF with ⟨hc, hF⟩ | ⟨hc, hF⟩
  ·refine cond_t hS rfl hc ?_
   refine wp_seq_k fun K13 hK13 => ?_
   refine wp_region_lit ?_
   refine st_val hS rfl rfl (by decide) (rv_assign (hS.ev rfl)) fun a hS => ?_
   refine wpList_nil ?_
   refine hK13 _ _ ?_
   refine wp_ret ?_
   cases hF
   exact hQr _ _ (r_1 hS rfl rfl ⟨rfl, hM.pk [] (by decide) pn⟩)
  ·refine cond_f hS rfl hc ?_
   refine wp_skip ?_
   refine hK4 _ _ ?_
   refine wp_seq_k fun K14 hK14 => ?_
   have hJ2 : ∀ (a : Act) (w : World), Sl 66 [(1, (fdp b3 0))] a → Mem Nob w0 w [(true, bx b3 26 [(int i64 p0_g_Size), p0_g_Rowsv]), (false, rd p0_g_Rowsv (List.map (int i64) p0_g_Rows))] → S_impl_IsGraph_j2 F p0_g_Rows = some r → K14 a w := by
    intro a w hS hM hF
    unfold S_impl_IsGraph_j2 at hF
    refine hK14 _ _ ?_
    refine wp_seq_k fun K63 hK63 => ?_
    have hJ3 : ∀ (a : Act) (w : World), Sl 66 [] a → Mem Nob w0 w [] → S_impl_IsGraph_j3 F = some r → K63 a w := by
     intro a w hS hM hF
     unfold S_impl_IsGraph_j3 at hF
     refine hK63 _ _ ?_
     refine wp_seq_k fun K260 hK260 => ?_
     refine wp_region_lit ?_
     refine st_val hS rfl rfl (by decide) (rv_assign (hS.ev rfl)) fun a hS => ?_
     refine wpList_nil ?_
     refine hK260 _ _ ?_
     refine wp_ret ?_
     cases hF
     exact hQr _ _ (r_1 hS rfl rfl ⟨rfl, hM.pk [] (by decide) pn⟩)
    refine wp_seq_k fun K261 hK261 => ?_
    refine wp_region_lit ?_
    refine st_val hS rfl rfl (by decide) (rv_fieldAddr ty_fd_26_1 (hS.ev rfl)) fun a hS => ?_
    refine st_val hS rfl rfl (by decide) (rv_load_bx (hS.ev rfl) ty_ag_24 (hM.get 0 rfl) rfl) fun a hS => ?_
    refine st_val hS rfl rfl (by decide) (rv_len_rowM Tryd.underlying24 (hS.ev rfl) (hM.get 1 rfl)) fun a hS => ?_
    refine st_val hS rfl rfl (by decide) (rv_move (hS.ev rfl)) fun a hS => ?_
    refine wpList_nil ?_
    refine hK261 _ _ ?_
    refine wp_block ?_
    obtain ⟨lb4, hl4, hF4⟩ := bind_some hF
    refine wp_loop_sh (fun s => S_impl_IsGraph_l4 F p0_g_Rows s) (fun s a w => Sl 66 [(1, (fdp b3 0)), (42, p0_g_Rowsv), (43, (int i64 (p0_g_Rows.length : Int))), (44, (int i64 s))] a ∧ Mem Nob w0 w [(true, bx b3 26 [(int i64 p0_g_Size), p0_g_Rowsv]), (false, rd p0_g_Rowsv (List.map (int i64) p0_g_Rows))]) hl4 ⟨(hS.sub (sub_cons rfl (sub_cons rfl (sub_cons rfl (sub_cons rfl sub_nil))))), (hM.pk [0, 1] (by decide) (pc rfl (pc rfl pn)))⟩ ?_
    rintro K4 x262 a w res4 ⟨hS, hM⟩ hF hN4 hX4
    have hF : S_impl_IsGraph_l4 F p0_g_Rows x262 = some res4 := hF
    have hS : Sl 66 [(1, (fdp b3 0)), (42, p0_g_Rowsv), (43, (int i64 (p0_g_Rows.length : Int))), (44, (int i64 x262))] a := hS
    have hM : Mem Nob w0 w [(true, bx b3 26 [(int i64 p0_g_Size), p0_g_Rowsv]), (false, rd p0_g_Rowsv (List.map (int i64) p0_g_Rows))] := hM
    unfold S_impl_IsGraph_l4 at hF
    refine wp_seq_k fun K360 hK360 => ?_
    refine wp_region_lit ?_
    refine st_val hS rfl rfl (by decide) (rv_lss (hS.ev rfl) (hS.ev rfl)) fun a hS => ?_
    refine wpList_nil ?_
    refine hK360 _ _ ?_
    refine wp_seq_k fun K361 hK361 => ?_
    rcases ite_some hF with ⟨hc, hF⟩ | ⟨hc, hF⟩
    ·refine cond_t hS rfl hc ?_
     refine wp_skip ?_
     refine hK361 _ _ ?_
     refine wp_seq_k fun K362 hK362 => ?_
     have hJ5 : ∀ (a : Act) (w : World), Sl 66 [(1, (fdp b3 0)), (42, p0_g_Rowsv), (43, (int i64 (p0_g_Rows.length : Int))), (44, (int i64 x262))] a → Mem Nob w0 w [(true, bx b3 26 [(int i64 p0_g_Size), p0_g_Rowsv]), (false, rd p0_g_Rowsv (List.map (int i64) p0_g_Rows))] → S_impl_IsGraph_j5 F x262 = some res4 → K362 a w := by
      intro a w hS hM hF
      unfold S_impl_IsGraph_j5 at hF
      refine hK362 _ _ ?_
      refine wp_region_lit ?_
      refine st_val hS rfl rfl (by decide) (rv_add (hS.ev rfl) (hS.ev rfl)) fun a hS => ?_
      refine st_val hS rfl rfl (by decide) (rv_move (hS.ev rfl)) fun a hS => ?_
      refine wpList_nil ?_
      cases hF
      exact hN4 _ _ _ rfl ⟨(hS.sub (sub_cons rfl (sub_cons rfl (sub_cons rfl (sub_cons rfl sub_nil))))), (hM.pk [0, 1] (by decide) (pc rfl (pc rfl pn)))⟩
     refine wp_block ?_
     refine wp_seq_k fun K410 hK410 => ?_
     refine wp_region_lit ?_
     refine st_val hS rfl rfl (by decide) (rv_move (hS.ev rfl)) fun a hS => ?_
     obtain ⟨x412, hx, hF⟩ := bind_some hF
     obtain ⟨hi0, hi1, hex412⟩ := idxL_some hx
     refine st_val hS rfl rfl (by decide) (rv_indexAddr Tryd.underlying24 ty_el_3 (hS.ev rfl) (hS.ev rfl) (hM.get 1 rfl) hi0 (map_len hi1)) fun a hS => ?_
     refine st_val hS rfl rfl (by decide) (rv_load_el (hS.ev rfl) ty_ag_3 (hM.get 1 rfl) (mget hex412)) fun a hS => ?_
     refine st_val hS rfl rfl (by decide) (rv_assign (hS.ev rfl)) fun a hS => ?_
     refine st_val hS rfl rfl (by decide) (rv_assign (hS.ev rfl)) fun a hS => ?_
     refine wpList_nil ?_
     refine hK410 _ _ ?_
     refine wp_seq_k fun K413 hK413 => ?_
     refine wp_region_lit ?_
     refine st_val hS rfl rfl (by decide) (rv_move (hS.ev rfl)) fun a hS => ?_
     refine st_val hS rfl rfl (by decide) (rv_move (hS.ev rfl)) fun a hS => ?_
     refine wpList_nil ?_
     refine hK413 _ _ ?_
     refine wp_block ?_
     obtain ⟨lb6, hl6, hF6⟩ := bind_some hF
     refine wp_loop_sh (fun s => S_impl_IsGraph_l6 F p0_g_Rows x262 x412 s) (fun s a w => Sl 66 [(1, (fdp b3 0)), (5, (int i64 x262)), (6, (int i64 x412)), (42, p0_g_Rowsv), (43, (int i64 (p0_g_Rows.length : Int))), (44, (int i64 x262)), (49, (int i64 x262)), (50, (int i64 s))] a ∧ Mem Nob w0 w [(true, bx b3 26 [(int i64 p0_g_Size), p0_g_Rowsv]), (false, rd p0_g_Rowsv (List.map (int i64) p0_g_Rows))]) hl6 ⟨(hS.sub (sub_cons rfl (sub_cons rfl (sub_cons rfl (sub_cons rfl (sub_cons rfl (sub_cons rfl (sub_cons rfl (sub_cons rfl sub_nil))))))))), (hM.pk [0, 1] (by decide) (pc rfl (pc rfl pn)))⟩ ?_
     rintro K6 x414 a w res6 ⟨hS, hM⟩ hF hN6 hX6
     have hF : S_impl_IsGraph_l6 F p0_g_Rows x262 x412 x414 = some res6 := hF
     have hS : Sl 66 [(1, (fdp b3 0)), (5, (int i64 x262)), (6, (int i64 x412)), (42, p0_g_Rowsv), (43, (int i64 (p0_g_Rows.length : Int))), (44, (int i64 x262)), (49, (int i64 x262)), (50, (int i64 x414))] a := hS
     have hM : Mem Nob w0 w [(true, bx b3 26 [(int i64 p0_g_Size), p0_g_Rowsv]), (false, rd p0_g_Rowsv (List.map (int i64) p0_g_Rows))] := hM
     unfold S_impl_IsGraph_l6 at hF
     refine wp_seq_k fun K436 hK436 => ?_
     refine wp_region_lit ?_
     refine st_val hS rfl rfl (by decide) (rv_lss (hS.ev rfl) (hS.ev rfl)) fun a hS => ?_
     refine wpList_nil ?_
     refine hK436 _ _ ?_
     refine wp_seq_k fun K437 hK437 => ?_
     rcases ite_some hF with ⟨hc, hF⟩ | ⟨hc, hF⟩
     ·refine cond_t hS rfl hc ?_
      refine wp_skip ?_
      refine hK437 _ _ ?_
      refine wp_seq_k fun K438 hK438 => ?_
      refine wp_block ?_
      refine wp_seq_k fun K448 hK448 => ?_
      refine wp_region_lit ?_
      refine st_val hS rfl rfl (by decide) (rv_move (hS.ev rfl)) fun a hS => ?_
      refine st_val hS rfl rfl (by decide) (rv_assign (hS.ev rfl)) fun a hS => ?_
      refine wpList_nil ?_
      refine hK448 _ _ ?_
      refine wp_seq_k fun K449 hK449 => ?_
      refine an_startB 11 Nob ty_mixed (by kernel_rfl) fun w hf => ?_
      have hM := hM.fra hf
      have hB := hM
      have hM := hB.reg0
      try dsimp only [ro] at hM
      refine tkB hS 0 1 (by kernel_rfl) rfl rfl rfl hQp rfl (fun w' hC' => (rv_move (hS.ev rfl))) hM.fr fun a hS => ?_
      refine tkB hS 1 3 (by kernel_rfl) rfl rfl rfl hQp rfl (fun w' hC' => (rv_move (hS.ev rfl))) hM.fr fun a hS => ?_
      refine tkB hS 3 11 (by kernel_rfl) rfl rfl rfl hQp rfl (fun w' hC' => (rv_fieldAddr ty_fd_26_1 (hS.ev rfl))) hM.fr fun a hS => ?_
      refine tkB hS 4 27 (by kernel_rfl) rfl rfl rfl hQp rfl (fun w' hC' => (rv_load_bx (hS.ev rfl) ty_ag_24 ((hB.fra hC').get 0 rfl) rfl)) hM.fr fun a hS => ?_
      refine tkB hS 5 59 (by kernel_rfl) rfl rfl rfl hQp rfl (fun w' hC' => (rv_move (hS.ev rfl))) hM.fr fun a hS => ?_
      obtain ⟨x453, hx, hF⟩ := bind_some hF
      obtain ⟨hi0, hi1, hex453⟩ := idxL_some hx
      refine tkB hS 6 123 (by kernel_rfl) rfl rfl rfl hQp rfl (fun w' hC' => (rv_indexAddr Tryd.underlying24 ty_el_3 (hS.ev rfl) (hS.ev rfl) (hM.get 1 rfl) hi0 (map_len hi1))) hM.fr fun a hS => ?_
      refine tkB hS 7 251 (by kernel_rfl) rfl rfl rfl hQp rfl (fun w' hC' => (rv_load_el (hS.ev rfl) ty_ag_3 ((hB.fra hC').get 1 rfl) (mget hex453))) hM.fr fun a hS => ?_
      refine tkB hS 8 507 (by kernel_rfl) rfl rfl rfl hQp rfl (fun w' hC' => (rv_move (hS.ev rfl))) hM.fr fun a hS => ?_
      obtain ⟨r454, hr, hF⟩ := bind_some hF
      refine an_oneB hS (i := 2) 511 (by kernel_rfl) rfl (by kernel_rfl) rfl ?_
      refine wp_call hS rfl rfl (by decide) fn_ok_63 rfl (c_impl_has F x412 x414 hr _) fun v w a hK hS => ?_
      obtain ⟨rfl, hN⟩ := hK
      have hM := hM.fra hN.fr
      refine ⟨hM.fr, ?_⟩
      obtain ⟨r455, hr, hF⟩ := bind_some hF
      refine an_oneB hS (i := 9) 1023 (by kernel_rfl) rfl (by kernel_rfl) rfl ?_
      refine wp_call hS rfl rfl (by decide) fn_ok_63 rfl (c_impl_has F x453 x262 hr _) fun v w a hK hS => ?_
      obtain ⟨rfl, hN⟩ := hK
      have hM := hM.fra hN.fr
      refine ⟨hM.fr, ?_⟩
      refine tkB hS 10 2047 (by kernel_rfl) rfl rfl rfl hQp rfl (fun w' hC' => (rv_bneq Tryd.underlying4 (hS.ev rfl) (hS.ev rfl))) hM.fr fun a hS => ?_
      refine an_done (by kernel_rfl) ?_
      have hN := hM.pk [] (by decide) pn
      have hM := Mem.callo0 hB hN rfl
      refine hK449 _ _ ?_
      have hS : Sl 66 [(1, (fdp b3 0)), (5, (int i64 x262)), (6, (int i64 x412)), (42, p0_g_Rowsv), (43, (int i64 (p0_g_Rows.length : Int))), (44, (int i64 x262)), (49, (int i64 x262)), (50, (int i64 x414)), (63, (Value.bool (r454 != r455)))] a := hS.sub (sub_cons rfl (sub_cons rfl (sub_cons rfl (sub_cons rfl (sub_cons rfl (sub_cons rfl (sub_cons rfl (sub_cons rfl (sub_cons rfl sub_nil)))))))))
      rcases ite_some hF with ⟨hc, hF⟩ | ⟨hc, hF⟩
      ·refine cond_t hS rfl hc ?_
       refine wp_seq_k fun K456 hK456 => ?_
       refine wp_region_lit ?_
       refine st_val hS rfl rfl (by decide) (rv_assign (hS.ev rfl)) fun a hS => ?_
       refine wpList_nil ?_
       refine hK456 _ _ ?_
       have hS : Sl 66 [(2, (Value.bool false))] a := hS.sub (sub_cons rfl sub_nil)
       have hM := hM.pk [] (by decide) pn
       refine wp_ret ?_
       cases hF
       have e := hX6 _ rfl
       subst e
       have hF := hF6
       cases hF
       have e := hX4 _ rfl
       subst e
       have hF := hF4
       cases hF
       exact hQr _ _ (r_1 hS rfl rfl ⟨rfl, hM.pk [] (by decide) pn⟩)
      ·refine cond_f hS rfl hc ?_
       refine wp_skip ?_
       refine hK438 _ _ ?_
       refine wp_region_lit ?_
       refine st_val hS rfl rfl (by decide) (rv_add (hS.ev rfl) (hS.ev rfl)) fun a hS => ?_
       refine st_val hS rfl rfl (by decide) (rv_move (hS.ev rfl)) fun a hS => ?_
       refine wpList_nil ?_
       cases hF
       exact hN6 _ _ _ rfl ⟨(hS.sub (sub_cons rfl (sub_cons rfl (sub_cons rfl (sub_cons rfl (sub_cons rfl (sub_cons rfl (sub_cons rfl (sub_cons rfl sub_nil))))))))), (hM.pk [0, 1] (by decide) (pc rfl (pc rfl pn)))⟩
     ·refine cond_f hS rfl hc ?_
      refine wp_exit ?_
      cases hF
      exact hJ5 _ _ (hS.sub (sub_cons rfl (sub_cons rfl (sub_cons rfl (sub_cons rfl sub_nil))))) (hM.pk [0, 1] (by decide) (pc rfl (pc rfl pn))) (by have e := hX6 _ rfl; subst e; exact hF6)
    ·refine cond_f hS rfl hc ?_
     refine wp_exit ?_
     cases hF
     exact hJ3 _ _ (hS.sub sub_nil) (hM.pk [] (by decide) pn) (by have e := hX4 _ rfl; subst e; exact hF4)
   refine wp_seq_k fun K457 hK457 => ?_
   refine wp_region_lit ?_
   refine st_val hS rfl rfl (by decide) (rv_fieldAddr ty_fd_26_1 (hS.ev rfl)) fun a hS => ?_
   refine st_val hS rfl rfl (by decide) (rv_load_bx (hS.ev rfl) ty_ag_24 (hM.get 0 rfl) rfl) fun a hS => ?_
   refine st_val hS rfl rfl (by decide) (rv_len_rowM Tryd.underlying24 (hS.ev rfl) (hM.get 1 rfl)) fun a hS => ?_
   refine st_val hS rfl rfl (by decide) (rv_move (hS.ev rfl)) fun a hS => ?_
   refine wpList_nil ?_
   refine hK457 _ _ ?_
   refine wp_block ?_
   obtain ⟨lb7, hl7, hF7⟩ := bind_some hF
   refine wp_loop_sh (fun s => S_impl_IsGraph_l7 F p0_g_Size p0_g_Rows s) (fun s a w => Sl 66 [(1, (fdp b3 0)), (21, p0_g_Rowsv), (22, (int i64 (p0_g_Rows.length : Int))), (23, (int i64 s))] a ∧ Mem Nob w0 w [(true, bx b3 26 [(int i64 p0_g_Size), p0_g_Rowsv]), (false, rd p0_g_Rowsv (List.map (int i64) p0_g_Rows))]) hl7 ⟨(hS.sub (sub_cons rfl (sub_cons rfl (sub_cons rfl (sub_cons rfl sub_nil))))), (hM.pk [0, 1] (by decide) (pc rfl (pc rfl pn)))⟩ ?_
   rintro K7 x458 a w res7 ⟨hS, hM⟩ hF hN7 hX7
   have hF : S_impl_IsGraph_l7 F p0_g_Size p0_g_Rows x458 = some res7 := hF
   have hS : Sl 66 [(1, (fdp b3 0)), (21, p0_g_Rowsv), (22, (int i64 (p0_g_Rows.length : Int))), (23, (int i64 x458))] a := hS
   have hM : Mem Nob w0 w [(true, bx b3 26 [(int i64 p0_g_Size), p0_g_Rowsv]), (false, rd p0_g_Rowsv (List.map (int i64) p0_g_Rows))] := hM
   unfold S_impl_IsGraph_l7 at hF
   refine wp_seq_k fun K482 hK482 => ?_
   refine wp_region_lit ?_
   refine st_val hS rfl rfl (by decide) (rv_lss (hS.ev rfl) (hS.ev rfl)) fun a hS => ?_
   refine wpList_nil ?_
   refine hK482 _ _ ?_
   refine wp_seq_k fun K483 hK483 => ?_
   rcases ite_some hF with ⟨hc, hF⟩ | ⟨hc, hF⟩
   ·refine cond_t hS rfl hc ?_
    refine wp_skip ?_
    refine hK483 _ _ ?_
    refine wp_seq_k fun K484 hK484 => ?_
    refine wp_block ?_
    refine wp_seq_k fun K495 hK495 => ?_
    refine wp_region_lit ?_
    refine st_val hS rfl rfl (by decide) (rv_move (hS.ev rfl)) fun a hS => ?_
    obtain ⟨x497, hx, hF⟩ := bind_some hF
    obtain ⟨hi0, hi1, hex497⟩ := idxL_some hx
    refine st_val hS rfl rfl (by decide) (rv_indexAddr Tryd.underlying24 ty_el_3 (hS.ev rfl) (hS.ev rfl) (hM.get 1 rfl) hi0 (map_len hi1)) fun a hS => ?_
    refine st_val hS rfl rfl (by decide) (rv_load_el (hS.ev rfl) ty_ag_3 (hM.get 1 rfl) (mget hex497)) fun a hS => ?_
    refine st_val hS rfl rfl (by decide) (rv_assign (hS.ev rfl)) fun a hS => ?_
    refine st_val hS rfl rfl (by decide) (rv_assign (hS.ev rfl)) fun a hS => ?_
    refine wpList_nil ?_
    refine hK495 _ _ ?_
    refine wp_seq_k fun K498 hK498 => ?_
    have hJ8 : ∀ (p501 : Bool) (a : Act) (w : World), Sl 66 [(1, (fdp b3 0)), (21, p0_g_Rowsv), (22, (int i64 (p0_g_Rows.length : Int))), (23, (int i64 x458)), (39, (Value.bool p501))] a → Mem Nob w0 w [(true, bx b3 26 [(int i64 p0_g_Size), p0_g_Rowsv]), (false, rd p0_g_Rowsv (List.map (int i64) p0_g_Rows))] → S_impl_IsGraph_j8 F x458 p501 = some res7 → K498 a w := by
     intro p501 a w hS hM hF
     unfold S_impl_IsGraph_j8 at hF
     refine hK498 _ _ ?_
     rcases ite_some hF with ⟨hc, hF⟩ | ⟨hc, hF⟩
     ·refine cond_t hS rfl hc ?_
      refine wp_seq_k fun K502 hK502 => ?_
      refine wp_region_lit ?_
      refine st_val hS rfl rfl (by decide) (rv_assign (hS.ev rfl)) fun a hS => ?_
      refine wpList_nil ?_
      refine hK502 _ _ ?_
      refine wp_ret ?_
      cases hF
      have e := hX7 _ rfl
      subst e
      have hF := hF7
      cases hF
      exact hQr _ _ (r_1 hS rfl rfl ⟨rfl, hM.pk [] (by decide) pn⟩)
     ·refine cond_f hS rfl hc ?_
      refine wp_skip ?_
      refine hK484 _ _ ?_
      refine wp_region_lit ?_
      refine st_val hS rfl rfl (by decide) (rv_add (hS.ev rfl) (hS.ev rfl)) fun a hS => ?_
      refine st_val hS rfl rfl (by decide) (rv_move (hS.ev rfl)) fun a hS => ?_
      refine wpList_nil ?_
      cases hF
      exact hN7 _ _ _ rfl ⟨(hS.sub (sub_cons rfl (sub_cons rfl (sub_cons rfl (sub_cons rfl sub_nil))))), (hM.pk [0, 1] (by decide) (pc rfl (pc rfl pn)))⟩
    refine wp_region_lit ?_
    refine st_val hS rfl rfl (by decide) (rv_move (hS.ev rfl)) fun a hS => ?_
    refine st_val hS rfl rfl (by decide) (rv_fieldAddr ty_fd_26_0 (hS.ev rfl)) fun a hS => ?_
    refine st_val hS rfl rfl (by decide) (rv_load_bx (hS.ev rfl) ty_ag_3 (hM.get 0 rfl) rfl) fun a hS => ?_
    obtain ⟨_, hx, hF⟩ := bind_some hF
    have hi0 := nnO_some hx
    refine st_val hS rfl rfl (by decide) (rv_shl (hS.ev rfl) (hS.ev rfl) hi0) fun a hS => ?_
    refine st_val hS rfl rfl (by decide) (rv_sub (hS.ev rfl) (hS.ev rfl)) fun a hS => ?_
    obtain ⟨r503, hr, hF⟩ := bind_some hF
    refine st_wp hS rfl (wp_call hS rfl rfl (by decide) fn_ok_61 rfl (c_impl_within F x497 0 (i64.wrap ((shL 1 p0_g_Size) - 1)) hr _) fun v w a hK hS => ?_)
    obtain ⟨rfl, hN⟩ := hK
    have hM := hM.fra hN.fr
    refine st_val hS rfl rfl (by decide) (rv_not (hS.ev rfl)) fun a hS => ?_
    refine st_val hS rfl rfl (by decide) (rv_move (hS.ev rfl)) fun a hS => ?_
    rcases ite_some hF with ⟨hc, hF⟩ | ⟨hc, hF⟩
    ·have hS := hS.setb (t := 35) rfl hc
     refine st_skip hS rfl rfl (by decide) fun a hS => ?_
     refine st_skip hS rfl rfl (by decide) fun a hS => ?_
     refine st_skip hS rfl rfl (by decide) fun a hS => ?_
     refine st_val hS rfl rfl (by decide) (rv_pick_t (hS.ev rfl) (hS.ev rfl)) fun a hS => ?_
     refine wpList_nil ?_
     exact hJ8 true _ _ (hS.sub (sub_cons rfl (sub_cons rfl (sub_cons rfl (sub_cons rfl (sub_cons rfl sub_nil)))))) (hM.pk [0, 1] (by decide) (pc rfl (pc rfl pn))) hF
    ·have hS := hS.setb (t := 35) rfl hc
     refine st_val hS rfl rfl (by decide) (rv_move (hS.ev rfl)) fun a hS => ?_
     refine st_val hS rfl rfl (by decide) (rv_move (hS.ev rfl)) fun a hS => ?_
     obtain ⟨r504, hr, hF⟩ := bind_some hF
     refine st_wp hS rfl (wp_call hS rfl rfl (by decide) fn_ok_63 rfl (c_impl_has F x497 x458 hr _) fun v w a hK hS => ?_)
     obtain ⟨rfl, hN⟩ := hK
     have hM := hM.fra hN.fr
     refine st_val hS rfl rfl (by decide) (rv_pick_f (hS.ev rfl) (hS.ev rfl)) fun a hS => ?_
     refine wpList_nil ?_
     exact hJ8 r504 _ _ (hS.sub (sub_cons rfl (sub_cons rfl (sub_cons rfl (sub_cons rfl (sub_cons rfl sub_nil)))))) (hM.pk [0, 1] (by decide) (pc rfl (pc rfl pn))) hF
   ·refine cond_f hS rfl hc ?_
    refine wp_exit ?_
    cases hF
    exact hJ2 _ _ (hS.sub (sub_cons rfl sub_nil)) (hM.pk [0, 1] (by decide) (pc rfl (pc rfl pn))) (by have e := hX7 _ rfl; subst e; exact hF7)
 refine wp_region_lit ?_
 refine st_val hS rfl rfl (by decide) (rv_fieldAddr ty_fd_26_0 (hS.ev rfl)) fun a hS => ?_
 refine st_val hS rfl rfl (by decide) (rv_load_bx (hS.ev rfl) ty_ag_3 (hM.get 0 rfl) rfl) fun a hS => ?_
 obtain ⟨r505, hr, hF⟩ := bind_some hF
 refine st_wp hS rfl (wp_call hS rfl rfl (by decide) fn_ok_61 rfl (c_impl_within F p0_g_Size 1 7 hr _) fun v w a hK hS => ?_)
 obtain ⟨rfl, hN⟩ := hK
 have hM := hM.fra hN.fr
 refine st_val hS rfl rfl (by decide) (rv_not (hS.ev rfl)) fun a hS => ?_
 refine st_val hS rfl rfl (by decide) (rv_move (hS.ev rfl)) fun a hS => ?_
 rcases ite_some hF with ⟨hc, hF⟩ | ⟨hc, hF⟩
 ·have hS := hS.setb (t := 12) rfl hc
  refine st_skip hS rfl rfl (by decide) fun a hS => ?_
  refine st_skip hS rfl rfl (by decide) fun a hS => ?_
  refine st_skip hS rfl rfl (by decide) fun a hS => ?_
  refine st_skip hS rfl rfl (by decide) fun a hS => ?_
  refine st_skip hS rfl rfl (by decide) fun a hS => ?_
  refine st_skip hS rfl rfl (by decide) fun a hS => ?_
  refine st_val hS rfl rfl (by decide) (rv_pick_t (hS.ev rfl) (hS.ev rfl)) fun a hS => ?_
  refine wpList_nil ?_
  exact hJ1 true _ _ (hS.sub (sub_cons rfl (sub_cons rfl sub_nil))) (hM.pk [0, 1] (by decide) (pc rfl (pc rfl pn))) hF
 ·have hS := hS.setb (t := 12) rfl hc
  refine st_val hS rfl rfl (by decide) (rv_fieldAddr ty_fd_26_1 (hS.ev rfl)) fun a hS => ?_
  refine st_val hS rfl rfl (by decide) (rv_load_bx (hS.ev rfl) ty_ag_24 (hM.get 0 rfl) rfl) fun a hS => ?_
  refine st_val hS rfl rfl (by decide) (rv_len_rowM Tryd.underlying24 (hS.ev rfl) (hM.get 1 rfl)) fun a hS => ?_
  refine st_val hS rfl rfl (by decide) (rv_fieldAddr ty_fd_26_0 (hS.ev rfl)) fun a hS => ?_
  refine st_val hS rfl rfl (by decide) (rv_load_bx (hS.ev rfl) ty_ag_3 (hM.get 0 rfl) rfl) fun a hS => ?_
  refine st_val hS rfl rfl (by decide) (rv_neq (hS.ev rfl) (hS.ev rfl)) fun a hS => ?_
  refine st_val hS rfl rfl (by decide) (rv_pick_f (hS.ev rfl) (hS.ev rfl)) fun a hS => ?_
  refine wpList_nil ?_
  exact hJ1 ((p0_g_Rows.length : Int) != p0_g_Size) _ _ (hS.sub (sub_cons rfl (sub_cons rfl sub_nil))) (hM.pk [0, 1] (by decide) (pc rfl (pc rfl pn))) hF


theorem c_impl_EdgesOf (F : Nat) (p0_g_Size : Int) (p0_g_Rows : List Int) (p0_g_Rowsv : Value) {r : (List (List Int))} (hF : S_impl_EdgesOf F p0_g_Size p0_g_Rows = some r) (w0 : World) (h0 : RdRow w0 p0_g_Rowsv (List.map (int i64) p0_g_Rows)) :
    Calls Tryd.prog 29 [(Value.agg #[(int i64 p0_g_Size), p0_g_Rowsv])].toArray w0 (retPost fun v w' => ∃ v423 hs424, v = v423 ∧ Mem Nob w0 w' [(true, mx 24 3 v423 hs424 (List.map (List.map (int i64)) r))]) := by
 have hM : Mem Nob w0 w0 [(false, rd p0_g_Rowsv (List.map (int i64) p0_g_Rows))] := (Mem.rcons (Mem.nil w0) h0 (by simp))
 refine enter2 Tryd.func29 rfl rfl rfl fun Q a hQr hQn hQp hS => ?_
 have hS : Sl 39 [(0, (Value.agg #[(int i64 p0_g_Size), p0_g_Rowsv]))] a := hS
 unfold S_impl_EdgesOf at hF
 refine wp_seq_k fun K1 hK1 => ?_
 refine wp_region_lit ?_
 obtain ⟨b3, w, hr, hM⟩ := hM.boxE (ρ := a.eval) (dst := some 1) (ty := _) (pos := _) (af := _) (gd := _) (x := .tmp 0) (T := 26) [(int i64 p0_g_Size), p0_g_Rowsv] (hS.ev rfl) rfl
 refine st_val hS rfl rfl (by decide) hr fun a hS => ?_
 refine st_val hS rfl rfl (by decide) (rv_assign (hS.ev rfl)) fun a hS => ?_
 refine wpList_nil ?_
 refine hK1 _ _ ?_
 refine wp_seq_k fun K4 hK4 => ?_
 refine wp_region_lit ?_
 obtain ⟨v6, w, hr, hM⟩ := Mem.mxLit0 (e2 := 3) (dst := some 7) (ty := _) (pos := _) (af := _) (gd := _) hM hS Tryd.underlying40 ty_el_24 rfl
 refine st_val hS rfl rfl (by decide) hr fun a hS => ?_
 refine st_val hS rfl rfl (by decide) (rv_assign (hS.ev rfl)) fun a hS => ?_
 refine wpList_nil ?_
 refine hK4 _ _ ?_
 refine wp_seq_k fun K7 hK7 => ?_
 refine wp_seq_k fun K12 hK12 => ?_
 refine wp_region_lit ?_
 refine st_val hS rfl rfl (by decide) (rv_load_agg (hS.ev rfl) ty_ag_26 (hM.get 1 rfl) ty_sz_26) fun a hS => ?_
 obtain ⟨r14, hr, hF⟩ := bind_some hF
 refine st_wp hS rfl (wp_call hS rfl rfl (by decide) fn_ok_40 rfl (c_impl_IsGraph F p0_g_Size p0_g_Rows p0_g_Rowsv hr _ (hM.get 2 rfl)) fun v w a hK hS => ?_)
 obtain ⟨rfl, hN⟩ := hK
 have hM := hM.fra hN.fr
 refine st_val hS rfl rfl (by decide) (rv_not (hS.ev rfl)) fun a hS => ?_
 refine wpList_nil ?_
 refine hK12 _ _ ?_
 rcases ite_some hF with ⟨hc, hF⟩ | ⟨hc, hF⟩
 ·refine cond_t hS rfl hc ?_
  refine wp_seq_k fun K15 hK15 => ?_
  refine wp_region_lit ?_
  refine st_val hS rfl rfl (by decide) (rv_move (hS.ev rfl)) fun a hS => ?_
  refine st_val hS rfl rfl (by decide) (rv_assign (hS.ev rfl)) fun a hS => ?_
  refine wpList_nil ?_
  refine hK15 _ _ ?_
  have hS : Sl 39 [(2, v6)] a := hS.sub (sub_cons rfl sub_nil)
  have hM := hM.pk [0] (by decide) (pc rfl pn)
  refine wp_ret ?_
  cases hF
  exact hQr _ _ (r_1 hS rfl rfl ⟨v6, [], rfl, hM.pk [0] (by decide) (pc rfl pn)⟩)
 ·refine cond_f hS rfl hc ?_
  refine wp_skip ?_
  refine hK7 _ _ ?_
  refine wp_seq_k fun K16 hK16 => ?_
  have hJ1 : ∀ (l220 : List (List Int)) (v218 : Value) (hs219 : List Value) (a : Act) (w : World), Sl 39 [(3, v218)] a → Mem Nob w0 w [(true, mx 24 3 v218 hs219 (List.map (List.map (int i64)) l220))] → S_impl_EdgesOf_j1 F l220 = some r → K16 a w := by
   intro l220 v218 hs219 a w hS hM hF
   unfold S_impl_EdgesOf_j1 at hF
   refine hK16 _ _ ?_
   refine wp_seq_k fun K221 hK221 => ?_
   refine wp_region_lit ?_
   refine st_val hS rfl rfl (by decide) (rv_move (hS.ev rfl)) fun a hS => ?_
   refine st_val hS rfl rfl (by decide) (rv_assign (hS.ev rfl)) fun a hS => ?_
   refine wpList_nil ?_
   refine hK221 _ _ ?_
   refine wp_ret ?_
   cases hF
   exact hQr _ _ (r_1 hS rfl rfl ⟨v218, hs219, rfl, hM.pk [0] (by decide) (pc rfl pn)⟩)
  refine wp_seq_k fun K222 hK222 => ?_
  refine wp_region_lit ?_
  refine st_val hS rfl rfl (by decide) (rv_fieldAddr ty_fd_26_1 (hS.ev rfl)) fun a hS => ?_
  refine st_val hS rfl rfl (by decide) (rv_load_bx (hS.ev rfl) ty_ag_24 (hM.get 1 rfl) rfl) fun a hS => ?_
  refine st_val hS rfl rfl (by decide) (rv_len_rowM Tryd.underlying24 (hS.ev rfl) (hM.get 2 rfl)) fun a hS => ?_
  refine st_val hS rfl rfl (by decide) (rv_move (hS.ev rfl)) fun a hS => ?_
  refine wpList_nil ?_
  refine hK222 _ _ ?_
  refine wp_block ?_
  obtain ⟨lb2, hl2, hF2⟩ := bind_some hF
  refine wp_loop_sh (fun s => S_impl_EdgesOf_l2 F p0_g_Size p0_g_Rows s.1 s.2) (fun s a w => ∃ (v223 : Value) (hs224 : List Value), Sl 39 [(1, (fdp b3 0)), (3, v223), (13, p0_g_Rowsv), (14, (int i64 (p0_g_Rows.length : Int))), (15, (int i64 s.2))] a ∧ Mem Nob w0 w [(true, bx b3 26 [(int i64 p0_g_Size), p0_g_Rowsv]), (false, rd p0_g_Rowsv (List.map (int i64) p0_g_Rows)), (true, mx 24 3 v223 hs224 (List.map (List.map (int i64)) s.1))]) hl2 ⟨v6, [], (hS.sub (sub_cons rfl (sub_cons rfl (sub_cons rfl (sub_cons rfl (sub_cons rfl sub_nil)))))), (hM.pk [1, 2, 0] (by decide) (pc rfl (pc rfl (pc rfl pn))))⟩ ?_
  rintro K2 ⟨l225, x226⟩ a w res2 ⟨v223, hs224, hS, hM⟩ hF hN2 hX2
  have hF : S_impl_EdgesOf_l2 F p0_g_Size p0_g_Rows l225 x226 = some res2 := hF
  have hS : Sl 39 [(1, (fdp b3 0)), (3, v223), (13, p0_g_Rowsv), (14, (int i64 (p0_g_Rows.length : Int))), (15, (int i64 x226))] a := hS
  have hM : Mem Nob w0 w [(true, bx b3 26 [(int i64 p0_g_Size), p0_g_Rowsv]), (false, rd p0_g_Rowsv (List.map (int i64) p0_g_Rows)), (true, mx 24 3 v223 hs224 (List.map (List.map (int i64)) l225))] := hM
  unfold S_impl_EdgesOf_l2 at hF
  refine wp_seq_k fun K325 hK325 => ?_
  refine wp_region_lit ?_
  refine st_val hS rfl rfl (by decide) (rv_lss (hS.ev rfl) (hS.ev rfl)) fun a hS => ?_
  refine wpList_nil ?_
  refine hK325 _ _ ?_
  refine wp_seq_k fun K326 hK326 => ?_
  rcases ite_some hF with ⟨hc, hF⟩ | ⟨hc, hF⟩
  ·refine cond_t hS rfl hc ?_
   refine wp_skip ?_
   refine hK326 _ _ ?_
   refine wp_seq_k fun K327 hK327 => ?_
   have hJ3 : ∀ (l376 : List (List Int)) (v374 : Value) (hs375 : List Value) (a : Act) (w : World), Sl 39 [(1, (fdp b3 0)), (3, v374), (13, p0_g_Rowsv), (14, (int i64 (p0_g_Rows.length : Int))), (15, (int i64 x226))] a → Mem Nob w0 w [(true, bx b3 26 [(int i64 p0_g_Size), p0_g_Rowsv]), (false, rd p0_g_Rowsv (List.map (int i64) p0_g_Rows)), (true, mx 24 3 v374 hs375 (List.map (List.map (int i64)) l376))] → S_impl_EdgesOf_j3 F x226 l376 = some res2 → K327 a w := by
    intro l376 v374 hs375 a w hS hM hF
    unfold S_impl_EdgesOf_j3 at hF
    refine hK327 _ _ ?_
    refine wp_region_lit ?_
    refine st_val hS rfl rfl (by decide) (rv_add (hS.ev rfl) (hS.ev rfl)) fun a hS => ?_
    refine st_val hS rfl rfl (by decide) (rv_move (hS.ev rfl)) fun a hS => ?_
    refine wpList_nil ?_
    cases hF
    exact hN2 _ _ _ rfl ⟨v374, hs375, (hS.sub (sub_cons rfl (sub_cons rfl (sub_cons rfl (sub_cons rfl (sub_cons rfl sub_nil)))))), (hM.pk [0, 1, 2] (by decide) (pc rfl (pc rfl (pc rfl pn))))⟩
   refine wp_block ?_
   refine wp_seq_k fun K377 hK377 => ?_
   refine wp_region_lit ?_
   refine st_val hS rfl rfl (by decide) (rv_move (hS.ev rfl)) fun a hS => ?_
   obtain ⟨x379, hx, hF⟩ := bind_some hF
   obtain ⟨hi0, hi1, hex379⟩ := idxL_some hx
   refine st_val hS rfl rfl (by decide) (rv_indexAddr Tryd.underlying24 ty_el_3 (hS.ev rfl) (hS.ev rfl) (hM.get 1 rfl) hi0 (map_len hi1)) fun a hS => ?_
   refine st_val hS rfl rfl (by decide) (rv_load_el (hS.ev rfl) ty_ag_3 (hM.get 1 rfl) (mget hex379)) fun a hS => ?_
   refine st_val hS rfl rfl (by decide) (rv_assign (hS.ev rfl)) fun a hS => ?_
   refine st_val hS rfl rfl (by decide) (rv_assign (hS.ev rfl)) fun a hS => ?_
   refine wpList_nil ?_
   refine hK377 _ _ ?_
   refine wp_seq_k fun K380 hK380 => ?_
   refine wp_region_lit ?_
   refine st_val hS rfl rfl (by decide) (rv_move (hS.ev rfl)) fun a hS => ?_
   refine st_val hS rfl rfl (by decide) (rv_add (hS.ev rfl) (hS.ev rfl)) fun a hS => ?_
   refine st_val hS rfl rfl (by decide) (rv_assign (hS.ev rfl)) fun a hS => ?_
   refine wpList_nil ?_
   refine hK380 _ _ ?_
   refine wp_block ?_
   obtain ⟨lb4, hl4, hF4⟩ := bind_some hF
   refine wp_loop_sh (fun s => S_impl_EdgesOf_l4 F p0_g_Size x226 x379 s.1 s.2) (fun s a w => ∃ (v381 : Value) (hs382 : List Value), Sl 39 [(1, (fdp b3 0)), (3, v381), (4, (int i64 x226)), (5, (int i64 x379)), (6, (int i64 s.2)), (13, p0_g_Rowsv), (14, (int i64 (p0_g_Rows.length : Int))), (15, (int i64 x226))] a ∧ Mem Nob w0 w [(true, bx b3 26 [(int i64 p0_g_Size), p0_g_Rowsv]), (false, rd p0_g_Rowsv (List.map (int i64) p0_g_Rows)), (true, mx 24 3 v381 hs382 (List.map (List.map (int i64)) s.1))]) hl4 ⟨v223, hs224, (hS.sub (sub_cons rfl (sub_cons rfl (sub_cons rfl (sub_cons rfl (sub_cons rfl (sub_cons rfl (sub_cons rfl (sub_cons rfl sub_nil))))))))), (hM.pk [0, 1, 2] (by decide) (pc rfl (pc rfl (pc rfl pn))))⟩ ?_
   rintro K4 ⟨l383, x384⟩ a w res4 ⟨v381, hs382, hS, hM⟩ hF hN4 hX4
   have hF : S_impl_EdgesOf_l4 F p0_g_Size x226 x379 l383 x384 = some res4 := hF
   have hS : Sl 39 [(1, (fdp b3 0)), (3, v381), (4, (int i64 x226)), (5, (int i64 x379)), (6, (int i64 x384)), (13, p0_g_Rowsv), (14, (int i64 (p0_g_Rows.length : Int))), (15, (int i64 x226))] a := hS
   have hM : Mem Nob w0 w [(true, bx b3 26 [(int i64 p0_g_Size), p0_g_Rowsv]), (false, rd p0_g_Rowsv (List.map (int i64) p0_g_Rows)), (true, mx 24 3 v381 hs382 (List.map (List.map (int i64)) l383))] := hM
   unfold S_impl_EdgesOf_l4 at hF
   refine wp_seq_k fun K404 hK404 => ?_
   refine wp_seq_k fun K406 hK406 => ?_
   refine wp_region_lit ?_
   refine st_val hS rfl rfl (by decide) (rv_move (hS.ev rfl)) fun a hS => ?_
   refine st_val hS rfl rfl (by decide) (rv_fieldAddr ty_fd_26_0 (hS.ev rfl)) fun a hS => ?_
   refine st_val hS rfl rfl (by decide) (rv_load_bx (hS.ev rfl) ty_ag_3 (hM.get 0 rfl) rfl) fun a hS => ?_
   refine st_val hS rfl rfl (by decide) (rv_lss (hS.ev rfl) (hS.ev rfl)) fun a hS => ?_
   refine wpList_nil ?_
   refine hK406 _ _ ?_
   rcases ite_some hF with ⟨hc, hF⟩ | ⟨hc, hF⟩
   ·refine cond_t hS rfl hc ?_
    refine wp_skip ?_
    refine hK404 _ _ ?_
    refine wp_seq_k fun K407 hK407 => ?_
    have hJ5 : ∀ (l416 : List (List Int)) (v414 : Value) (hs415 : List Value) (a : Act) (w : World), Sl 39 [(1, (fdp b3 0)), (3, v414), (4, (int i64 x226)), (5, (int i64 x379)), (6, (int i64 x384)), (13, p0_g_Rowsv), (14, (int i64 (p0_g_Rows.length : Int))), (15, (int i64 x226))] a → Mem Nob w0 w [(true, bx b3 26 [(int i64 p0_g_Size), p0_g_Rowsv]), (false, rd p0_g_Rowsv (List.map (int i64) p0_g_Rows)), (true, mx 24 3 v414 hs415 (List.map (List.map (int i64)) l416))] → S_impl_EdgesOf_j5 F x384 l416 = some res4 → K407 a w := by
     intro l416 v414 hs415 a w hS hM hF
     unfold S_impl_EdgesOf_j5 at hF
     refine hK407 _ _ ?_
     refine wp_region_lit ?_
     refine st_val hS rfl rfl (by decide) (rv_move (hS.ev rfl)) fun a hS => ?_
     refine st_val hS rfl rfl (by decide) (rv_add (hS.ev rfl) (hS.ev rfl)) fun a hS => ?_
     refine st_val hS rfl rfl (by decide) (rv_assign (hS.ev rfl)) fun a hS => ?_
     refine wpList_nil ?_
     cases hF
     exact hN4 _ _ _ rfl ⟨v414, hs415, (hS.sub (sub_cons rfl (sub_cons rfl (sub_cons rfl (sub_cons rfl (sub_cons rfl (sub_cons rfl (sub_cons rfl (sub_cons rfl sub_nil))))))))), (hM.pk [0, 1, 2] (by decide) (pc rfl (pc rfl (pc rfl pn))))⟩
    refine wp_block ?_
    refine wp_seq_k fun K417 hK417 => ?_
    refine wp_region_lit ?_
    refine st_val hS rfl rfl (by decide) (rv_move (hS.ev rfl)) fun a hS => ?_
    refine st_val hS rfl rfl (by decide) (rv_move (hS.ev rfl)) fun a hS => ?_
    obtain ⟨r419, hr, hF⟩ := bind_some hF
    refine st_wp hS rfl (wp_call hS rfl rfl (by decide) fn_ok_63 rfl (c_impl_has F x379 x384 hr _) fun v w a hK hS => ?_)
    obtain ⟨rfl, hN⟩ := hK
    have hM := hM.fra hN.fr
    refine wpList_nil ?_
    refine hK417 _ _ ?_
    rcases ite_some hF with ⟨hc, hF⟩ | ⟨hc, hF⟩
    ·refine cond_t hS rfl hc ?_
     refine wp_region_lit ?_
     refine st_val hS rfl rfl (by decide) (rv_move (hS.ev rfl)) fun a hS => ?_
     refine st_val hS rfl rfl (by decide) (rv_move (hS.ev rfl)) fun a hS => ?_
     refine st_val hS rfl rfl (by decide) (rv_move (hS.ev rfl)) fun a hS => ?_
     obtain ⟨v420, w, hr, hM⟩ := Mem.litE (f := (int i64)) (dst := some 34) (ty := _) (pos := _) (af := _) (gd := _) (ps := [(0, .tmp 32), (1, .tmp 33)]) ([x226, x384] : List (Int)) i64_one hM hS Tryd.underlying24 ty_el_3 rfl rfl rfl rfl
     refine st_val hS rfl rfl (by decide) hr fun a hS => ?_
     obtain ⟨v421, w, hr, hM⟩ := Mem.mxLit1 (dst := some 35) (ty := _) (pos := _) (af := _) (gd := _) (x := .tmp 34) hM hS Tryd.underlying40 ty_el_24 rfl rfl
     refine st_val hS rfl rfl (by decide) hr fun a hS => ?_
     obtain ⟨_, hx, hF⟩ := bind_some hF
     have hM := hM.pk [3, 0, 1, 2] (by decide) (pc rfl (pc rfl (pc rfl (pc rfl pn))))
     obtain ⟨v422, w, hr, hM⟩ := Mem.mxApp (ρ := a.eval) (dst := some 36) (ty := _) (pos := _) (af := _) (gd := _) (x := .tmp 31) (y := .tmp 35) hM Tryd.underlying40 ty_el_24 rfl (by decide) (hS.ev rfl) (hS.ev rfl) (by simpa using catO_some hx)
     have hM : Mem Nob w0 w [(true, mx 24 3 v422 (hs382 ++ [v420]) (List.map (List.map (int i64)) (l383 ++ ([([x226, x384] : List (Int))] : List (List Int))))), (true, bx b3 26 [(int i64 p0_g_Size), p0_g_Rowsv]), (false, rd p0_g_Rowsv (List.map (int i64) p0_g_Rows))] := by rw [List.map_append]; exact hM
     refine st_val hS rfl rfl (by decide) hr fun a hS => ?_
     refine st_val hS rfl rfl (by decide) (rv_assign (hS.ev rfl)) fun a hS => ?_
     refine wpList_nil ?_
     exact hJ5 (l383 ++ ([([x226, x384] : List (Int))] : List (List Int))) v422 (hs382 ++ [v420]) _ _ (hS.sub (sub_cons rfl (sub_cons rfl (sub_cons rfl (sub_cons rfl (sub_cons rfl (sub_cons rfl (sub_cons rfl (sub_cons rfl sub_nil))))))))) (hM.pk [1, 2, 0] (by decide) (pc rfl (pc rfl (pc rfl pn)))) hF
    ·refine cond_f hS rfl hc ?_
     refine wp_skip ?_
     exact hJ5 l383 v381 hs382 _ _ (hS.sub (sub_cons rfl (sub_cons rfl (sub_cons rfl (sub_cons rfl (sub_cons rfl (sub_cons rfl (sub_cons rfl (sub_cons rfl sub_nil))))))))) (hM.pk [0, 1, 2] (by decide) (pc rfl (pc rfl (pc rfl pn)))) hF
   ·refine cond_f hS rfl hc ?_
    refine wp_exit ?_
    cases hF
    exact hJ3 l383 v381 hs382 _ _ (hS.sub (sub_cons rfl (sub_cons rfl (sub_cons rfl (sub_cons rfl (sub_cons rfl sub_nil)))))) (hM.pk [0, 1, 2] (by decide) (pc rfl (pc rfl (pc rfl pn)))) (by have e := hX4 _ rfl; subst e; exact hF4)
  ·refine cond_f hS rfl hc ?_
   refine wp_exit ?_
   cases hF
   exact hJ1 l225 v223 hs224 _ _ (hS.sub (sub_cons rfl sub_nil)) (hM.pk [2] (by decide) (pc rfl pn)) (by have e := hX2 _ rfl; subst e; exact hF2)


theorem c_spec_l1New (F : Nat) (p0_code : List Int) (p0_codev : Value) {r : Int × Int} (hF : S_spec_l1New F p0_code = some r) (w0 : World) (h0 : RdRow w0 p0_codev (List.map (int IntKind.u8) p0_code)) :
    Calls Tryd.prog 71 [p0_codev].toArray w0 (retPost fun v w' => ∃ b46, v = (fdp b46 0) ∧ Mem Nob w0 w' [(true, bx b46 84 [p0_codev, (int i64 r.1), (int i64 r.2)])]) := by
 have hM : Mem Nob w0 w0 [(false, rd p0_codev (List.map (int IntKind.u8) p0_code))] := (Mem.rcons (Mem.nil w0) h0 (by simp))
 refine enter2 Tryd.func71 rfl rfl rfl fun Q a hQr hQn hQp hS => ?_
 have hS : Sl 32 [(0, p0_codev)] a := hS
 unfold S_spec_l1New at hF
 refine wp_seq_k fun K1 hK1 => ?_
 refine wp_region_lit ?_
 refine st_val hS rfl rfl (by decide) (rv_assign (hS.ev rfl)) fun a hS => ?_
 refine wpList_nil ?_
 refine hK1 _ _ ?_
 refine wp_seq_k fun K2 hK2 => ?_
 refine wp_region_lit ?_
 refine st_val hS rfl rfl (by decide) (rv_move (hS.ev rfl)) fun a hS => ?_
 refine st_val hS rfl rfl (by decide) (rv_len_rowM Tryd.underlying22 (hS.ev rfl) (hM.get 0 rfl)) fun a hS => ?_
 refine st_val hS rfl rfl (by decide) (rv_add (hS.ev rfl) (hS.ev rfl)) fun a hS => ?_
 refine st_val hS rfl rfl (by decide) (rv_assign (hS.ev rfl)) fun a hS => ?_
 refine wpList_nil ?_
 refine hK2 _ _ ?_
 refine wp_seq_k fun K3 hK3 => ?_
 have hJ1 : ∀ (x23 : Int) (a : Act) (w : World), Sl 32 [(0, p0_codev), (3, (int i64 x23))] a → Mem Nob w0 w [(false, rd p0_codev (List.map (int IntKind.u8) p0_code))] → S_spec_l1New_j1 F x23 = some r → K3 a w := by
  intro x23 a w hS hM hF
  unfold S_spec_l1New_j1 at hF
  refine hK3 _ _ ?_
  refine wp_seq_k fun K24 hK24 => ?_
  refine wp_region_lit ?_
  refine st_val hS rfl rfl (by decide) (rv_move (hS.ev rfl)) fun a hS => ?_
  refine st_val hS rfl rfl (by decide) (rv_move (hS.ev rfl)) fun a hS => ?_
  refine st_val hS rfl rfl (by decide) (rv_build hS ty_st_84 rfl (by simp) (ones_cons (by rw [hS.ev (v := p0_codev) rfl]; exact rd_one (hM.get 0 rfl)) (ones_cons (by rw [hS.ev (v := (int i64 x23)) rfl]; rfl) ones_nil))) fun a hS => ?_
  obtain ⟨b26, w, hr, hM⟩ := hM.boxE (ρ := a.eval) (dst := some 31) (ty := _) (pos := _) (af := _) (gd := _) (x := .tmp 30) (T := 84) [p0_codev, (int i64 0), (int i64 x23)] (hS.ev rfl) rfl
  refine st_val hS rfl rfl (by decide) hr fun a hS => ?_
  refine st_val hS rfl rfl (by decide) (rv_assign (hS.ev rfl)) fun a hS => ?_
  refine wpList_nil ?_
  refine hK24 _ _ ?_
  refine wp_ret ?_
  cases hF
  exact hQr _ _ (r_1 hS rfl rfl ⟨b26, rfl, hM.pk [0] (by decide) (pc rfl pn)⟩)
 refine wp_seq_k fun K27 hK27 => ?_
 refine wp_region_lit ?_
 refine st_val hS rfl rfl (by decide) (rv_assign (hS.ev rfl)) fun a hS => ?_
 refine wpList_nil ?_
 refine hK27 _ _ ?_
 refine wp_block ?_
 obtain ⟨lb2, hl2, hF2⟩ := bind_some hF
 refine wp_loop_sh (fun s => S_spec_l1New_l2 F p0_code s.1 s.2) (fun s a w => Sl 32 [(0, p0_codev), (3, (int i64 s.1)), (4, (int i64 s.2))] a ∧ Mem Nob w0 w [(false, rd p0_codev (List.map (int IntKind.u8) p0_code))]) hl2 ⟨(hS.sub (sub_cons rfl (sub_cons rfl (sub_cons rfl sub_nil)))), (hM.pk [0] (by decide) (pc rfl pn))⟩ ?_
 rintro K2 ⟨x28, x29⟩ a w res2 ⟨hS, hM⟩ hF hN2 hX2
 have hF : S_spec_l1New_l2 F p0_code x28 x29 = some res2 := hF
 have hS : Sl 32 [(0, p0_codev), (3, (int i64 x28)), (4, (int i64 x29))] a := hS
 have hM : Mem Nob w0 w [(false, rd p0_codev (List.map (int IntKind.u8) p0_code))] := hM
 unfold S_spec_l1New_l2 at hF
 refine wp_seq_k fun K38 hK38 => ?_
 refine wp_seq_k fun K41 hK41 => ?_
 have hJ3 : ∀ (p42 : Bool) (a : Act) (w : World), Sl 32 [(0, p0_codev), (3, (int i64 x28)), (4, (int i64 x29)), (15, (Value.bool p42))] a → Mem Nob w0 w [(false, rd p0_codev (List.map (int IntKind.u8) p0_code))] → S_spec_l1New_j3 F p0_code x28 x29 p42 = some res2 → K41 a w := by
  intro p42 a w hS hM hF
  unfold S_spec_l1New_j3 at hF
  refine hK41 _ _ ?_
  rcases ite_some hF with ⟨hc, hF⟩ | ⟨hc, hF⟩
  ·refine cond_t hS rfl hc ?_
   refine wp_skip ?_
   refine hK38 _ _ ?_
   refine wp_seq_k fun K43 hK43 => ?_
   refine wp_block ?_
   refine wp_region_lit ?_
   refine st_val hS rfl rfl (by decide) (rv_move (hS.ev rfl)) fun a hS => ?_
   refine st_val hS rfl rfl (by decide) (rv_mul (hS.ev rfl) (hS.ev rfl)) fun a hS => ?_
   refine st_val hS rfl rfl (by decide) (rv_move (hS.ev rfl)) fun a hS => ?_
   refine st_val hS rfl rfl (by decide) (rv_move (hS.ev rfl)) fun a hS => ?_
   obtain ⟨x45, hx, hF⟩ := bind_some hF
   obtain ⟨hi0, hi1, hex45⟩ := idxL_some hx
   refine st_val hS rfl rfl (by decide) (rv_indexAddr Tryd.underlying22 ty_el_5 (hS.ev rfl) (hS.ev rfl) (hM.get 0 rfl) hi0 (map_len hi1)) fun a hS => ?_
   refine st_val hS rfl rfl (by decide) (rv_load_el (hS.ev rfl) ty_ag_5 (hM.get 0 rfl) (mget hex45)) fun a hS => ?_
   refine st_val hS rfl rfl (by decide) (rv_conv Tryd.underlying5 Tryd.underlying3 (hS.ev rfl)) fun a hS => ?_
   refine st_val hS rfl rfl (by decide) (rv_add (hS.ev rfl) (hS.ev rfl)) fun a hS => ?_
   refine st_val hS rfl rfl (by decide) (rv_add (hS.ev rfl) (hS.ev rfl)) fun a hS => ?_
   refine st_val hS rfl rfl (by decide) (rv_and (hS.ev rfl) (hS.ev rfl)) fun a hS => ?_
   refine st_val hS rfl rfl (by decide) (rv_assign (hS.ev rfl)) fun a hS => ?_
   refine wpList_nil ?_
   refine hK43 _ _ ?_
   have hS : Sl 32 [(0, p0_codev), (3, (int i64 (bAnd (i64.wrap ((i64.wrap ((i64.wrap (x28 * 131)) + (i64.wrap x45))) + 7)) 1073741823))), (4, (int i64 x29))] a := hS.sub (sub_cons rfl (sub_cons rfl (sub_cons rfl sub_nil)))
   refine wp_region_lit ?_
   refine st_val hS rfl rfl (by decide) (rv_move (hS.ev rfl)) fun a hS => ?_
   refine st_val hS rfl rfl (by decide) (rv_add (hS.ev rfl) (hS.ev rfl)) fun a hS => ?_
   refine st_val hS rfl rfl (by decide) (rv_assign (hS.ev rfl)) fun a hS => ?_
   refine wpList_nil ?_
   cases hF
   exact hN2 _ _ _ rfl ⟨(hS.sub (sub_cons rfl (sub_cons rfl (sub_cons rfl sub_nil)))), (hM.pk [0] (by decide) (pc rfl pn))⟩
  ·refine cond_f hS rfl hc ?_
   refine wp_exit ?_
   cases hF
   exact hJ1 x28 _ _ (hS.sub (sub_cons rfl (sub_cons rfl sub_nil))) (hM.pk [0] (by decide) (pc rfl pn)) (by have e := hX2 _ rfl; subst e; exact hF2)
 refine wp_region_lit ?_
 refine st_val hS rfl rfl (by decide) (rv_move (hS.ev rfl)) fun a hS => ?_
 refine st_val hS rfl rfl (by decide) (rv_move (hS.ev rfl)) fun a hS => ?_
 refine st_val hS rfl rfl (by decide) (rv_len_rowM Tryd.underlying22 (hS.ev rfl) (hM.get 0 rfl)) fun a hS => ?_
 refine st_val hS rfl rfl (by decide) (rv_lss (hS.ev rfl) (hS.ev rfl)) fun a hS => ?_
 refine st_val hS rfl rfl (by decide) (rv_move (hS.ev rfl)) fun a hS => ?_
 rcases ite_some hF with ⟨hc, hF⟩ | ⟨hc, hF⟩
 ·have hS := hS.setb (t := 12) rfl hc
  refine st_val hS rfl rfl (by decide) (rv_move (hS.ev rfl)) fun a hS => ?_
  refine st_val hS rfl rfl (by decide) (rv_lss (hS.ev rfl) (hS.ev rfl)) fun a hS => ?_
  refine st_val hS rfl rfl (by decide) (rv_pick_t (hS.ev rfl) (hS.ev rfl)) fun a hS => ?_
  refine wpList_nil ?_
  exact hJ3 (decide (x29 < 4000)) _ _ (hS.sub (sub_cons rfl (sub_cons rfl (sub_cons rfl (sub_cons rfl sub_nil))))) (hM.pk [0] (by decide) (pc rfl pn)) hF
 ·have hS := hS.setb (t := 12) rfl hc
  refine st_skip hS rfl rfl (by decide) fun a hS => ?_
  refine st_skip hS rfl rfl (by decide) fun a hS => ?_
  refine st_val hS rfl rfl (by decide) (rv_pick_f (hS.ev rfl) (hS.ev rfl)) fun a hS => ?_
  refine wpList_nil ?_
  exact hJ3 false _ _ (hS.sub (sub_cons rfl (sub_cons rfl (sub_cons rfl (sub_cons rfl sub_nil))))) (hM.pk [0] (by decide) (pc rfl pn)) hF


theorem c_spec_l1Byte (F : Nat) (p0_c_b : List Int) (p0_c_i : Int) (p0_c_h : Int) (p0_c_bv : Value) (p0_cb : Nat) {r : Int × Int × Int} (hF : S_spec_l1Byte F p0_c_b p0_c_i p0_c_h = some r) (w0 : World) (hM : Mem (feet [(true, bx p0_cb 84 [p0_c_bv, (int i64 p0_c_i), (int i64 p0_c_h)])]) w0 w0 [(true, bx p0_cb 84 [p0_c_bv, (int i64 p0_c_i), (int i64 p0_c_h)]), (false, rd p0_c_bv (List.map (int IntKind.u8) p0_c_b))]) :
    Calls Tryd.prog 92 [(fdp p0_cb 0)].toArray w0 (retPost fun v w' => v = (int i64 r.1) ∧ Mem (feet [(true, bx p0_cb 84 [p0_c_bv, (int i64 p0_c_i), (int i64 p0_c_h)])]) w0 w' [(true, bx p0_cb 84 [p0_c_bv, (int i64 r.2.1), (int i64 r.2.2)])]) := by
 have hM := hM.pk [1, 0] (by decide) (pc rfl (pc rfl pn))
 refine enter2 Tryd.func92 rfl rfl rfl fun Q a hQr hQn hQp hS => ?_
 have hS : Sl 58 [(0, (fdp p0_cb 0))] a := hS
 unfold S_spec_l1Byte at hF
 refine wp_seq_k fun K1 hK1 => ?_
 refine wp_region_lit ?_
 refine st_val hS rfl rfl (by decide) (rv_assign (hS.ev rfl)) fun a hS => ?_
 refine wpList_nil ?_
 refine hK1 _ _ ?_
 refine wp_seq_k fun K2 hK2 => ?_
 refine wp_region_lit ?_
 refine st_val hS rfl rfl (by decide) (rv_move (hS.ev rfl)) fun a hS => ?_
 refine st_val hS rfl rfl (by decide) (rv_move (hS.ev rfl)) fun a hS => ?_
 refine st_val hS rfl rfl (by decide) (rv_nilCheck (hS.ev rfl)) fun a hS => ?_
 refine st_val hS rfl rfl (by decide) (rv_fieldAddr ty_fd_84_2 (hS.ev rfl)) fun a hS => ?_
 refine st_val hS rfl rfl (by decide) (rv_load_bx (hS.ev rfl) ty_ag_3 (hM.get 1 rfl) rfl) fun a hS => ?_
 refine st_val hS rfl rfl (by decide) (rv_mul (hS.ev rfl) (hS.ev rfl)) fun a hS => ?_
 refine st_val hS rfl rfl (by decide) (rv_add (hS.ev rfl) (hS.ev rfl)) fun a hS => ?_
 refine st_val hS rfl rfl (by decide) (rv_nilCheck (hS.ev rfl)) fun a hS => ?_
 refine st_val hS rfl rfl (by decide) (rv_fieldAddr ty_fd_84_2 (hS.ev rfl)) fun a hS => ?_
 have hM := hM.pk [1, 0] (by decide) (pc rfl (pc rfl pn))
 obtain ⟨w, hr, hM⟩ := hM.st_bx1 (n := 2) (cs' := [p0_c_bv, (int i64 p0_c_i), (int i64 (i64.wrap ((i64.wrap (p0_c_h * 6364136223846793005)) + 1442695040888963407)))]) (ρ := a.eval) (dst := none) (ty := _) (pos := _) (af := _) (gd := _) (x := .tmp 12) (y := .tmp 10) (hS.ev rfl) (hS.ev rfl) ty_sz_3 rfl rfl rfl
 refine st_unit hS rfl rfl hr ?_
 refine wpList_nil ?_
 refine hK2 _ _ ?_
 have hS : Sl 58 [(0, (fdp p0_cb 0))] a := hS.sub (sub_cons rfl sub_nil)
 refine wp_seq_k fun K3 hK3 => ?_
 refine an_startB 13 Nob ty_mixed (by kernel_rfl) fun w hf => ?_
 have hM := hM.fra hf
 have hB := hM
 have hM := hB.reg0
 try dsimp only [ro] at hM
 refine tkB hS 0 1 (by kernel_rfl) rfl rfl rfl hQp rfl (fun w' hC' => (rv_move (hS.ev rfl))) hM.fr fun a hS => ?_
 refine tkB hS 1 3 (by kernel_rfl) rfl rfl rfl hQp rfl (fun w' hC' => (rv_nilCheck (hS.ev rfl))) hM.fr fun a hS => ?_
 refine tkB hS 2 7 (by kernel_rfl) rfl rfl rfl hQp rfl (fun w' hC' => (rv_fieldAddr ty_fd_84_2 (hS.ev rfl))) hM.fr fun a hS => ?_
 refine tkB hS 3 15 (by kernel_rfl) rfl rfl rfl hQp rfl (fun w' hC' => (rv_load_bx (hS.ev rfl) ty_ag_3 ((hB.fra hC').get 0 rfl) rfl)) hM.fr fun a hS => ?_
 refine tkB hS 4 31 (by kernel_rfl) rfl rfl rfl hQp rfl (fun w' hC' => (rv_shr (hS.ev rfl) (hS.ev rfl) (by decide))) hM.fr fun a hS => ?_
 refine tkB hS 5 63 (by kernel_rfl) rfl rfl rfl hQp rfl (fun w' hC' => (rv_move (hS.ev rfl))) hM.fr fun a hS => ?_
 refine tkB hS 6 127 (by kernel_rfl) rfl rfl rfl hQp rfl (fun w' hC' => (rv_nilCheck (hS.ev rfl))) hM.fr fun a hS => ?_
 refine tkB hS 7 255 (by kernel_rfl) rfl rfl rfl hQp rfl (fun w' hC' => (rv_fieldAddr ty_fd_84_2 (hS.ev rfl))) hM.fr fun a hS => ?_
 refine tkB hS 8 511 (by kernel_rfl) rfl rfl rfl hQp rfl (fun w' hC' => (rv_load_bx (hS.ev rfl) ty_ag_3 ((hB.fra hC').get 0 rfl) rfl)) hM.fr fun a hS => ?_
 refine tkB hS 9 1023 (by kernel_rfl) rfl rfl rfl hQp rfl (fun w' hC' => (rv_shr (hS.ev rfl) (hS.ev rfl) (by decide))) hM.fr fun a hS => ?_
 refine tkB hS 10 2047 (by kernel_rfl) rfl rfl rfl hQp rfl (fun w' hC' => (rv_xor (hS.ev rfl) (hS.ev rfl))) hM.fr fun a hS => ?_
 refine tkB hS 11 4095 (by kernel_rfl) rfl rfl rfl hQp rfl (fun w' hC' => (rv_and (hS.ev rfl) (hS.ev rfl))) hM.fr fun a hS => ?_
 refine tkB hS 12 8191 (by kernel_rfl) rfl rfl rfl hQp rfl (fun w' hC' => (rv_assign (hS.ev rfl))) hM.fr fun a hS => ?_
 refine an_done (by kernel_rfl) ?_
 have hN := hM.pk [] (by decide) pn
 have hM := Mem.callo0 hB hN rfl
 refine hK3 _ _ ?_
 have hS : Sl 58 [(0, (fdp p0_cb 0)), (3, (int i64 (bAnd (bXor (shR (i64.wrap ((i64.wrap (p0_c_h * 6364136223846793005)) + 1442695040888963407)) 33) (shR (i64.wrap ((i64.wrap (p0_c_h * 6364136223846793005)) + 1442695040888963407)) 45)) 255)))] a := hS.sub (sub_cons rfl (sub_cons rfl sub_nil))
 refine wp_seq_k fun K4 hK4 => ?_
 have hJ1 : ∀ (x9 : Int) (x10 : Int) (a : Act) (w : World), Sl 58 [(3, (int i64 x9))] a → Mem (feet [(true, bx p0_cb 84 [p0_c_bv, (int i64 p0_c_i), (int i64 p0_c_h)])]) w0 w [(true, bx p0_cb 84 [p0_c_bv, (int i64 x10), (int i64 (i64.wrap ((i64.wrap (p0_c_h * 6364136223846793005)) + 1442695040888963407)))]), (false, rd p0_c_bv (List.map (int IntKind.u8) p0_c_b))] → S_spec_l1Byte_j1 F p0_c_h x9 x10 = some r → K4 a w := by
  intro x9 x10 a w hS hM hF
  unfold S_spec_l1Byte_j1 at hF
  refine hK4 _ _ ?_
  refine wp_seq_k fun K11 hK11 => ?_
  refine wp_region_lit ?_
  refine st_val hS rfl rfl (by decide) (rv_move (hS.ev rfl)) fun a hS => ?_
  refine st_val hS rfl rfl (by decide) (rv_assign (hS.ev rfl)) fun a hS => ?_
  refine wpList_nil ?_
  refine hK11 _ _ ?_
  refine wp_ret ?_
  cases hF
  exact hQr _ _ (r_1 hS rfl rfl ⟨rfl, hM.pk [0] (by decide) (pc rfl pn)⟩)
 refine wp_seq_k fun K12 hK12 => ?_
 refine an_startB 10 Nob ty_mixed (by kernel_rfl) fun w hf => ?_
 have hM := hM.fra hf
 have hB := hM
 have hM := hB.reg0
 try dsimp only [ro] at hM
 refine tkB hS 0 1 (by kernel_rfl) rfl rfl rfl hQp rfl (fun w' hC' => (rv_move (hS.ev rfl))) hM.fr fun a hS => ?_
 refine tkB hS 1 3 (by kernel_rfl) rfl rfl rfl hQp rfl (fun w' hC' => (rv_nilCheck (hS.ev rfl))) hM.fr fun a hS => ?_
 refine tkB hS 2 7 (by kernel_rfl) rfl rfl rfl hQp rfl (fun w' hC' => (rv_fieldAddr ty_fd_84_1 (hS.ev rfl))) hM.fr fun a hS => ?_
 refine tkB hS 3 15 (by kernel_rfl) rfl rfl rfl hQp rfl (fun w' hC' => (rv_load_bx (hS.ev rfl) ty_ag_3 ((hB.fra hC').get 0 rfl) rfl)) hM.fr fun a hS => ?_
 refine tkB hS 4 31 (by kernel_rfl) rfl rfl rfl hQp rfl (fun w' hC' => (rv_move (hS.ev rfl))) hM.fr fun a hS => ?_
 refine tkB hS 5 63 (by kernel_rfl) rfl rfl rfl hQp rfl (fun w' hC' => (rv_nilCheck (hS.ev rfl))) hM.fr fun a hS => ?_
 refine tkB hS 6 127 (by kernel_rfl) rfl rfl rfl hQp rfl (fun w' hC' => (rv_fieldAddr ty_fd_84_0 (hS.ev rfl))) hM.fr fun a hS => ?_
 refine tkB hS 7 255 (by kernel_rfl) rfl rfl rfl hQp rfl (fun w' hC' => (rv_load_bx (hS.ev rfl) ty_ag_22 ((hB.fra hC').get 0 rfl) rfl)) hM.fr fun a hS => ?_
 refine tkB hS 8 511 (by kernel_rfl) rfl rfl rfl hQp rfl (fun w' hC' => (rv_len_rowM Tryd.underlying22 (hS.ev rfl) (hM.get 1 rfl))) hM.fr fun a hS => ?_
 refine tkB hS 9 1023 (by kernel_rfl) rfl rfl rfl hQp rfl (fun w' hC' => (rv_lss (hS.ev rfl) (hS.ev rfl))) hM.fr fun a hS => ?_
 refine an_done (by kernel_rfl) ?_
 have hN := hM.pk [] (by decide) pn
 have hM := Mem.callo0 hB hN rfl
 refine hK12 _ _ ?_
 have hS : Sl 58 [(0, (fdp p0_cb 0)), (3, (int i64 (bAnd (bXor (shR (i64.wrap ((i64.wrap (p0_c_h * 6364136223846793005)) + 1442695040888963407)) 33) (shR (i64.wrap ((i64.wrap (p0_c_h * 6364136223846793005)) + 1442695040888963407)) 45)) 255))), (34, (Value.bool (decide (p0_c_i < (p0_c_b.length : Int)))))] a := hS.sub (sub_cons rfl (sub_cons rfl (sub_cons rfl sub_nil)))
 rcases ite_some hF with ⟨hc, hF⟩ | ⟨hc, hF⟩
 ·refine cond_t hS rfl hc ?_
  refine wp_seq_k fun K13 hK13 => ?_
  refine an_startB 15 Nob ty_mixed (by kernel_rfl) fun w hf => ?_
  have hM := hM.fra hf
  have hB := hM
  have hM := hB.reg0
  try dsimp only [ro] at hM
  refine tkB hS 0 1 (by kernel_rfl) rfl rfl rfl hQp rfl (fun w' hC' => (rv_move (hS.ev rfl))) hM.fr fun a hS => ?_
  refine tkB hS 1 3 (by kernel_rfl) rfl rfl rfl hQp rfl (fun w' hC' => (rv_move (hS.ev rfl))) hM.fr fun a hS => ?_
  refine tkB hS 2 7 (by kernel_rfl) rfl rfl rfl hQp rfl (fun w' hC' => (rv_nilCheck (hS.ev rfl))) hM.fr fun a hS => ?_
  refine tkB hS 3 15 (by kernel_rfl) rfl rfl rfl hQp rfl (fun w' hC' => (rv_fieldAddr ty_fd_84_0 (hS.ev rfl))) hM.fr fun a hS => ?_
  refine tkB hS 4 31 (by kernel_rfl) rfl rfl rfl hQp rfl (fun w' hC' => (rv_load_bx (hS.ev rfl) ty_ag_22 ((hB.fra hC').get 0 rfl) rfl)) hM.fr fun a hS => ?_
  refine tkB hS 5 63 (by kernel_rfl) rfl rfl rfl hQp rfl (fun w' hC' => (rv_move (hS.ev rfl))) hM.fr fun a hS => ?_
  refine tkB hS 6 127 (by kernel_rfl) rfl rfl rfl hQp rfl (fun w' hC' => (rv_nilCheck (hS.ev rfl))) hM.fr fun a hS => ?_
  refine tkB hS 7 255 (by kernel_rfl) rfl rfl rfl hQp rfl (fun w' hC' => (rv_fieldAddr ty_fd_84_1 (hS.ev rfl))) hM.fr fun a hS => ?_
  refine tkB hS 8 511 (by kernel_rfl) rfl rfl rfl hQp rfl (fun w' hC' => (rv_load_bx (hS.ev rfl) ty_ag_3 ((hB.fra hC').get 0 rfl) rfl)) hM.fr fun a hS => ?_
  obtain ⟨x15, hx, hF⟩ := bind_some hF
  obtain ⟨hi0, hi1, hex15⟩ := idxL_some hx
  refine tkB hS 9 1023 (by kernel_rfl) rfl rfl rfl hQp rfl (fun w' hC' => (rv_indexAddr Tryd.underlying22 ty_el_5 (hS.ev rfl) (hS.ev rfl) (hM.get 1 rfl) hi0 (map_len hi1))) hM.fr fun a hS => ?_
  refine tkB hS 10 2047 (by kernel_rfl) rfl rfl rfl hQp rfl (fun w' hC' => (rv_load_el (hS.ev rfl) ty_ag_5 ((hB.fra hC').get 1 rfl) (mget hex15))) hM.fr fun a hS => ?_
  refine tkB hS 11 4095 (by kernel_rfl) rfl rfl rfl hQp rfl (fun w' hC' => (rv_conv Tryd.underlying5 Tryd.underlying3 (hS.ev rfl))) hM.fr fun a hS => ?_
  refine tkB hS 12 8191 (by kernel_rfl) rfl rfl rfl hQp rfl (fun w' hC' => (rv_add (hS.ev rfl) (hS.ev rfl))) hM.fr fun a hS => ?_
  refine tkB hS 13 16383 (by kernel_rfl) rfl rfl rfl hQp rfl (fun w' hC' => (rv_and (hS.ev rfl) (hS.ev rfl))) hM.fr fun a hS => ?_
  refine tkB hS 14 32767 (by kernel_rfl) rfl rfl rfl hQp rfl (fun w' hC' => (rv_assign (hS.ev rfl))) hM.fr fun a hS => ?_
  refine an_done (by kernel_rfl) ?_
  have hN := hM.pk [] (by decide) pn
  have hM := Mem.callo0 hB hN rfl
  refine hK13 _ _ ?_
  have hS : Sl 58 [(0, (fdp p0_cb 0)), (3, (int i64 (bAnd (i64.wrap ((bAnd (bXor (shR (i64.wrap ((i64.wrap (p0_c_h * 6364136223846793005)) + 1442695040888963407)) 33) (shR (i64.wrap ((i64.wrap (p0_c_h * 6364136223846793005)) + 1442695040888963407)) 45)) 255) + (i64.wrap x15))) 255)))] a := hS.sub (sub_cons rfl (sub_cons rfl sub_nil))
  refine wp_region_lit ?_
  refine st_val hS rfl rfl (by decide) (rv_move (hS.ev rfl)) fun a hS => ?_
  refine st_val hS rfl rfl (by decide) (rv_move (hS.ev rfl)) fun a hS => ?_
  refine st_val hS rfl rfl (by decide) (rv_nilCheck (hS.ev rfl)) fun a hS => ?_
  refine st_val hS rfl rfl (by decide) (rv_fieldAddr ty_fd_84_1 (hS.ev rfl)) fun a hS => ?_
  refine st_val hS rfl rfl (by decide) (rv_load_bx (hS.ev rfl) ty_ag_3 (hM.get 0 rfl) rfl) fun a hS => ?_
  refine st_val hS rfl rfl (by decide) (rv_add (hS.ev rfl) (hS.ev rfl)) fun a hS => ?_
  refine st_val hS rfl rfl (by decide) (rv_nilCheck (hS.ev rfl)) fun a hS => ?_
  refine st_val hS rfl rfl (by decide) (rv_fieldAddr ty_fd_84_1 (hS.ev rfl)) fun a hS => ?_
  obtain ⟨w, hr, hM⟩ := hM.st_bx1 (n := 1) (cs' := [p0_c_bv, (int i64 (i64.wrap (p0_c_i + 1))), (int i64 (i64.wrap ((i64.wrap (p0_c_h * 6364136223846793005)) + 1442695040888963407)))]) (ρ := a.eval) (dst := none) (ty := _) (pos := _) (af := _) (gd := _) (x := .tmp 56) (y := .tmp 54) (hS.ev rfl) (hS.ev rfl) ty_sz_3 rfl rfl rfl
  refine st_unit hS rfl rfl hr ?_
  refine wpList_nil ?_
  exact hJ1 (bAnd (i64.wrap ((bAnd (bXor (shR (i64.wrap ((i64.wrap (p0_c_h * 6364136223846793005)) + 1442695040888963407)) 33) (shR (i64.wrap ((i64.wrap (p0_c_h * 6364136223846793005)) + 1442695040888963407)) 45)) 255) + (i64.wrap x15))) 255) (i64.wrap (p0_c_i + 1)) _ _ (hS.sub (sub_cons rfl sub_nil)) (hM.pk [0, 1] (by decide) (pc rfl (pc rfl pn))) hF
 ·refine cond_f hS rfl hc ?_
  refine wp_skip ?_
  exact hJ1 (bAnd (bXor (shR (i64.wrap ((i64.wrap (p0_c_h * 6364136223846793005)) + 1442695040888963407)) 33) (shR (i64.wrap ((i64.wrap (p0_c_h * 6364136223846793005)) + 1442695040888963407)) 45)) 255) p0_c_i _ _ (hS.sub (sub_cons rfl sub_nil)) (hM.pk [0, 1] (by decide) (pc rfl (pc rfl pn))) hF


end Go.Proofs.YtdalcpadcggklaaDoor
