/- Proved here: that each Go function does what its shallow function says -/
import Derived.Test.YtblbimlobacciaaSh
import Derived.Test.YtblbimlobacciaaTy
import Derived.Test.YtblbimlobacciaaK13
import Derived.Test.YtblbimlobacciaaK14
import Derived.Test.YtblbimlobacciaaW0
import Derived.Test.YtblbimlobacciaaW1
namespace Go.Proofs.Ytblbimlobacciaa
open Go Go.RowKit
set_option linter.unusedVariables false
set_option linter.unusedSimpArgs false
set_option maxRecDepth 100000
set_option maxHeartbeats 40000000

open Go.IntKind (i64)
open Go.Value (int)
theorem c_impl_IsGraph (F : Nat) (p0_g_Size : Int) (p0_g_Rows : List Int) (p0_g_Rowsv : Value) {r : Bool} (hF : S_impl_IsGraph F p0_g_Size p0_g_Rows = some r) (w0 : World) (h0 : RdRow w0 p0_g_Rowsv (List.map (int i64) p0_g_Rows)) :
    Calls Try.prog 38 [(Value.agg #[(int i64 p0_g_Size), p0_g_Rowsv])].toArray w0 (retPost fun v w' => v = (Value.bool r) ∧ Mem Nob w0 w' []) := by
 have hM : Mem Nob w0 w0 [(false, rd p0_g_Rowsv (List.map (int i64) p0_g_Rows))] := (Mem.rcons (Mem.nil w0) h0 (by simp))
 refine enter2 Try.func38 rfl rfl rfl fun Q a hQr hQn hQp hS => ?_
 have hS : Sl 66 [(0, (Value.agg #[(int i64 p0_g_Size), p0_g_Rowsv]))] a := hS
 unfold S_impl_IsGraph at hF
 refine wp_seq_k fun K1 hK1 => ?_
 refine wp_region_lit ?_
 obtain ⟨b3, w, hr, hM⟩ := hM.boxE (ρ := a.eval) (dst := some 1) (ty := _) (pos := _) (af := _) (gd := _) (x := .tmp 0) (T := 29) [(int i64 p0_g_Size), p0_g_Rowsv] (hS.ev rfl) rfl
 refine st_val hS rfl rfl (by decide) hr fun a hS => ?_
 refine st_val hS rfl rfl (by decide) (rv_assign (hS.ev rfl)) fun a hS => ?_
 refine wpList_nil ?_
 refine hK1 _ _ ?_
 refine wp_seq_k fun K4 hK4 => ?_
 refine wp_seq_k fun K10 hK10 => ?_
 have hJ1 : ∀ (p12 : Bool) (a : Act) (w : World), Sl 66 [(1, (fdp b3 0)), (19, (Value.bool p12))] a → Mem Nob w0 w [(true, bx b3 29 [(int i64 p0_g_Size), p0_g_Rowsv]), (false, rd p0_g_Rowsv (List.map (int i64) p0_g_Rows))] → S_impl_IsGraph_j1 F p0_g_Size p0_g_Rows p12 = some r → K10 a w := by
  intro p12 a w hS hM hF
  unfold S_impl_IsGraph_j1 at hF
  refine hK10 _ _ ?_
  rcases ite_some hF with ⟨hc, hF⟩ | ⟨hc, hF⟩
  ·refine cond_t hS rfl hc ?_
   refine wp_seq_k fun K13 hK13 => ?_
   refine wp_region_lit ?_
   refine st_val hS rfl rfl (by decide) (rv_assign (hS.ev rfl)) fun a hS => ?_
   refine wpList_nil ?_
   refine hK13 _ _ ?_
   refine wp_ret ?_
   cases hF
   exact hQr _ _ (r_1 hS rfl rfl ⟨rfl, hM.pk [] (by decide) pn⟩)
  ·refine cond_f hS rfl hc ?_
   refine wp_skip ?_
   refine hK4 _ _ ?_
   refine wp_seq_k fun K14 hK14 => ?_
   have hJ2 : ∀ (a : Act) (w : World), Sl 66 [(1, (fdp b3 0))] a → Mem Nob w0 w [(true, bx b3 29 [(int i64 p0_g_Size), p0_g_Rowsv]), (false, rd p0_g_Rowsv (List.map (int i64) p0_g_Rows))] → S_impl_IsGraph_j2 F p0_g_Rows = some r → K14 a w := by
    intro a w hS hM hF
    unfold S_impl_IsGraph_j2 at hF
    refine hK14 _ _ ?_
    refine wp_seq_k fun K63 hK63 => ?_
    have hJ3 : ∀ (a : Act) (w : World), Sl 66 [] a → Mem Nob w0 w [] → S_impl_IsGraph_j3 F = some r → K63 a w := by
     intro a w hS hM hF
     unfold S_impl_IsGraph_j3 at hF
     refine hK63 _ _ ?_
     refine wp_seq_k fun K260 hK260 => ?_
     refine wp_region_lit ?_
     refine st_val hS rfl rfl (by decide) (rv_assign (hS.ev rfl)) fun a hS => ?_
     refine wpList_nil ?_
     refine hK260 _ _ ?_
     refine wp_ret ?_
     cases hF
     exact hQr _ _ (r_1 hS rfl rfl ⟨rfl, hM.pk [] (by decide) pn⟩)
    refine wp_seq_k fun K261 hK261 => ?_
    refine wp_region_lit ?_
    refine st_val hS rfl rfl (by decide) (rv_fieldAddr ty_fd_29_1 (hS.ev rfl)) fun a hS => ?_
    refine st_val hS rfl rfl (by decide) (rv_load_bx (hS.ev rfl) ty_ag_22 (hM.get 0 rfl) rfl) fun a hS => ?_
    refine st_val hS rfl rfl (by decide) (rv_len_rowM Try.underlying22 (hS.ev rfl) (hM.get 1 rfl)) fun a hS => ?_
    refine st_val hS rfl rfl (by decide) (rv_move (hS.ev rfl)) fun a hS => ?_
    refine wpList_nil ?_
    refine hK261 _ _ ?_
    refine wp_block ?_
    obtain ⟨lb4, hl4, hF4⟩ := bind_some hF
    refine wp_loop_sh (fun s => S_impl_IsGraph_l4 F p0_g_Rows s) (fun s a w => Sl 66 [(1, (fdp b3 0)), (42, p0_g_Rowsv), (43, (int i64 (p0_g_Rows.length : Int))), (44, (int i64 s))] a ∧ Mem Nob w0 w [(true, bx b3 29 [(int i64 p0_g_Size), p0_g_Rowsv]), (false, rd p0_g_Rowsv (List.map (int i64) p0_g_Rows))]) hl4 ⟨(hS.sub (sub_cons rfl (sub_cons rfl (sub_cons rfl (sub_cons rfl sub_nil))))), (hM.pk [0, 1] (by decide) (pc rfl (pc rfl pn)))⟩ ?_
    rintro K4 x262 a w res4 ⟨hS, hM⟩ hF hN4 hX4
    have hF : S_impl_IsGraph_l4 F p0_g_Rows x262 = some res4 := hF
    have hS : Sl 66 [(1, (fdp b3 0)), (42, p0_g_Rowsv), (43, (int i64 (p0_g_Rows.length : Int))), (44, (int i64 x262))] a := hS
    have hM : Mem Nob w0 w [(true, bx b3 29 [(int i64 p0_g_Size), p0_g_Rowsv]), (false, rd p0_g_Rowsv (List.map (int i64) p0_g_Rows))] := hM
    unfold S_impl_IsGraph_l4 at hF
    refine wp_seq_k fun K360 hK360 => ?_
    refine wp_region_lit ?_
    refine st_val hS rfl rfl (by decide) (rv_lss (hS.ev rfl) (hS.ev rfl)) fun a hS => ?_
    refine wpList_nil ?_
    refine hK360 _ _ ?_
    refine wp_seq_k fun K361 hK361 => ?_
    rcases ite_some hF with ⟨hc, hF⟩ | ⟨hc, hF⟩
    ·refine cond_t hS rfl hc ?_
     refine wp_skip ?_
     refine hK361 _ _ ?_
     refine wp_seq_k fun K362 hK362 => ?_
     have hJ5 : ∀ (a : Act) (w : World), Sl 66 [(1, (fdp b3 0)), (42, p0_g_Rowsv), (43, (int i64 (p0_g_Rows.length : Int))), (44, (int i64 x262))] a → Mem Nob w0 w [(true, bx b3 29 [(int i64 p0_g_Size), p0_g_Rowsv]), (false, rd p0_g_Rowsv (List.map (int i64) p0_g_Rows))] → S_impl_IsGraph_j5 F x262 = some res4 → K362 a w := by
      intro a w hS hM hF
      unfold S_impl_IsGraph_j5 at hF
      refine hK362 _ _ ?_
      refine wp_region_lit ?_
      refine st_val hS rfl rfl (by decide) (rv_add (hS.ev rfl) (hS.ev rfl)) fun a hS => ?_
      refine st_val hS rfl rfl (by decide) (rv_move (hS.ev rfl)) fun a hS => ?_
      refine wpList_nil ?_
      cases hF
      exact hN4 _ _ _ rfl ⟨(hS.sub (sub_cons rfl (sub_cons rfl (sub_cons rfl (sub_cons rfl sub_nil))))), (hM.pk [0, 1] (by decide) (pc rfl (pc rfl pn)))⟩
     refine wp_block ?_
     refine wp_seq_k fun K410 hK410 => ?_
     refine wp_region_lit ?_
     refine st_val hS rfl rfl (by decide) (rv_move (hS.ev rfl)) fun a hS => ?_
     obtain ⟨x412, hx, hF⟩ := bind_some hF
     obtain ⟨hi0, hi1, hex412⟩ := idxL_some hx
     refine st_val hS rfl rfl (by decide) (rv_indexAddr Try.underlying22 ty_el_3 (hS.ev rfl) (hS.ev rfl) (hM.get 1 rfl) hi0 (map_len hi1)) fun a hS => ?_
     refine st_val hS rfl rfl (by decide) (rv_load_el (hS.ev rfl) ty_ag_3 (hM.get 1 rfl) (mget hex412)) fun a hS => ?_
     refine st_val hS rfl rfl (by decide) (rv_assign (hS.ev rfl)) fun a hS => ?_
     refine st_val hS rfl rfl (by decide) (rv_assign (hS.ev rfl)) fun a hS => ?_
     refine wpList_nil ?_
     refine hK410 _ _ ?_
     refine wp_seq_k fun K413 hK413 => ?_
     refine wp_region_lit ?_
     refine st_val hS rfl rfl (by decide) (rv_move (hS.ev rfl)) fun a hS => ?_
     refine st_val hS rfl rfl (by decide) (rv_move (hS.ev rfl)) fun a hS => ?_
     refine wpList_nil ?_
     refine hK413 _ _ ?_
     refine wp_block ?_
     obtain ⟨lb6, hl6, hF6⟩ := bind_some hF
     refine wp_loop_sh (fun s => S_impl_IsGraph_l6 F p0_g_Rows x262 x412 s) (fun s a w => Sl 66 [(1, (fdp b3 0)), (5, (int i64 x262)), (6, (int i64 x412)), (42, p0_g_Rowsv), (43, (int i64 (p0_g_Rows.length : Int))), (44, (int i64 x262)), (49, (int i64 x262)), (50, (int i64 s))] a ∧ Mem Nob w0 w [(true, bx b3 29 [(int i64 p0_g_Size), p0_g_Rowsv]), (false, rd p0_g_Rowsv (List.map (int i64) p0_g_Rows))]) hl6 ⟨(hS.sub (sub_cons rfl (sub_cons rfl (sub_cons rfl (sub_cons rfl (sub_cons rfl (sub_cons rfl (sub_cons rfl (sub_cons rfl sub_nil))))))))), (hM.pk [0, 1] (by decide) (pc rfl (pc rfl pn)))⟩ ?_
     rintro K6 x414 a w res6 ⟨hS, hM⟩ hF hN6 hX6
     have hF : S_impl_IsGraph_l6 F p0_g_Rows x262 x412 x414 = some res6 := hF
     have hS : Sl 66 [(1, (fdp b3 0)), (5, (int i64 x262)), (6, (int i64 x412)), (42, p0_g_Rowsv), (43, (int i64 (p0_g_Rows.length : Int))), (44, (int i64 x262)), (49, (int i64 x262)), (50, (int i64 x414))] a := hS
     have hM : Mem Nob w0 w [(true, bx b3 29 [(int i64 p0_g_Size), p0_g_Rowsv]), (false, rd p0_g_Rowsv (List.map (int i64) p0_g_Rows))] := hM
     unfold S_impl_IsGraph_l6 at hF
     refine wp_seq_k fun K436 hK436 => ?_
     refine wp_region_lit ?_
     refine st_val hS rfl rfl (by decide) (rv_lss (hS.ev rfl) (hS.ev rfl)) fun a hS => ?_
     refine wpList_nil ?_
     refine hK436 _ _ ?_
     refine wp_seq_k fun K437 hK437 => ?_
     rcases ite_some hF with ⟨hc, hF⟩ | ⟨hc, hF⟩
     ·refine cond_t hS rfl hc ?_
      refine wp_skip ?_
      refine hK437 _ _ ?_
      refine wp_seq_k fun K438 hK438 => ?_
      refine wp_block ?_
      refine wp_seq_k fun K448 hK448 => ?_
      refine wp_region_lit ?_
      refine st_val hS rfl rfl (by decide) (rv_move (hS.ev rfl)) fun a hS => ?_
      refine st_val hS rfl rfl (by decide) (rv_assign (hS.ev rfl)) fun a hS => ?_
      refine wpList_nil ?_
      refine hK448 _ _ ?_
      refine wp_seq_k fun K449 hK449 => ?_
      refine an_startB 11 Nob ty_mixed (by kernel_rfl) fun w hf => ?_
      have hM := hM.fra hf
      have hB := hM
      have hM := hB.reg0
      try dsimp only [ro] at hM
      refine tkB hS 0 1 (by kernel_rfl) rfl rfl rfl hQp rfl (fun w' hC' => (rv_move (hS.ev rfl))) hM.fr fun a hS => ?_
      refine tkB hS 1 3 (by kernel_rfl) rfl rfl rfl hQp rfl (fun w' hC' => (rv_move (hS.ev rfl))) hM.fr fun a hS => ?_
      refine tkB hS 3 11 (by kernel_rfl) rfl rfl rfl hQp rfl (fun w' hC' => (rv_fieldAddr ty_fd_29_1 (hS.ev rfl))) hM.fr fun a hS => ?_
      refine tkB hS 4 27 (by kernel_rfl) rfl rfl rfl hQp rfl (fun w' hC' => (rv_load_bx (hS.ev rfl) ty_ag_22 ((hB.fra hC').get 0 rfl) rfl)) hM.fr fun a hS => ?_
      refine tkB hS 5 59 (by kernel_rfl) rfl rfl rfl hQp rfl (fun w' hC' => (rv_move (hS.ev rfl))) hM.fr fun a hS => ?_
      obtain ⟨x453, hx, hF⟩ := bind_some hF
      obtain ⟨hi0, hi1, hex453⟩ := idxL_some hx
      refine tkB hS 6 123 (by kernel_rfl) rfl rfl rfl hQp rfl (fun w' hC' => (rv_indexAddr Try.underlying22 ty_el_3 (hS.ev rfl) (hS.ev rfl) (hM.get 1 rfl) hi0 (map_len hi1))) hM.fr fun a hS => ?_
      refine tkB hS 7 251 (by kernel_rfl) rfl rfl rfl hQp rfl (fun w' hC' => (rv_load_el (hS.ev rfl) ty_ag_3 ((hB.fra hC').get 1 rfl) (mget hex453))) hM.fr fun a hS => ?_
      refine tkB hS 8 507 (by kernel_rfl) rfl rfl rfl hQp rfl (fun w' hC' => (rv_move (hS.ev rfl))) hM.fr fun a hS => ?_
      obtain ⟨r454, hr, hF⟩ := bind_some hF
      refine an_oneB hS (i := 2) 511 (by kernel_rfl) rfl (by kernel_rfl) rfl ?_
      refine wp_call hS rfl rfl (by decide) fn_ok_26 rfl (c_impl_has F x412 x414 hr _) fun v w a hK hS => ?_
      obtain ⟨rfl, hN⟩ := hK
      have hM := hM.fra hN.fr
      refine ⟨hM.fr, ?_⟩
      obtain ⟨r455, hr, hF⟩ := bind_some hF
      refine an_oneB hS (i := 9) 1023 (by kernel_rfl) rfl (by kernel_rfl) rfl ?_
      refine wp_call hS rfl rfl (by decide) fn_ok_26 rfl (c_impl_has F x453 x262 hr _) fun v w a hK hS => ?_
      obtain ⟨rfl, hN⟩ := hK
      have hM := hM.fra hN.fr
      refine ⟨hM.fr, ?_⟩
      refine tkB hS 10 2047 (by kernel_rfl) rfl rfl rfl hQp rfl (fun w' hC' => (rv_bneq Try.underlying4 (hS.ev rfl) (hS.ev rfl))) hM.fr fun a hS => ?_
      refine an_done (by kernel_rfl) ?_
      have hN := hM.pk [] (by decide) pn
      have hM := Mem.callo0 hB hN rfl
      refine hK449 _ _ ?_
      have hS : Sl 66 [(1, (fdp b3 0)), (5, (int i64 x262)), (6, (int i64 x412)), (42, p0_g_Rowsv), (43, (int i64 (p0_g_Rows.length : Int))), (44, (int i64 x262)), (49, (int i64 x262)), (50, (int i64 x414)), (63, (Value.bool (r454 != r455)))] a := hS.sub (sub_cons rfl (sub_cons rfl (sub_cons rfl (sub_cons rfl (sub_cons rfl (sub_cons rfl (sub_cons rfl (sub_cons rfl (sub_cons rfl sub_nil)))))))))
      rcases ite_some hF with ⟨hc, hF⟩ | ⟨hc, hF⟩
      ·refine cond_t hS rfl hc ?_
       refine wp_seq_k fun K456 hK456 => ?_
       refine wp_region_lit ?_
       refine st_val hS rfl rfl (by decide) (rv_assign (hS.ev rfl)) fun a hS => ?_
       refine wpList_nil ?_
       refine hK456 _ _ ?_
       have hS : Sl 66 [(2, (Value.bool false))] a := hS.sub (sub_cons rfl sub_nil)
       have hM := hM.pk [] (by decide) pn
       refine wp_ret ?_
       cases hF
       have e := hX6 _ rfl
       subst e
       have hF := hF6
       cases hF
       have e := hX4 _ rfl
       subst e
       have hF := hF4
       cases hF
       exact hQr _ _ (r_1 hS rfl rfl ⟨rfl, hM.pk [] (by decide) pn⟩)
      ·refine cond_f hS rfl hc ?_
       refine wp_skip ?_
       refine hK438 _ _ ?_
       refine wp_region_lit ?_
       refine st_val hS rfl rfl (by decide) (rv_add (hS.ev rfl) (hS.ev rfl)) fun a hS => ?_
       refine st_val hS rfl rfl (by decide) (rv_move (hS.ev rfl)) fun a hS => ?_
       refine wpList_nil ?_
       cases hF
       exact hN6 _ _ _ rfl ⟨(hS.sub (sub_cons rfl (sub_cons rfl (sub_cons rfl (sub_cons rfl (sub_cons rfl (sub_cons rfl (sub_cons rfl (sub_cons rfl sub_nil))))))))), (hM.pk [0, 1] (by decide) (pc rfl (pc rfl pn)))⟩
     ·refine cond_f hS rfl hc ?_
      refine wp_exit ?_
      cases hF
      exact hJ5 _ _ (hS.sub (sub_cons rfl (sub_cons rfl (sub_cons rfl (sub_cons rfl sub_nil))))) (hM.pk [0, 1] (by decide) (pc rfl (pc rfl pn))) (by have e := hX6 _ rfl; subst e; exact hF6)
    ·refine cond_f hS rfl hc ?_
     refine wp_exit ?_
     cases hF
     exact hJ3 _ _ (hS.sub sub_nil) (hM.pk [] (by decide) pn) (by have e := hX4 _ rfl; subst e; exact hF4)
   refine wp_seq_k fun K457 hK457 => ?_
   refine wp_region_lit ?_
   refine st_val hS rfl rfl (by decide) (rv_fieldAddr ty_fd_29_1 (hS.ev rfl)) fun a hS => ?_
   refine st_val hS rfl rfl (by decide) (rv_load_bx (hS.ev rfl) ty_ag_22 (hM.get 0 rfl) rfl) fun a hS => ?_
   refine st_val hS rfl rfl (by decide) (rv_len_rowM Try.underlying22 (hS.ev rfl) (hM.get 1 rfl)) fun a hS => ?_
   refine st_val hS rfl rfl (by decide) (rv_move (hS.ev rfl)) fun a hS => ?_
   refine wpList_nil ?_
   refine hK457 _ _ ?_
   refine wp_block ?_
   obtain ⟨lb7, hl7, hF7⟩ := bind_some hF
   refine wp_loop_sh (fun s => S_impl_IsGraph_l7 F p0_g_Size p0_g_Rows s) (fun s a w => Sl 66 [(1, (fdp b3 0)), (21, p0_g_Rowsv), (22, (int i64 (p0_g_Rows.length : Int))), (23, (int i64 s))] a ∧ Mem Nob w0 w [(true, bx b3 29 [(int i64 p0_g_Size), p0_g_Rowsv]), (false, rd p0_g_Rowsv (List.map (int i64) p0_g_Rows))]) hl7 ⟨(hS.sub (sub_cons rfl (sub_cons rfl (sub_cons rfl (sub_cons rfl sub_nil))))), (hM.pk [0, 1] (by decide) (pc rfl (pc rfl pn)))⟩ ?_
   rintro K7 x458 a w res7 ⟨hS, hM⟩ hF hN7 hX7
   have hF : S_impl_IsGraph_l7 F p0_g_Size p0_g_Rows x458 = some res7 := hF
   have hS : Sl 66 [(1, (fdp b3 0)), (21, p0_g_Rowsv), (22, (int i64 (p0_g_Rows.length : Int))), (23, (int i64 x458))] a := hS
   have hM : Mem Nob w0 w [(true, bx b3 29 [(int i64 p0_g_Size), p0_g_Rowsv]), (false, rd p0_g_Rowsv (List.map (int i64) p0_g_Rows))] := hM
   unfold S_impl_IsGraph_l7 at hF
   refine wp_seq_k fun K482 hK482 => ?_
   refine wp_region_lit ?_
   refine st_val hS rfl rfl (by decide) (rv_lss (hS.ev rfl) (hS.ev rfl)) fun a hS => ?_
   refine wpList_nil ?_
   refine hK482 _ _ ?_
   refine wp_seq_k fun K483 hK483 => ?_
   rcases ite_some hF with ⟨hc, hF⟩ | ⟨hc, hF⟩
   ·refine cond_t hS rfl hc ?_
    refine wp_skip ?_
    refine hK483 _ _ ?_
    refine wp_seq_k fun K484 hK484 => ?_
    refine wp_block ?_
    refine wp_seq_k fun K495 hK495 => ?_
    refine wp_region_lit ?_
    refine st_val hS rfl rfl (by decide) (rv_move (hS.ev rfl)) fun a hS => ?_
    obtain ⟨x497, hx, hF⟩ := bind_some hF
    obtain ⟨hi0, hi1, hex497⟩ := idxL_some hx
    refine st_val hS rfl rfl (by decide) (rv_indexAddr Try.underlying22 ty_el_3 (hS.ev rfl) (hS.ev rfl) (hM.get 1 rfl) hi0 (map_len hi1)) fun a hS => ?_
    refine st_val hS rfl rfl (by decide) (rv_load_el (hS.ev rfl) ty_ag_3 (hM.get 1 rfl) (mget hex497)) fun a hS => ?_
    refine st_val hS rfl rfl (by decide) (rv_assign (hS.ev rfl)) fun a hS => ?_
    refine st_val hS rfl rfl (by decide) (rv_assign (hS.ev rfl)) fun a hS => ?_
    refine wpList_nil ?_
    refine hK495 _ _ ?_
    refine wp_seq_k fun K498 hK498 => ?_
    have hJ8 : ∀ (p501 : Bool) (a : Act) (w : World), Sl 66 [(1, (fdp b3 0)), (21, p0_g_Rowsv), (22, (int i64 (p0_g_Rows.length : Int))), (23, (int i64 x458)), (39, (Value.bool p501))] a → Mem Nob w0 w [(true, bx b3 29 [(int i64 p0_g_Size), p0_g_Rowsv]), (false, rd p0_g_Rowsv (List.map (int i64) p0_g_Rows))] → S_impl_IsGraph_j8 F x458 p501 = some res7 → K498 a w := by
     intro p501 a w hS hM hF
     unfold S_impl_IsGraph_j8 at hF
     refine hK498 _ _ ?_
     rcases ite_some hF with ⟨hc, hF⟩ | ⟨hc, hF⟩
     ·refine cond_t hS rfl hc ?_
      refine wp_seq_k fun K502 hK502 => ?_
      refine wp_region_lit ?_
      refine st_val hS rfl rfl (by decide) (rv_assign (hS.ev rfl)) fun a hS => ?_
      refine wpList_nil ?_
      refine hK502 _ _ ?_
      refine wp_ret ?_
      cases hF
      have e := hX7 _ rfl
      subst e
      have hF := hF7
      cases hF
      exact hQr _ _ (r_1 hS rfl rfl ⟨rfl, hM.pk [] (by decide) pn⟩)
     ·refine cond_f hS rfl hc ?_
      refine wp_skip ?_
      refine hK484 _ _ ?_
      refine wp_region_lit ?_
      refine st_val hS rfl rfl (by decide) (rv_add (hS.ev rfl) (hS.ev rfl)) fun a hS => ?_
      refine st_val hS rfl rfl (by decide) (rv_move (hS.ev rfl)) fun a hS => ?_
      refine wpList_nil ?_
      cases hF
      exact hN7 _ _ _ rfl ⟨(hS.sub (sub_cons rfl (sub_cons rfl (sub_cons rfl (sub_cons rfl sub_nil))))), (hM.pk [0, 1] (by decide) (pc rfl (pc rfl pn)))⟩
    refine wp_region_lit ?_
    refine st_val hS rfl rfl (by decide) (rv_move (hS.ev rfl)) fun a hS => ?_
    refine st_val hS rfl rfl (by decide) (rv_fieldAddr ty_fd_29_0 (hS.ev rfl)) fun a hS => ?_
    refine st_val hS rfl rfl (by decide) (rv_load_bx (hS.ev rfl) ty_ag_3 (hM.get 0 rfl) rfl) fun a hS => ?_
    obtain ⟨_, hx, hF⟩ := bind_some hF
    have hi0 := nnO_some hx
    refine st_val hS rfl rfl (by decide) (rv_shl (hS.ev rfl) (hS.ev rfl) hi0) fun a hS => ?_
    refine st_val hS rfl rfl (by decide) (rv_sub (hS.ev rfl) (hS.ev rfl)) fun a hS => ?_
    obtain ⟨r503, hr, hF⟩ := bind_some hF
    refine st_wp hS rfl (wp_call hS rfl rfl (by decide) fn_ok_35 rfl (c_impl_within F x497 0 (i64.wrap ((shL 1 p0_g_Size) - 1)) hr _) fun v w a hK hS => ?_)
    obtain ⟨rfl, hN⟩ := hK
    have hM := hM.fra hN.fr
    refine st_val hS rfl rfl (by decide) (rv_not (hS.ev rfl)) fun a hS => ?_
    refine st_val hS rfl rfl (by decide) (rv_move (hS.ev rfl)) fun a hS => ?_
    rcases ite_some hF with ⟨hc, hF⟩ | ⟨hc, hF⟩
    ·have hS := hS.setb (t := 35) rfl hc
     refine st_skip hS rfl rfl (by decide) fun a hS => ?_
     refine st_skip hS rfl rfl (by decide) fun a hS => ?_
     refine st_skip hS rfl rfl (by decide) fun a hS => ?_
     refine st_val hS rfl rfl (by decide) (rv_pick_t (hS.ev rfl) (hS.ev rfl)) fun a hS => ?_
     refine wpList_nil ?_
     exact hJ8 true _ _ (hS.sub (sub_cons rfl (sub_cons rfl (sub_cons rfl (sub_cons rfl (sub_cons rfl sub_nil)))))) (hM.pk [0, 1] (by decide) (pc rfl (pc rfl pn))) hF
    ·have hS := hS.setb (t := 35) rfl hc
     refine st_val hS rfl rfl (by decide) (rv_move (hS.ev rfl)) fun a hS => ?_
     refine st_val hS rfl rfl (by decide) (rv_move (hS.ev rfl)) fun a hS => ?_
     obtain ⟨r504, hr, hF⟩ := bind_some hF
     refine st_wp hS rfl (wp_call hS rfl rfl (by decide) fn_ok_26 rfl (c_impl_has F x497 x458 hr _) fun v w a hK hS => ?_)
     obtain ⟨rfl, hN⟩ := hK
     have hM := hM.fra hN.fr
     refine st_val hS rfl rfl (by decide) (rv_pick_f (hS.ev rfl) (hS.ev rfl)) fun a hS => ?_
     refine wpList_nil ?_
     exact hJ8 r504 _ _ (hS.sub (sub_cons rfl (sub_cons rfl (sub_cons rfl (sub_cons rfl (sub_cons rfl sub_nil)))))) (hM.pk [0, 1] (by decide) (pc rfl (pc rfl pn))) hF
   ·refine cond_f hS rfl hc ?_
    refine wp_exit ?_
    cases hF
    exact hJ2 _ _ (hS.sub (sub_cons rfl sub_nil)) (hM.pk [0, 1] (by decide) (pc rfl (pc rfl pn))) (by have e := hX7 _ rfl; subst e; exact hF7)
 refine wp_region_lit ?_
 refine st_val hS rfl rfl (by decide) (rv_fieldAddr ty_fd_29_0 (hS.ev rfl)) fun a hS => ?_
 refine st_val hS rfl rfl (by decide) (rv_load_bx (hS.ev rfl) ty_ag_3 (hM.get 0 rfl) rfl) fun a hS => ?_
 obtain ⟨r505, hr, hF⟩ := bind_some hF
 refine st_wp hS rfl (wp_call hS rfl rfl (by decide) fn_ok_35 rfl (c_impl_within F p0_g_Size 1 7 hr _) fun v w a hK hS => ?_)
 obtain ⟨rfl, hN⟩ := hK
 have hM := hM.fra hN.fr
 refine st_val hS rfl rfl (by decide) (rv_not (hS.ev rfl)) fun a hS => ?_
 refine st_val hS rfl rfl (by decide) (rv_move (hS.ev rfl)) fun a hS => ?_
 rcases ite_some hF with ⟨hc, hF⟩ | ⟨hc, hF⟩
 ·have hS := hS.setb (t := 12) rfl hc
  refine st_skip hS rfl rfl (by decide) fun a hS => ?_
  refine st_skip hS rfl rfl (by decide) fun a hS => ?_
  refine st_skip hS rfl rfl (by decide) fun a hS => ?_
  refine st_skip hS rfl rfl (by decide) fun a hS => ?_
  refine st_skip hS rfl rfl (by decide) fun a hS => ?_
  refine st_skip hS rfl rfl (by decide) fun a hS => ?_
  refine st_val hS rfl rfl (by decide) (rv_pick_t (hS.ev rfl) (hS.ev rfl)) fun a hS => ?_
  refine wpList_nil ?_
  exact hJ1 true _ _ (hS.sub (sub_cons rfl (sub_cons rfl sub_nil))) (hM.pk [0, 1] (by decide) (pc rfl (pc rfl pn))) hF
 ·have hS := hS.setb (t := 12) rfl hc
  refine st_val hS rfl rfl (by decide) (rv_fieldAddr ty_fd_29_1 (hS.ev rfl)) fun a hS => ?_
  refine st_val hS rfl rfl (by decide) (rv_load_bx (hS.ev rfl) ty_ag_22 (hM.get 0 rfl) rfl) fun a hS => ?_
  refine st_val hS rfl rfl (by decide) (rv_len_rowM Try.underlying22 (hS.ev rfl) (hM.get 1 rfl)) fun a hS => ?_
  refine st_val hS rfl rfl (by decide) (rv_fieldAddr ty_fd_29_0 (hS.ev rfl)) fun a hS => ?_
  refine st_val hS rfl rfl (by decide) (rv_load_bx (hS.ev rfl) ty_ag_3 (hM.get 0 rfl) rfl) fun a hS => ?_
  refine st_val hS rfl rfl (by decide) (rv_neq (hS.ev rfl) (hS.ev rfl)) fun a hS => ?_
  refine st_val hS rfl rfl (by decide) (rv_pick_f (hS.ev rfl) (hS.ev rfl)) fun a hS => ?_
  refine wpList_nil ?_
  exact hJ1 ((p0_g_Rows.length : Int) != p0_g_Size) _ _ (hS.sub (sub_cons rfl (sub_cons rfl sub_nil))) (hM.pk [0, 1] (by decide) (pc rfl (pc rfl pn))) hF


theorem c_slices_Index_int (F : Nat) (p0_s : List Int) (p1_v : Int) (p0_sv : Value) {r : Int} (hF : S_slices_Index_int F p0_s p1_v = some r) (w0 : World) (h0 : RdRow w0 p0_sv (List.map (int i64) p0_s)) :
    Calls Try.prog 37 [p0_sv, (int i64 p1_v)].toArray w0 (retPost fun v w' => v = (int i64 r) ∧ Mem Nob w0 w' []) := by
 have hM : Mem Nob w0 w0 [(false, rd p0_sv (List.map (int i64) p0_s))] := (Mem.rcons (Mem.nil w0) h0 (by simp))
 refine enter2 Try.func37 rfl rfl rfl fun Q a hQr hQn hQp hS => ?_
 have hS : Sl 19 [(0, p0_sv), (1, (int i64 p1_v))] a := hS
 unfold S_slices_Index_int at hF
 refine wp_seq_k fun K1 hK1 => ?_
 refine wp_region_lit ?_
 refine st_val hS rfl rfl (by decide) (rv_assign (hS.ev rfl)) fun a hS => ?_
 refine wpList_nil ?_
 refine hK1 _ _ ?_
 refine wp_seq_k fun K2 hK2 => ?_
 have hJ1 : ∀ (a : Act) (w : World), Sl 19 [] a → Mem Nob w0 w [] → S_slices_Index_int_j1 F = some r → K2 a w := by
  intro a w hS hM hF
  unfold S_slices_Index_int_j1 at hF
  refine hK2 _ _ ?_
  refine wp_seq_k fun K31 hK31 => ?_
  refine wp_region_lit ?_
  refine st_val hS rfl rfl (by decide) (rv_assign (hS.ev rfl)) fun a hS => ?_
  refine wpList_nil ?_
  refine hK31 _ _ ?_
  refine wp_ret ?_
  cases hF
  exact hQr _ _ (r_1 hS rfl rfl ⟨rfl, hM.pk [] (by decide) pn⟩)
 refine wp_seq_k fun K32 hK32 => ?_
 refine wp_region_lit ?_
 refine st_val hS rfl rfl (by decide) (rv_move (hS.ev rfl)) fun a hS => ?_
 refine st_val hS rfl rfl (by decide) (rv_len_rowM Try.underlying22 (hS.ev rfl) (hM.get 0 rfl)) fun a hS => ?_
 refine st_val hS rfl rfl (by decide) (rv_move (hS.ev rfl)) fun a hS => ?_
 refine wpList_nil ?_
 refine hK32 _ _ ?_
 refine wp_block ?_
 obtain ⟨lb2, hl2, hF2⟩ := bind_some hF
 refine wp_loop_sh (fun s => S_slices_Index_int_l2 F p0_s p1_v s) (fun s a w => Sl 19 [(0, p0_sv), (1, (int i64 p1_v)), (7, (int i64 (p0_s.length : Int))), (8, (int i64 s))] a ∧ Mem Nob w0 w [(false, rd p0_sv (List.map (int i64) p0_s))]) hl2 ⟨(hS.sub (sub_cons rfl (sub_cons rfl (sub_cons rfl (sub_cons rfl sub_nil))))), (hM.pk [0] (by decide) (pc rfl pn))⟩ ?_
 rintro K2 x33 a w res2 ⟨hS, hM⟩ hF hN2 hX2
 have hF : S_slices_Index_int_l2 F p0_s p1_v x33 = some res2 := hF
 have hS : Sl 19 [(0, p0_sv), (1, (int i64 p1_v)), (7, (int i64 (p0_s.length : Int))), (8, (int i64 x33))] a := hS
 have hM : Mem Nob w0 w [(false, rd p0_sv (List.map (int i64) p0_s))] := hM
 unfold S_slices_Index_int_l2 at hF
 refine wp_seq_k fun K47 hK47 => ?_
 refine wp_region_lit ?_
 refine st_val hS rfl rfl (by decide) (rv_lss (hS.ev rfl) (hS.ev rfl)) fun a hS => ?_
 refine wpList_nil ?_
 refine hK47 _ _ ?_
 refine wp_seq_k fun K48 hK48 => ?_
 rcases ite_some hF with ⟨hc, hF⟩ | ⟨hc, hF⟩
 ·refine cond_t hS rfl hc ?_
  refine wp_skip ?_
  refine hK48 _ _ ?_
  refine wp_seq_k fun K49 hK49 => ?_
  refine wp_block ?_
  refine wp_seq_k fun K55 hK55 => ?_
  refine wp_region_lit ?_
  refine st_val hS rfl rfl (by decide) (rv_move (hS.ev rfl)) fun a hS => ?_
  refine st_val hS rfl rfl (by decide) (rv_assign (hS.ev rfl)) fun a hS => ?_
  refine wpList_nil ?_
  refine hK55 _ _ ?_
  refine wp_seq_k fun K56 hK56 => ?_
  refine wp_region_lit ?_
  refine st_val hS rfl rfl (by decide) (rv_move (hS.ev rfl)) fun a hS => ?_
  refine st_val hS rfl rfl (by decide) (rv_move (hS.ev rfl)) fun a hS => ?_
  refine st_val hS rfl rfl (by decide) (rv_move (hS.ev rfl)) fun a hS => ?_
  obtain ⟨x58, hx, hF⟩ := bind_some hF
  obtain ⟨hi0, hi1, hex58⟩ := idxL_some hx
  refine st_val hS rfl rfl (by decide) (rv_indexAddr Try.underlying22 ty_el_3 (hS.ev rfl) (hS.ev rfl) (hM.get 0 rfl) hi0 (map_len hi1)) fun a hS => ?_
  refine st_val hS rfl rfl (by decide) (rv_load_el (hS.ev rfl) ty_ag_3 (hM.get 0 rfl) (mget hex58)) fun a hS => ?_
  refine st_val hS rfl rfl (by decide) (rv_eql (hS.ev rfl) (hS.ev rfl)) fun a hS => ?_
  refine wpList_nil ?_
  refine hK56 _ _ ?_
  rcases ite_some hF with ⟨hc, hF⟩ | ⟨hc, hF⟩
  ·refine cond_t hS rfl hc ?_
   refine wp_seq_k fun K59 hK59 => ?_
   refine wp_region_lit ?_
   refine st_val hS rfl rfl (by decide) (rv_move (hS.ev rfl)) fun a hS => ?_
   refine st_val hS rfl rfl (by decide) (rv_assign (hS.ev rfl)) fun a hS => ?_
   refine wpList_nil ?_
   refine hK59 _ _ ?_
   have hS : Sl 19 [(4, (int i64 x33))] a := hS.sub (sub_cons rfl sub_nil)
   have hM := hM.pk [] (by decide) pn
   refine wp_ret ?_
   cases hF
   have e := hX2 _ rfl
   subst e
   have hF := hF2
   cases hF
   exact hQr _ _ (r_1 hS rfl rfl ⟨rfl, hM.pk [] (by decide) pn⟩)
  ·refine cond_f hS rfl hc ?_
   refine wp_skip ?_
   refine hK49 _ _ ?_
   have hS : Sl 19 [(0, p0_sv), (1, (int i64 p1_v)), (7, (int i64 (p0_s.length : Int))), (8, (int i64 x33))] a := hS.sub (sub_cons rfl (sub_cons rfl (sub_cons rfl (sub_cons rfl sub_nil))))
   refine wp_region_lit ?_
   refine st_val hS rfl rfl (by decide) (rv_add (hS.ev rfl) (hS.ev rfl)) fun a hS => ?_
   refine st_val hS rfl rfl (by decide) (rv_move (hS.ev rfl)) fun a hS => ?_
   refine wpList_nil ?_
   cases hF
   exact hN2 _ _ _ rfl ⟨(hS.sub (sub_cons rfl (sub_cons rfl (sub_cons rfl (sub_cons rfl sub_nil))))), (hM.pk [0] (by decide) (pc rfl pn))⟩
 ·refine cond_f hS rfl hc ?_
  refine wp_exit ?_
  cases hF
  exact hJ1 _ _ (hS.sub sub_nil) (hM.pk [] (by decide) pn) (by have e := hX2 _ rfl; subst e; exact hF2)


theorem c_slices_Contains_int (F : Nat) (p0_s : List Int) (p1_v : Int) (p0_sv : Value) {r : Bool} (hF : S_slices_Contains_int F p0_s p1_v = some r) (w0 : World) (h0 : RdRow w0 p0_sv (List.map (int i64) p0_s)) :
    Calls Try.prog 44 [p0_sv, (int i64 p1_v)].toArray w0 (retPost fun v w' => v = (Value.bool r) ∧ Mem Nob w0 w' []) := by
 have hM : Mem Nob w0 w0 [(false, rd p0_sv (List.map (int i64) p0_s))] := (Mem.rcons (Mem.nil w0) h0 (by simp))
 refine enter2 Try.func44 rfl rfl rfl fun Q a hQr hQn hQp hS => ?_
 have hS : Sl 9 [(0, p0_sv), (1, (int i64 p1_v))] a := hS
 unfold S_slices_Contains_int at hF
 refine wp_seq_k fun K1 hK1 => ?_
 refine wp_region_lit ?_
 refine st_val hS rfl rfl (by decide) (rv_assign (hS.ev rfl)) fun a hS => ?_
 refine wpList_nil ?_
 refine hK1 _ _ ?_
 refine wp_seq_k fun K2 hK2 => ?_
 refine wp_region_lit ?_
 refine st_val hS rfl rfl (by decide) (rv_move (hS.ev rfl)) fun a hS => ?_
 refine st_val hS rfl rfl (by decide) (rv_move (hS.ev rfl)) fun a hS => ?_
 obtain ⟨r4, hr, hF⟩ := bind_some hF
 refine st_wp hS rfl (wp_call hS rfl rfl (by decide) fn_ok_37 rfl (c_slices_Index_int F p0_s p1_v p0_sv hr _ (hM.get 0 rfl)) fun v w a hK hS => ?_)
 obtain ⟨rfl, hN⟩ := hK
 have hM := hM.fra hN.fr
 refine st_val hS rfl rfl (by decide) (rv_geq (hS.ev rfl) (hS.ev rfl)) fun a hS => ?_
 refine st_val hS rfl rfl (by decide) (rv_assign (hS.ev rfl)) fun a hS => ?_
 refine wpList_nil ?_
 refine hK2 _ _ ?_
 refine wp_ret ?_
 cases hF
 exact hQr _ _ (r_1 hS rfl rfl ⟨rfl, hM.pk [] (by decide) pn⟩)


theorem c_impl_areVertices (F : Nat) (p0_g_Size : Int) (p0_g_Rows : List Int) (p1_l : List Int) (p0_g_Rowsv : Value) (p1_lv : Value) {r : Bool} (hF : S_impl_areVertices F p0_g_Size p0_g_Rows p1_l = some r) (w0 : World) (h0 : RdRow w0 p0_g_Rowsv (List.map (int i64) p0_g_Rows)) (h1 : RdRow w0 p1_lv (List.map (int i64) p1_l)) :
    Calls Try.prog 34 [(Value.agg #[(int i64 p0_g_Size), p0_g_Rowsv]), p1_lv].toArray w0 (retPost fun v w' => v = (Value.bool r) ∧ Mem Nob w0 w' []) := by
 have hM : Mem Nob w0 w0 [(false, rd p0_g_Rowsv (List.map (int i64) p0_g_Rows)), (false, rd p1_lv (List.map (int i64) p1_l))] := (Mem.rcons (Mem.rcons (Mem.nil w0) h1 (by simp)) h0 (by simp))
 refine enter2 Try.func34 rfl rfl rfl fun Q a hQr hQn hQp hS => ?_
 have hS : Sl 30 [(0, (Value.agg #[(int i64 p0_g_Size), p0_g_Rowsv])), (1, p1_lv)] a := hS
 unfold S_impl_areVertices at hF
 refine wp_seq_k fun K1 hK1 => ?_
 refine wp_region_lit ?_
 obtain ⟨b3, w, hr, hM⟩ := hM.boxE (ρ := a.eval) (dst := some 2) (ty := _) (pos := _) (af := _) (gd := _) (x := .tmp 0) (T := 29) [(int i64 p0_g_Size), p0_g_Rowsv] (hS.ev rfl) rfl
 refine st_val hS rfl rfl (by decide) hr fun a hS => ?_
 refine st_val hS rfl rfl (by decide) (rv_assign (hS.ev rfl)) fun a hS => ?_
 refine wpList_nil ?_
 refine hK1 _ _ ?_
 refine wp_seq_k fun K4 hK4 => ?_
 have hJ1 : ∀ (a : Act) (w : World), Sl 30 [(2, (fdp b3 0))] a → Mem Nob w0 w [(true, bx b3 29 [(int i64 p0_g_Size), p0_g_Rowsv]), (false, rd p0_g_Rowsv (List.map (int i64) p0_g_Rows))] → S_impl_areVertices_j1 F p0_g_Size p0_g_Rows = some r → K4 a w := by
  intro a w hS hM hF
  unfold S_impl_areVertices_j1 at hF
  refine hK4 _ _ ?_
  refine wp_seq_k fun K61 hK61 => ?_
  refine wp_region_lit ?_
  refine st_val hS rfl rfl (by decide) (rv_load_agg (hS.ev rfl) ty_ag_29 (hM.get 0 rfl) ty_sz_29) fun a hS => ?_
  obtain ⟨r63, hr, hF⟩ := bind_some hF
  refine st_wp hS rfl (wp_call hS rfl rfl (by decide) fn_ok_38 rfl (c_impl_IsGraph F p0_g_Size p0_g_Rows p0_g_Rowsv hr _ (hM.get 1 rfl)) fun v w a hK hS => ?_)
  obtain ⟨rfl, hN⟩ := hK
  have hM := hM.fra hN.fr
  refine st_val hS rfl rfl (by decide) (rv_assign (hS.ev rfl)) fun a hS => ?_
  refine wpList_nil ?_
  refine hK61 _ _ ?_
  refine wp_ret ?_
  cases hF
  exact hQr _ _ (r_1 hS rfl rfl ⟨rfl, hM.pk [] (by decide) pn⟩)
 refine wp_seq_k fun K64 hK64 => ?_
 refine wp_region_lit ?_
 refine st_val hS rfl rfl (by decide) (rv_move (hS.ev rfl)) fun a hS => ?_
 refine st_val hS rfl rfl (by decide) (rv_len_rowM Try.underlying22 (hS.ev rfl) (hM.get 2 rfl)) fun a hS => ?_
 refine st_val hS rfl rfl (by decide) (rv_move (hS.ev rfl)) fun a hS => ?_
 refine wpList_nil ?_
 refine hK64 _ _ ?_
 refine wp_block ?_
 obtain ⟨lb2, hl2, hF2⟩ := bind_some hF
 refine wp_loop_sh (fun s => S_impl_areVertices_l2 F p0_g_Size p1_l s) (fun s a w => Sl 30 [(1, p1_lv), (2, (fdp b3 0)), (7, p1_lv), (8, (int i64 (p1_l.length : Int))), (9, (int i64 s))] a ∧ Mem Nob w0 w [(false, rd p1_lv (List.map (int i64) p1_l)), (true, bx b3 29 [(int i64 p0_g_Size), p0_g_Rowsv]), (false, rd p0_g_Rowsv (List.map (int i64) p0_g_Rows))]) hl2 ⟨(hS.sub (sub_cons rfl (sub_cons rfl (sub_cons rfl (sub_cons rfl (sub_cons rfl sub_nil)))))), (hM.pk [2, 0, 1] (by decide) (pc rfl (pc rfl (pc rfl pn))))⟩ ?_
 rintro K2 x65 a w res2 ⟨hS, hM⟩ hF hN2 hX2
 have hF : S_impl_areVertices_l2 F p0_g_Size p1_l x65 = some res2 := hF
 have hS : Sl 30 [(1, p1_lv), (2, (fdp b3 0)), (7, p1_lv), (8, (int i64 (p1_l.length : Int))), (9, (int i64 x65))] a := hS
 have hM : Mem Nob w0 w [(false, rd p1_lv (List.map (int i64) p1_l)), (true, bx b3 29 [(int i64 p0_g_Size), p0_g_Rowsv]), (false, rd p0_g_Rowsv (List.map (int i64) p0_g_Rows))] := hM
 unfold S_impl_areVertices_l2 at hF
 refine wp_seq_k fun K93 hK93 => ?_
 refine wp_region_lit ?_
 refine st_val hS rfl rfl (by decide) (rv_lss (hS.ev rfl) (hS.ev rfl)) fun a hS => ?_
 refine wpList_nil ?_
 refine hK93 _ _ ?_
 refine wp_seq_k fun K94 hK94 => ?_
 rcases ite_some hF with ⟨hc, hF⟩ | ⟨hc, hF⟩
 ·refine cond_t hS rfl hc ?_
  refine wp_skip ?_
  refine hK94 _ _ ?_
  refine wp_seq_k fun K95 hK95 => ?_
  refine wp_block ?_
  refine wp_seq_k fun K108 hK108 => ?_
  refine wp_region_lit ?_
  refine st_val hS rfl rfl (by decide) (rv_move (hS.ev rfl)) fun a hS => ?_
  obtain ⟨x110, hx, hF⟩ := bind_some hF
  obtain ⟨hi0, hi1, hex110⟩ := idxL_some hx
  refine st_val hS rfl rfl (by decide) (rv_indexAddr Try.underlying22 ty_el_3 (hS.ev rfl) (hS.ev rfl) (hM.get 0 rfl) hi0 (map_len hi1)) fun a hS => ?_
  refine st_val hS rfl rfl (by decide) (rv_load_el (hS.ev rfl) ty_ag_3 (hM.get 0 rfl) (mget hex110)) fun a hS => ?_
  refine st_val hS rfl rfl (by decide) (rv_assign (hS.ev rfl)) fun a hS => ?_
  refine st_val hS rfl rfl (by decide) (rv_assign (hS.ev rfl)) fun a hS => ?_
  refine wpList_nil ?_
  refine hK108 _ _ ?_
  refine wp_seq_k fun K111 hK111 => ?_
  have hJ3 : ∀ (p115 : Bool) (a : Act) (w : World), Sl 30 [(1, p1_lv), (2, (fdp b3 0)), (7, p1_lv), (8, (int i64 (p1_l.length : Int))), (9, (int i64 x65)), (26, (Value.bool p115))] a → Mem Nob w0 w [(false, rd p1_lv (List.map (int i64) p1_l)), (true, bx b3 29 [(int i64 p0_g_Size), p0_g_Rowsv]), (false, rd p0_g_Rowsv (List.map (int i64) p0_g_Rows))] → S_impl_areVertices_j3 F x65 p115 = some res2 → K111 a w := by
   intro p115 a w hS hM hF
   unfold S_impl_areVertices_j3 at hF
   refine hK111 _ _ ?_
   rcases ite_some hF with ⟨hc, hF⟩ | ⟨hc, hF⟩
   ·refine cond_t hS rfl hc ?_
    refine wp_seq_k fun K116 hK116 => ?_
    refine wp_region_lit ?_
    refine st_val hS rfl rfl (by decide) (rv_assign (hS.ev rfl)) fun a hS => ?_
    refine wpList_nil ?_
    refine hK116 _ _ ?_
    have hS : Sl 30 [(4, (Value.bool false))] a := hS.sub (sub_cons rfl sub_nil)
    have hM := hM.pk [] (by decide) pn
    refine wp_ret ?_
    cases hF
    have e := hX2 _ rfl
    subst e
    have hF := hF2
    cases hF
    exact hQr _ _ (r_1 hS rfl rfl ⟨rfl, hM.pk [] (by decide) pn⟩)
   ·refine cond_f hS rfl hc ?_
    refine wp_skip ?_
    refine hK95 _ _ ?_
    refine wp_region_lit ?_
    refine st_val hS rfl rfl (by decide) (rv_add (hS.ev rfl) (hS.ev rfl)) fun a hS => ?_
    refine st_val hS rfl rfl (by decide) (rv_move (hS.ev rfl)) fun a hS => ?_
    refine wpList_nil ?_
    cases hF
    exact hN2 _ _ _ rfl ⟨(hS.sub (sub_cons rfl (sub_cons rfl (sub_cons rfl (sub_cons rfl (sub_cons rfl sub_nil)))))), (hM.pk [0, 1, 2] (by decide) (pc rfl (pc rfl (pc rfl pn))))⟩
  refine wp_region_lit ?_
  refine st_val hS rfl rfl (by decide) (rv_move (hS.ev rfl)) fun a hS => ?_
  refine st_val hS rfl rfl (by decide) (rv_fieldAddr ty_fd_29_0 (hS.ev rfl)) fun a hS => ?_
  refine st_val hS rfl rfl (by decide) (rv_load_bx (hS.ev rfl) ty_ag_3 (hM.get 1 rfl) rfl) fun a hS => ?_
  refine st_val hS rfl rfl (by decide) (rv_sub (hS.ev rfl) (hS.ev rfl)) fun a hS => ?_
  obtain ⟨r117, hr, hF⟩ := bind_some hF
  refine st_wp hS rfl (wp_call hS rfl rfl (by decide) fn_ok_35 rfl (c_impl_within F x110 0 (i64.wrap (p0_g_Size - 1)) hr _) fun v w a hK hS => ?_)
  obtain ⟨rfl, hN⟩ := hK
  have hM := hM.fra hN.fr
  refine st_val hS rfl rfl (by decide) (rv_not (hS.ev rfl)) fun a hS => ?_
  refine st_val hS rfl rfl (by decide) (rv_move (hS.ev rfl)) fun a hS => ?_
  rcases ite_some hF with ⟨hc, hF⟩ | ⟨hc, hF⟩
  ·have hS := hS.setb (t := 20) rfl hc
   refine st_skip hS rfl rfl (by decide) fun a hS => ?_
   refine st_skip hS rfl rfl (by decide) fun a hS => ?_
   refine st_skip hS rfl rfl (by decide) fun a hS => ?_
   refine st_skip hS rfl rfl (by decide) fun a hS => ?_
   refine st_skip hS rfl rfl (by decide) fun a hS => ?_
   refine st_val hS rfl rfl (by decide) (rv_pick_t (hS.ev rfl) (hS.ev rfl)) fun a hS => ?_
   refine wpList_nil ?_
   exact hJ3 true _ _ (hS.sub (sub_cons rfl (sub_cons rfl (sub_cons rfl (sub_cons rfl (sub_cons rfl (sub_cons rfl sub_nil))))))) (hM.pk [0, 1, 2] (by decide) (pc rfl (pc rfl (pc rfl pn)))) hF
  ·have hS := hS.setb (t := 20) rfl hc
   refine st_val hS rfl rfl (by decide) (rv_move (hS.ev rfl)) fun a hS => ?_
   refine st_val hS rfl rfl (by decide) (rv_move (hS.ev rfl)) fun a hS => ?_
   obtain ⟨_, hx, hF⟩ := bind_some hF
   have hj118 := slO_some hx
   refine st_val hS rfl rfl (by decide) (rv_slH Try.underlying22 ty_el_3 (hS.ev rfl) (hS.ev rfl) (hM.get 0 rfl) hj118.1 (map_le hj118.2)) fun a hS => ?_
   refine st_val hS rfl rfl (by decide) (rv_move (hS.ev rfl)) fun a hS => ?_
   obtain ⟨r119, hr, hF⟩ := bind_some hF
   refine st_wp hS rfl (wp_call hS rfl rfl (by decide) fn_ok_44 rfl (c_slices_Contains_int F (p1_l.take (x65.toNat)) x110 (slH p1_lv (x65.toNat)) hr _ (rd_slHm (hM.get 0 rfl) hj118.2)) fun v w a hK hS => ?_)
   obtain ⟨rfl, hN⟩ := hK
   have hM := hM.fra hN.fr
   refine st_val hS rfl rfl (by decide) (rv_pick_f (hS.ev rfl) (hS.ev rfl)) fun a hS => ?_
   refine wpList_nil ?_
   exact hJ3 r119 _ _ (hS.sub (sub_cons rfl (sub_cons rfl (sub_cons rfl (sub_cons rfl (sub_cons rfl (sub_cons rfl sub_nil))))))) (hM.pk [0, 1, 2] (by decide) (pc rfl (pc rfl (pc rfl pn)))) hF
 ·refine cond_f hS rfl hc ?_
  refine wp_exit ?_
  cases hF
  exact hJ1 _ _ (hS.sub (sub_cons rfl sub_nil)) (hM.pk [1, 2] (by decide) (pc rfl (pc rfl pn))) (by have e := hX2 _ rfl; subst e; exact hF2)


theorem c_impl_IsOrder (F : Nat) (p0_g_Size : Int) (p0_g_Rows : List Int) (p1_l : List Int) (p0_g_Rowsv : Value) (p1_lv : Value) {r : Bool} (hF : S_impl_IsOrder F p0_g_Size p0_g_Rows p1_l = some r) (w0 : World) (h0 : RdRow w0 p0_g_Rowsv (List.map (int i64) p0_g_Rows)) (h1 : RdRow w0 p1_lv (List.map (int i64) p1_l)) :
    Calls Try.prog 21 [(Value.agg #[(int i64 p0_g_Size), p0_g_Rowsv]), p1_lv].toArray w0 (retPost fun v w' => v = (Value.bool r) ∧ Mem Nob w0 w' []) := by
 have hM : Mem Nob w0 w0 [(false, rd p0_g_Rowsv (List.map (int i64) p0_g_Rows)), (false, rd p1_lv (List.map (int i64) p1_l))] := (Mem.rcons (Mem.rcons (Mem.nil w0) h1 (by simp)) h0 (by simp))
 refine enter2 Try.func21 rfl rfl rfl fun Q a hQr hQn hQp hS => ?_
 have hS : Sl 15 [(0, (Value.agg #[(int i64 p0_g_Size), p0_g_Rowsv])), (1, p1_lv)] a := hS
 unfold S_impl_IsOrder at hF
 refine wp_seq_k fun K1 hK1 => ?_
 refine wp_region_lit ?_
 obtain ⟨b3, w, hr, hM⟩ := hM.boxE (ρ := a.eval) (dst := some 2) (ty := _) (pos := _) (af := _) (gd := _) (x := .tmp 0) (T := 29) [(int i64 p0_g_Size), p0_g_Rowsv] (hS.ev rfl) rfl
 refine st_val hS rfl rfl (by decide) hr fun a hS => ?_
 refine st_val hS rfl rfl (by decide) (rv_assign (hS.ev rfl)) fun a hS => ?_
 refine wpList_nil ?_
 refine hK1 _ _ ?_
 refine wp_seq_k fun K4 hK4 => ?_
 have hJ1 : ∀ (p6 : Bool) (a : Act) (w : World), Sl 15 [(4, (Value.bool p6))] a → Mem Nob w0 w [] → S_impl_IsOrder_j1 F p6 = some r → K4 a w := by
  intro p6 a w hS hM hF
  unfold S_impl_IsOrder_j1 at hF
  refine hK4 _ _ ?_
  refine wp_ret ?_
  cases hF
  exact hQr _ _ (r_1 hS rfl rfl ⟨rfl, hM.pk [] (by decide) pn⟩)
 refine wp_region_lit ?_
 refine st_val hS rfl rfl (by decide) (rv_load_agg (hS.ev rfl) ty_ag_29 (hM.get 0 rfl) ty_sz_29) fun a hS => ?_
 refine st_val hS rfl rfl (by decide) (rv_move (hS.ev rfl)) fun a hS => ?_
 obtain ⟨r7, hr, hF⟩ := bind_some hF
 refine st_wp hS rfl (wp_call hS rfl rfl (by decide) fn_ok_34 rfl (c_impl_areVertices F p0_g_Size p0_g_Rows p1_l p0_g_Rowsv p1_lv hr _ (hM.get 1 rfl) (hM.get 2 rfl)) fun v w a hK hS => ?_)
 obtain ⟨rfl, hN⟩ := hK
 have hM := hM.fra hN.fr
 refine st_val hS rfl rfl (by decide) (rv_move (hS.ev rfl)) fun a hS => ?_
 rcases ite_some hF with ⟨hc, hF⟩ | ⟨hc, hF⟩
 ·have hS := hS.setb (t := 8) rfl hc
  refine st_val hS rfl rfl (by decide) (rv_move (hS.ev rfl)) fun a hS => ?_
  refine st_val hS rfl rfl (by decide) (rv_len_rowM Try.underlying22 (hS.ev rfl) (hM.get 2 rfl)) fun a hS => ?_
  refine st_val hS rfl rfl (by decide) (rv_fieldAddr ty_fd_29_0 (hS.ev rfl)) fun a hS => ?_
  refine st_val hS rfl rfl (by decide) (rv_load_bx (hS.ev rfl) ty_ag_3 (hM.get 0 rfl) rfl) fun a hS => ?_
  refine st_val hS rfl rfl (by decide) (rv_eql (hS.ev rfl) (hS.ev rfl)) fun a hS => ?_
  refine st_val hS rfl rfl (by decide) (rv_pick_t (hS.ev rfl) (hS.ev rfl)) fun a hS => ?_
  refine st_val hS rfl rfl (by decide) (rv_assign (hS.ev rfl)) fun a hS => ?_
  refine wpList_nil ?_
  exact hJ1 ((p1_l.length : Int) == p0_g_Size) _ _ (hS.sub (sub_cons rfl sub_nil)) (hM.pk [] (by decide) pn) hF
 ·have hS := hS.setb (t := 8) rfl hc
  refine st_skip hS rfl rfl (by decide) fun a hS => ?_
  refine st_skip hS rfl rfl (by decide) fun a hS => ?_
  refine st_skip hS rfl rfl (by decide) fun a hS => ?_
  refine st_skip hS rfl rfl (by decide) fun a hS => ?_
  refine st_skip hS rfl rfl (by decide) fun a hS => ?_
  refine st_val hS rfl rfl (by decide) (rv_pick_f (hS.ev rfl) (hS.ev rfl)) fun a hS => ?_
  refine st_val hS rfl rfl (by decide) (rv_assign (hS.ev rfl)) fun a hS => ?_
  refine wpList_nil ?_
  exact hJ1 false _ _ (hS.sub (sub_cons rfl sub_nil)) (hM.pk [] (by decide) pn) hF


theorem c_impl_copyGraph (F : Nat) (p0_g_Size : Int) (p0_g_Rows : List Int) (p0_g_Rowsv : Value) {r : Int × (List (Int))} (hF : S_impl_copyGraph F p0_g_Size p0_g_Rows = some r) (w0 : World) (h0 : RdRow w0 p0_g_Rowsv (List.map (int i64) p0_g_Rows)) :
    Calls Try.prog 22 [(Value.agg #[(int i64 p0_g_Size), p0_g_Rowsv])].toArray w0 (retPost fun v w' => ∃ v11, v = (Value.agg #[(int i64 r.1), v11]) ∧ Mem Nob w0 w' [(true, ow 3 v11 (List.map (int i64) r.2))]) := by
 have hM : Mem Nob w0 w0 [(false, rd p0_g_Rowsv (List.map (int i64) p0_g_Rows))] := (Mem.rcons (Mem.nil w0) h0 (by simp))
 refine enter2 Try.func22 rfl rfl rfl fun Q a hQr hQn hQp hS => ?_
 have hS : Sl 10 [(0, (Value.agg #[(int i64 p0_g_Size), p0_g_Rowsv]))] a := hS
 unfold S_impl_copyGraph at hF
 refine wp_seq_k fun K1 hK1 => ?_
 refine wp_region_lit ?_
 obtain ⟨b4, w, hr, hM⟩ := hM.boxE (ρ := a.eval) (dst := some 1) (ty := _) (pos := _) (af := _) (gd := _) (x := .tmp 0) (T := 29) [(int i64 p0_g_Size), p0_g_Rowsv] (hS.ev rfl) rfl
 refine st_val hS rfl rfl (by decide) hr fun a hS => ?_
 obtain ⟨b5, w, hr, hM⟩ := hM.allocE (ρ := a.eval) (dst := some 2) (ty := _) (pos := _) (af := _) (gd := _) (T := 29) (P := Try.prog) [(int i64 0), (Value.slice none 0 0)] ty_zr_29 rfl
 refine st_val hS rfl rfl (by decide) hr fun a hS => ?_
 have hM := hM.addNil 3
 refine wpList_nil ?_
 refine hK1 _ _ ?_
 refine wp_seq_k fun K6 hK6 => ?_
 have hM := hM.pk [1, 0, 2, 3] (by decide) (pc rfl (pc rfl (pc rfl (pc rfl pn))))
 refine an_startB 8 (feet [(true, bx b5 29 [(int i64 0), (Value.slice none 0 0)])]) ty_mixed (by kernel_rfl) fun w hf => ?_
 have hM := hM.fra hf
 have hB := hM
 have hM := hB.reg1 rfl
 refine tkB hS 0 1 (by kernel_rfl) rfl rfl rfl hQp rfl (fun w' hC' => (rv_fieldAddr ty_fd_29_0 (hS.ev rfl))) hM.fr fun a hS => ?_
 refine tkB hS 1 3 (by kernel_rfl) rfl rfl rfl hQp rfl (fun w' hC' => (rv_load_bx (hS.ev rfl) ty_ag_3 (hB.getF rfl 1 rfl hC') rfl)) hM.fr fun a hS => ?_
 refine tkB hS 3 11 (by kernel_rfl) rfl rfl rfl hQp rfl (fun w' hC' => (rv_fieldAddr ty_fd_29_1 (hS.ev rfl))) hM.fr fun a hS => ?_
 refine tkB hS 4 27 (by kernel_rfl) rfl rfl rfl hQp rfl (fun w' hC' => (rv_load_bx (hS.ev rfl) ty_ag_22 (hB.getF rfl 1 rfl hC') rfl)) hM.fr fun a hS => ?_
 obtain ⟨v9, w, hr, hM⟩ := Mem.litE (f := (int i64)) (dst := some 5) (ty := _) (pos := _) (af := _) (gd := _) (ps := []) ([] : List (Int)) i64_one hM hS Try.underlying22 ty_el_3 rfl rfl rfl rfl
 refine an_oneB hS (i := 2) 31 (by kernel_rfl) rfl (by kernel_rfl) rfl ?_
 refine wp_val hS rfl (by decide) hr fun a hS => ⟨hM.fr, ?_⟩
 obtain ⟨_, hx, hF⟩ := bind_some hF
 obtain ⟨v10, w, hr, hM⟩ := Mem.appE (f := (int i64)) (S := _) (R := [(true, bx b5 29 [(int i64 0), (Value.slice none 0 0)]), (false, ow 3 (Value.slice none 0 0) (List.map (int i64) ([] : List (Int)))), (false, bx b4 29 [(int i64 p0_g_Size), p0_g_Rowsv]), (false, rd p0_g_Rowsv (List.map (int i64) p0_g_Rows))]) (ρ := a.eval) (dst := some 8) (ty := _) (pos := _) (af := _) (gd := _) (x := .tmp 5) (y := .tmp 7) i64_one hM Try.underlying22 ty_el_3 rfl (by decide) (hS.ev rfl) (hS.ev rfl) (hM.get 4 rfl) (catO_some hx)
 refine an_oneB hS (i := 5) 63 (by kernel_rfl) rfl (by kernel_rfl) rfl ?_
 refine wp_val hS rfl (by decide) hr fun a hS => ⟨hM.fr, ?_⟩
 refine tkB hS 6 127 (by kernel_rfl) rfl rfl rfl hQp rfl (fun w' hC' => (rv_build hS ty_st_29 rfl (by simp) (ones_cons (by rw [hS.ev (v := (int i64 p0_g_Size)) rfl]; rfl) (ones_cons (by rw [hS.ev (v := v10) rfl]; exact rd_one (rd_of_ow (hM.get 0 rfl))) ones_nil)))) hM.fr fun a hS => ?_
 have hM := hM.pk [1, 0, 2, 3, 4] (by decide) (pc rfl (pc rfl (pc rfl (pc rfl (pc rfl pn)))))
 obtain ⟨w, hr, hM⟩ := hM.st_agg (us := [(int i64 p0_g_Size), v10]) (ρ := a.eval) (dst := none) (ty := _) (pos := _) (af := _) (gd := _) (x := .tmp 2) (y := .tmp 9) (hS.ev rfl) (hS.ev rfl) ty_sz_29 (all1_cons rfl (all1_cons (rd_one (rd_of_ow (hM.get 1 rfl))) all1_nil)) rfl
 refine an_oneB hS (i := 7) 255 (by kernel_rfl) rfl (by kernel_rfl) rfl ?_
 refine wp_unit hS rfl hr ⟨hM.fr, ?_⟩
 refine an_done (by kernel_rfl) ?_
 have hN := hM.pk [0, 1] (by decide) (pc rfl (pc rfl pn))
 have hM := Mem.callo (A := [(true, bx b5 29 [(int i64 0), (Value.slice none 0 0)])]) (B := [(true, ow 3 (Value.slice none 0 0) (List.map (int i64) ([] : List (Int)))), (true, bx b4 29 [(int i64 p0_g_Size), p0_g_Rowsv]), (false, rd p0_g_Rowsv (List.map (int i64) p0_g_Rows))]) hB rfl (hN.memS fun _ h => h) rfl
 refine hK6 _ _ ?_
 have hS : Sl 10 [(2, (fdp b5 0))] a := hS.sub (sub_cons rfl sub_nil)
 have hM := hM.pk [0, 1] (by decide) (pc rfl (pc rfl pn))
 refine wp_ret ?_
 cases hF
 exact hQr _ _ (r_c hS rfl ⟨_, rfl, run_loadAgg ty_ag_29 (hM.get 0 rfl) ty_sz_29⟩ ⟨v10, rfl, hM.pk [1] (by decide) (pc rfl pn)⟩)


theorem c_impl_SetOf (F : Nat) (p0_l : List Int) (p0_lv : Value) {r : Int × Bool} (hF : S_impl_SetOf F p0_l = some r) (w0 : World) (h0 : RdRow w0 p0_lv (List.map (int i64) p0_l)) :
    Calls Try.prog 36 [p0_lv].toArray w0 (retPost fun v w' => v = (Value.tuple #[(int i64 r.1), (Value.bool r.2)]) ∧ Mem Nob w0 w' []) := by
 have hM : Mem Nob w0 w0 [(false, rd p0_lv (List.map (int i64) p0_l))] := (Mem.rcons (Mem.nil w0) h0 (by simp))
 refine enter2 Try.func36 rfl rfl rfl fun Q a hQr hQn hQp hS => ?_
 have hS : Sl 27 [(0, p0_lv)] a := hS
 unfold S_impl_SetOf at hF
 refine wp_seq_k fun K1 hK1 => ?_
 refine wp_region_lit ?_
 refine st_val hS rfl rfl (by decide) (rv_assign (hS.ev rfl)) fun a hS => ?_
 refine st_val hS rfl rfl (by decide) (rv_assign (hS.ev rfl)) fun a hS => ?_
 refine wpList_nil ?_
 refine hK1 _ _ ?_
 refine wp_seq_k fun K2 hK2 => ?_
 refine wp_region_lit ?_
 refine st_val hS rfl rfl (by decide) (rv_assign (hS.ev rfl)) fun a hS => ?_
 refine wpList_nil ?_
 refine hK2 _ _ ?_
 refine wp_seq_k fun K3 hK3 => ?_
 have hJ1 : ∀ (x85 : Int) (a : Act) (w : World), Sl 27 [(4, (int i64 x85))] a → Mem Nob w0 w [] → S_impl_SetOf_j1 F x85 = some r → K3 a w := by
  intro x85 a w hS hM hF
  unfold S_impl_SetOf_j1 at hF
  refine hK3 _ _ ?_
  refine wp_seq_k fun K86 hK86 => ?_
  refine wp_region_lit ?_
  refine st_val hS rfl rfl (by decide) (rv_move (hS.ev rfl)) fun a hS => ?_
  refine st_val hS rfl rfl (by decide) (rv_assign (hS.ev rfl)) fun a hS => ?_
  refine st_val hS rfl rfl (by decide) (rv_assign (hS.ev rfl)) fun a hS => ?_
  refine wpList_nil ?_
  refine hK86 _ _ ?_
  refine wp_ret ?_
  cases hF
  exact hQr _ _ (r_2 hS rfl rfl rfl ⟨rfl, hM.pk [] (by decide) pn⟩)
 refine wp_seq_k fun K87 hK87 => ?_
 refine wp_region_lit ?_
 refine st_val hS rfl rfl (by decide) (rv_move (hS.ev rfl)) fun a hS => ?_
 refine st_val hS rfl rfl (by decide) (rv_len_rowM Try.underlying22 (hS.ev rfl) (hM.get 0 rfl)) fun a hS => ?_
 refine st_val hS rfl rfl (by decide) (rv_move (hS.ev rfl)) fun a hS => ?_
 refine wpList_nil ?_
 refine hK87 _ _ ?_
 refine wp_block ?_
 obtain ⟨lb2, hl2, hF2⟩ := bind_some hF
 refine wp_loop_sh (fun s => S_impl_SetOf_l2 F p0_l s.1 s.2) (fun s a w => Sl 27 [(4, (int i64 s.1)), (7, p0_lv), (8, (int i64 (p0_l.length : Int))), (9, (int i64 s.2))] a ∧ Mem Nob w0 w [(false, rd p0_lv (List.map (int i64) p0_l))]) hl2 ⟨(hS.sub (sub_cons rfl (sub_cons rfl (sub_cons rfl (sub_cons rfl sub_nil))))), (hM.pk [0] (by decide) (pc rfl pn))⟩ ?_
 rintro K2 ⟨x88, x89⟩ a w res2 ⟨hS, hM⟩ hF hN2 hX2
 have hF : S_impl_SetOf_l2 F p0_l x88 x89 = some res2 := hF
 have hS : Sl 27 [(4, (int i64 x88)), (7, p0_lv), (8, (int i64 (p0_l.length : Int))), (9, (int i64 x89))] a := hS
 have hM : Mem Nob w0 w [(false, rd p0_lv (List.map (int i64) p0_l))] := hM
 unfold S_impl_SetOf_l2 at hF
 refine wp_seq_k fun K129 hK129 => ?_
 refine wp_region_lit ?_
 refine st_val hS rfl rfl (by decide) (rv_lss (hS.ev rfl) (hS.ev rfl)) fun a hS => ?_
 refine wpList_nil ?_
 refine hK129 _ _ ?_
 refine wp_seq_k fun K130 hK130 => ?_
 rcases ite_some hF with ⟨hc, hF⟩ | ⟨hc, hF⟩
 ·refine cond_t hS rfl hc ?_
  refine wp_skip ?_
  refine hK130 _ _ ?_
  refine wp_seq_k fun K131 hK131 => ?_
  refine wp_block ?_
  refine wp_seq_k fun K150 hK150 => ?_
  refine wp_region_lit ?_
  obtain ⟨x152, hx, hF⟩ := bind_some hF
  obtain ⟨hi0, hi1, hex152⟩ := idxL_some hx
  refine st_val hS rfl rfl (by decide) (rv_indexAddr Try.underlying22 ty_el_3 (hS.ev rfl) (hS.ev rfl) (hM.get 0 rfl) hi0 (map_len hi1)) fun a hS => ?_
  refine st_val hS rfl rfl (by decide) (rv_load_el (hS.ev rfl) ty_ag_3 (hM.get 0 rfl) (mget hex152)) fun a hS => ?_
  refine st_val hS rfl rfl (by decide) (rv_assign (hS.ev rfl)) fun a hS => ?_
  refine wpList_nil ?_
  refine hK150 _ _ ?_
  refine wp_seq_k fun K153 hK153 => ?_
  refine wp_seq_k fun K161 hK161 => ?_
  have hJ3 : ∀ (p164 : Bool) (a : Act) (w : World), Sl 27 [(4, (int i64 x88)), (6, (int i64 x152)), (7, p0_lv), (8, (int i64 (p0_l.length : Int))), (9, (int i64 x89)), (20, (Value.bool p164))] a → Mem Nob w0 w [(false, rd p0_lv (List.map (int i64) p0_l))] → S_impl_SetOf_j3 F x88 x89 x152 p164 = some res2 → K161 a w := by
   intro p164 a w hS hM hF
   unfold S_impl_SetOf_j3 at hF
   refine hK161 _ _ ?_
   rcases ite_some hF with ⟨hc, hF⟩ | ⟨hc, hF⟩
   ·refine cond_t hS rfl hc ?_
    refine wp_seq_k fun K165 hK165 => ?_
    refine wp_region_lit ?_
    refine st_val hS rfl rfl (by decide) (rv_assign (hS.ev rfl)) fun a hS => ?_
    refine st_val hS rfl rfl (by decide) (rv_assign (hS.ev rfl)) fun a hS => ?_
    refine wpList_nil ?_
    refine hK165 _ _ ?_
    refine wp_ret ?_
    cases hF
    have e := hX2 _ rfl
    subst e
    have hF := hF2
    cases hF
    exact hQr _ _ (r_2 hS rfl rfl rfl ⟨rfl, hM.pk [] (by decide) pn⟩)
   ·refine cond_f hS rfl hc ?_
    refine wp_skip ?_
    refine hK153 _ _ ?_
    refine wp_region_lit ?_
    refine st_val hS rfl rfl (by decide) (rv_move (hS.ev rfl)) fun a hS => ?_
    refine st_val hS rfl rfl (by decide) (rv_move (hS.ev rfl)) fun a hS => ?_
    obtain ⟨_, hx, hF⟩ := bind_some hF
    have hi0 := nnO_some hx
    refine st_val hS rfl rfl (by decide) (rv_shl (hS.ev rfl) (hS.ev rfl) hi0) fun a hS => ?_
    refine st_val hS rfl rfl (by decide) (rv_or (hS.ev rfl) (hS.ev rfl)) fun a hS => ?_
    refine st_val hS rfl rfl (by decide) (rv_assign (hS.ev rfl)) fun a hS => ?_
    refine wpList_nil ?_
    refine hK131 _ _ ?_
    refine wp_region_lit ?_
    refine st_val hS rfl rfl (by decide) (rv_add (hS.ev rfl) (hS.ev rfl)) fun a hS => ?_
    refine st_val hS rfl rfl (by decide) (rv_move (hS.ev rfl)) fun a hS => ?_
    refine wpList_nil ?_
    cases hF
    exact hN2 _ _ _ rfl ⟨(hS.sub (sub_cons rfl (sub_cons rfl (sub_cons rfl (sub_cons rfl sub_nil))))), (hM.pk [0] (by decide) (pc rfl pn))⟩
  refine wp_region_lit ?_
  refine st_val hS rfl rfl (by decide) (rv_move (hS.ev rfl)) fun a hS => ?_
  obtain ⟨r166, hr, hF⟩ := bind_some hF
  refine st_wp hS rfl (wp_call hS rfl rfl (by decide) fn_ok_35 rfl (c_impl_within F x152 0 6 hr _) fun v w a hK hS => ?_)
  obtain ⟨rfl, hN⟩ := hK
  have hM := hM.fra hN.fr
  refine st_val hS rfl rfl (by decide) (rv_not (hS.ev rfl)) fun a hS => ?_
  refine st_val hS rfl rfl (by decide) (rv_move (hS.ev rfl)) fun a hS => ?_
  rcases ite_some hF with ⟨hc, hF⟩ | ⟨hc, hF⟩
  ·have hS := hS.setb (t := 16) rfl hc
   refine st_skip hS rfl rfl (by decide) fun a hS => ?_
   refine st_skip hS rfl rfl (by decide) fun a hS => ?_
   refine st_skip hS rfl rfl (by decide) fun a hS => ?_
   refine st_val hS rfl rfl (by decide) (rv_pick_t (hS.ev rfl) (hS.ev rfl)) fun a hS => ?_
   refine wpList_nil ?_
   exact hJ3 true _ _ (hS.sub (sub_cons rfl (sub_cons rfl (sub_cons rfl (sub_cons rfl (sub_cons rfl (sub_cons rfl sub_nil))))))) (hM.pk [0] (by decide) (pc rfl pn)) hF
  ·have hS := hS.setb (t := 16) rfl hc
   refine st_val hS rfl rfl (by decide) (rv_move (hS.ev rfl)) fun a hS => ?_
   refine st_val hS rfl rfl (by decide) (rv_move (hS.ev rfl)) fun a hS => ?_
   obtain ⟨r167, hr, hF⟩ := bind_some hF
   refine st_wp hS rfl (wp_call hS rfl rfl (by decide) fn_ok_26 rfl (c_impl_has F x88 x152 hr _) fun v w a hK hS => ?_)
   obtain ⟨rfl, hN⟩ := hK
   have hM := hM.fra hN.fr
   refine st_val hS rfl rfl (by decide) (rv_pick_f (hS.ev rfl) (hS.ev rfl)) fun a hS => ?_
   refine wpList_nil ?_
   exact hJ3 r167 _ _ (hS.sub (sub_cons rfl (sub_cons rfl (sub_cons rfl (sub_cons rfl (sub_cons rfl (sub_cons rfl sub_nil))))))) (hM.pk [0] (by decide) (pc rfl pn)) hF
 ·refine cond_f hS rfl hc ?_
  refine wp_exit ?_
  cases hF
  exact hJ1 x88 _ _ (hS.sub (sub_cons rfl sub_nil)) (hM.pk [] (by decide) pn) (by have e := hX2 _ rfl; subst e; exact hF2)


theorem c_impl_LaterNeighbours (F : Nat) (p0_g_Size : Int) (p0_g_Rows : List Int) (p1_order : List Int) (p2_v : Int) (p0_g_Rowsv : Value) (p1_orderv : Value) {r : Int} (hF : S_impl_LaterNeighbours F p0_g_Size p0_g_Rows p1_order p2_v = some r) (w0 : World) (h0 : RdRow w0 p0_g_Rowsv (List.map (int i64) p0_g_Rows)) (h1 : RdRow w0 p1_orderv (List.map (int i64) p1_order)) :
    Calls Try.prog 23 [(Value.agg #[(int i64 p0_g_Size), p0_g_Rowsv]), p1_orderv, (int i64 p2_v)].toArray w0 (retPost fun v w' => v = (int i64 r) ∧ Mem Nob w0 w' []) := by
 have hM : Mem Nob w0 w0 [(false, rd p0_g_Rowsv (List.map (int i64) p0_g_Rows)), (false, rd p1_orderv (List.map (int i64) p1_order))] := (Mem.rcons (Mem.rcons (Mem.nil w0) h1 (by simp)) h0 (by simp))
 refine enter2 Try.func23 rfl rfl rfl fun Q a hQr hQn hQp hS => ?_
 have hS : Sl 37 [(0, (Value.agg #[(int i64 p0_g_Size), p0_g_Rowsv])), (1, p1_orderv), (2, (int i64 p2_v))] a := hS
 unfold S_impl_LaterNeighbours at hF
 refine wp_seq_k fun K1 hK1 => ?_
 refine wp_region_lit ?_
 obtain ⟨b3, w, hr, hM⟩ := hM.boxE (ρ := a.eval) (dst := some 3) (ty := _) (pos := _) (af := _) (gd := _) (x := .tmp 0) (T := 29) [(int i64 p0_g_Size), p0_g_Rowsv] (hS.ev rfl) rfl
 refine st_val hS rfl rfl (by decide) hr fun a hS => ?_
 refine st_val hS rfl rfl (by decide) (rv_assign (hS.ev rfl)) fun a hS => ?_
 refine wpList_nil ?_
 refine hK1 _ _ ?_
 refine wp_seq_k fun K4 hK4 => ?_
 refine wp_seq_k fun K12 hK12 => ?_
 have hJ1 : ∀ (p15 : Bool) (a : Act) (w : World), Sl 37 [(1, p1_orderv), (2, (int i64 p2_v)), (3, (fdp b3 0)), (20, (Value.bool p15))] a → Mem Nob w0 w [(false, rd p1_orderv (List.map (int i64) p1_order)), (true, bx b3 29 [(int i64 p0_g_Size), p0_g_Rowsv]), (false, rd p0_g_Rowsv (List.map (int i64) p0_g_Rows))] → S_impl_LaterNeighbours_j1 F p0_g_Rows p1_order p2_v p15 = some r → K12 a w := by
  intro p15 a w hS hM hF
  unfold S_impl_LaterNeighbours_j1 at hF
  refine hK12 _ _ ?_
  rcases ite_some hF with ⟨hc, hF⟩ | ⟨hc, hF⟩
  ·refine cond_t hS rfl hc ?_
   refine wp_seq_k fun K16 hK16 => ?_
   refine wp_region_lit ?_
   refine st_val hS rfl rfl (by decide) (rv_assign (hS.ev rfl)) fun a hS => ?_
   refine wpList_nil ?_
   refine hK16 _ _ ?_
   have hS : Sl 37 [(6, (int i64 0))] a := hS.sub (sub_cons rfl sub_nil)
   have hM := hM.pk [] (by decide) pn
   refine wp_ret ?_
   cases hF
   exact hQr _ _ (r_1 hS rfl rfl ⟨rfl, hM.pk [] (by decide) pn⟩)
  ·refine cond_f hS rfl hc ?_
   refine wp_skip ?_
   refine hK4 _ _ ?_
   refine wp_seq_k fun K17 hK17 => ?_
   refine wp_region_lit ?_
   refine st_val hS rfl rfl (by decide) (rv_move (hS.ev rfl)) fun a hS => ?_
   refine st_val hS rfl rfl (by decide) (rv_move (hS.ev rfl)) fun a hS => ?_
   refine st_val hS rfl rfl (by decide) (rv_move (hS.ev rfl)) fun a hS => ?_
   obtain ⟨r21, hr, hF⟩ := bind_some hF
   refine st_wp hS rfl (wp_call hS rfl rfl (by decide) fn_ok_37 rfl (c_slices_Index_int F p1_order p2_v p1_orderv hr _ (hM.get 0 rfl)) fun v w a hK hS => ?_)
   obtain ⟨rfl, hN⟩ := hK
   have hM := hM.fra hN.fr
   obtain ⟨_, hx, hF⟩ := bind_some hF
   have hj22 := slO_some hx
   refine st_val hS rfl rfl (by decide) (rv_slL Try.underlying22 ty_el_3 (hS.ev rfl) (hS.ev rfl) (hM.get 0 rfl) hj22.1 (map_le hj22.2)) fun a hS => ?_
   obtain ⟨r23, hr, hF⟩ := bind_some hF
   refine st_wp hS rfl (wp_call hS rfl rfl (by decide) fn_ok_36 rfl (c_impl_SetOf F (p1_order.drop (r21.toNat)) (slL p1_orderv (r21.toNat)) hr _ (rd_slLm (hM.get 0 rfl) hj22.2)) fun v w a hK hS => ?_)
   obtain ⟨rfl, hN⟩ := hK
   have hM := hM.fra hN.fr
   refine st_val hS rfl rfl (by decide) (rv_move (hS.ev rfl)) fun a hS => ?_
   refine st_val hS rfl rfl (by decide) (rv_extract (hS.ev rfl) rfl) fun a hS => ?_
   refine st_val hS rfl rfl (by decide) (rv_extract (hS.ev rfl) rfl) fun a hS => ?_
   refine st_val hS rfl rfl (by decide) (rv_assign (hS.ev rfl)) fun a hS => ?_
   refine st_val hS rfl rfl (by decide) (rv_assign (hS.ev rfl)) fun a hS => ?_
   refine wpList_nil ?_
   refine hK17 _ _ ?_
   have hS : Sl 37 [(2, (int i64 p2_v)), (3, (fdp b3 0)), (7, (int i64 r23.1))] a := hS.sub (sub_cons rfl (sub_cons rfl (sub_cons rfl sub_nil)))
   have hM := hM.pk [1, 2] (by decide) (pc rfl (pc rfl pn))
   refine wp_seq_k fun K24 hK24 => ?_
   refine wp_region_lit ?_
   refine st_val hS rfl rfl (by decide) (rv_fieldAddr ty_fd_29_1 (hS.ev rfl)) fun a hS => ?_
   refine st_val hS rfl rfl (by decide) (rv_load_bx (hS.ev rfl) ty_ag_22 (hM.get 0 rfl) rfl) fun a hS => ?_
   refine st_val hS rfl rfl (by decide) (rv_move (hS.ev rfl)) fun a hS => ?_
   obtain ⟨x26, hx, hF⟩ := bind_some hF
   obtain ⟨hi0, hi1, hex26⟩ := idxL_some hx
   refine st_val hS rfl rfl (by decide) (rv_indexAddr Try.underlying22 ty_el_3 (hS.ev rfl) (hS.ev rfl) (hM.get 1 rfl) hi0 (map_len hi1)) fun a hS => ?_
   refine st_val hS rfl rfl (by decide) (rv_load_el (hS.ev rfl) ty_ag_3 (hM.get 1 rfl) (mget hex26)) fun a hS => ?_
   refine st_val hS rfl rfl (by decide) (rv_move (hS.ev rfl)) fun a hS => ?_
   refine st_val hS rfl rfl (by decide) (rv_and (hS.ev rfl) (hS.ev rfl)) fun a hS => ?_
   refine st_val hS rfl rfl (by decide) (rv_assign (hS.ev rfl)) fun a hS => ?_
   refine wpList_nil ?_
   refine hK24 _ _ ?_
   have hS : Sl 37 [(6, (int i64 (bAnd x26 r23.1)))] a := hS.sub (sub_cons rfl sub_nil)
   have hM := hM.pk [] (by decide) pn
   refine wp_ret ?_
   cases hF
   exact hQr _ _ (r_1 hS rfl rfl ⟨rfl, hM.pk [] (by decide) pn⟩)
 refine wp_region_lit ?_
 refine st_val hS rfl rfl (by decide) (rv_load_agg (hS.ev rfl) ty_ag_29 (hM.get 0 rfl) ty_sz_29) fun a hS => ?_
 refine st_val hS rfl rfl (by decide) (rv_move (hS.ev rfl)) fun a hS => ?_
 obtain ⟨r27, hr, hF⟩ := bind_some hF
 refine st_wp hS rfl (wp_call hS rfl rfl (by decide) fn_ok_21 rfl (c_impl_IsOrder F p0_g_Size p0_g_Rows p1_order p0_g_Rowsv p1_orderv hr _ (hM.get 1 rfl) (hM.get 2 rfl)) fun v w a hK hS => ?_)
 obtain ⟨rfl, hN⟩ := hK
 have hM := hM.fra hN.fr
 refine st_val hS rfl rfl (by decide) (rv_not (hS.ev rfl)) fun a hS => ?_
 refine st_val hS rfl rfl (by decide) (rv_move (hS.ev rfl)) fun a hS => ?_
 rcases ite_some hF with ⟨hc, hF⟩ | ⟨hc, hF⟩
 ·have hS := hS.setb (t := 13) rfl hc
  refine st_skip hS rfl rfl (by decide) fun a hS => ?_
  refine st_skip hS rfl rfl (by decide) fun a hS => ?_
  refine st_skip hS rfl rfl (by decide) fun a hS => ?_
  refine st_skip hS rfl rfl (by decide) fun a hS => ?_
  refine st_skip hS rfl rfl (by decide) fun a hS => ?_
  refine st_skip hS rfl rfl (by decide) fun a hS => ?_
  refine st_val hS rfl rfl (by decide) (rv_pick_t (hS.ev rfl) (hS.ev rfl)) fun a hS => ?_
  refine wpList_nil ?_
  exact hJ1 true _ _ (hS.sub (sub_cons rfl (sub_cons rfl (sub_cons rfl (sub_cons rfl sub_nil))))) (hM.pk [2, 0, 1] (by decide) (pc rfl (pc rfl (pc rfl pn)))) hF
 ·have hS := hS.setb (t := 13) rfl hc
  refine st_val hS rfl rfl (by decide) (rv_move (hS.ev rfl)) fun a hS => ?_
  refine st_val hS rfl rfl (by decide) (rv_fieldAddr ty_fd_29_0 (hS.ev rfl)) fun a hS => ?_
  refine st_val hS rfl rfl (by decide) (rv_load_bx (hS.ev rfl) ty_ag_3 (hM.get 0 rfl) rfl) fun a hS => ?_
  refine st_val hS rfl rfl (by decide) (rv_sub (hS.ev rfl) (hS.ev rfl)) fun a hS => ?_
  obtain ⟨r28, hr, hF⟩ := bind_some hF
  refine st_wp hS rfl (wp_call hS rfl rfl (by decide) fn_ok_35 rfl (c_impl_within F p2_v 0 (i64.wrap (p0_g_Size - 1)) hr _) fun v w a hK hS => ?_)
  obtain ⟨rfl, hN⟩ := hK
  have hM := hM.fra hN.fr
  refine st_val hS rfl rfl (by decide) (rv_not (hS.ev rfl)) fun a hS => ?_
  refine st_val hS rfl rfl (by decide) (rv_pick_f (hS.ev rfl) (hS.ev rfl)) fun a hS => ?_
  refine wpList_nil ?_
  exact hJ1 (!r28) _ _ (hS.sub (sub_cons rfl (sub_cons rfl (sub_cons rfl (sub_cons rfl sub_nil))))) (hM.pk [2, 0, 1] (by decide) (pc rfl (pc rfl (pc rfl pn)))) hF


theorem c_impl_ListOf (F : Nat) (p0_set : Int) {r : (List (Int))} (hF : S_impl_ListOf F p0_set = some r) (w0 : World) :
    Calls Try.prog 24 [(int i64 p0_set)].toArray w0 (retPost fun v w' => Mem Nob w0 w' [(true, ow 3 v (List.map (int i64) r))]) := by
 have hM : Mem Nob w0 w0 [] := (Mem.nil w0)
 refine enter2 Try.func24 rfl rfl rfl fun Q a hQr hQn hQp hS => ?_
 have hS : Sl 22 [(0, (int i64 p0_set))] a := hS
 unfold S_impl_ListOf at hF
 refine wp_seq_k fun K1 hK1 => ?_
 refine wp_region_lit ?_
 refine st_val hS rfl rfl (by decide) (rv_assign (hS.ev rfl)) fun a hS => ?_
 refine wpList_nil ?_
 refine hK1 _ _ ?_
 refine wp_seq_k fun K2 hK2 => ?_
 refine wp_region_lit ?_
 obtain ⟨v4, w, hr, hM⟩ := Mem.litE (f := (int i64)) (dst := some 5) (ty := _) (pos := _) (af := _) (gd := _) (ps := []) ([] : List (Int)) i64_one hM hS Try.underlying22 ty_el_3 rfl rfl rfl rfl
 refine st_val hS rfl rfl (by decide) hr fun a hS => ?_
 refine st_val hS rfl rfl (by decide) (rv_assign (hS.ev rfl)) fun a hS => ?_
 refine wpList_nil ?_
 refine hK2 _ _ ?_
 refine wp_seq_k fun K5 hK5 => ?_
 refine wp_seq_k fun K10 hK10 => ?_
 refine wp_region_lit ?_
 refine st_val hS rfl rfl (by decide) (rv_move (hS.ev rfl)) fun a hS => ?_
 obtain ⟨r12, hr, hF⟩ := bind_some hF
 refine st_wp hS rfl (wp_call hS rfl rfl (by decide) fn_ok_35 rfl (c_impl_within F p0_set 0 127 hr _) fun v w a hK hS => ?_)
 obtain ⟨rfl, hN⟩ := hK
 have hM := hM.fra hN.fr
 refine st_val hS rfl rfl (by decide) (rv_not (hS.ev rfl)) fun a hS => ?_
 refine wpList_nil ?_
 refine hK10 _ _ ?_
 rcases ite_some hF with ⟨hc, hF⟩ | ⟨hc, hF⟩
 ·refine cond_t hS rfl hc ?_
  refine wp_seq_k fun K13 hK13 => ?_
  refine wp_region_lit ?_
  refine st_val hS rfl rfl (by decide) (rv_move (hS.ev rfl)) fun a hS => ?_
  refine st_val hS rfl rfl (by decide) (rv_assign (hS.ev rfl)) fun a hS => ?_
  refine wpList_nil ?_
  refine hK13 _ _ ?_
  refine wp_ret ?_
  cases hF
  exact hQr _ _ (r_1 hS rfl rfl (hM.pk [0] (by decide) (pc rfl pn)))
 ·refine cond_f hS rfl hc ?_
  refine wp_skip ?_
  refine hK5 _ _ ?_
  refine wp_seq_k fun K14 hK14 => ?_
  have hJ1 : ∀ (l54 : List Int) (v53 : Value) (a : Act) (w : World), Sl 22 [(3, v53)] a → Mem Nob w0 w [(true, ow 3 v53 (List.map (int i64) l54))] → S_impl_ListOf_j1 F l54 = some r → K14 a w := by
   intro l54 v53 a w hS hM hF
   unfold S_impl_ListOf_j1 at hF
   refine hK14 _ _ ?_
   refine wp_seq_k fun K55 hK55 => ?_
   refine wp_region_lit ?_
   refine st_val hS rfl rfl (by decide) (rv_move (hS.ev rfl)) fun a hS => ?_
   refine st_val hS rfl rfl (by decide) (rv_assign (hS.ev rfl)) fun a hS => ?_
   refine wpList_nil ?_
   refine hK55 _ _ ?_
   refine wp_ret ?_
   cases hF
   exact hQr _ _ (r_1 hS rfl rfl (hM.pk [0] (by decide) (pc rfl pn)))
  refine wp_seq_k fun K56 hK56 => ?_
  refine wp_region_lit ?_
  refine st_val hS rfl rfl (by decide) (rv_move (hS.ev rfl)) fun a hS => ?_
  refine wpList_nil ?_
  refine hK56 _ _ ?_
  refine wp_block ?_
  obtain ⟨lb2, hl2, hF2⟩ := bind_some hF
  refine wp_loop_sh (fun s => S_impl_ListOf_l2 F p0_set s.1 s.2) (fun s a w => ∃ (v57 : Value), Sl 22 [(0, (int i64 p0_set)), (3, v57), (10, (int i64 s.2))] a ∧ Mem Nob w0 w [(true, ow 3 v57 (List.map (int i64) s.1))]) hl2 ⟨v4, (hS.sub (sub_cons rfl (sub_cons rfl (sub_cons rfl sub_nil)))), (hM.pk [0] (by decide) (pc rfl pn))⟩ ?_
  rintro K2 ⟨l58, x59⟩ a w res2 ⟨v57, hS, hM⟩ hF hN2 hX2
  have hF : S_impl_ListOf_l2 F p0_set l58 x59 = some res2 := hF
  have hS : Sl 22 [(0, (int i64 p0_set)), (3, v57), (10, (int i64 x59))] a := hS
  have hM : Mem Nob w0 w [(true, ow 3 v57 (List.map (int i64) l58))] := hM
  unfold S_impl_ListOf_l2 at hF
  refine wp_seq_k fun K77 hK77 => ?_
  refine wp_region_lit ?_
  refine st_val hS rfl rfl (by decide) (rv_lss (hS.ev rfl) (hS.ev rfl)) fun a hS => ?_
  refine wpList_nil ?_
  refine hK77 _ _ ?_
  refine wp_seq_k fun K78 hK78 => ?_
  rcases ite_some hF with ⟨hc, hF⟩ | ⟨hc, hF⟩
  ·refine cond_t hS rfl hc ?_
   refine wp_skip ?_
   refine hK78 _ _ ?_
   refine wp_seq_k fun K79 hK79 => ?_
   have hJ3 : ∀ (l87 : List Int) (v86 : Value) (a : Act) (w : World), Sl 22 [(0, (int i64 p0_set)), (3, v86), (10, (int i64 x59))] a → Mem Nob w0 w [(true, ow 3 v86 (List.map (int i64) l87))] → S_impl_ListOf_j3 F x59 l87 = some res2 → K79 a w := by
    intro l87 v86 a w hS hM hF
    unfold S_impl_ListOf_j3 at hF
    refine hK79 _ _ ?_
    refine wp_region_lit ?_
    refine st_val hS rfl rfl (by decide) (rv_add (hS.ev rfl) (hS.ev rfl)) fun a hS => ?_
    refine st_val hS rfl rfl (by decide) (rv_move (hS.ev rfl)) fun a hS => ?_
    refine wpList_nil ?_
    cases hF
    exact hN2 _ _ _ rfl ⟨v86, (hS.sub (sub_cons rfl (sub_cons rfl (sub_cons rfl sub_nil)))), (hM.pk [0] (by decide) (pc rfl pn))⟩
   refine wp_block ?_
   refine wp_seq_k fun K88 hK88 => ?_
   refine wp_region_lit ?_
   refine st_val hS rfl rfl (by decide) (rv_move (hS.ev rfl)) fun a hS => ?_
   refine st_val hS rfl rfl (by decide) (rv_assign (hS.ev rfl)) fun a hS => ?_
   refine wpList_nil ?_
   refine hK88 _ _ ?_
   refine wp_seq_k fun K89 hK89 => ?_
   refine wp_region_lit ?_
   refine st_val hS rfl rfl (by decide) (rv_move (hS.ev rfl)) fun a hS => ?_
   refine st_val hS rfl rfl (by decide) (rv_move (hS.ev rfl)) fun a hS => ?_
   obtain ⟨r91, hr, hF⟩ := bind_some hF
   refine st_wp hS rfl (wp_call hS rfl rfl (by decide) fn_ok_26 rfl (c_impl_has F p0_set x59 hr _) fun v w a hK hS => ?_)
   obtain ⟨rfl, hN⟩ := hK
   have hM := hM.fra hN.fr
   refine wpList_nil ?_
   refine hK89 _ _ ?_
   rcases ite_some hF with ⟨hc, hF⟩ | ⟨hc, hF⟩
   ·refine cond_t hS rfl hc ?_
    refine wp_region_lit ?_
    refine st_val hS rfl rfl (by decide) (rv_move (hS.ev rfl)) fun a hS => ?_
    refine st_val hS rfl rfl (by decide) (rv_move (hS.ev rfl)) fun a hS => ?_
    obtain ⟨v92, w, hr, hM⟩ := Mem.litE (f := (int i64)) (dst := some 18) (ty := _) (pos := _) (af := _) (gd := _) (ps := [(0, .tmp 17)]) ([x59] : List (Int)) i64_one hM hS Try.underlying22 ty_el_3 rfl rfl rfl rfl
    refine st_val hS rfl rfl (by decide) hr fun a hS => ?_
    obtain ⟨_, hx, hF⟩ := bind_some hF
    have hM := hM.pk [1, 0] (by decide) (pc rfl (pc rfl pn))
    obtain ⟨v93, w, hr, hM⟩ := Mem.appE (f := (int i64)) (S := _) (R := [(true, ow 3 v92 (List.map (int i64) ([x59] : List (Int))))]) (ρ := a.eval) (dst := some 19) (ty := _) (pos := _) (af := _) (gd := _) (x := .tmp 16) (y := .tmp 18) i64_one hM Try.underlying22 ty_el_3 rfl (by decide) (hS.ev rfl) (hS.ev rfl) (rd_of_ow (hM.get 1 rfl)) (catO_some hx)
    refine st_val hS rfl rfl (by decide) hr fun a hS => ?_
    refine st_val hS rfl rfl (by decide) (rv_assign (hS.ev rfl)) fun a hS => ?_
    refine wpList_nil ?_
    exact hJ3 (l58 ++ ([x59] : List (Int))) v93 _ _ (hS.sub (sub_cons rfl (sub_cons rfl (sub_cons rfl sub_nil)))) (hM.pk [0] (by decide) (pc rfl pn)) hF
   ·refine cond_f hS rfl hc ?_
    refine wp_skip ?_
    exact hJ3 l58 v57 _ _ (hS.sub (sub_cons rfl (sub_cons rfl (sub_cons rfl sub_nil)))) (hM.pk [0] (by decide) (pc rfl pn)) hF
  ·refine cond_f hS rfl hc ?_
   refine wp_exit ?_
   cases hF
   exact hJ1 l58 v57 _ _ (hS.sub (sub_cons rfl sub_nil)) (hM.pk [0] (by decide) (pc rfl pn)) (by have e := hX2 _ rfl; subst e; exact hF2)


theorem c_impl_EdgesOf (F : Nat) (p0_g_Size : Int) (p0_g_Rows : List Int) (p0_g_Rowsv : Value) {r : (List (List Int))} (hF : S_impl_EdgesOf F p0_g_Size p0_g_Rows = some r) (w0 : World) (h0 : RdRow w0 p0_g_Rowsv (List.map (int i64) p0_g_Rows)) :
    Calls Try.prog 25 [(Value.agg #[(int i64 p0_g_Size), p0_g_Rowsv])].toArray w0 (retPost fun v w' => ∃ v423 hs424, v = v423 ∧ Mem Nob w0 w' [(true, mx 22 3 v423 hs424 (List.map (List.map (int i64)) r))]) := by
 have hM : Mem Nob w0 w0 [(false, rd p0_g_Rowsv (List.map (int i64) p0_g_Rows))] := (Mem.rcons (Mem.nil w0) h0 (by simp))
 refine enter2 Try.func25 rfl rfl rfl fun Q a hQr hQn hQp hS => ?_
 have hS : Sl 39 [(0, (Value.agg #[(int i64 p0_g_Size), p0_g_Rowsv]))] a := hS
 unfold S_impl_EdgesOf at hF
 refine wp_seq_k fun K1 hK1 => ?_
 refine wp_region_lit ?_
 obtain ⟨b3, w, hr, hM⟩ := hM.boxE (ρ := a.eval) (dst := some 1) (ty := _) (pos := _) (af := _) (gd := _) (x := .tmp 0) (T := 29) [(int i64 p0_g_Size), p0_g_Rowsv] (hS.ev rfl) rfl
 refine st_val hS rfl rfl (by decide) hr fun a hS => ?_
 refine st_val hS rfl rfl (by decide) (rv_assign (hS.ev rfl)) fun a hS => ?_
 refine wpList_nil ?_
 refine hK1 _ _ ?_
 refine wp_seq_k fun K4 hK4 => ?_
 refine wp_region_lit ?_
 obtain ⟨v6, w, hr, hM⟩ := Mem.mxLit0 (e2 := 3) (dst := some 7) (ty := _) (pos := _) (af := _) (gd := _) hM hS Try.underlying26 ty_el_22 rfl
 refine st_val hS rfl rfl (by decide) hr fun a hS => ?_
 refine st_val hS rfl rfl (by decide) (rv_assign (hS.ev rfl)) fun a hS => ?_
 refine wpList_nil ?_
 refine hK4 _ _ ?_
 refine wp_seq_k fun K7 hK7 => ?_
 refine wp_seq_k fun K12 hK12 => ?_
 refine wp_region_lit ?_
 refine st_val hS rfl rfl (by decide) (rv_load_agg (hS.ev rfl) ty_ag_29 (hM.get 1 rfl) ty_sz_29) fun a hS => ?_
 obtain ⟨r14, hr, hF⟩ := bind_some hF
 refine st_wp hS rfl (wp_call hS rfl rfl (by decide) fn_ok_38 rfl (c_impl_IsGraph F p0_g_Size p0_g_Rows p0_g_Rowsv hr _ (hM.get 2 rfl)) fun v w a hK hS => ?_)
 obtain ⟨rfl, hN⟩ := hK
 have hM := hM.fra hN.fr
 refine st_val hS rfl rfl (by decide) (rv_not (hS.ev rfl)) fun a hS => ?_
 refine wpList_nil ?_
 refine hK12 _ _ ?_
 rcases ite_some hF with ⟨hc, hF⟩ | ⟨hc, hF⟩
 ·refine cond_t hS rfl hc ?_
  refine wp_seq_k fun K15 hK15 => ?_
  refine wp_region_lit ?_
  refine st_val hS rfl rfl (by decide) (rv_move (hS.ev rfl)) fun a hS => ?_
  refine st_val hS rfl rfl (by decide) (rv_assign (hS.ev rfl)) fun a hS => ?_
  refine wpList_nil ?_
  refine hK15 _ _ ?_
  have hS : Sl 39 [(2, v6)] a := hS.sub (sub_cons rfl sub_nil)
  have hM := hM.pk [0] (by decide) (pc rfl pn)
  refine wp_ret ?_
  cases hF
  exact hQr _ _ (r_1 hS rfl rfl ⟨v6, [], rfl, hM.pk [0] (by decide) (pc rfl pn)⟩)
 ·refine cond_f hS rfl hc ?_
  refine wp_skip ?_
  refine hK7 _ _ ?_
  refine wp_seq_k fun K16 hK16 => ?_
  have hJ1 : ∀ (l220 : List (List Int)) (v218 : Value) (hs219 : List Value) (a : Act) (w : World), Sl 39 [(3, v218)] a → Mem Nob w0 w [(true, mx 22 3 v218 hs219 (List.map (List.map (int i64)) l220))] → S_impl_EdgesOf_j1 F l220 = some r → K16 a w := by
   intro l220 v218 hs219 a w hS hM hF
   unfold S_impl_EdgesOf_j1 at hF
   refine hK16 _ _ ?_
   refine wp_seq_k fun K221 hK221 => ?_
   refine wp_region_lit ?_
   refine st_val hS rfl rfl (by decide) (rv_move (hS.ev rfl)) fun a hS => ?_
   refine st_val hS rfl rfl (by decide) (rv_assign (hS.ev rfl)) fun a hS => ?_
   refine wpList_nil ?_
   refine hK221 _ _ ?_
   refine wp_ret ?_
   cases hF
   exact hQr _ _ (r_1 hS rfl rfl ⟨v218, hs219, rfl, hM.pk [0] (by decide) (pc rfl pn)⟩)
  refine wp_seq_k fun K222 hK222 => ?_
  refine wp_region_lit ?_
  refine st_val hS rfl rfl (by decide) (rv_fieldAddr ty_fd_29_1 (hS.ev rfl)) fun a hS => ?_
  refine st_val hS rfl rfl (by decide) (rv_load_bx (hS.ev rfl) ty_ag_22 (hM.get 1 rfl) rfl) fun a hS => ?_
  refine st_val hS rfl rfl (by decide) (rv_len_rowM Try.underlying22 (hS.ev rfl) (hM.get 2 rfl)) fun a hS => ?_
  refine st_val hS rfl rfl (by decide) (rv_move (hS.ev rfl)) fun a hS => ?_
  refine wpList_nil ?_
  refine hK222 _ _ ?_
  refine wp_block ?_
  obtain ⟨lb2, hl2, hF2⟩ := bind_some hF
  refine wp_loop_sh (fun s => S_impl_EdgesOf_l2 F p0_g_Size p0_g_Rows s.1 s.2) (fun s a w => ∃ (v223 : Value) (hs224 : List Value), Sl 39 [(1, (fdp b3 0)), (3, v223), (13, p0_g_Rowsv), (14, (int i64 (p0_g_Rows.length : Int))), (15, (int i64 s.2))] a ∧ Mem Nob w0 w [(true, bx b3 29 [(int i64 p0_g_Size), p0_g_Rowsv]), (false, rd p0_g_Rowsv (List.map (int i64) p0_g_Rows)), (true, mx 22 3 v223 hs224 (List.map (List.map (int i64)) s.1))]) hl2 ⟨v6, [], (hS.sub (sub_cons rfl (sub_cons rfl (sub_cons rfl (sub_cons rfl (sub_cons rfl sub_nil)))))), (hM.pk [1, 2, 0] (by decide) (pc rfl (pc rfl (pc rfl pn))))⟩ ?_
  rintro K2 ⟨l225, x226⟩ a w res2 ⟨v223, hs224, hS, hM⟩ hF hN2 hX2
  have hF : S_impl_EdgesOf_l2 F p0_g_Size p0_g_Rows l225 x226 = some res2 := hF
  have hS : Sl 39 [(1, (fdp b3 0)), (3, v223), (13, p0_g_Rowsv), (14, (int i64 (p0_g_Rows.length : Int))), (15, (int i64 x226))] a := hS
  have hM : Mem Nob w0 w [(true, bx b3 29 [(int i64 p0_g_Size), p0_g_Rowsv]), (false, rd p0_g_Rowsv (List.map (int i64) p0_g_Rows)), (true, mx 22 3 v223 hs224 (List.map (List.map (int i64)) l225))] := hM
  unfold S_impl_EdgesOf_l2 at hF
  refine wp_seq_k fun K325 hK325 => ?_
  refine wp_region_lit ?_
  refine st_val hS rfl rfl (by decide) (rv_lss (hS.ev rfl) (hS.ev rfl)) fun a hS => ?_
  refine wpList_nil ?_
  refine hK325 _ _ ?_
  refine wp_seq_k fun K326 hK326 => ?_
  rcases ite_some hF with ⟨hc, hF⟩ | ⟨hc, hF⟩
  ·refine cond_t hS rfl hc ?_
   refine wp_skip ?_
   refine hK326 _ _ ?_
   refine wp_seq_k fun K327 hK327 => ?_
   have hJ3 : ∀ (l376 : List (List Int)) (v374 : Value) (hs375 : List Value) (a : Act) (w : World), Sl 39 [(1, (fdp b3 0)), (3, v374), (13, p0_g_Rowsv), (14, (int i64 (p0_g_Rows.length : Int))), (15, (int i64 x226))] a → Mem Nob w0 w [(true, bx b3 29 [(int i64 p0_g_Size), p0_g_Rowsv]), (false, rd p0_g_Rowsv (List.map (int i64) p0_g_Rows)), (true, mx 22 3 v374 hs375 (List.map (List.map (int i64)) l376))] → S_impl_EdgesOf_j3 F x226 l376 = some res2 → K327 a w := by
    intro l376 v374 hs375 a w hS hM hF
    unfold S_impl_EdgesOf_j3 at hF
    refine hK327 _ _ ?_
    refine wp_region_lit ?_
    refine st_val hS rfl rfl (by decide) (rv_add (hS.ev rfl) (hS.ev rfl)) fun a hS => ?_
    refine st_val hS rfl rfl (by decide) (rv_move (hS.ev rfl)) fun a hS => ?_
    refine wpList_nil ?_
    cases hF
    exact hN2 _ _ _ rfl ⟨v374, hs375, (hS.sub (sub_cons rfl (sub_cons rfl (sub_cons rfl (sub_cons rfl (sub_cons rfl sub_nil)))))), (hM.pk [0, 1, 2] (by decide) (pc rfl (pc rfl (pc rfl pn))))⟩
   refine wp_block ?_
   refine wp_seq_k fun K377 hK377 => ?_
   refine wp_region_lit ?_
   refine st_val hS rfl rfl (by decide) (rv_move (hS.ev rfl)) fun a hS => ?_
   obtain ⟨x379, hx, hF⟩ := bind_some hF
   obtain ⟨hi0, hi1, hex379⟩ := idxL_some hx
   refine st_val hS rfl rfl (by decide) (rv_indexAddr Try.underlying22 ty_el_3 (hS.ev rfl) (hS.ev rfl) (hM.get 1 rfl) hi0 (map_len hi1)) fun a hS => ?_
   refine st_val hS rfl rfl (by decide) (rv_load_el (hS.ev rfl) ty_ag_3 (hM.get 1 rfl) (mget hex379)) fun a hS => ?_
   refine st_val hS rfl rfl (by decide) (rv_assign (hS.ev rfl)) fun a hS => ?_
   refine st_val hS rfl rfl (by decide) (rv_assign (hS.ev rfl)) fun a hS => ?_
   refine wpList_nil ?_
   refine hK377 _ _ ?_
   refine wp_seq_k fun K380 hK380 => ?_
   refine wp_region_lit ?_
   refine st_val hS rfl rfl (by decide) (rv_move (hS.ev rfl)) fun a hS => ?_
   refine st_val hS rfl rfl (by decide) (rv_add (hS.ev rfl) (hS.ev rfl)) fun a hS => ?_
   refine st_val hS rfl rfl (by decide) (rv_assign (hS.ev rfl)) fun a hS => ?_
   refine wpList_nil ?_
   refine hK380 _ _ ?_
   refine wp_block ?_
   obtain ⟨lb4, hl4, hF4⟩ := bind_some hF
   refine wp_loop_sh (fun s => S_impl_EdgesOf_l4 F p0_g_Size x226 x379 s.1 s.2) (fun s a w => ∃ (v381 : Value) (hs382 : List Value), Sl 39 [(1, (fdp b3 0)), (3, v381), (4, (int i64 x226)), (5, (int i64 x379)), (6, (int i64 s.2)), (13, p0_g_Rowsv), (14, (int i64 (p0_g_Rows.length : Int))), (15, (int i64 x226))] a ∧ Mem Nob w0 w [(true, bx b3 29 [(int i64 p0_g_Size), p0_g_Rowsv]), (false, rd p0_g_Rowsv (List.map (int i64) p0_g_Rows)), (true, mx 22 3 v381 hs382 (List.map (List.map (int i64)) s.1))]) hl4 ⟨v223, hs224, (hS.sub (sub_cons rfl (sub_cons rfl (sub_cons rfl (sub_cons rfl (sub_cons rfl (sub_cons rfl (sub_cons rfl (sub_cons rfl sub_nil))))))))), (hM.pk [0, 1, 2] (by decide) (pc rfl (pc rfl (pc rfl pn))))⟩ ?_
   rintro K4 ⟨l383, x384⟩ a w res4 ⟨v381, hs382, hS, hM⟩ hF hN4 hX4
   have hF : S_impl_EdgesOf_l4 F p0_g_Size x226 x379 l383 x384 = some res4 := hF
   have hS : Sl 39 [(1, (fdp b3 0)), (3, v381), (4, (int i64 x226)), (5, (int i64 x379)), (6, (int i64 x384)), (13, p0_g_Rowsv), (14, (int i64 (p0_g_Rows.length : Int))), (15, (int i64 x226))] a := hS
   have hM : Mem Nob w0 w [(true, bx b3 29 [(int i64 p0_g_Size), p0_g_Rowsv]), (false, rd p0_g_Rowsv (List.map (int i64) p0_g_Rows)), (true, mx 22 3 v381 hs382 (List.map (List.map (int i64)) l383))] := hM
   unfold S_impl_EdgesOf_l4 at hF
   refine wp_seq_k fun K404 hK404 => ?_
   refine wp_seq_k fun K406 hK406 => ?_
   refine wp_region_lit ?_
   refine st_val hS rfl rfl (by decide) (rv_move (hS.ev rfl)) fun a hS => ?_
   refine st_val hS rfl rfl (by decide) (rv_fieldAddr ty_fd_29_0 (hS.ev rfl)) fun a hS => ?_
   refine st_val hS rfl rfl (by decide) (rv_load_bx (hS.ev rfl) ty_ag_3 (hM.get 0 rfl) rfl) fun a hS => ?_
   refine st_val hS rfl rfl (by decide) (rv_lss (hS.ev rfl) (hS.ev rfl)) fun a hS => ?_
   refine wpList_nil ?_
   refine hK406 _ _ ?_
   rcases ite_some hF with ⟨hc, hF⟩ | ⟨hc, hF⟩
   ·refine cond_t hS rfl hc ?_
    refine wp_skip ?_
    refine hK404 _ _ ?_
    refine wp_seq_k fun K407 hK407 => ?_
    have hJ5 : ∀ (l416 : List (List Int)) (v414 : Value) (hs415 : List Value) (a : Act) (w : World), Sl 39 [(1, (fdp b3 0)), (3, v414), (4, (int i64 x226)), (5, (int i64 x379)), (6, (int i64 x384)), (13, p0_g_Rowsv), (14, (int i64 (p0_g_Rows.length : Int))), (15, (int i64 x226))] a → Mem Nob w0 w [(true, bx b3 29 [(int i64 p0_g_Size), p0_g_Rowsv]), (false, rd p0_g_Rowsv (List.map (int i64) p0_g_Rows)), (true, mx 22 3 v414 hs415 (List.map (List.map (int i64)) l416))] → S_impl_EdgesOf_j5 F x384 l416 = some res4 → K407 a w := by
     intro l416 v414 hs415 a w hS hM hF
     unfold S_impl_EdgesOf_j5 at hF
     refine hK407 _ _ ?_
     refine wp_region_lit ?_
     refine st_val hS rfl rfl (by decide) (rv_move (hS.ev rfl)) fun a hS => ?_
     refine st_val hS rfl rfl (by decide) (rv_add (hS.ev rfl) (hS.ev rfl)) fun a hS => ?_
     refine st_val hS rfl rfl (by decide) (rv_assign (hS.ev rfl)) fun a hS => ?_
     refine wpList_nil ?_
     cases hF
     exact hN4 _ _ _ rfl ⟨v414, hs415, (hS.sub (sub_cons rfl (sub_cons rfl (sub_cons rfl (sub_cons rfl (sub_cons rfl (sub_cons rfl (sub_cons rfl (sub_cons rfl sub_nil))))))))), (hM.pk [0, 1, 2] (by decide) (pc rfl (pc rfl (pc rfl pn))))⟩
    refine wp_block ?_
    refine wp_seq_k fun K417 hK417 => ?_
    refine wp_region_lit ?_
    refine st_val hS rfl rfl (by decide) (rv_move (hS.ev rfl)) fun a hS => ?_
    refine st_val hS rfl rfl (by decide) (rv_move (hS.ev rfl)) fun a hS => ?_
    obtain ⟨r419, hr, hF⟩ := bind_some hF
    refine st_wp hS rfl (wp_call hS rfl rfl (by decide) fn_ok_26 rfl (c_impl_has F x379 x384 hr _) fun v w a hK hS => ?_)
    obtain ⟨rfl, hN⟩ := hK
    have hM := hM.fra hN.fr
    refine wpList_nil ?_
    refine hK417 _ _ ?_
    rcases ite_some hF with ⟨hc, hF⟩ | ⟨hc, hF⟩
    ·refine cond_t hS rfl hc ?_
     refine wp_region_lit ?_
     refine st_val hS rfl rfl (by decide) (rv_move (hS.ev rfl)) fun a hS => ?_
     refine st_val hS rfl rfl (by decide) (rv_move (hS.ev rfl)) fun a hS => ?_
     refine st_val hS rfl rfl (by decide) (rv_move (hS.ev rfl)) fun a hS => ?_
     obtain ⟨v420, w, hr, hM⟩ := Mem.litE (f := (int i64)) (dst := some 34) (ty := _) (pos := _) (af := _) (gd := _) (ps := [(0, .tmp 32), (1, .tmp 33)]) ([x226, x384] : List (Int)) i64_one hM hS Try.underlying22 ty_el_3 rfl rfl rfl rfl
     refine st_val hS rfl rfl (by decide) hr fun a hS => ?_
     obtain ⟨v421, w, hr, hM⟩ := Mem.mxLit1 (dst := some 35) (ty := _) (pos := _) (af := _) (gd := _) (x := .tmp 34) hM hS Try.underlying26 ty_el_22 rfl rfl
     refine st_val hS rfl rfl (by decide) hr fun a hS => ?_
     obtain ⟨_, hx, hF⟩ := bind_some hF
     have hM := hM.pk [3, 0, 1, 2] (by decide) (pc rfl (pc rfl (pc rfl (pc rfl pn))))
     obtain ⟨v422, w, hr, hM⟩ := Mem.mxApp (ρ := a.eval) (dst := some 36) (ty := _) (pos := _) (af := _) (gd := _) (x := .tmp 31) (y := .tmp 35) hM Try.underlying26 ty_el_22 rfl (by decide) (hS.ev rfl) (hS.ev rfl) (by simpa using catO_some hx)
     have hM : Mem Nob w0 w [(true, mx 22 3 v422 (hs382 ++ [v420]) (List.map (List.map (int i64)) (l383 ++ ([([x226, x384] : List (Int))] : List (List Int))))), (true, bx b3 29 [(int i64 p0_g_Size), p0_g_Rowsv]), (false, rd p0_g_Rowsv (List.map (int i64) p0_g_Rows))] := by rw [List.map_append]; exact hM
     refine st_val hS rfl rfl (by decide) hr fun a hS => ?_
     refine st_val hS rfl rfl (by decide) (rv_assign (hS.ev rfl)) fun a hS => ?_
     refine wpList_nil ?_
     exact hJ5 (l383 ++ ([([x226, x384] : List (Int))] : List (List Int))) v422 (hs382 ++ [v420]) _ _ (hS.sub (sub_cons rfl (sub_cons rfl (sub_cons rfl (sub_cons rfl (sub_cons rfl (sub_cons rfl (sub_cons rfl (sub_cons rfl sub_nil))))))))) (hM.pk [1, 2, 0] (by decide) (pc rfl (pc rfl (pc rfl pn)))) hF
    ·refine cond_f hS rfl hc ?_
     refine wp_skip ?_
     exact hJ5 l383 v381 hs382 _ _ (hS.sub (sub_cons rfl (sub_cons rfl (sub_cons rfl (sub_cons rfl (sub_cons rfl (sub_cons rfl (sub_cons rfl (sub_cons rfl sub_nil))))))))) (hM.pk [0, 1, 2] (by decide) (pc rfl (pc rfl (pc rfl pn)))) hF
   ·refine cond_f hS rfl hc ?_
    refine wp_exit ?_
    cases hF
    exact hJ3 l383 v381 hs382 _ _ (hS.sub (sub_cons rfl (sub_cons rfl (sub_cons rfl (sub_cons rfl (sub_cons rfl sub_nil)))))) (hM.pk [0, 1, 2] (by decide) (pc rfl (pc rfl (pc rfl pn)))) (by have e := hX4 _ rfl; subst e; exact hF4)
  ·refine cond_f hS rfl hc ?_
   refine wp_exit ?_
   cases hF
   exact hJ1 l225 v223 hs224 _ _ (hS.sub (sub_cons rfl sub_nil)) (hM.pk [2] (by decide) (pc rfl pn)) (by have e := hX2 _ rfl; subst e; exact hF2)


theorem c_impl_FillOf (F : Nat) (p0_g_Size : Int) (p0_g_Rows : List Int) (p1_order : List Int) (p0_g_Rowsv : Value) (p1_orderv : Value) {r : (List (List Int)) × Bool} (hF : S_impl_FillOf F p0_g_Size p0_g_Rows p1_order = some r) (w0 : World) (h0 : RdRow w0 p0_g_Rowsv (List.map (int i64) p0_g_Rows)) (h1 : RdRow w0 p1_orderv (List.map (int i64) p1_order)) :
    Calls Try.prog 8 [(Value.agg #[(int i64 p0_g_Size), p0_g_Rowsv]), p1_orderv].toArray w0 (retPost fun v w' => ∃ v871 hs872, v = (Value.tuple #[v871, (Value.bool r.2)]) ∧ Mem Nob w0 w' [(true, mx 22 3 v871 hs872 (List.map (List.map (int i64)) r.1))]) := by
 have hM : Mem Nob w0 w0 [(false, rd p0_g_Rowsv (List.map (int i64) p0_g_Rows)), (false, rd p1_orderv (List.map (int i64) p1_order))] := (Mem.rcons (Mem.rcons (Mem.nil w0) h1 (by simp)) h0 (by simp))
 refine enter2 Try.func8 rfl rfl rfl fun Q a hQr hQn hQp hS => ?_
 have hS : Sl 77 [(0, (Value.agg #[(int i64 p0_g_Size), p0_g_Rowsv])), (1, p1_orderv)] a := hS
 unfold S_impl_FillOf at hF
 refine wp_seq_k fun K1 hK1 => ?_
 refine wp_region_lit ?_
 obtain ⟨b3, w, hr, hM⟩ := hM.boxE (ρ := a.eval) (dst := some 2) (ty := _) (pos := _) (af := _) (gd := _) (x := .tmp 0) (T := 29) [(int i64 p0_g_Size), p0_g_Rowsv] (hS.ev rfl) rfl
 refine st_val hS rfl rfl (by decide) hr fun a hS => ?_
 refine st_val hS rfl rfl (by decide) (rv_assign (hS.ev rfl)) fun a hS => ?_
 refine st_val hS rfl rfl (by decide) (rv_assign (hS.ev rfl)) fun a hS => ?_
 refine wpList_nil ?_
 refine hK1 _ _ ?_
 refine wp_seq_k fun K4 hK4 => ?_
 refine wp_seq_k fun K9 hK9 => ?_
 refine wp_region_lit ?_
 refine st_val hS rfl rfl (by decide) (rv_load_agg (hS.ev rfl) ty_ag_29 (hM.get 0 rfl) ty_sz_29) fun a hS => ?_
 refine st_val hS rfl rfl (by decide) (rv_move (hS.ev rfl)) fun a hS => ?_
 obtain ⟨r11, hr, hF⟩ := bind_some hF
 refine st_wp hS rfl (wp_call hS rfl rfl (by decide) fn_ok_21 rfl (c_impl_IsOrder F p0_g_Size p0_g_Rows p1_order p0_g_Rowsv p1_orderv hr _ (hM.get 1 rfl) (hM.get 2 rfl)) fun v w a hK hS => ?_)
 obtain ⟨rfl, hN⟩ := hK
 have hM := hM.fra hN.fr
 refine st_val hS rfl rfl (by decide) (rv_not (hS.ev rfl)) fun a hS => ?_
 refine wpList_nil ?_
 refine hK9 _ _ ?_
 rcases ite_some hF with ⟨hc, hF⟩ | ⟨hc, hF⟩
 ·refine cond_t hS rfl hc ?_
  refine wp_seq_k fun K12 hK12 => ?_
  refine wp_region_lit ?_
  refine st_val hS rfl rfl (by decide) (rv_assign (hS.ev rfl)) fun a hS => ?_
  refine st_val hS rfl rfl (by decide) (rv_assign (hS.ev rfl)) fun a hS => ?_
  refine wpList_nil ?_
  refine hK12 _ _ ?_
  have hS : Sl 77 [(4, (Value.slice none 0 0)), (5, (Value.bool false))] a := hS.sub (sub_cons rfl (sub_cons rfl sub_nil))
  have hM := hM.pk [] (by decide) pn
  refine wp_ret ?_
  cases hF
  have hM := hM.addNilMx 22 3
  exact hQr _ _ (r_2 hS rfl rfl rfl ⟨(Value.slice none 0 0), [], rfl, hM.pk [0] (by decide) (pc rfl pn)⟩)
 ·refine cond_f hS rfl hc ?_
  refine wp_skip ?_
  refine hK4 _ _ ?_
  refine wp_seq_k fun K13 hK13 => ?_
  refine wp_region_lit ?_
  refine st_val hS rfl rfl (by decide) (rv_load_agg (hS.ev rfl) ty_ag_29 (hM.get 0 rfl) ty_sz_29) fun a hS => ?_
  obtain ⟨r18, hr, hF⟩ := bind_some hF
  refine st_wp hS rfl (wp_call hS rfl rfl (by decide) fn_ok_22 rfl (c_impl_copyGraph F p0_g_Size p0_g_Rows p0_g_Rowsv hr _ (hM.get 1 rfl)) fun v w a hK hS => ?_)
  obtain ⟨v19, rfl, hN⟩ := hK
  have hM := hM.add hN rfl
  obtain ⟨v20, w, hr, hM⟩ := Mem.mxLit0 (e2 := 3) (dst := some 21) (ty := _) (pos := _) (af := _) (gd := _) hM hS Try.underlying26 ty_el_22 rfl
  refine st_val hS rfl rfl (by decide) hr fun a hS => ?_
  obtain ⟨b21, w, hr, hM⟩ := hM.allocE (ρ := a.eval) (dst := some 6) (ty := _) (pos := _) (af := _) (gd := _) (T := 29) (P := Try.prog) [(int i64 0), (Value.slice none 0 0)] ty_zr_29 rfl
  refine st_val hS rfl rfl (by decide) hr fun a hS => ?_
  have hM := hM.addNil 3
  have hM := hM.pk [1, 0, 2, 3, 4, 5, 6] (by decide) (pc rfl (pc rfl (pc rfl (pc rfl (pc rfl (pc rfl (pc rfl pn)))))))
  obtain ⟨w, hr, hM⟩ := hM.st_agg (us := [(int i64 r18.1), v19]) (ρ := a.eval) (dst := none) (ty := _) (pos := _) (af := _) (gd := _) (x := .tmp 6) (y := .tmp 20) (hS.ev rfl) (hS.ev rfl) ty_sz_29 (all1_cons rfl (all1_cons (rd_one (rd_of_ow (hM.get 3 rfl))) all1_nil)) rfl
  refine st_unit hS rfl rfl hr ?_
  refine st_val hS rfl rfl (by decide) (rv_assign (hS.ev rfl)) fun a hS => ?_
  refine wpList_nil ?_
  refine hK13 _ _ ?_
  have hS : Sl 77 [(1, p1_orderv), (2, (fdp b3 0)), (6, (fdp b21 0)), (7, v20)] a := hS.sub (sub_cons rfl (sub_cons rfl (sub_cons rfl (sub_cons rfl sub_nil))))
  have hM := hM.pk [0, 2, 3, 4, 5, 6] (by decide) (pc rfl (pc rfl (pc rfl (pc rfl (pc rfl (pc rfl pn))))))
  refine wp_seq_k fun K22 hK22 => ?_
  have hJ1 : ∀ (l357 : List Int) (a : Act) (w : World), Sl 77 [(2, (fdp b3 0)), (6, (fdp b21 0)), (7, v20)] a → Mem Nob w0 w [(true, bx b3 29 [(int i64 p0_g_Size), p0_g_Rowsv]), (false, rd p0_g_Rowsv (List.map (int i64) p0_g_Rows)), (true, bx b21 29 [(int i64 r18.1), v19]), (true, ow 3 v19 (List.map (int i64) l357)), (true, mx 22 3 v20 [] (List.map (List.map (int i64)) ([] : List (List Int))))] → S_impl_FillOf_j1 F p0_g_Rows r18 l357 = some r → K22 a w := by
   intro l357 a w hS hM hF
   unfold S_impl_FillOf_j1 at hF
   refine hK22 _ _ ?_
   refine wp_seq_k fun K358 hK358 => ?_
   have hJ2 : ∀ (l448 : List (List Int)) (v446 : Value) (hs447 : List Value) (a : Act) (w : World), Sl 77 [(7, v446)] a → Mem Nob w0 w [(true, mx 22 3 v446 hs447 (List.map (List.map (int i64)) l448))] → S_impl_FillOf_j2 F l448 = some r → K358 a w := by
    intro l448 v446 hs447 a w hS hM hF
    unfold S_impl_FillOf_j2 at hF
    refine hK358 _ _ ?_
    refine wp_seq_k fun K449 hK449 => ?_
    refine wp_region_lit ?_
    refine st_val hS rfl rfl (by decide) (rv_move (hS.ev rfl)) fun a hS => ?_
    refine st_val hS rfl rfl (by decide) (rv_assign (hS.ev rfl)) fun a hS => ?_
    refine st_val hS rfl rfl (by decide) (rv_assign (hS.ev rfl)) fun a hS => ?_
    refine wpList_nil ?_
    refine hK449 _ _ ?_
    refine wp_ret ?_
    cases hF
    exact hQr _ _ (r_2 hS rfl rfl rfl ⟨v446, hs447, rfl, hM.pk [0] (by decide) (pc rfl pn)⟩)
   refine wp_seq_k fun K450 hK450 => ?_
   refine wp_region_lit ?_
   refine st_val hS rfl rfl (by decide) (rv_load_agg (hS.ev rfl) ty_ag_29 (hM.get 2 rfl) ty_sz_29) fun a hS => ?_
   obtain ⟨r454, hr, hF⟩ := bind_some hF
   refine st_wp hS rfl (wp_call hS rfl rfl (by decide) fn_ok_25 rfl (c_impl_EdgesOf F r18.1 l357 v19 hr _ (rd_of_ow (hM.get 3 rfl))) fun v w a hK hS => ?_)
   obtain ⟨v455, hs456, hv0, hN⟩ := hK
   subst v
   have hM := hM.add hN rfl
   refine st_val hS rfl rfl (by decide) (rv_len_mxM Try.underlying26 (hS.ev rfl) (hM.get 0 rfl)) fun a hS => ?_
   refine st_val hS rfl rfl (by decide) (rv_move (hS.ev rfl)) fun a hS => ?_
   refine wpList_nil ?_
   refine hK450 _ _ ?_
   refine wp_block ?_
   have hM := hM.tlIn
   obtain ⟨lb3, hl3, hF3⟩ := bind_some hF
   refine wp_loop_sh (fun s => S_impl_FillOf_l3 F p0_g_Rows r454 s.1 s.2) (fun s a w => ∃ (v457 : Value) (hs458 : List Value), Sl 77 [(2, (fdp b3 0)), (7, v457), (53, v455), (54, (int i64 (r454.length : Int))), (55, (int i64 s.2))] a ∧ Mem Nob w0 w [(true, bx b3 29 [(int i64 p0_g_Size), p0_g_Rowsv]), (false, rd p0_g_Rowsv (List.map (int i64) p0_g_Rows)), (true, mx 22 3 v457 hs458 (List.map (List.map (int i64)) s.1)), (true, tl 22 3 v455 hs456 (List.map (List.map (int i64)) r454) s.2)]) hl3 ⟨v20, [], (hS.sub (sub_cons rfl (sub_cons rfl (sub_cons rfl (sub_cons rfl (sub_cons rfl sub_nil)))))), (hM.pk [1, 2, 5, 0] (by decide) (pc rfl (pc rfl (pc rfl (pc rfl pn)))))⟩ ?_
   rintro K3 ⟨l459, x460⟩ a w res3 ⟨v457, hs458, hS, hM⟩ hF hN3 hX3
   have hF : S_impl_FillOf_l3 F p0_g_Rows r454 l459 x460 = some res3 := hF
   have hS : Sl 77 [(2, (fdp b3 0)), (7, v457), (53, v455), (54, (int i64 (r454.length : Int))), (55, (int i64 x460))] a := hS
   have hM : Mem Nob w0 w [(true, bx b3 29 [(int i64 p0_g_Size), p0_g_Rowsv]), (false, rd p0_g_Rowsv (List.map (int i64) p0_g_Rows)), (true, mx 22 3 v457 hs458 (List.map (List.map (int i64)) l459)), (true, tl 22 3 v455 hs456 (List.map (List.map (int i64)) r454) x460)] := hM
   unfold S_impl_FillOf_l3 at hF
   refine wp_seq_k fun K499 hK499 => ?_
   refine wp_region_lit ?_
   refine st_val hS rfl rfl (by decide) (rv_lss (hS.ev rfl) (hS.ev rfl)) fun a hS => ?_
   refine wpList_nil ?_
   refine hK499 _ _ ?_
   refine wp_seq_k fun K500 hK500 => ?_
   rcases ite_some hF with ⟨hc, hF⟩ | ⟨hc, hF⟩
   ·refine cond_t hS rfl hc ?_
    refine wp_skip ?_
    refine hK500 _ _ ?_
    refine wp_seq_k fun K501 hK501 => ?_
    have hJ4 : ∀ (l520 : List (List Int)) (v518 : Value) (hs519 : List Value) (a : Act) (w : World), Sl 77 [(2, (fdp b3 0)), (7, v518), (53, v455), (54, (int i64 (r454.length : Int))), (55, (int i64 x460))] a → Mem Nob w0 w [(true, bx b3 29 [(int i64 p0_g_Size), p0_g_Rowsv]), (false, rd p0_g_Rowsv (List.map (int i64) p0_g_Rows)), (true, mx 22 3 v518 hs519 (List.map (List.map (int i64)) l520)), (true, tl 22 3 v455 hs456 (List.map (List.map (int i64)) r454) (i64.wrap (x460 + 1)))] → S_impl_FillOf_j4 F x460 l520 = some res3 → K501 a w := by
     intro l520 v518 hs519 a w hS hM hF
     unfold S_impl_FillOf_j4 at hF
     refine hK501 _ _ ?_
     refine wp_region_lit ?_
     refine st_val hS rfl rfl (by decide) (rv_add (hS.ev rfl) (hS.ev rfl)) fun a hS => ?_
     refine st_val hS rfl rfl (by decide) (rv_move (hS.ev rfl)) fun a hS => ?_
     refine wpList_nil ?_
     cases hF
     exact hN3 _ _ _ rfl ⟨v518, hs519, (hS.sub (sub_cons rfl (sub_cons rfl (sub_cons rfl (sub_cons rfl (sub_cons rfl sub_nil)))))), (hM.pk [0, 1, 2, 3] (by decide) (pc rfl (pc rfl (pc rfl (pc rfl pn)))))⟩
    refine wp_block ?_
    refine wp_seq_k fun K521 hK521 => ?_
    refine wp_region_lit ?_
    obtain ⟨x524, hx, hF⟩ := bind_some hF
    obtain ⟨hi0, hi1, hex524⟩ := idxL_some hx
    have hzx524 := hi0
    refine st_val hS rfl rfl (by decide) (rv_indexAddr Try.underlying26 ty_el_22 (hS.ev rfl) (hS.ev rfl) (tl_rd (hM.get 3 rfl)) hi0 (tl_lt (hM.get 3 rfl) hi1)) fun a hS => ?_
    obtain ⟨v525, hgx524⟩ := tl_get (hM.get 3 rfl) (mget hex524)
    refine st_val hS rfl rfl (by decide) (rv_load_el (hS.ev rfl) ty_ag_22 (tl_rd (hM.get 3 rfl)) hgx524) fun a hS => ?_
    refine st_val hS rfl rfl (by decide) (rv_assign (hS.ev rfl)) fun a hS => ?_
    refine wpList_nil ?_
    refine hK521 _ _ ?_
    refine wp_seq_k fun K526 hK526 => ?_
    refine an_startB 12 Nob ty_mixed (by kernel_rfl) fun w hf => ?_
    have hM := hM.fra hf
    have hB := hM
    have hM := hB.reg0
    try dsimp only [ro] at hM
    refine tkB hS 0 1 (by kernel_rfl) rfl rfl rfl hQp rfl (fun w' hC' => (rv_fieldAddr ty_fd_29_1 (hS.ev rfl))) hM.fr fun a hS => ?_
    refine tkB hS 1 3 (by kernel_rfl) rfl rfl rfl hQp rfl (fun w' hC' => (rv_load_bx (hS.ev rfl) ty_ag_22 ((hB.fra hC').get 0 rfl) rfl)) hM.fr fun a hS => ?_
    refine tkB hS 2 7 (by kernel_rfl) rfl rfl rfl hQp rfl (fun w' hC' => (rv_move (hS.ev rfl))) hM.fr fun a hS => ?_
    obtain ⟨x531, hx, hF⟩ := bind_some hF
    obtain ⟨hi0, hi1, hex531⟩ := idxL_some hx
    refine tkB hS 3 15 (by kernel_rfl) rfl rfl rfl hQp rfl (fun w' hC' => (rv_indexAddr Try.underlying22 ty_el_3 (hS.ev rfl) (hS.ev rfl) (tl_row (hM.get 3 rfl) hgx524 (mget hex524)) hi0 (map_len hi1))) hM.fr fun a hS => ?_
    refine tkB hS 4 31 (by kernel_rfl) rfl rfl rfl hQp rfl (fun w' hC' => (rv_load_el (hS.ev rfl) ty_ag_3 (tl_row ((hB.fra hC').get 3 rfl) hgx524 (mget hex524)) (mget hex531))) hM.fr fun a hS => ?_
    obtain ⟨x532, hx, hF⟩ := bind_some hF
    obtain ⟨hi0, hi1, hex532⟩ := idxL_some hx
    refine tkB hS 5 63 (by kernel_rfl) rfl rfl rfl hQp rfl (fun w' hC' => (rv_indexAddr Try.underlying22 ty_el_3 (hS.ev rfl) (hS.ev rfl) (hM.get 1 rfl) hi0 (map_len hi1))) hM.fr fun a hS => ?_
    refine tkB hS 6 127 (by kernel_rfl) rfl rfl rfl hQp rfl (fun w' hC' => (rv_load_el (hS.ev rfl) ty_ag_3 ((hB.fra hC').get 1 rfl) (mget hex532))) hM.fr fun a hS => ?_
    refine tkB hS 7 255 (by kernel_rfl) rfl rfl rfl hQp rfl (fun w' hC' => (rv_move (hS.ev rfl))) hM.fr fun a hS => ?_
    obtain ⟨x533, hx, hF⟩ := bind_some hF
    obtain ⟨hi0, hi1, hex533⟩ := idxL_some hx
    refine tkB hS 8 511 (by kernel_rfl) rfl rfl rfl hQp rfl (fun w' hC' => (rv_indexAddr Try.underlying22 ty_el_3 (hS.ev rfl) (hS.ev rfl) (tl_row (hM.get 3 rfl) hgx524 (mget hex524)) hi0 (map_len hi1))) hM.fr fun a hS => ?_
    refine tkB hS 9 1023 (by kernel_rfl) rfl rfl rfl hQp rfl (fun w' hC' => (rv_load_el (hS.ev rfl) ty_ag_3 (tl_row ((hB.fra hC').get 3 rfl) hgx524 (mget hex524)) (mget hex533))) hM.fr fun a hS => ?_
    obtain ⟨r534, hr, hF⟩ := bind_some hF
    refine an_oneB hS (i := 10) 2047 (by kernel_rfl) rfl (by kernel_rfl) rfl ?_
    refine wp_call hS rfl rfl (by decide) fn_ok_26 rfl (c_impl_has F x532 x533 hr _) fun v w a hK hS => ?_
    obtain ⟨rfl, hN⟩ := hK
    have hM := hM.fra hN.fr
    refine ⟨hM.fr, ?_⟩
    refine tkB hS 11 4095 (by kernel_rfl) rfl rfl rfl hQp rfl (fun w' hC' => (rv_not (hS.ev rfl))) hM.fr fun a hS => ?_
    refine an_done (by kernel_rfl) ?_
    have hN := hM.pk [] (by decide) pn
    have hM := Mem.callo0 hB hN rfl
    refine hK526 _ _ ?_
    have hS : Sl 77 [(2, (fdp b3 0)), (7, v457), (14, v525), (53, v455), (54, (int i64 (r454.length : Int))), (55, (int i64 x460)), (70, (Value.bool (!r534)))] a := hS.sub (sub_cons rfl (sub_cons rfl (sub_cons rfl (sub_cons rfl (sub_cons rfl (sub_cons rfl (sub_cons rfl sub_nil)))))))
    rcases ite_some hF with ⟨hc, hF⟩ | ⟨hc, hF⟩
    ·refine cond_t hS rfl hc ?_
     refine wp_region_lit ?_
     refine st_val hS rfl rfl (by decide) (rv_move (hS.ev rfl)) fun a hS => ?_
     refine st_val hS rfl rfl (by decide) (rv_move (hS.ev rfl)) fun a hS => ?_
     have hM := hM.pk [3, 0, 1, 2] (by decide) (pc rfl (pc rfl (pc rfl (pc rfl pn))))
     have hM := hM.tlTake hzx524 hgx524 (mget hex524)
     obtain ⟨v535, w, hr, hM⟩ := Mem.mxLit1 (dst := some 73) (ty := _) (pos := _) (af := _) (gd := _) (x := .tmp 72) hM hS Try.underlying26 ty_el_22 rfl rfl
     refine st_val hS rfl rfl (by decide) hr fun a hS => ?_
     obtain ⟨_, hx, hF⟩ := bind_some hF
     have hM := hM.pk [4, 0, 1, 2, 3] (by decide) (pc rfl (pc rfl (pc rfl (pc rfl (pc rfl pn)))))
     obtain ⟨v536, w, hr, hM⟩ := Mem.mxApp (ρ := a.eval) (dst := some 74) (ty := _) (pos := _) (af := _) (gd := _) (x := .tmp 71) (y := .tmp 73) hM Try.underlying26 ty_el_22 rfl (by decide) (hS.ev rfl) (hS.ev rfl) (by simpa using catO_some hx)
     have hM : Mem Nob w0 w [(true, mx 22 3 v536 (hs458 ++ [v525]) (List.map (List.map (int i64)) (l459 ++ ([x524] : List (List Int))))), (true, tl 22 3 v455 hs456 (List.map (List.map (int i64)) r454) (i64.wrap (x460 + 1))), (true, bx b3 29 [(int i64 p0_g_Size), p0_g_Rowsv]), (false, rd p0_g_Rowsv (List.map (int i64) p0_g_Rows))] := by rw [List.map_append]; exact hM
     refine st_val hS rfl rfl (by decide) hr fun a hS => ?_
     refine st_val hS rfl rfl (by decide) (rv_assign (hS.ev rfl)) fun a hS => ?_
     refine wpList_nil ?_
     exact hJ4 (l459 ++ ([x524] : List (List Int))) v536 (hs458 ++ [v525]) _ _ (hS.sub (sub_cons rfl (sub_cons rfl (sub_cons rfl (sub_cons rfl (sub_cons rfl sub_nil)))))) (hM.pk [2, 3, 0, 1] (by decide) (pc rfl (pc rfl (pc rfl (pc rfl pn))))) hF
    ·refine cond_f hS rfl hc ?_
     refine wp_skip ?_
     exact hJ4 l459 v457 hs458 _ _ (hS.sub (sub_cons rfl (sub_cons rfl (sub_cons rfl (sub_cons rfl (sub_cons rfl sub_nil)))))) (((hM.pk [3, 0, 1, 2] (by decide) (pc rfl (pc rfl (pc rfl (pc rfl pn))))).tlDrop hzx524 (mget hex524)).pk [1, 2, 3, 0] (by decide) (pc rfl (pc rfl (pc rfl (pc rfl pn))))) hF
   ·refine cond_f hS rfl hc ?_
    refine wp_exit ?_
    cases hF
    exact hJ2 l459 v457 hs458 _ _ (hS.sub (sub_cons rfl sub_nil)) (hM.pk [2] (by decide) (pc rfl pn)) (by have e := hX3 _ rfl; subst e; exact hF3)
  refine wp_seq_k fun K537 hK537 => ?_
  refine wp_region_lit ?_
  refine st_val hS rfl rfl (by decide) (rv_move (hS.ev rfl)) fun a hS => ?_
  refine st_val hS rfl rfl (by decide) (rv_len_rowM Try.underlying22 (hS.ev rfl) (hM.get 5 rfl)) fun a hS => ?_
  refine st_val hS rfl rfl (by decide) (rv_move (hS.ev rfl)) fun a hS => ?_
  refine wpList_nil ?_
  refine hK537 _ _ ?_
  refine wp_block ?_
  obtain ⟨lb5, hl5, hF5⟩ := bind_some hF
  refine wp_loop_sh (fun s => S_impl_FillOf_l5 F p1_order r18 s.1 s.2) (fun s a w => Sl 77 [(1, p1_orderv), (2, (fdp b3 0)), (6, (fdp b21 0)), (7, v20), (22, p1_orderv), (23, (int i64 (p1_order.length : Int))), (24, (int i64 s.2))] a ∧ Mem Nob w0 w [(false, rd p1_orderv (List.map (int i64) p1_order)), (true, bx b3 29 [(int i64 p0_g_Size), p0_g_Rowsv]), (false, rd p0_g_Rowsv (List.map (int i64) p0_g_Rows)), (true, bx b21 29 [(int i64 r18.1), v19]), (true, ow 3 v19 (List.map (int i64) s.1)), (true, mx 22 3 v20 [] (List.map (List.map (int i64)) ([] : List (List Int))))]) hl5 ⟨(hS.sub (sub_cons rfl (sub_cons rfl (sub_cons rfl (sub_cons rfl (sub_cons rfl (sub_cons rfl (sub_cons rfl sub_nil)))))))), (hM.pk [5, 3, 4, 0, 2, 1] (by decide) (pc rfl (pc rfl (pc rfl (pc rfl (pc rfl (pc rfl pn)))))))⟩ ?_
  rintro K5 ⟨l649, x650⟩ a w res5 ⟨hS, hM⟩ hF hN5 hX5
  have hF : S_impl_FillOf_l5 F p1_order r18 l649 x650 = some res5 := hF
  have hS : Sl 77 [(1, p1_orderv), (2, (fdp b3 0)), (6, (fdp b21 0)), (7, v20), (22, p1_orderv), (23, (int i64 (p1_order.length : Int))), (24, (int i64 x650))] a := hS
  have hM : Mem Nob w0 w [(false, rd p1_orderv (List.map (int i64) p1_order)), (true, bx b3 29 [(int i64 p0_g_Size), p0_g_Rowsv]), (false, rd p0_g_Rowsv (List.map (int i64) p0_g_Rows)), (true, bx b21 29 [(int i64 r18.1), v19]), (true, ow 3 v19 (List.map (int i64) l649)), (true, mx 22 3 v20 [] (List.map (List.map (int i64)) ([] : List (List Int))))] := hM
  unfold S_impl_FillOf_l5 at hF
  refine wp_seq_k fun K761 hK761 => ?_
  refine wp_region_lit ?_
  refine st_val hS rfl rfl (by decide) (rv_lss (hS.ev rfl) (hS.ev rfl)) fun a hS => ?_
  refine wpList_nil ?_
  refine hK761 _ _ ?_
  refine wp_seq_k fun K762 hK762 => ?_
  rcases ite_some hF with ⟨hc, hF⟩ | ⟨hc, hF⟩
  ·refine cond_t hS rfl hc ?_
   refine wp_skip ?_
   refine hK762 _ _ ?_
   refine wp_seq_k fun K763 hK763 => ?_
   have hJ6 : ∀ (l817 : List Int) (a : Act) (w : World), Sl 77 [(1, p1_orderv), (2, (fdp b3 0)), (6, (fdp b21 0)), (7, v20), (22, p1_orderv), (23, (int i64 (p1_order.length : Int))), (24, (int i64 x650))] a → Mem Nob w0 w [(false, rd p1_orderv (List.map (int i64) p1_order)), (true, bx b3 29 [(int i64 p0_g_Size), p0_g_Rowsv]), (false, rd p0_g_Rowsv (List.map (int i64) p0_g_Rows)), (true, bx b21 29 [(int i64 r18.1), v19]), (true, ow 3 v19 (List.map (int i64) l817)), (true, mx 22 3 v20 [] (List.map (List.map (int i64)) ([] : List (List Int))))] → S_impl_FillOf_j6 F x650 l817 = some res5 → K763 a w := by
    intro l817 a w hS hM hF
    unfold S_impl_FillOf_j6 at hF
    refine hK763 _ _ ?_
    refine wp_region_lit ?_
    refine st_val hS rfl rfl (by decide) (rv_add (hS.ev rfl) (hS.ev rfl)) fun a hS => ?_
    refine st_val hS rfl rfl (by decide) (rv_move (hS.ev rfl)) fun a hS => ?_
    refine wpList_nil ?_
    cases hF
    exact hN5 _ _ _ rfl ⟨(hS.sub (sub_cons rfl (sub_cons rfl (sub_cons rfl (sub_cons rfl (sub_cons rfl (sub_cons rfl (sub_cons rfl sub_nil)))))))), (hM.pk [0, 1, 2, 3, 4, 5] (by decide) (pc rfl (pc rfl (pc rfl (pc rfl (pc rfl (pc rfl pn)))))))⟩
   refine wp_block ?_
   refine wp_seq_k fun K818 hK818 => ?_
   refine wp_region_lit ?_
   obtain ⟨x820, hx, hF⟩ := bind_some hF
   obtain ⟨hi0, hi1, hex820⟩ := idxL_some hx
   refine st_val hS rfl rfl (by decide) (rv_indexAddr Try.underlying22 ty_el_3 (hS.ev rfl) (hS.ev rfl) (hM.get 0 rfl) hi0 (map_len hi1)) fun a hS => ?_
   refine st_val hS rfl rfl (by decide) (rv_load_el (hS.ev rfl) ty_ag_3 (hM.get 0 rfl) (mget hex820)) fun a hS => ?_
   refine st_val hS rfl rfl (by decide) (rv_assign (hS.ev rfl)) fun a hS => ?_
   refine wpList_nil ?_
   refine hK818 _ _ ?_
   refine wp_seq_k fun K821 hK821 => ?_
   refine wp_region_lit ?_
   refine st_val hS rfl rfl (by decide) (rv_load_agg (hS.ev rfl) ty_ag_29 (hM.get 3 rfl) ty_sz_29) fun a hS => ?_
   refine st_val hS rfl rfl (by decide) (rv_move (hS.ev rfl)) fun a hS => ?_
   refine st_val hS rfl rfl (by decide) (rv_move (hS.ev rfl)) fun a hS => ?_
   obtain ⟨r823, hr, hF⟩ := bind_some hF
   refine st_wp hS rfl (wp_call hS rfl rfl (by decide) fn_ok_23 rfl (c_impl_LaterNeighbours F r18.1 l649 p1_order x820 v19 p1_orderv hr _ (rd_of_ow (hM.get 4 rfl)) (hM.get 0 rfl)) fun v w a hK hS => ?_)
   obtain ⟨rfl, hN⟩ := hK
   have hM := hM.fra hN.fr
   refine st_val hS rfl rfl (by decide) (rv_assign (hS.ev rfl)) fun a hS => ?_
   refine wpList_nil ?_
   refine hK821 _ _ ?_
   have hS : Sl 77 [(1, p1_orderv), (2, (fdp b3 0)), (6, (fdp b21 0)), (7, v20), (10, (int i64 r823)), (22, p1_orderv), (23, (int i64 (p1_order.length : Int))), (24, (int i64 x650))] a := hS.sub (sub_cons rfl (sub_cons rfl (sub_cons rfl (sub_cons rfl (sub_cons rfl (sub_cons rfl (sub_cons rfl (sub_cons rfl sub_nil))))))))
   refine wp_seq_k fun K824 hK824 => ?_
   refine wp_region_lit ?_
   refine st_val hS rfl rfl (by decide) (rv_move (hS.ev rfl)) fun a hS => ?_
   obtain ⟨r827, hr, hF⟩ := bind_some hF
   refine st_wp hS rfl (wp_call hS rfl rfl (by decide) fn_ok_24 rfl (c_impl_ListOf F r823 hr _) fun v828 w a hK hS => ?_)
   have hN := hK
   have hM := hM.add hN rfl
   refine st_val hS rfl rfl (by decide) (rv_len_rowM Try.underlying22 (hS.ev rfl) (rd_of_ow (hM.get 0 rfl))) fun a hS => ?_
   refine st_val hS rfl rfl (by decide) (rv_move (hS.ev rfl)) fun a hS => ?_
   refine wpList_nil ?_
   refine hK824 _ _ ?_
   refine wp_block ?_
   obtain ⟨lb7, hl7, hF7⟩ := bind_some hF
   refine wp_loop_sh (fun s => S_impl_FillOf_l7 F r823 r827 s.1 s.2) (fun s a w => Sl 77 [(1, p1_orderv), (2, (fdp b3 0)), (6, (fdp b21 0)), (7, v20), (10, (int i64 r823)), (22, p1_orderv), (23, (int i64 (p1_order.length : Int))), (24, (int i64 x650)), (33, v828), (34, (int i64 (r827.length : Int))), (35, (int i64 s.2))] a ∧ Mem Nob w0 w [(false, rd p1_orderv (List.map (int i64) p1_order)), (true, bx b3 29 [(int i64 p0_g_Size), p0_g_Rowsv]), (false, rd p0_g_Rowsv (List.map (int i64) p0_g_Rows)), (true, bx b21 29 [(int i64 r18.1), v19]), (true, ow 3 v19 (List.map (int i64) s.1)), (true, mx 22 3 v20 [] (List.map (List.map (int i64)) ([] : List (List Int)))), (true, ow 3 v828 (List.map (int i64) r827))]) hl7 ⟨(hS.sub (sub_cons rfl (sub_cons rfl (sub_cons rfl (sub_cons rfl (sub_cons rfl (sub_cons rfl (sub_cons rfl (sub_cons rfl (sub_cons rfl (sub_cons rfl (sub_cons rfl sub_nil)))))))))))), (hM.pk [1, 2, 3, 4, 5, 6, 0] (by decide) (pc rfl (pc rfl (pc rfl (pc rfl (pc rfl (pc rfl (pc rfl pn))))))))⟩ ?_
   rintro K7 ⟨l843, x844⟩ a w res7 ⟨hS, hM⟩ hF hN7 hX7
   have hF : S_impl_FillOf_l7 F r823 r827 l843 x844 = some res7 := hF
   have hS : Sl 77 [(1, p1_orderv), (2, (fdp b3 0)), (6, (fdp b21 0)), (7, v20), (10, (int i64 r823)), (22, p1_orderv), (23, (int i64 (p1_order.length : Int))), (24, (int i64 x650)), (33, v828), (34, (int i64 (r827.length : Int))), (35, (int i64 x844))] a := hS
   have hM : Mem Nob w0 w [(false, rd p1_orderv (List.map (int i64) p1_order)), (true, bx b3 29 [(int i64 p0_g_Size), p0_g_Rowsv]), (false, rd p0_g_Rowsv (List.map (int i64) p0_g_Rows)), (true, bx b21 29 [(int i64 r18.1), v19]), (true, ow 3 v19 (List.map (int i64) l843)), (true, mx 22 3 v20 [] (List.map (List.map (int i64)) ([] : List (List Int)))), (true, ow 3 v828 (List.map (int i64) r827))] := hM
   unfold S_impl_FillOf_l7 at hF
   refine wp_seq_k fun K858 hK858 => ?_
   refine wp_region_lit ?_
   refine st_val hS rfl rfl (by decide) (rv_lss (hS.ev rfl) (hS.ev rfl)) fun a hS => ?_
   refine wpList_nil ?_
   refine hK858 _ _ ?_
   refine wp_seq_k fun K859 hK859 => ?_
   rcases ite_some hF with ⟨hc, hF⟩ | ⟨hc, hF⟩
   ·refine cond_t hS rfl hc ?_
    refine wp_skip ?_
    refine hK859 _ _ ?_
    refine wp_seq_k fun K860 hK860 => ?_
    refine wp_block ?_
    refine wp_seq_k fun K866 hK866 => ?_
    refine wp_region_lit ?_
    obtain ⟨x868, hx, hF⟩ := bind_some hF
    obtain ⟨hi0, hi1, hex868⟩ := idxL_some hx
    refine st_val hS rfl rfl (by decide) (rv_indexAddr Try.underlying22 ty_el_3 (hS.ev rfl) (hS.ev rfl) (rd_of_ow (hM.get 6 rfl)) hi0 (map_len hi1)) fun a hS => ?_
    refine st_val hS rfl rfl (by decide) (rv_load_el (hS.ev rfl) ty_ag_3 (rd_of_ow (hM.get 6 rfl)) (mget hex868)) fun a hS => ?_
    refine st_val hS rfl rfl (by decide) (rv_assign (hS.ev rfl)) fun a hS => ?_
    refine wpList_nil ?_
    refine hK866 _ _ ?_
    have hM := hM.pk [4, 0, 1, 2, 3, 5, 6] (by decide) (pc rfl (pc rfl (pc rfl (pc rfl (pc rfl (pc rfl (pc rfl pn)))))))
    refine an_startB 12 (feet [(true, ow 3 v19 (List.map (int i64) l843))]) ty_mixed (by kernel_rfl) fun w hf => ?_
    have hM := hM.fra hf
    have hB := hM
    have hM := hB.reg1 rfl
    refine tkB hS 0 1 (by kernel_rfl) rfl rfl rfl hQp rfl (fun w' hC' => (rv_fieldAddr ty_fd_29_1 (hS.ev rfl))) hM.fr fun a hS => ?_
    refine tkB hS 1 3 (by kernel_rfl) rfl rfl rfl hQp rfl (fun w' hC' => (rv_load_bx (hS.ev rfl) ty_ag_22 (hB.getF rfl 3 rfl hC') rfl)) hM.fr fun a hS => ?_
    refine tkB hS 2 7 (by kernel_rfl) rfl rfl rfl hQp rfl (fun w' hC' => (rv_move (hS.ev rfl))) hM.fr fun a hS => ?_
    obtain ⟨x869, hx, hF⟩ := bind_some hF
    obtain ⟨hi0, hi1, hex869⟩ := idxL_some hx
    refine tkB hS 3 15 (by kernel_rfl) rfl rfl rfl hQp rfl (fun w' hC' => (rv_indexAddr Try.underlying22 ty_el_3 (hS.ev rfl) (hS.ev rfl) (rd_of_ow (hM.get 0 rfl)) hi0 (map_len hi1))) hM.fr fun a hS => ?_
    refine tkB hS 5 47 (by kernel_rfl) rfl rfl rfl hQp rfl (fun w' hC' => (rv_move (hS.ev rfl))) hM.fr fun a hS => ?_
    refine tkB hS 6 111 (by kernel_rfl) rfl rfl rfl hQp rfl (fun w' hC' => (rv_move (hS.ev rfl))) hM.fr fun a hS => ?_
    obtain ⟨_, hx, hF⟩ := bind_some hF
    have hi0 := nnO_some hx
    refine tkB hS 7 239 (by kernel_rfl) rfl rfl rfl hQp rfl (fun w' hC' => (rv_shl (hS.ev rfl) (hS.ev rfl) hi0)) hM.fr fun a hS => ?_
    refine tkB hS 8 495 (by kernel_rfl) rfl rfl rfl hQp rfl (fun w' hC' => (rv_andNot (hS.ev rfl) (hS.ev rfl))) hM.fr fun a hS => ?_
    refine an_oneB hS (i := 4) 511 (by kernel_rfl) rfl (by kernel_rfl) rfl ?_
    refine wp_val hS rfl (by decide) (rv_load_el (hS.ev rfl) ty_ag_3 (rd_of_ow (hM.get 0 rfl)) (mget hex869)) fun a hS => ⟨hM.fr, ?_⟩
    refine tkB hS 9 1023 (by kernel_rfl) rfl rfl rfl hQp rfl (fun w' hC' => (rv_or (hS.ev rfl) (hS.ev rfl))) hM.fr fun a hS => ?_
    obtain ⟨x870, hx, hF⟩ := bind_some hF
    obtain ⟨hi0, hi1, hex870⟩ := idxL_some hx
    refine tkB hS 10 2047 (by kernel_rfl) rfl rfl rfl hQp rfl (fun w' hC' => (rv_indexAddr Try.underlying22 ty_el_3 (hS.ev rfl) (hS.ev rfl) (rd_of_ow (hM.get 0 rfl)) hi0 (map_len hi1))) hM.fr fun a hS => ?_
    obtain ⟨w, hr, hM⟩ := hM.st_el (f := (int i64)) (n := x868.toNat) (c := (bOr x869 (bAndNot r823 (shL 1 x868)))) (ρ := a.eval) (dst := none) (ty := _) (pos := _) (af := _) (gd := _) (x := .tmp 49) (y := .tmp 48) i64_one (hS.ev rfl) (hS.ev rfl) ty_sz_3 (List.getElem?_eq_some_iff.1 hex870).1
    refine an_oneB hS (i := 11) 4095 (by kernel_rfl) rfl (by kernel_rfl) rfl ?_
    refine wp_unit hS rfl hr ⟨hM.fr, ?_⟩
    refine an_done (by kernel_rfl) ?_
    have hN := hM.pk [0] (by decide) (pc rfl pn)
    have hM := Mem.callo (A := [(true, ow 3 v19 (List.map (int i64) l843))]) (B := [(false, rd p1_orderv (List.map (int i64) p1_order)), (true, bx b3 29 [(int i64 p0_g_Size), p0_g_Rowsv]), (false, rd p0_g_Rowsv (List.map (int i64) p0_g_Rows)), (true, bx b21 29 [(int i64 r18.1), v19]), (true, mx 22 3 v20 [] (List.map (List.map (int i64)) ([] : List (List Int)))), (true, ow 3 v828 (List.map (int i64) r827))]) hB rfl (hN.memS fun _ h => h) rfl
    refine hK860 _ _ ?_
    have hS : Sl 77 [(1, p1_orderv), (2, (fdp b3 0)), (6, (fdp b21 0)), (7, v20), (10, (int i64 r823)), (22, p1_orderv), (23, (int i64 (p1_order.length : Int))), (24, (int i64 x650)), (33, v828), (34, (int i64 (r827.length : Int))), (35, (int i64 x844))] a := hS.sub (sub_cons rfl (sub_cons rfl (sub_cons rfl (sub_cons rfl (sub_cons rfl (sub_cons rfl (sub_cons rfl (sub_cons rfl (sub_cons rfl (sub_cons rfl (sub_cons rfl sub_nil)))))))))))
    refine wp_region_lit ?_
    refine st_val hS rfl rfl (by decide) (rv_add (hS.ev rfl) (hS.ev rfl)) fun a hS => ?_
    refine st_val hS rfl rfl (by decide) (rv_move (hS.ev rfl)) fun a hS => ?_
    refine wpList_nil ?_
    cases hF
    exact hN7 _ _ _ rfl ⟨(hS.sub (sub_cons rfl (sub_cons rfl (sub_cons rfl (sub_cons rfl (sub_cons rfl (sub_cons rfl (sub_cons rfl (sub_cons rfl (sub_cons rfl (sub_cons rfl (sub_cons rfl sub_nil)))))))))))), (hM.pk [1, 2, 3, 4, 0, 5, 6] (by decide) (pc rfl (pc rfl (pc rfl (pc rfl (pc rfl (pc rfl (pc rfl pn))))))))⟩
   ·refine cond_f hS rfl hc ?_
    refine wp_exit ?_
    cases hF
    exact hJ6 l843 _ _ (hS.sub (sub_cons rfl (sub_cons rfl (sub_cons rfl (sub_cons rfl (sub_cons rfl (sub_cons rfl (sub_cons rfl sub_nil)))))))) (hM.pk [0, 1, 2, 3, 4, 5] (by decide) (pc rfl (pc rfl (pc rfl (pc rfl (pc rfl (pc rfl pn))))))) (by have e := hX7 _ rfl; subst e; exact hF7)
  ·refine cond_f hS rfl hc ?_
   refine wp_exit ?_
   cases hF
   exact hJ1 l649 _ _ (hS.sub (sub_cons rfl (sub_cons rfl (sub_cons rfl sub_nil)))) (hM.pk [1, 2, 3, 4, 5] (by decide) (pc rfl (pc rfl (pc rfl (pc rfl (pc rfl pn)))))) (by have e := hX5 _ rfl; subst e; exact hF5)


theorem c_laws_eqIntSS (F : Nat) (p0_a : List (List Int)) (p1_b : List (List Int)) (p0_av : Value) (p0_ah : List Value) (p1_bv : Value) (p1_bh : List Value) {r : Bool} (hF : S_laws_eqIntSS F p0_a p1_b = some r) (w0 : World) (h0 : (mx 22 3 p0_av p0_ah (List.map (List.map (int i64)) p0_a)).P w0) (h1 : (mx 22 3 p1_bv p1_bh (List.map (List.map (int i64)) p1_b)).P w0) :
    Calls Try.prog 9 [p0_av, p1_bv].toArray w0 (retPost fun v w' => v = (Value.bool r) ∧ Mem Nob w0 w' []) := by
 have hM : Mem Nob w0 w0 [(false, mx 22 3 p0_av p0_ah (List.map (List.map (int i64)) p0_a)), (false, mx 22 3 p1_bv p1_bh (List.map (List.map (int i64)) p1_b))] := (Mem.gcons (Mem.gcons (Mem.nil w0) h1 (by simp)) h0 (by simp))
 refine enter2 Try.func9 rfl rfl rfl fun Q a hQr hQn hQp hS => ?_
 have hS : Sl 27 [(0, p0_av), (1, p1_bv)] a := hS
 unfold S_laws_eqIntSS at hF
 refine wp_seq_k fun K1 hK1 => ?_
 refine wp_region_lit ?_
 refine st_val hS rfl rfl (by decide) (rv_assign (hS.ev rfl)) fun a hS => ?_
 refine wpList_nil ?_
 refine hK1 _ _ ?_
 refine wp_seq_k fun K2 hK2 => ?_
 refine wp_seq_k fun K5 hK5 => ?_
 refine wp_region_lit ?_
 refine st_val hS rfl rfl (by decide) (rv_move (hS.ev rfl)) fun a hS => ?_
 refine st_val hS rfl rfl (by decide) (rv_len_mxM Try.underlying26 (hS.ev rfl) (hM.get 0 rfl)) fun a hS => ?_
 refine st_val hS rfl rfl (by decide) (rv_move (hS.ev rfl)) fun a hS => ?_
 refine st_val hS rfl rfl (by decide) (rv_len_mxM Try.underlying26 (hS.ev rfl) (hM.get 1 rfl)) fun a hS => ?_
 refine st_val hS rfl rfl (by decide) (rv_neq (hS.ev rfl) (hS.ev rfl)) fun a hS => ?_
 refine wpList_nil ?_
 refine hK5 _ _ ?_
 rcases ite_some hF with ⟨hc, hF⟩ | ⟨hc, hF⟩
 ·refine cond_t hS rfl hc ?_
  refine wp_seq_k fun K6 hK6 => ?_
  refine wp_region_lit ?_
  refine st_val hS rfl rfl (by decide) (rv_assign (hS.ev rfl)) fun a hS => ?_
  refine wpList_nil ?_
  refine hK6 _ _ ?_
  refine wp_ret ?_
  cases hF
  exact hQr _ _ (r_1 hS rfl rfl ⟨rfl, hM.pk [] (by decide) pn⟩)
 ·refine cond_f hS rfl hc ?_
  refine wp_skip ?_
  refine hK2 _ _ ?_
  refine wp_seq_k fun K7 hK7 => ?_
  have hJ1 : ∀ (a : Act) (w : World), Sl 27 [] a → Mem Nob w0 w [] → S_laws_eqIntSS_j1 F = some r → K7 a w := by
   intro a w hS hM hF
   unfold S_laws_eqIntSS_j1 at hF
   refine hK7 _ _ ?_
   refine wp_seq_k fun K66 hK66 => ?_
   refine wp_region_lit ?_
   refine st_val hS rfl rfl (by decide) (rv_assign (hS.ev rfl)) fun a hS => ?_
   refine wpList_nil ?_
   refine hK66 _ _ ?_
   refine wp_ret ?_
   cases hF
   exact hQr _ _ (r_1 hS rfl rfl ⟨rfl, hM.pk [] (by decide) pn⟩)
  refine wp_seq_k fun K67 hK67 => ?_
  refine wp_region_lit ?_
  refine st_val hS rfl rfl (by decide) (rv_assign (hS.ev rfl)) fun a hS => ?_
  refine wpList_nil ?_
  refine hK67 _ _ ?_
  refine wp_block ?_
  obtain ⟨lb2, hl2, hF2⟩ := bind_some hF
  refine wp_loop_sh (fun s => S_laws_eqIntSS_l2 F p0_a p1_b s) (fun s a w => Sl 27 [(0, p0_av), (1, p1_bv), (5, (int i64 s))] a ∧ Mem Nob w0 w [(false, mx 22 3 p0_av p0_ah (List.map (List.map (int i64)) p0_a)), (false, mx 22 3 p1_bv p1_bh (List.map (List.map (int i64)) p1_b))]) hl2 ⟨(hS.sub (sub_cons rfl (sub_cons rfl (sub_cons rfl sub_nil)))), (hM.pk [0, 1] (by decide) (pc rfl (pc rfl pn)))⟩ ?_
  rintro K2 x68 a w res2 ⟨hS, hM⟩ hF hN2 hX2
  have hF : S_laws_eqIntSS_l2 F p0_a p1_b x68 = some res2 := hF
  have hS : Sl 27 [(0, p0_av), (1, p1_bv), (5, (int i64 x68))] a := hS
  have hM : Mem Nob w0 w [(false, mx 22 3 p0_av p0_ah (List.map (List.map (int i64)) p0_a)), (false, mx 22 3 p1_bv p1_bh (List.map (List.map (int i64)) p1_b))] := hM
  unfold S_laws_eqIntSS_l2 at hF
  refine wp_seq_k fun K97 hK97 => ?_
  refine wp_seq_k fun K99 hK99 => ?_
  refine wp_region_lit ?_
  refine st_val hS rfl rfl (by decide) (rv_move (hS.ev rfl)) fun a hS => ?_
  refine st_val hS rfl rfl (by decide) (rv_move (hS.ev rfl)) fun a hS => ?_
  refine st_val hS rfl rfl (by decide) (rv_len_mxM Try.underlying26 (hS.ev rfl) (hM.get 0 rfl)) fun a hS => ?_
  refine st_val hS rfl rfl (by decide) (rv_lss (hS.ev rfl) (hS.ev rfl)) fun a hS => ?_
  refine wpList_nil ?_
  refine hK99 _ _ ?_
  rcases ite_some hF with ⟨hc, hF⟩ | ⟨hc, hF⟩
  ·refine cond_t hS rfl hc ?_
   refine wp_skip ?_
   refine hK97 _ _ ?_
   refine wp_seq_k fun K100 hK100 => ?_
   refine wp_block ?_
   refine wp_seq_k fun K113 hK113 => ?_
   refine an_startB 10 Nob ty_mixed (by kernel_rfl) fun w hf => ?_
   have hM := hM.fra hf
   have hB := hM
   have hM := hB.reg0
   try dsimp only [ro] at hM
   refine tkB hS 0 1 (by kernel_rfl) rfl rfl rfl hQp rfl (fun w' hC' => (rv_move (hS.ev rfl))) hM.fr fun a hS => ?_
   refine tkB hS 1 3 (by kernel_rfl) rfl rfl rfl hQp rfl (fun w' hC' => (rv_move (hS.ev rfl))) hM.fr fun a hS => ?_
   obtain ⟨x119, hx, hF⟩ := bind_some hF
   obtain ⟨hi0, hi1, hex119⟩ := idxL_some hx
   refine tkB hS 2 7 (by kernel_rfl) rfl rfl rfl hQp rfl (fun w' hC' => (rv_indexAddr Try.underlying26 ty_el_22 (hS.ev rfl) (hS.ev rfl) (mx_rd (hM.get 0 rfl)) hi0 (mx_lt (hM.get 0 rfl) hi1))) hM.fr fun a hS => ?_
   obtain ⟨v120, hgx119⟩ := mx_get (hM.get 0 rfl) (mget hex119)
   refine tkB hS 3 15 (by kernel_rfl) rfl rfl rfl hQp rfl (fun w' hC' => (rv_load_el (hS.ev rfl) ty_ag_22 (mx_rd ((hB.fra hC').get 0 rfl)) hgx119)) hM.fr fun a hS => ?_
   refine tkB hS 4 31 (by kernel_rfl) rfl rfl rfl hQp rfl (fun w' hC' => (rv_move (hS.ev rfl))) hM.fr fun a hS => ?_
   refine tkB hS 5 63 (by kernel_rfl) rfl rfl rfl hQp rfl (fun w' hC' => (rv_move (hS.ev rfl))) hM.fr fun a hS => ?_
   obtain ⟨x121, hx, hF⟩ := bind_some hF
   obtain ⟨hi0, hi1, hex121⟩ := idxL_some hx
   refine tkB hS 6 127 (by kernel_rfl) rfl rfl rfl hQp rfl (fun w' hC' => (rv_indexAddr Try.underlying26 ty_el_22 (hS.ev rfl) (hS.ev rfl) (mx_rd (hM.get 1 rfl)) hi0 (mx_lt (hM.get 1 rfl) hi1))) hM.fr fun a hS => ?_
   obtain ⟨v122, hgx121⟩ := mx_get (hM.get 1 rfl) (mget hex121)
   refine tkB hS 7 255 (by kernel_rfl) rfl rfl rfl hQp rfl (fun w' hC' => (rv_load_el (hS.ev rfl) ty_ag_22 (mx_rd ((hB.fra hC').get 1 rfl)) hgx121)) hM.fr fun a hS => ?_
   obtain ⟨r123, hr, hF⟩ := bind_some hF
   refine an_oneB hS (i := 8) 511 (by kernel_rfl) rfl (by kernel_rfl) rfl ?_
   refine wp_call hS rfl rfl (by decide) fn_ok_11 rfl (c_laws_eqIntS F x119 x121 v120 v122 hr _ (mx_row (hM.get 0 rfl) hgx119 (mget hex119)) (mx_row (hM.get 1 rfl) hgx121 (mget hex121))) fun v w a hK hS => ?_
   obtain ⟨rfl, hN⟩ := hK
   have hM := hM.fra hN.fr
   refine ⟨hM.fr, ?_⟩
   refine tkB hS 9 1023 (by kernel_rfl) rfl rfl rfl hQp rfl (fun w' hC' => (rv_not (hS.ev rfl))) hM.fr fun a hS => ?_
   refine an_done (by kernel_rfl) ?_
   have hN := hM.pk [] (by decide) pn
   have hM := Mem.callo0 hB hN rfl
   refine hK113 _ _ ?_
   have hS : Sl 27 [(0, p0_av), (1, p1_bv), (5, (int i64 x68)), (26, (Value.bool (!r123)))] a := hS.sub (sub_cons rfl (sub_cons rfl (sub_cons rfl (sub_cons rfl sub_nil))))
   rcases ite_some hF with ⟨hc, hF⟩ | ⟨hc, hF⟩
   ·refine cond_t hS rfl hc ?_
    refine wp_seq_k fun K124 hK124 => ?_
    refine wp_region_lit ?_
    refine st_val hS rfl rfl (by decide) (rv_assign (hS.ev rfl)) fun a hS => ?_
    refine wpList_nil ?_
    refine hK124 _ _ ?_
    refine wp_ret ?_
    cases hF
    have e := hX2 _ rfl
    subst e
    have hF := hF2
    cases hF
    exact hQr _ _ (r_1 hS rfl rfl ⟨rfl, hM.pk [] (by decide) pn⟩)
   ·refine cond_f hS rfl hc ?_
    refine wp_skip ?_
    refine hK100 _ _ ?_
    refine wp_region_lit ?_
    refine st_val hS rfl rfl (by decide) (rv_move (hS.ev rfl)) fun a hS => ?_
    refine st_val hS rfl rfl (by decide) (rv_add (hS.ev rfl) (hS.ev rfl)) fun a hS => ?_
    refine st_val hS rfl rfl (by decide) (rv_assign (hS.ev rfl)) fun a hS => ?_
    refine wpList_nil ?_
    cases hF
    exact hN2 _ _ _ rfl ⟨(hS.sub (sub_cons rfl (sub_cons rfl (sub_cons rfl sub_nil)))), (hM.pk [0, 1] (by decide) (pc rfl (pc rfl pn)))⟩
  ·refine cond_f hS rfl hc ?_
   refine wp_exit ?_
   cases hF
   exact hJ1 _ _ (hS.sub sub_nil) (hM.pk [] (by decide) pn) (by have e := hX2 _ rfl; subst e; exact hF2)


end Go.Proofs.Ytblbimlobacciaa
