/- Proved here: that each Go function does what its shallow function says -/
import Derived.Test.YtilfniehellmmaaSh
import Derived.Test.YtilfniehellmmaaTy
import Derived.Test.YtilfniehellmmaaK13
import Derived.Test.YtilfniehellmmaaW0
import Derived.Test.YtilfniehellmmaaW1
namespace Go.Proofs.Ytilfniehellmmaa
open Go Go.RowKit
set_option linter.unusedVariables false
set_option linter.unusedSimpArgs false
set_option maxRecDepth 100000
set_option maxHeartbeats 40000000

open Go.IntKind (i64)
open Go.Value (int)
theorem c_impl_IsGraph (F : Nat) (p0_g_Size : Int) (p0_g_Rows : List Int) (p0_g_Rowsv : Value) {r : Bool} (hF : S_impl_IsGraph F p0_g_Size p0_g_Rows = some r) (w0 : World) (h0 : RdRow w0 p0_g_Rowsv (List.map (int i64) p0_g_Rows)) :
    Calls Try.prog 110 [(Value.agg #[(int i64 p0_g_Size), p0_g_Rowsv])].toArray w0 (retPost fun v w' => v = (Value.bool r) ∧ Mem Nob w0 w' []) := by
 have hM : Mem Nob w0 w0 [(false, rd p0_g_Rowsv (List.map (int i64) p0_g_Rows))] := (Mem.rcons (Mem.nil w0) h0 (by simp))
 refine enter2 Try.func110 rfl rfl rfl fun Q a hQr hQn hQp hS => ?_
 have hS : Sl 66 [(0, (Value.agg #[(int i64 p0_g_Size), p0_g_Rowsv]))] a := hS
 unfold S_impl_IsGraph at hF
 refine wp_seq_k fun K1 hK1 => ?_
 refine wp_region_lit ?_
 obtain ⟨b3, w, hr, hM⟩ := hM.boxE (ρ := a.eval) (dst := some 1) (ty := _) (pos := _) (af := _) (gd := _) (x := .tmp 0) (T := 28) [(int i64 p0_g_Size), p0_g_Rowsv] (hS.ev rfl) rfl
 refine st_val hS rfl rfl (by decide) hr fun a hS => ?_
 refine st_val hS rfl rfl (by decide) (rv_assign (hS.ev rfl)) fun a hS => ?_
 refine wpList_nil ?_
 refine hK1 _ _ ?_
 refine wp_seq_k fun K4 hK4 => ?_
 refine wp_seq_k fun K10 hK10 => ?_
 have hJ1 : ∀ (p12 : Bool) (a : Act) (w : World), Sl 66 [(1, (fdp b3 0)), (19, (Value.bool p12))] a → Mem Nob w0 w [(true, bx b3 28 [(int i64 p0_g_Size), p0_g_Rowsv]), (false, rd p0_g_Rowsv (List.map (int i64) p0_g_Rows))] → S_impl_IsGraph_j1 F p0_g_Size p0_g_Rows p12 = some r → K10 a w := by
  intro p12 a w hS hM hF
  unfold S_impl_IsGraph_j1 at hF
  refine hK10 _ _ ?_
  rcases ite_some hF with ⟨hc, hF⟩ | ⟨hc, hF⟩
  ·refine cond_t hS rfl hc ?_
   refine wp_seq_k fun K13 hK13 => ?_
   refine wp_region_lit ?_
   refine st_val hS rfl rfl (by decide) (rv_assign (hS.ev rfl)) fun a hS => ?_
   refine wpList_nil ?_
   refine hK13 _ _ ?_
   refine wp_ret ?_
   cases hF
   exact hQr _ _ (r_1 hS rfl rfl ⟨rfl, hM.pick [] (by decide) rfl⟩)
  ·refine cond_f hS rfl hc ?_
   refine wp_skip ?_
   refine hK4 _ _ ?_
   refine wp_seq_k fun K14 hK14 => ?_
   have hJ2 : ∀ (a : Act) (w : World), Sl 66 [(1, (fdp b3 0))] a → Mem Nob w0 w [(true, bx b3 28 [(int i64 p0_g_Size), p0_g_Rowsv]), (false, rd p0_g_Rowsv (List.map (int i64) p0_g_Rows))] → S_impl_IsGraph_j2 F p0_g_Rows = some r → K14 a w := by
    intro a w hS hM hF
    unfold S_impl_IsGraph_j2 at hF
    refine hK14 _ _ ?_
    refine wp_seq_k fun K63 hK63 => ?_
    have hJ3 : ∀ (a : Act) (w : World), Sl 66 [] a → Mem Nob w0 w [] → S_impl_IsGraph_j3 F = some r → K63 a w := by
     intro a w hS hM hF
     unfold S_impl_IsGraph_j3 at hF
     refine hK63 _ _ ?_
     refine wp_seq_k fun K260 hK260 => ?_
     refine wp_region_lit ?_
     refine st_val hS rfl rfl (by decide) (rv_assign (hS.ev rfl)) fun a hS => ?_
     refine wpList_nil ?_
     refine hK260 _ _ ?_
     refine wp_ret ?_
     cases hF
     exact hQr _ _ (r_1 hS rfl rfl ⟨rfl, hM.pick [] (by decide) rfl⟩)
    refine wp_seq_k fun K261 hK261 => ?_
    refine wp_region_lit ?_
    refine st_val hS rfl rfl (by decide) (rv_fieldAddr ty_fd_28_1 (hS.ev rfl)) fun a hS => ?_
    refine st_val hS rfl rfl (by decide) (rv_load_bx (hS.ev rfl) ty_ag_22 (hM.get 0 rfl) rfl) fun a hS => ?_
    refine st_val hS rfl rfl (by decide) (rv_len_rowM Try.underlying22 (hS.ev rfl) (hM.get 1 rfl)) fun a hS => ?_
    refine st_val hS rfl rfl (by decide) (rv_move (hS.ev rfl)) fun a hS => ?_
    refine wpList_nil ?_
    refine hK261 _ _ ?_
    refine wp_block ?_
    obtain ⟨lb4, hl4, hF4⟩ := bind_some hF
    refine wp_loop_sh (fun s => S_impl_IsGraph_l4 F p0_g_Rows s) (fun s a w => Sl 66 [(1, (fdp b3 0)), (42, p0_g_Rowsv), (43, (int i64 (p0_g_Rows.length : Int))), (44, (int i64 s))] a ∧ Mem Nob w0 w [(true, bx b3 28 [(int i64 p0_g_Size), p0_g_Rowsv]), (false, rd p0_g_Rowsv (List.map (int i64) p0_g_Rows))]) hl4 ⟨(hS.sub (sub_cons rfl (sub_cons rfl (sub_cons rfl (sub_cons rfl sub_nil))))), (hM.pick [0, 1] (by decide) rfl)⟩ ?_
    rintro K4 x262 a w res4 ⟨hS, hM⟩ hF hN4 hX4
    have hF : S_impl_IsGraph_l4 F p0_g_Rows x262 = some res4 := hF
    have hS : Sl 66 [(1, (fdp b3 0)), (42, p0_g_Rowsv), (43, (int i64 (p0_g_Rows.length : Int))), (44, (int i64 x262))] a := hS
    have hM : Mem Nob w0 w [(true, bx b3 28 [(int i64 p0_g_Size), p0_g_Rowsv]), (false, rd p0_g_Rowsv (List.map (int i64) p0_g_Rows))] := hM
    unfold S_impl_IsGraph_l4 at hF
    refine wp_seq_k fun K360 hK360 => ?_
    refine wp_region_lit ?_
    refine st_val hS rfl rfl (by decide) (rv_lss (hS.ev rfl) (hS.ev rfl)) fun a hS => ?_
    refine wpList_nil ?_
    refine hK360 _ _ ?_
    refine wp_seq_k fun K361 hK361 => ?_
    rcases ite_some hF with ⟨hc, hF⟩ | ⟨hc, hF⟩
    ·refine cond_t hS rfl hc ?_
     refine wp_skip ?_
     refine hK361 _ _ ?_
     refine wp_seq_k fun K362 hK362 => ?_
     have hJ5 : ∀ (a : Act) (w : World), Sl 66 [(1, (fdp b3 0)), (42, p0_g_Rowsv), (43, (int i64 (p0_g_Rows.length : Int))), (44, (int i64 x262))] a → Mem Nob w0 w [(true, bx b3 28 [(int i64 p0_g_Size), p0_g_Rowsv]), (false, rd p0_g_Rowsv (List.map (int i64) p0_g_Rows))] → S_impl_IsGraph_j5 F x262 = some res4 → K362 a w := by
      intro a w hS hM hF
      unfold S_impl_IsGraph_j5 at hF
      refine hK362 _ _ ?_
      refine wp_region_lit ?_
      refine st_val hS rfl rfl (by decide) (rv_add (hS.ev rfl) (hS.ev rfl)) fun a hS => ?_
      refine st_val hS rfl rfl (by decide) (rv_move (hS.ev rfl)) fun a hS => ?_
      refine wpList_nil ?_
      cases hF
      exact hN4 _ _ _ rfl ⟨(hS.sub (sub_cons rfl (sub_cons rfl (sub_cons rfl (sub_cons rfl sub_nil))))), (hM.pick [0, 1] (by decide) rfl)⟩
     refine wp_block ?_
     refine wp_seq_k fun K410 hK410 => ?_
     refine wp_region_lit ?_
     refine st_val hS rfl rfl (by decide) (rv_move (hS.ev rfl)) fun a hS => ?_
     obtain ⟨x412, hx, hF⟩ := bind_some hF
     obtain ⟨hi0, hi1, hex412⟩ := idxL_some hx
     refine st_val hS rfl rfl (by decide) (rv_indexAddr Try.underlying22 ty_el_3 (hS.ev rfl) (hS.ev rfl) (hM.get 1 rfl) hi0 (map_len hi1)) fun a hS => ?_
     refine st_val hS rfl rfl (by decide) (rv_load_el (hS.ev rfl) ty_ag_3 (hM.get 1 rfl) (mget hex412)) fun a hS => ?_
     refine st_val hS rfl rfl (by decide) (rv_assign (hS.ev rfl)) fun a hS => ?_
     refine st_val hS rfl rfl (by decide) (rv_assign (hS.ev rfl)) fun a hS => ?_
     refine wpList_nil ?_
     refine hK410 _ _ ?_
     refine wp_seq_k fun K413 hK413 => ?_
     refine wp_region_lit ?_
     refine st_val hS rfl rfl (by decide) (rv_move (hS.ev rfl)) fun a hS => ?_
     refine st_val hS rfl rfl (by decide) (rv_move (hS.ev rfl)) fun a hS => ?_
     refine wpList_nil ?_
     refine hK413 _ _ ?_
     refine wp_block ?_
     obtain ⟨lb6, hl6, hF6⟩ := bind_some hF
     refine wp_loop_sh (fun s => S_impl_IsGraph_l6 F p0_g_Rows x262 x412 s) (fun s a w => Sl 66 [(1, (fdp b3 0)), (5, (int i64 x262)), (6, (int i64 x412)), (42, p0_g_Rowsv), (43, (int i64 (p0_g_Rows.length : Int))), (44, (int i64 x262)), (49, (int i64 x262)), (50, (int i64 s))] a ∧ Mem Nob w0 w [(true, bx b3 28 [(int i64 p0_g_Size), p0_g_Rowsv]), (false, rd p0_g_Rowsv (List.map (int i64) p0_g_Rows))]) hl6 ⟨(hS.sub (sub_cons rfl (sub_cons rfl (sub_cons rfl (sub_cons rfl (sub_cons rfl (sub_cons rfl (sub_cons rfl (sub_cons rfl sub_nil))))))))), (hM.pick [0, 1] (by decide) rfl)⟩ ?_
     rintro K6 x414 a w res6 ⟨hS, hM⟩ hF hN6 hX6
     have hF : S_impl_IsGraph_l6 F p0_g_Rows x262 x412 x414 = some res6 := hF
     have hS : Sl 66 [(1, (fdp b3 0)), (5, (int i64 x262)), (6, (int i64 x412)), (42, p0_g_Rowsv), (43, (int i64 (p0_g_Rows.length : Int))), (44, (int i64 x262)), (49, (int i64 x262)), (50, (int i64 x414))] a := hS
     have hM : Mem Nob w0 w [(true, bx b3 28 [(int i64 p0_g_Size), p0_g_Rowsv]), (false, rd p0_g_Rowsv (List.map (int i64) p0_g_Rows))] := hM
     unfold S_impl_IsGraph_l6 at hF
     refine wp_seq_k fun K436 hK436 => ?_
     refine wp_region_lit ?_
     refine st_val hS rfl rfl (by decide) (rv_lss (hS.ev rfl) (hS.ev rfl)) fun a hS => ?_
     refine wpList_nil ?_
     refine hK436 _ _ ?_
     refine wp_seq_k fun K437 hK437 => ?_
     rcases ite_some hF with ⟨hc, hF⟩ | ⟨hc, hF⟩
     ·refine cond_t hS rfl hc ?_
      refine wp_skip ?_
      refine hK437 _ _ ?_
      refine wp_seq_k fun K438 hK438 => ?_
      refine wp_block ?_
      refine wp_seq_k fun K448 hK448 => ?_
      refine wp_region_lit ?_
      refine st_val hS rfl rfl (by decide) (rv_move (hS.ev rfl)) fun a hS => ?_
      refine st_val hS rfl rfl (by decide) (rv_assign (hS.ev rfl)) fun a hS => ?_
      refine wpList_nil ?_
      refine hK448 _ _ ?_
      refine wp_seq_k fun K449 hK449 => ?_
      refine an_startB 11 Nob ty_mixed (by kernel_rfl) fun w hf => ?_
      have hM := hM.fra hf
      have hB := hM
      have hM := hB.reg0
      refine tkB hS 0 1 (by kernel_rfl) rfl rfl rfl hQp rfl (fun w' hC' => (rv_move (hS.ev rfl))) hM.fr fun a hS => ?_
      refine tkB hS 1 3 (by kernel_rfl) rfl rfl rfl hQp rfl (fun w' hC' => (rv_move (hS.ev rfl))) hM.fr fun a hS => ?_
      refine tkB hS 3 11 (by kernel_rfl) rfl rfl rfl hQp rfl (fun w' hC' => (rv_fieldAddr ty_fd_28_1 (hS.ev rfl))) hM.fr fun a hS => ?_
      refine tkB hS 4 27 (by kernel_rfl) rfl rfl rfl hQp rfl (fun w' hC' => (rv_load_bx (hS.ev rfl) ty_ag_22 ((hB.fra hC').get 0 rfl) rfl)) hM.fr fun a hS => ?_
      refine tkB hS 5 59 (by kernel_rfl) rfl rfl rfl hQp rfl (fun w' hC' => (rv_move (hS.ev rfl))) hM.fr fun a hS => ?_
      obtain ⟨x453, hx, hF⟩ := bind_some hF
      obtain ⟨hi0, hi1, hex453⟩ := idxL_some hx
      refine tkB hS 6 123 (by kernel_rfl) rfl rfl rfl hQp rfl (fun w' hC' => (rv_indexAddr Try.underlying22 ty_el_3 (hS.ev rfl) (hS.ev rfl) (hM.get 1 rfl) hi0 (map_len hi1))) hM.fr fun a hS => ?_
      refine tkB hS 7 251 (by kernel_rfl) rfl rfl rfl hQp rfl (fun w' hC' => (rv_load_el (hS.ev rfl) ty_ag_3 ((hB.fra hC').get 1 rfl) (mget hex453))) hM.fr fun a hS => ?_
      refine tkB hS 8 507 (by kernel_rfl) rfl rfl rfl hQp rfl (fun w' hC' => (rv_move (hS.ev rfl))) hM.fr fun a hS => ?_
      obtain ⟨r454, hr, hF⟩ := bind_some hF
      refine an_oneB hS (i := 2) 511 (by kernel_rfl) rfl (by kernel_rfl) rfl ?_
      refine wp_call hS rfl rfl (by decide) fn_ok_108 rfl (c_impl_has F x412 x414 hr _) fun v w a hK hS => ?_
      obtain ⟨rfl, hN⟩ := hK
      have hM := hM.fra hN.fr
      refine ⟨hM.fr, ?_⟩
      obtain ⟨r455, hr, hF⟩ := bind_some hF
      refine an_oneB hS (i := 9) 1023 (by kernel_rfl) rfl (by kernel_rfl) rfl ?_
      refine wp_call hS rfl rfl (by decide) fn_ok_108 rfl (c_impl_has F x453 x262 hr _) fun v w a hK hS => ?_
      obtain ⟨rfl, hN⟩ := hK
      have hM := hM.fra hN.fr
      refine ⟨hM.fr, ?_⟩
      refine tkB hS 10 2047 (by kernel_rfl) rfl rfl rfl hQp rfl (fun w' hC' => (rv_bneq Try.underlying4 (hS.ev rfl) (hS.ev rfl))) hM.fr fun a hS => ?_
      refine an_done (by kernel_rfl) ?_
      have hN := hM.pick [] (by decide) rfl
      have hM := Mem.callo0 hB hN rfl
      refine hK449 _ _ ?_
      have hS : Sl 66 [(1, (fdp b3 0)), (5, (int i64 x262)), (6, (int i64 x412)), (42, p0_g_Rowsv), (43, (int i64 (p0_g_Rows.length : Int))), (44, (int i64 x262)), (49, (int i64 x262)), (50, (int i64 x414)), (63, (Value.bool (r454 != r455)))] a := hS.sub (sub_cons rfl (sub_cons rfl (sub_cons rfl (sub_cons rfl (sub_cons rfl (sub_cons rfl (sub_cons rfl (sub_cons rfl (sub_cons rfl sub_nil)))))))))
      rcases ite_some hF with ⟨hc, hF⟩ | ⟨hc, hF⟩
      ·refine cond_t hS rfl hc ?_
       refine wp_seq_k fun K456 hK456 => ?_
       refine wp_region_lit ?_
       refine st_val hS rfl rfl (by decide) (rv_assign (hS.ev rfl)) fun a hS => ?_
       refine wpList_nil ?_
       refine hK456 _ _ ?_
       have hS : Sl 66 [(2, (Value.bool false))] a := hS.sub (sub_cons rfl sub_nil)
       have hM := hM.pick [] (by decide) rfl
       refine wp_ret ?_
       cases hF
       have e := hX6 _ rfl
       subst e
       have hF := hF6
       cases hF
       have e := hX4 _ rfl
       subst e
       have hF := hF4
       cases hF
       exact hQr _ _ (r_1 hS rfl rfl ⟨rfl, hM.pick [] (by decide) rfl⟩)
      ·refine cond_f hS rfl hc ?_
       refine wp_skip ?_
       refine hK438 _ _ ?_
       refine wp_region_lit ?_
       refine st_val hS rfl rfl (by decide) (rv_add (hS.ev rfl) (hS.ev rfl)) fun a hS => ?_
       refine st_val hS rfl rfl (by decide) (rv_move (hS.ev rfl)) fun a hS => ?_
       refine wpList_nil ?_
       cases hF
       exact hN6 _ _ _ rfl ⟨(hS.sub (sub_cons rfl (sub_cons rfl (sub_cons rfl (sub_cons rfl (sub_cons rfl (sub_cons rfl (sub_cons rfl (sub_cons rfl sub_nil))))))))), (hM.pick [0, 1] (by decide) rfl)⟩
     ·refine cond_f hS rfl hc ?_
      refine wp_exit ?_
      cases hF
      exact hJ5 _ _ (hS.sub (sub_cons rfl (sub_cons rfl (sub_cons rfl (sub_cons rfl sub_nil))))) (hM.pick [0, 1] (by decide) rfl) (by have e := hX6 _ rfl; subst e; exact hF6)
    ·refine cond_f hS rfl hc ?_
     refine wp_exit ?_
     cases hF
     exact hJ3 _ _ (hS.sub sub_nil) (hM.pick [] (by decide) rfl) (by have e := hX4 _ rfl; subst e; exact hF4)
   refine wp_seq_k fun K457 hK457 => ?_
   refine wp_region_lit ?_
   refine st_val hS rfl rfl (by decide) (rv_fieldAddr ty_fd_28_1 (hS.ev rfl)) fun a hS => ?_
   refine st_val hS rfl rfl (by decide) (rv_load_bx (hS.ev rfl) ty_ag_22 (hM.get 0 rfl) rfl) fun a hS => ?_
   refine st_val hS rfl rfl (by decide) (rv_len_rowM Try.underlying22 (hS.ev rfl) (hM.get 1 rfl)) fun a hS => ?_
   refine st_val hS rfl rfl (by decide) (rv_move (hS.ev rfl)) fun a hS => ?_
   refine wpList_nil ?_
   refine hK457 _ _ ?_
   refine wp_block ?_
   obtain ⟨lb7, hl7, hF7⟩ := bind_some hF
   refine wp_loop_sh (fun s => S_impl_IsGraph_l7 F p0_g_Size p0_g_Rows s) (fun s a w => Sl 66 [(1, (fdp b3 0)), (21, p0_g_Rowsv), (22, (int i64 (p0_g_Rows.length : Int))), (23, (int i64 s))] a ∧ Mem Nob w0 w [(true, bx b3 28 [(int i64 p0_g_Size), p0_g_Rowsv]), (false, rd p0_g_Rowsv (List.map (int i64) p0_g_Rows))]) hl7 ⟨(hS.sub (sub_cons rfl (sub_cons rfl (sub_cons rfl (sub_cons rfl sub_nil))))), (hM.pick [0, 1] (by decide) rfl)⟩ ?_
   rintro K7 x458 a w res7 ⟨hS, hM⟩ hF hN7 hX7
   have hF : S_impl_IsGraph_l7 F p0_g_Size p0_g_Rows x458 = some res7 := hF
   have hS : Sl 66 [(1, (fdp b3 0)), (21, p0_g_Rowsv), (22, (int i64 (p0_g_Rows.length : Int))), (23, (int i64 x458))] a := hS
   have hM : Mem Nob w0 w [(true, bx b3 28 [(int i64 p0_g_Size), p0_g_Rowsv]), (false, rd p0_g_Rowsv (List.map (int i64) p0_g_Rows))] := hM
   unfold S_impl_IsGraph_l7 at hF
   refine wp_seq_k fun K482 hK482 => ?_
   refine wp_region_lit ?_
   refine st_val hS rfl rfl (by decide) (rv_lss (hS.ev rfl) (hS.ev rfl)) fun a hS => ?_
   refine wpList_nil ?_
   refine hK482 _ _ ?_
   refine wp_seq_k fun K483 hK483 => ?_
   rcases ite_some hF with ⟨hc, hF⟩ | ⟨hc, hF⟩
   ·refine cond_t hS rfl hc ?_
    refine wp_skip ?_
    refine hK483 _ _ ?_
    refine wp_seq_k fun K484 hK484 => ?_
    refine wp_block ?_
    refine wp_seq_k fun K495 hK495 => ?_
    refine wp_region_lit ?_
    refine st_val hS rfl rfl (by decide) (rv_move (hS.ev rfl)) fun a hS => ?_
    obtain ⟨x497, hx, hF⟩ := bind_some hF
    obtain ⟨hi0, hi1, hex497⟩ := idxL_some hx
    refine st_val hS rfl rfl (by decide) (rv_indexAddr Try.underlying22 ty_el_3 (hS.ev rfl) (hS.ev rfl) (hM.get 1 rfl) hi0 (map_len hi1)) fun a hS => ?_
    refine st_val hS rfl rfl (by decide) (rv_load_el (hS.ev rfl) ty_ag_3 (hM.get 1 rfl) (mget hex497)) fun a hS => ?_
    refine st_val hS rfl rfl (by decide) (rv_assign (hS.ev rfl)) fun a hS => ?_
    refine st_val hS rfl rfl (by decide) (rv_assign (hS.ev rfl)) fun a hS => ?_
    refine wpList_nil ?_
    refine hK495 _ _ ?_
    refine wp_seq_k fun K498 hK498 => ?_
    have hJ8 : ∀ (p501 : Bool) (a : Act) (w : World), Sl 66 [(1, (fdp b3 0)), (21, p0_g_Rowsv), (22, (int i64 (p0_g_Rows.length : Int))), (23, (int i64 x458)), (39, (Value.bool p501))] a → Mem Nob w0 w [(true, bx b3 28 [(int i64 p0_g_Size), p0_g_Rowsv]), (false, rd p0_g_Rowsv (List.map (int i64) p0_g_Rows))] → S_impl_IsGraph_j8 F x458 p501 = some res7 → K498 a w := by
     intro p501 a w hS hM hF
     unfold S_impl_IsGraph_j8 at hF
     refine hK498 _ _ ?_
     rcases ite_some hF with ⟨hc, hF⟩ | ⟨hc, hF⟩
     ·refine cond_t hS rfl hc ?_
      refine wp_seq_k fun K502 hK502 => ?_
      refine wp_region_lit ?_
      refine st_val hS rfl rfl (by decide) (rv_assign (hS.ev rfl)) fun a hS => ?_
      refine wpList_nil ?_
      refine hK502 _ _ ?_
      refine wp_ret ?_
      cases hF
      have e := hX7 _ rfl
      subst e
      have hF := hF7
      cases hF
      exact hQr _ _ (r_1 hS rfl rfl ⟨rfl, hM.pick [] (by decide) rfl⟩)
     ·refine cond_f hS rfl hc ?_
      refine wp_skip ?_
      refine hK484 _ _ ?_
      refine wp_region_lit ?_
      refine st_val hS rfl rfl (by decide) (rv_add (hS.ev rfl) (hS.ev rfl)) fun a hS => ?_
      refine st_val hS rfl rfl (by decide) (rv_move (hS.ev rfl)) fun a hS => ?_
      refine wpList_nil ?_
      cases hF
      exact hN7 _ _ _ rfl ⟨(hS.sub (sub_cons rfl (sub_cons rfl (sub_cons rfl (sub_cons rfl sub_nil))))), (hM.pick [0, 1] (by decide) rfl)⟩
    refine wp_region_lit ?_
    refine st_val hS rfl rfl (by decide) (rv_move (hS.ev rfl)) fun a hS => ?_
    refine st_val hS rfl rfl (by decide) (rv_fieldAddr ty_fd_28_0 (hS.ev rfl)) fun a hS => ?_
    refine st_val hS rfl rfl (by decide) (rv_load_bx (hS.ev rfl) ty_ag_3 (hM.get 0 rfl) rfl) fun a hS => ?_
    obtain ⟨_, hx, hF⟩ := bind_some hF
    have hi0 := nnO_some hx
    refine st_val hS rfl rfl (by decide) (rv_shl (hS.ev rfl) (hS.ev rfl) hi0) fun a hS => ?_
    refine st_val hS rfl rfl (by decide) (rv_sub (hS.ev rfl) (hS.ev rfl)) fun a hS => ?_
    obtain ⟨r503, hr, hF⟩ := bind_some hF
    refine st_wp hS rfl (wp_call hS rfl rfl (by decide) fn_ok_76 rfl (c_impl_within F x497 0 (i64.wrap ((shL 1 p0_g_Size) - 1)) hr _) fun v w a hK hS => ?_)
    obtain ⟨rfl, hN⟩ := hK
    have hM := hM.fra hN.fr
    refine st_val hS rfl rfl (by decide) (rv_not (hS.ev rfl)) fun a hS => ?_
    refine st_val hS rfl rfl (by decide) (rv_move (hS.ev rfl)) fun a hS => ?_
    rcases ite_some hF with ⟨hc, hF⟩ | ⟨hc, hF⟩
    ·have hS := hS.setb (t := 35) rfl hc
     refine st_skip hS rfl rfl (by decide) fun a hS => ?_
     refine st_skip hS rfl rfl (by decide) fun a hS => ?_
     refine st_skip hS rfl rfl (by decide) fun a hS => ?_
     refine st_val hS rfl rfl (by decide) (rv_pick_t (hS.ev rfl) (hS.ev rfl)) fun a hS => ?_
     refine wpList_nil ?_
     exact hJ8 true _ _ (hS.sub (sub_cons rfl (sub_cons rfl (sub_cons rfl (sub_cons rfl (sub_cons rfl sub_nil)))))) (hM.pick [0, 1] (by decide) rfl) hF
    ·have hS := hS.setb (t := 35) rfl hc
     refine st_val hS rfl rfl (by decide) (rv_move (hS.ev rfl)) fun a hS => ?_
     refine st_val hS rfl rfl (by decide) (rv_move (hS.ev rfl)) fun a hS => ?_
     obtain ⟨r504, hr, hF⟩ := bind_some hF
     refine st_wp hS rfl (wp_call hS rfl rfl (by decide) fn_ok_108 rfl (c_impl_has F x497 x458 hr _) fun v w a hK hS => ?_)
     obtain ⟨rfl, hN⟩ := hK
     have hM := hM.fra hN.fr
     refine st_val hS rfl rfl (by decide) (rv_pick_f (hS.ev rfl) (hS.ev rfl)) fun a hS => ?_
     refine wpList_nil ?_
     exact hJ8 r504 _ _ (hS.sub (sub_cons rfl (sub_cons rfl (sub_cons rfl (sub_cons rfl (sub_cons rfl sub_nil)))))) (hM.pick [0, 1] (by decide) rfl) hF
   ·refine cond_f hS rfl hc ?_
    refine wp_exit ?_
    cases hF
    exact hJ2 _ _ (hS.sub (sub_cons rfl sub_nil)) (hM.pick [0, 1] (by decide) rfl) (by have e := hX7 _ rfl; subst e; exact hF7)
 refine wp_region_lit ?_
 refine st_val hS rfl rfl (by decide) (rv_fieldAddr ty_fd_28_0 (hS.ev rfl)) fun a hS => ?_
 refine st_val hS rfl rfl (by decide) (rv_load_bx (hS.ev rfl) ty_ag_3 (hM.get 0 rfl) rfl) fun a hS => ?_
 obtain ⟨r505, hr, hF⟩ := bind_some hF
 refine st_wp hS rfl (wp_call hS rfl rfl (by decide) fn_ok_76 rfl (c_impl_within F p0_g_Size 1 7 hr _) fun v w a hK hS => ?_)
 obtain ⟨rfl, hN⟩ := hK
 have hM := hM.fra hN.fr
 refine st_val hS rfl rfl (by decide) (rv_not (hS.ev rfl)) fun a hS => ?_
 refine st_val hS rfl rfl (by decide) (rv_move (hS.ev rfl)) fun a hS => ?_
 rcases ite_some hF with ⟨hc, hF⟩ | ⟨hc, hF⟩
 ·have hS := hS.setb (t := 12) rfl hc
  refine st_skip hS rfl rfl (by decide) fun a hS => ?_
  refine st_skip hS rfl rfl (by decide) fun a hS => ?_
  refine st_skip hS rfl rfl (by decide) fun a hS => ?_
  refine st_skip hS rfl rfl (by decide) fun a hS => ?_
  refine st_skip hS rfl rfl (by decide) fun a hS => ?_
  refine st_skip hS rfl rfl (by decide) fun a hS => ?_
  refine st_val hS rfl rfl (by decide) (rv_pick_t (hS.ev rfl) (hS.ev rfl)) fun a hS => ?_
  refine wpList_nil ?_
  exact hJ1 true _ _ (hS.sub (sub_cons rfl (sub_cons rfl sub_nil))) (hM.pick [0, 1] (by decide) rfl) hF
 ·have hS := hS.setb (t := 12) rfl hc
  refine st_val hS rfl rfl (by decide) (rv_fieldAddr ty_fd_28_1 (hS.ev rfl)) fun a hS => ?_
  refine st_val hS rfl rfl (by decide) (rv_load_bx (hS.ev rfl) ty_ag_22 (hM.get 0 rfl) rfl) fun a hS => ?_
  refine st_val hS rfl rfl (by decide) (rv_len_rowM Try.underlying22 (hS.ev rfl) (hM.get 1 rfl)) fun a hS => ?_
  refine st_val hS rfl rfl (by decide) (rv_fieldAddr ty_fd_28_0 (hS.ev rfl)) fun a hS => ?_
  refine st_val hS rfl rfl (by decide) (rv_load_bx (hS.ev rfl) ty_ag_3 (hM.get 0 rfl) rfl) fun a hS => ?_
  refine st_val hS rfl rfl (by decide) (rv_neq (hS.ev rfl) (hS.ev rfl)) fun a hS => ?_
  refine st_val hS rfl rfl (by decide) (rv_pick_f (hS.ev rfl) (hS.ev rfl)) fun a hS => ?_
  refine wpList_nil ?_
  exact hJ1 ((p0_g_Rows.length : Int) != p0_g_Size) _ _ (hS.sub (sub_cons rfl (sub_cons rfl sub_nil))) (hM.pick [0, 1] (by decide) rfl) hF


theorem c_impl_isVertex (F : Nat) (p0_g_Size : Int) (p0_g_Rows : List Int) (p1_vertices : List Int) (p0_g_Rowsv : Value) (p1_verticesv : Value) {r : Bool} (hF : S_impl_isVertex F p0_g_Size p0_g_Rows p1_vertices = some r) (w0 : World) (h0 : RdRow w0 p0_g_Rowsv (List.map (int i64) p0_g_Rows)) (h1 : RdRow w0 p1_verticesv (List.map (int i64) p1_vertices)) :
    Calls Try.prog 104 [(Value.agg #[(int i64 p0_g_Size), p0_g_Rowsv]), p1_verticesv].toArray w0 (retPost fun v w' => v = (Value.bool r) ∧ Mem Nob w0 w' []) := by
 have hM : Mem Nob w0 w0 [(false, rd p0_g_Rowsv (List.map (int i64) p0_g_Rows)), (false, rd p1_verticesv (List.map (int i64) p1_vertices))] := (Mem.rcons (Mem.rcons (Mem.nil w0) h1 (by simp)) h0 (by simp))
 refine enter2 Try.func104 rfl rfl rfl fun Q a hQr hQn hQp hS => ?_
 have hS : Sl 22 [(0, (Value.agg #[(int i64 p0_g_Size), p0_g_Rowsv])), (1, p1_verticesv)] a := hS
 unfold S_impl_isVertex at hF
 refine wp_seq_k fun K1 hK1 => ?_
 refine wp_region_lit ?_
 obtain ⟨b3, w, hr, hM⟩ := hM.boxE (ρ := a.eval) (dst := some 2) (ty := _) (pos := _) (af := _) (gd := _) (x := .tmp 0) (T := 28) [(int i64 p0_g_Size), p0_g_Rowsv] (hS.ev rfl) rfl
 refine st_val hS rfl rfl (by decide) hr fun a hS => ?_
 refine st_val hS rfl rfl (by decide) (rv_assign (hS.ev rfl)) fun a hS => ?_
 refine wpList_nil ?_
 refine hK1 _ _ ?_
 refine wp_seq_k fun K4 hK4 => ?_
 have hJ1 : ∀ (a : Act) (w : World), Sl 22 [(2, (fdp b3 0))] a → Mem Nob w0 w [(true, bx b3 28 [(int i64 p0_g_Size), p0_g_Rowsv]), (false, rd p0_g_Rowsv (List.map (int i64) p0_g_Rows))] → S_impl_isVertex_j1 F p0_g_Size p0_g_Rows = some r → K4 a w := by
  intro a w hS hM hF
  unfold S_impl_isVertex_j1 at hF
  refine hK4 _ _ ?_
  refine wp_seq_k fun K41 hK41 => ?_
  refine wp_region_lit ?_
  refine st_val hS rfl rfl (by decide) (rv_load_agg (hS.ev rfl) ty_ag_28 (hM.get 0 rfl) ty_sz_28) fun a hS => ?_
  obtain ⟨r43, hr, hF⟩ := bind_some hF
  refine st_wp hS rfl (wp_call hS rfl rfl (by decide) fn_ok_110 rfl (c_impl_IsGraph F p0_g_Size p0_g_Rows p0_g_Rowsv hr _ (hM.get 1 rfl)) fun v w a hK hS => ?_)
  obtain ⟨rfl, hN⟩ := hK
  have hM := hM.fra hN.fr
  refine st_val hS rfl rfl (by decide) (rv_assign (hS.ev rfl)) fun a hS => ?_
  refine wpList_nil ?_
  refine hK41 _ _ ?_
  refine wp_ret ?_
  cases hF
  exact hQr _ _ (r_1 hS rfl rfl ⟨rfl, hM.pick [] (by decide) rfl⟩)
 refine wp_seq_k fun K44 hK44 => ?_
 refine wp_region_lit ?_
 refine st_val hS rfl rfl (by decide) (rv_move (hS.ev rfl)) fun a hS => ?_
 refine st_val hS rfl rfl (by decide) (rv_len_rowM Try.underlying22 (hS.ev rfl) (hM.get 2 rfl)) fun a hS => ?_
 refine st_val hS rfl rfl (by decide) (rv_move (hS.ev rfl)) fun a hS => ?_
 refine wpList_nil ?_
 refine hK44 _ _ ?_
 refine wp_block ?_
 obtain ⟨lb2, hl2, hF2⟩ := bind_some hF
 refine wp_loop_sh (fun s => S_impl_isVertex_l2 F p0_g_Size p1_vertices s) (fun s a w => Sl 22 [(2, (fdp b3 0)), (7, p1_verticesv), (8, (int i64 (p1_vertices.length : Int))), (9, (int i64 s))] a ∧ Mem Nob w0 w [(true, bx b3 28 [(int i64 p0_g_Size), p0_g_Rowsv]), (false, rd p0_g_Rowsv (List.map (int i64) p0_g_Rows)), (false, rd p1_verticesv (List.map (int i64) p1_vertices))]) hl2 ⟨(hS.sub (sub_cons rfl (sub_cons rfl (sub_cons rfl (sub_cons rfl sub_nil))))), (hM.pick [0, 1, 2] (by decide) rfl)⟩ ?_
 rintro K2 x45 a w res2 ⟨hS, hM⟩ hF hN2 hX2
 have hF : S_impl_isVertex_l2 F p0_g_Size p1_vertices x45 = some res2 := hF
 have hS : Sl 22 [(2, (fdp b3 0)), (7, p1_verticesv), (8, (int i64 (p1_vertices.length : Int))), (9, (int i64 x45))] a := hS
 have hM : Mem Nob w0 w [(true, bx b3 28 [(int i64 p0_g_Size), p0_g_Rowsv]), (false, rd p0_g_Rowsv (List.map (int i64) p0_g_Rows)), (false, rd p1_verticesv (List.map (int i64) p1_vertices))] := hM
 unfold S_impl_isVertex_l2 at hF
 refine wp_seq_k fun K63 hK63 => ?_
 refine wp_region_lit ?_
 refine st_val hS rfl rfl (by decide) (rv_lss (hS.ev rfl) (hS.ev rfl)) fun a hS => ?_
 refine wpList_nil ?_
 refine hK63 _ _ ?_
 refine wp_seq_k fun K64 hK64 => ?_
 rcases ite_some hF with ⟨hc, hF⟩ | ⟨hc, hF⟩
 ·refine cond_t hS rfl hc ?_
  refine wp_skip ?_
  refine hK64 _ _ ?_
  refine wp_seq_k fun K65 hK65 => ?_
  refine wp_block ?_
  refine wp_seq_k fun K73 hK73 => ?_
  refine wp_region_lit ?_
  obtain ⟨x75, hx, hF⟩ := bind_some hF
  obtain ⟨hi0, hi1, hex75⟩ := idxL_some hx
  refine st_val hS rfl rfl (by decide) (rv_indexAddr Try.underlying22 ty_el_3 (hS.ev rfl) (hS.ev rfl) (hM.get 2 rfl) hi0 (map_len hi1)) fun a hS => ?_
  refine st_val hS rfl rfl (by decide) (rv_load_el (hS.ev rfl) ty_ag_3 (hM.get 2 rfl) (mget hex75)) fun a hS => ?_
  refine st_val hS rfl rfl (by decide) (rv_assign (hS.ev rfl)) fun a hS => ?_
  refine wpList_nil ?_
  refine hK73 _ _ ?_
  refine wp_seq_k fun K76 hK76 => ?_
  refine wp_region_lit ?_
  refine st_val hS rfl rfl (by decide) (rv_move (hS.ev rfl)) fun a hS => ?_
  refine st_val hS rfl rfl (by decide) (rv_fieldAddr ty_fd_28_0 (hS.ev rfl)) fun a hS => ?_
  refine st_val hS rfl rfl (by decide) (rv_load_bx (hS.ev rfl) ty_ag_3 (hM.get 0 rfl) rfl) fun a hS => ?_
  refine st_val hS rfl rfl (by decide) (rv_sub (hS.ev rfl) (hS.ev rfl)) fun a hS => ?_
  obtain ⟨r78, hr, hF⟩ := bind_some hF
  refine st_wp hS rfl (wp_call hS rfl rfl (by decide) fn_ok_76 rfl (c_impl_within F x75 0 (i64.wrap (p0_g_Size - 1)) hr _) fun v w a hK hS => ?_)
  obtain ⟨rfl, hN⟩ := hK
  have hM := hM.fra hN.fr
  refine st_val hS rfl rfl (by decide) (rv_not (hS.ev rfl)) fun a hS => ?_
  refine wpList_nil ?_
  refine hK76 _ _ ?_
  have hS : Sl 22 [(2, (fdp b3 0)), (7, p1_verticesv), (8, (int i64 (p1_vertices.length : Int))), (9, (int i64 x45)), (18, (Value.bool (!r78)))] a := hS.sub (sub_cons rfl (sub_cons rfl (sub_cons rfl (sub_cons rfl (sub_cons rfl sub_nil)))))
  rcases ite_some hF with ⟨hc, hF⟩ | ⟨hc, hF⟩
  ·refine cond_t hS rfl hc ?_
   refine wp_seq_k fun K79 hK79 => ?_
   refine wp_region_lit ?_
   refine st_val hS rfl rfl (by decide) (rv_assign (hS.ev rfl)) fun a hS => ?_
   refine wpList_nil ?_
   refine hK79 _ _ ?_
   have hS : Sl 22 [(4, (Value.bool false))] a := hS.sub (sub_cons rfl sub_nil)
   have hM := hM.pick [] (by decide) rfl
   refine wp_ret ?_
   cases hF
   have e := hX2 _ rfl
   subst e
   have hF := hF2
   cases hF
   exact hQr _ _ (r_1 hS rfl rfl ⟨rfl, hM.pick [] (by decide) rfl⟩)
  ·refine cond_f hS rfl hc ?_
   refine wp_skip ?_
   refine hK65 _ _ ?_
   refine wp_region_lit ?_
   refine st_val hS rfl rfl (by decide) (rv_add (hS.ev rfl) (hS.ev rfl)) fun a hS => ?_
   refine st_val hS rfl rfl (by decide) (rv_move (hS.ev rfl)) fun a hS => ?_
   refine wpList_nil ?_
   cases hF
   exact hN2 _ _ _ rfl ⟨(hS.sub (sub_cons rfl (sub_cons rfl (sub_cons rfl (sub_cons rfl sub_nil))))), (hM.pick [0, 1, 2] (by decide) rfl)⟩
 ·refine cond_f hS rfl hc ?_
  refine wp_exit ?_
  cases hF
  exact hJ1 _ _ (hS.sub (sub_cons rfl sub_nil)) (hM.pick [0, 1] (by decide) rfl) (by have e := hX2 _ rfl; subst e; exact hF2)


theorem c_slices_Index_int (F : Nat) (p0_s : List Int) (p1_v : Int) (p0_sv : Value) {r : Int} (hF : S_slices_Index_int F p0_s p1_v = some r) (w0 : World) (h0 : RdRow w0 p0_sv (List.map (int i64) p0_s)) :
    Calls Try.prog 84 [p0_sv, (int i64 p1_v)].toArray w0 (retPost fun v w' => v = (int i64 r) ∧ Mem Nob w0 w' []) := by
 have hM : Mem Nob w0 w0 [(false, rd p0_sv (List.map (int i64) p0_s))] := (Mem.rcons (Mem.nil w0) h0 (by simp))
 refine enter2 Try.func84 rfl rfl rfl fun Q a hQr hQn hQp hS => ?_
 have hS : Sl 19 [(0, p0_sv), (1, (int i64 p1_v))] a := hS
 unfold S_slices_Index_int at hF
 refine wp_seq_k fun K1 hK1 => ?_
 refine wp_region_lit ?_
 refine st_val hS rfl rfl (by decide) (rv_assign (hS.ev rfl)) fun a hS => ?_
 refine wpList_nil ?_
 refine hK1 _ _ ?_
 refine wp_seq_k fun K2 hK2 => ?_
 have hJ1 : ∀ (a : Act) (w : World), Sl 19 [] a → Mem Nob w0 w [] → S_slices_Index_int_j1 F = some r → K2 a w := by
  intro a w hS hM hF
  unfold S_slices_Index_int_j1 at hF
  refine hK2 _ _ ?_
  refine wp_seq_k fun K31 hK31 => ?_
  refine wp_region_lit ?_
  refine st_val hS rfl rfl (by decide) (rv_assign (hS.ev rfl)) fun a hS => ?_
  refine wpList_nil ?_
  refine hK31 _ _ ?_
  refine wp_ret ?_
  cases hF
  exact hQr _ _ (r_1 hS rfl rfl ⟨rfl, hM.pick [] (by decide) rfl⟩)
 refine wp_seq_k fun K32 hK32 => ?_
 refine wp_region_lit ?_
 refine st_val hS rfl rfl (by decide) (rv_move (hS.ev rfl)) fun a hS => ?_
 refine st_val hS rfl rfl (by decide) (rv_len_rowM Try.underlying22 (hS.ev rfl) (hM.get 0 rfl)) fun a hS => ?_
 refine st_val hS rfl rfl (by decide) (rv_move (hS.ev rfl)) fun a hS => ?_
 refine wpList_nil ?_
 refine hK32 _ _ ?_
 refine wp_block ?_
 obtain ⟨lb2, hl2, hF2⟩ := bind_some hF
 refine wp_loop_sh (fun s => S_slices_Index_int_l2 F p0_s p1_v s) (fun s a w => Sl 19 [(0, p0_sv), (1, (int i64 p1_v)), (7, (int i64 (p0_s.length : Int))), (8, (int i64 s))] a ∧ Mem Nob w0 w [(false, rd p0_sv (List.map (int i64) p0_s))]) hl2 ⟨(hS.sub (sub_cons rfl (sub_cons rfl (sub_cons rfl (sub_cons rfl sub_nil))))), (hM.pick [0] (by decide) rfl)⟩ ?_
 rintro K2 x33 a w res2 ⟨hS, hM⟩ hF hN2 hX2
 have hF : S_slices_Index_int_l2 F p0_s p1_v x33 = some res2 := hF
 have hS : Sl 19 [(0, p0_sv), (1, (int i64 p1_v)), (7, (int i64 (p0_s.length : Int))), (8, (int i64 x33))] a := hS
 have hM : Mem Nob w0 w [(false, rd p0_sv (List.map (int i64) p0_s))] := hM
 unfold S_slices_Index_int_l2 at hF
 refine wp_seq_k fun K47 hK47 => ?_
 refine wp_region_lit ?_
 refine st_val hS rfl rfl (by decide) (rv_lss (hS.ev rfl) (hS.ev rfl)) fun a hS => ?_
 refine wpList_nil ?_
 refine hK47 _ _ ?_
 refine wp_seq_k fun K48 hK48 => ?_
 rcases ite_some hF with ⟨hc, hF⟩ | ⟨hc, hF⟩
 ·refine cond_t hS rfl hc ?_
  refine wp_skip ?_
  refine hK48 _ _ ?_
  refine wp_seq_k fun K49 hK49 => ?_
  refine wp_block ?_
  refine wp_seq_k fun K55 hK55 => ?_
  refine wp_region_lit ?_
  refine st_val hS rfl rfl (by decide) (rv_move (hS.ev rfl)) fun a hS => ?_
  refine st_val hS rfl rfl (by decide) (rv_assign (hS.ev rfl)) fun a hS => ?_
  refine wpList_nil ?_
  refine hK55 _ _ ?_
  refine wp_seq_k fun K56 hK56 => ?_
  refine wp_region_lit ?_
  refine st_val hS rfl rfl (by decide) (rv_move (hS.ev rfl)) fun a hS => ?_
  refine st_val hS rfl rfl (by decide) (rv_move (hS.ev rfl)) fun a hS => ?_
  refine st_val hS rfl rfl (by decide) (rv_move (hS.ev rfl)) fun a hS => ?_
  obtain ⟨x58, hx, hF⟩ := bind_some hF
  obtain ⟨hi0, hi1, hex58⟩ := idxL_some hx
  refine st_val hS rfl rfl (by decide) (rv_indexAddr Try.underlying22 ty_el_3 (hS.ev rfl) (hS.ev rfl) (hM.get 0 rfl) hi0 (map_len hi1)) fun a hS => ?_
  refine st_val hS rfl rfl (by decide) (rv_load_el (hS.ev rfl) ty_ag_3 (hM.get 0 rfl) (mget hex58)) fun a hS => ?_
  refine st_val hS rfl rfl (by decide) (rv_eql (hS.ev rfl) (hS.ev rfl)) fun a hS => ?_
  refine wpList_nil ?_
  refine hK56 _ _ ?_
  rcases ite_some hF with ⟨hc, hF⟩ | ⟨hc, hF⟩
  ·refine cond_t hS rfl hc ?_
   refine wp_seq_k fun K59 hK59 => ?_
   refine wp_region_lit ?_
   refine st_val hS rfl rfl (by decide) (rv_move (hS.ev rfl)) fun a hS => ?_
   refine st_val hS rfl rfl (by decide) (rv_assign (hS.ev rfl)) fun a hS => ?_
   refine wpList_nil ?_
   refine hK59 _ _ ?_
   have hS : Sl 19 [(4, (int i64 x33))] a := hS.sub (sub_cons rfl sub_nil)
   have hM := hM.pick [] (by decide) rfl
   refine wp_ret ?_
   cases hF
   have e := hX2 _ rfl
   subst e
   have hF := hF2
   cases hF
   exact hQr _ _ (r_1 hS rfl rfl ⟨rfl, hM.pick [] (by decide) rfl⟩)
  ·refine cond_f hS rfl hc ?_
   refine wp_skip ?_
   refine hK49 _ _ ?_
   have hS : Sl 19 [(0, p0_sv), (1, (int i64 p1_v)), (7, (int i64 (p0_s.length : Int))), (8, (int i64 x33))] a := hS.sub (sub_cons rfl (sub_cons rfl (sub_cons rfl (sub_cons rfl sub_nil))))
   refine wp_region_lit ?_
   refine st_val hS rfl rfl (by decide) (rv_add (hS.ev rfl) (hS.ev rfl)) fun a hS => ?_
   refine st_val hS rfl rfl (by decide) (rv_move (hS.ev rfl)) fun a hS => ?_
   refine wpList_nil ?_
   cases hF
   exact hN2 _ _ _ rfl ⟨(hS.sub (sub_cons rfl (sub_cons rfl (sub_cons rfl (sub_cons rfl sub_nil))))), (hM.pick [0] (by decide) rfl)⟩
 ·refine cond_f hS rfl hc ?_
  refine wp_exit ?_
  cases hF
  exact hJ1 _ _ (hS.sub sub_nil) (hM.pick [] (by decide) rfl) (by have e := hX2 _ rfl; subst e; exact hF2)


theorem c_slices_Contains_int (F : Nat) (p0_s : List Int) (p1_v : Int) (p0_sv : Value) {r : Bool} (hF : S_slices_Contains_int F p0_s p1_v = some r) (w0 : World) (h0 : RdRow w0 p0_sv (List.map (int i64) p0_s)) :
    Calls Try.prog 106 [p0_sv, (int i64 p1_v)].toArray w0 (retPost fun v w' => v = (Value.bool r) ∧ Mem Nob w0 w' []) := by
 have hM : Mem Nob w0 w0 [(false, rd p0_sv (List.map (int i64) p0_s))] := (Mem.rcons (Mem.nil w0) h0 (by simp))
 refine enter2 Try.func106 rfl rfl rfl fun Q a hQr hQn hQp hS => ?_
 have hS : Sl 9 [(0, p0_sv), (1, (int i64 p1_v))] a := hS
 unfold S_slices_Contains_int at hF
 refine wp_seq_k fun K1 hK1 => ?_
 refine wp_region_lit ?_
 refine st_val hS rfl rfl (by decide) (rv_assign (hS.ev rfl)) fun a hS => ?_
 refine wpList_nil ?_
 refine hK1 _ _ ?_
 refine wp_seq_k fun K2 hK2 => ?_
 refine wp_region_lit ?_
 refine st_val hS rfl rfl (by decide) (rv_move (hS.ev rfl)) fun a hS => ?_
 refine st_val hS rfl rfl (by decide) (rv_move (hS.ev rfl)) fun a hS => ?_
 obtain ⟨r4, hr, hF⟩ := bind_some hF
 refine st_wp hS rfl (wp_call hS rfl rfl (by decide) fn_ok_84 rfl (c_slices_Index_int F p0_s p1_v p0_sv hr _ (hM.get 0 rfl)) fun v w a hK hS => ?_)
 obtain ⟨rfl, hN⟩ := hK
 have hM := hM.fra hN.fr
 refine st_val hS rfl rfl (by decide) (rv_geq (hS.ev rfl) (hS.ev rfl)) fun a hS => ?_
 refine st_val hS rfl rfl (by decide) (rv_assign (hS.ev rfl)) fun a hS => ?_
 refine wpList_nil ?_
 refine hK2 _ _ ?_
 refine wp_ret ?_
 cases hF
 exact hQr _ _ (r_1 hS rfl rfl ⟨rfl, hM.pick [] (by decide) rfl⟩)


theorem c_impl_greedyOrder__LexOrderc1 (F : Nat) (p0_g_Size : Int) (p0_g_Rows : List Int) (p1_start : Int) (p2_number_c0_Size : Int) (p2_number_c0_Rows : List Int) (p0_g_Rowsv : Value) (p2_number_c0_Rowsv : Value) (p2_number_c0b : Nat) {r : (List (Int)) × Bool} (hF : S_impl_greedyOrder__LexOrderc1 F p0_g_Size p0_g_Rows p1_start p2_number_c0_Size p2_number_c0_Rows = some r) (w0 : World) (h0 : RdRow w0 p0_g_Rowsv (List.map (int i64) p0_g_Rows)) (h1 : RdRow w0 p2_number_c0_Rowsv (List.map (int i64) p2_number_c0_Rows)) (h2 : (bx p2_number_c0b 28 [(int i64 p2_number_c0_Size), p2_number_c0_Rowsv]).P w0) :
    Calls Try.prog 96 [(Value.agg #[(int i64 p0_g_Size), p0_g_Rowsv]), (int i64 p1_start), (Value.func (Fn.func 97) #[] #[(fdp p2_number_c0b 0)])].toArray w0 (retPost fun v w' => ∃ v428, v = (Value.tuple #[v428, (Value.bool r.2)]) ∧ Mem Nob w0 w' [(true, ow 3 v428 (List.map (int i64) r.1))]) := by
 have hM : Mem Nob w0 w0 [(false, rd p0_g_Rowsv (List.map (int i64) p0_g_Rows)), (false, rd p2_number_c0_Rowsv (List.map (int i64) p2_number_c0_Rows)), (false, bx p2_number_c0b 28 [(int i64 p2_number_c0_Size), p2_number_c0_Rowsv])] := (Mem.rcons (Mem.rcons (Mem.gcons (Mem.nil w0) h2 (by simp)) h1 (by simp)) h0 (by simp))
 refine enter2 Try.func96 rfl rfl rfl fun Q a hQr hQn hQp hS => ?_
 have hS : Sl 51 [(0, (Value.agg #[(int i64 p0_g_Size), p0_g_Rowsv])), (1, (int i64 p1_start)), (2, (Value.func (Fn.func 97) #[] #[(fdp p2_number_c0b 0)]))] a := hS
 unfold S_impl_greedyOrder__LexOrderc1 at hF
 refine wp_seq_k fun K1 hK1 => ?_
 refine wp_region_lit ?_
 obtain ⟨b3, w, hr, hM⟩ := hM.boxE (ρ := a.eval) (dst := some 3) (ty := _) (pos := _) (af := _) (gd := _) (x := .tmp 0) (T := 28) [(int i64 p0_g_Size), p0_g_Rowsv] (hS.ev rfl) rfl
 refine st_val hS rfl rfl (by decide) hr fun a hS => ?_
 refine st_val hS rfl rfl (by decide) (rv_assign (hS.ev rfl)) fun a hS => ?_
 refine st_val hS rfl rfl (by decide) (rv_assign (hS.ev rfl)) fun a hS => ?_
 refine wpList_nil ?_
 refine hK1 _ _ ?_
 refine wp_seq_k fun K4 hK4 => ?_
 refine wp_seq_k fun K11 hK11 => ?_
 refine wp_region_lit ?_
 refine st_val hS rfl rfl (by decide) (rv_load_agg (hS.ev rfl) ty_ag_28 (hM.get 0 rfl) ty_sz_28) fun a hS => ?_
 refine st_val hS rfl rfl (by decide) (rv_move (hS.ev rfl)) fun a hS => ?_
 obtain ⟨v14, w, hr, hM⟩ := Mem.litE (f := (int i64)) (dst := some 15) (ty := _) (pos := _) (af := _) (gd := _) (ps := [(0, .tmp 14)]) ([p1_start] : List (Int)) i64_one hM hS Try.underlying22 ty_el_3 rfl rfl rfl rfl
 refine st_val hS rfl rfl (by decide) hr fun a hS => ?_
 obtain ⟨r15, hr, hF⟩ := bind_some hF
 refine st_wp hS rfl (wp_call hS rfl rfl (by decide) fn_ok_104 rfl (c_impl_isVertex F p0_g_Size p0_g_Rows ([p1_start] : List (Int)) p0_g_Rowsv v14 hr _ (hM.get 2 rfl) (rd_of_ow (hM.get 0 rfl))) fun v w a hK hS => ?_)
 obtain ⟨rfl, hN⟩ := hK
 have hM := hM.fra hN.fr
 refine st_val hS rfl rfl (by decide) (rv_not (hS.ev rfl)) fun a hS => ?_
 refine wpList_nil ?_
 refine hK11 _ _ ?_
 rcases ite_some hF with ⟨hc, hF⟩ | ⟨hc, hF⟩
 ·refine cond_t hS rfl hc ?_
  refine wp_seq_k fun K16 hK16 => ?_
  refine wp_region_lit ?_
  refine st_val hS rfl rfl (by decide) (rv_assign (hS.ev rfl)) fun a hS => ?_
  refine st_val hS rfl rfl (by decide) (rv_assign (hS.ev rfl)) fun a hS => ?_
  refine wpList_nil ?_
  refine hK16 _ _ ?_
  have hS : Sl 51 [(6, (Value.slice none 0 0)), (7, (Value.bool false))] a := hS.sub (sub_cons rfl (sub_cons rfl sub_nil))
  have hM := hM.pick [] (by decide) rfl
  refine wp_ret ?_
  cases hF
  have hM := hM.addNil 3
  exact hQr _ _ (r_2 hS rfl rfl rfl ⟨(Value.slice none 0 0), rfl, hM.pick [0] (by decide) rfl⟩)
 ·refine cond_f hS rfl hc ?_
  refine wp_skip ?_
  refine hK4 _ _ ?_
  have hS : Sl 51 [(1, (int i64 p1_start)), (2, (Value.func (Fn.func 97) #[] #[(fdp p2_number_c0b 0)])), (3, (fdp b3 0))] a := hS.sub (sub_cons rfl (sub_cons rfl (sub_cons rfl sub_nil)))
  have hM := hM.pick [1, 2, 3, 4] (by decide) rfl
  refine wp_seq_k fun K17 hK17 => ?_
  refine wp_region_lit ?_
  refine st_val hS rfl rfl (by decide) (rv_move (hS.ev rfl)) fun a hS => ?_
  obtain ⟨v19, w, hr, hM⟩ := Mem.litE (f := (int i64)) (dst := some 19) (ty := _) (pos := _) (af := _) (gd := _) (ps := [(0, .tmp 18)]) ([p1_start] : List (Int)) i64_one hM hS Try.underlying22 ty_el_3 rfl rfl rfl rfl
  refine st_val hS rfl rfl (by decide) hr fun a hS => ?_
  refine st_val hS rfl rfl (by decide) (rv_assign (hS.ev rfl)) fun a hS => ?_
  refine wpList_nil ?_
  refine hK17 _ _ ?_
  refine wp_seq_k fun K20 hK20 => ?_
  have hJ1 : ∀ (l224 : List Int) (v223 : Value) (a : Act) (w : World), Sl 51 [(8, v223)] a → Mem Nob w0 w [(true, ow 3 v223 (List.map (int i64) l224))] → S_impl_greedyOrder__LexOrderc1_j1 F l224 = some r → K20 a w := by
   intro l224 v223 a w hS hM hF
   unfold S_impl_greedyOrder__LexOrderc1_j1 at hF
   refine hK20 _ _ ?_
   refine wp_seq_k fun K225 hK225 => ?_
   refine wp_region_lit ?_
   refine st_val hS rfl rfl (by decide) (rv_move (hS.ev rfl)) fun a hS => ?_
   refine st_val hS rfl rfl (by decide) (rv_assign (hS.ev rfl)) fun a hS => ?_
   refine st_val hS rfl rfl (by decide) (rv_assign (hS.ev rfl)) fun a hS => ?_
   refine wpList_nil ?_
   refine hK225 _ _ ?_
   refine wp_ret ?_
   cases hF
   exact hQr _ _ (r_2 hS rfl rfl rfl ⟨v223, rfl, hM.pick [0] (by decide) rfl⟩)
  refine wp_block ?_
  obtain ⟨lb2, hl2, hF2⟩ := bind_some hF
  refine wp_loop_sh (fun s => S_impl_greedyOrder__LexOrderc1_l2 F p0_g_Size p2_number_c0_Size p2_number_c0_Rows s) (fun s a w => ∃ (v226 : Value), Sl 51 [(2, (Value.func (Fn.func 97) #[] #[(fdp p2_number_c0b 0)])), (3, (fdp b3 0)), (8, v226)] a ∧ Mem Nob w0 w [(false, bx p2_number_c0b 28 [(int i64 p2_number_c0_Size), p2_number_c0_Rowsv]), (false, rd p2_number_c0_Rowsv (List.map (int i64) p2_number_c0_Rows)), (true, bx b3 28 [(int i64 p0_g_Size), p0_g_Rowsv]), (false, rd p0_g_Rowsv (List.map (int i64) p0_g_Rows)), (true, ow 3 v226 (List.map (int i64) s))]) hl2 ⟨v19, (hS.sub (sub_cons rfl (sub_cons rfl (sub_cons rfl sub_nil)))), (hM.pick [4, 3, 1, 2, 0] (by decide) rfl)⟩ ?_
  rintro K2 l227 a w res2 ⟨v226, hS, hM⟩ hF hN2 hX2
  have hF : S_impl_greedyOrder__LexOrderc1_l2 F p0_g_Size p2_number_c0_Size p2_number_c0_Rows l227 = some res2 := hF
  have hS : Sl 51 [(2, (Value.func (Fn.func 97) #[] #[(fdp p2_number_c0b 0)])), (3, (fdp b3 0)), (8, v226)] a := hS
  have hM : Mem Nob w0 w [(false, bx p2_number_c0b 28 [(int i64 p2_number_c0_Size), p2_number_c0_Rowsv]), (false, rd p2_number_c0_Rowsv (List.map (int i64) p2_number_c0_Rows)), (true, bx b3 28 [(int i64 p0_g_Size), p0_g_Rowsv]), (false, rd p0_g_Rowsv (List.map (int i64) p0_g_Rows)), (true, ow 3 v226 (List.map (int i64) l227))] := hM
  unfold S_impl_greedyOrder__LexOrderc1_l2 at hF
  refine wp_seq_k fun K328 hK328 => ?_
  refine wp_seq_k fun K330 hK330 => ?_
  refine wp_region_lit ?_
  refine st_val hS rfl rfl (by decide) (rv_move (hS.ev rfl)) fun a hS => ?_
  refine st_val hS rfl rfl (by decide) (rv_len_rowM Try.underlying22 (hS.ev rfl) (rd_of_ow (hM.get 4 rfl))) fun a hS => ?_
  refine st_val hS rfl rfl (by decide) (rv_fieldAddr ty_fd_28_0 (hS.ev rfl)) fun a hS => ?_
  refine st_val hS rfl rfl (by decide) (rv_load_bx (hS.ev rfl) ty_ag_3 (hM.get 2 rfl) rfl) fun a hS => ?_
  refine st_val hS rfl rfl (by decide) (rv_lss (hS.ev rfl) (hS.ev rfl)) fun a hS => ?_
  refine wpList_nil ?_
  refine hK330 _ _ ?_
  rcases ite_some hF with ⟨hc, hF⟩ | ⟨hc, hF⟩
  ·refine cond_t hS rfl hc ?_
   refine wp_skip ?_
   refine hK328 _ _ ?_
   refine wp_block ?_
   refine wp_seq_k fun K331 hK331 => ?_
   refine wp_region_lit ?_
   refine st_val hS rfl rfl (by decide) (rv_assign (hS.ev rfl)) fun a hS => ?_
   refine st_val hS rfl rfl (by decide) (rv_assign (hS.ev rfl)) fun a hS => ?_
   refine wpList_nil ?_
   refine hK331 _ _ ?_
   refine wp_seq_k fun K332 hK332 => ?_
   have hJ3 : ∀ (x379 : Int) (a : Act) (w : World), Sl 51 [(2, (Value.func (Fn.func 97) #[] #[(fdp p2_number_c0b 0)])), (3, (fdp b3 0)), (8, v226), (9, (int i64 x379))] a → Mem Nob w0 w [(false, bx p2_number_c0b 28 [(int i64 p2_number_c0_Size), p2_number_c0_Rowsv]), (false, rd p2_number_c0_Rowsv (List.map (int i64) p2_number_c0_Rows)), (true, bx b3 28 [(int i64 p0_g_Size), p0_g_Rowsv]), (false, rd p0_g_Rowsv (List.map (int i64) p0_g_Rows)), (true, ow 3 v226 (List.map (int i64) l227))] → S_impl_greedyOrder__LexOrderc1_j3 F l227 x379 = some res2 → K332 a w := by
    intro x379 a w hS hM hF
    unfold S_impl_greedyOrder__LexOrderc1_j3 at hF
    refine hK332 _ _ ?_
    refine wp_region_lit ?_
    refine st_val hS rfl rfl (by decide) (rv_move (hS.ev rfl)) fun a hS => ?_
    refine st_val hS rfl rfl (by decide) (rv_move (hS.ev rfl)) fun a hS => ?_
    obtain ⟨v380, w, hr, hM⟩ := Mem.litE (f := (int i64)) (dst := some 48) (ty := _) (pos := _) (af := _) (gd := _) (ps := [(0, .tmp 47)]) ([x379] : List (Int)) i64_one hM hS Try.underlying22 ty_el_3 rfl rfl rfl rfl
    refine st_val hS rfl rfl (by decide) hr fun a hS => ?_
    obtain ⟨_, hx, hF⟩ := bind_some hF
    have hM := hM.pick [5, 0, 1, 2, 3, 4] (by decide) rfl
    obtain ⟨v381, w, hr, hM⟩ := Mem.appE (f := (int i64)) (S := _) (R := [(true, ow 3 v380 (List.map (int i64) ([x379] : List (Int)))), (false, bx p2_number_c0b 28 [(int i64 p2_number_c0_Size), p2_number_c0_Rowsv]), (false, rd p2_number_c0_Rowsv (List.map (int i64) p2_number_c0_Rows)), (true, bx b3 28 [(int i64 p0_g_Size), p0_g_Rowsv]), (false, rd p0_g_Rowsv (List.map (int i64) p0_g_Rows))]) (ρ := a.eval) (dst := some 49) (ty := _) (pos := _) (af := _) (gd := _) (x := .tmp 46) (y := .tmp 48) i64_one hM Try.underlying22 ty_el_3 rfl (by decide) (hS.ev rfl) (hS.ev rfl) (rd_of_ow (hM.get 1 rfl)) (catO_some hx)
    refine st_val hS rfl rfl (by decide) hr fun a hS => ?_
    refine st_val hS rfl rfl (by decide) (rv_assign (hS.ev rfl)) fun a hS => ?_
    refine wpList_nil ?_
    cases hF
    exact hN2 _ _ _ rfl ⟨v381, (hS.sub (sub_cons rfl (sub_cons rfl (sub_cons rfl sub_nil)))), (hM.pick [2, 3, 4, 5, 0] (by decide) rfl)⟩
   refine wp_seq_k fun K382 hK382 => ?_
   refine wp_region_lit ?_
   refine st_val hS rfl rfl (by decide) (rv_fieldAddr ty_fd_28_0 (hS.ev rfl)) fun a hS => ?_
   refine st_val hS rfl rfl (by decide) (rv_load_bx (hS.ev rfl) ty_ag_3 (hM.get 2 rfl) rfl) fun a hS => ?_
   refine st_val hS rfl rfl (by decide) (rv_move (hS.ev rfl)) fun a hS => ?_
   refine wpList_nil ?_
   refine hK382 _ _ ?_
   refine wp_block ?_
   obtain ⟨lb4, hl4, hF4⟩ := bind_some hF
   refine wp_loop_sh (fun s => S_impl_greedyOrder__LexOrderc1_l4 F p0_g_Size p2_number_c0_Size p2_number_c0_Rows l227 s.1 s.2.1 s.2.2) (fun s a w => Sl 51 [(2, (Value.func (Fn.func 97) #[] #[(fdp p2_number_c0b 0)])), (3, (fdp b3 0)), (8, v226), (9, (int i64 s.1)), (10, (int i64 s.2.1)), (26, (int i64 p0_g_Size)), (27, (int i64 s.2.2))] a ∧ Mem Nob w0 w [(false, bx p2_number_c0b 28 [(int i64 p2_number_c0_Size), p2_number_c0_Rowsv]), (false, rd p2_number_c0_Rowsv (List.map (int i64) p2_number_c0_Rows)), (true, bx b3 28 [(int i64 p0_g_Size), p0_g_Rowsv]), (false, rd p0_g_Rowsv (List.map (int i64) p0_g_Rows)), (true, ow 3 v226 (List.map (int i64) l227))]) hl4 ⟨(hS.sub (sub_cons rfl (sub_cons rfl (sub_cons rfl (sub_cons rfl (sub_cons rfl (sub_cons rfl (sub_cons rfl sub_nil)))))))), (hM.pick [0, 1, 2, 3, 4] (by decide) rfl)⟩ ?_
   rintro K4 ⟨x383, x384, x385⟩ a w res4 ⟨hS, hM⟩ hF hN4 hX4
   have hF : S_impl_greedyOrder__LexOrderc1_l4 F p0_g_Size p2_number_c0_Size p2_number_c0_Rows l227 x383 x384 x385 = some res4 := hF
   have hS : Sl 51 [(2, (Value.func (Fn.func 97) #[] #[(fdp p2_number_c0b 0)])), (3, (fdp b3 0)), (8, v226), (9, (int i64 x383)), (10, (int i64 x384)), (26, (int i64 p0_g_Size)), (27, (int i64 x385))] a := hS
   have hM : Mem Nob w0 w [(false, bx p2_number_c0b 28 [(int i64 p2_number_c0_Size), p2_number_c0_Rowsv]), (false, rd p2_number_c0_Rowsv (List.map (int i64) p2_number_c0_Rows)), (true, bx b3 28 [(int i64 p0_g_Size), p0_g_Rowsv]), (false, rd p0_g_Rowsv (List.map (int i64) p0_g_Rows)), (true, ow 3 v226 (List.map (int i64) l227))] := hM
   unfold S_impl_greedyOrder__LexOrderc1_l4 at hF
   refine wp_seq_k fun K407 hK407 => ?_
   refine wp_region_lit ?_
   refine st_val hS rfl rfl (by decide) (rv_lss (hS.ev rfl) (hS.ev rfl)) fun a hS => ?_
   refine wpList_nil ?_
   refine hK407 _ _ ?_
   refine wp_seq_k fun K408 hK408 => ?_
   rcases ite_some hF with ⟨hc, hF⟩ | ⟨hc, hF⟩
   ·refine cond_t hS rfl hc ?_
    refine wp_skip ?_
    refine hK408 _ _ ?_
    refine wp_seq_k fun K409 hK409 => ?_
    have hJ5 : ∀ (x418 : Int) (x419 : Int) (a : Act) (w : World), Sl 51 [(2, (Value.func (Fn.func 97) #[] #[(fdp p2_number_c0b 0)])), (3, (fdp b3 0)), (8, v226), (9, (int i64 x418)), (10, (int i64 x419)), (26, (int i64 p0_g_Size)), (27, (int i64 x385))] a → Mem Nob w0 w [(false, bx p2_number_c0b 28 [(int i64 p2_number_c0_Size), p2_number_c0_Rowsv]), (false, rd p2_number_c0_Rowsv (List.map (int i64) p2_number_c0_Rows)), (true, bx b3 28 [(int i64 p0_g_Size), p0_g_Rowsv]), (false, rd p0_g_Rowsv (List.map (int i64) p0_g_Rows)), (true, ow 3 v226 (List.map (int i64) l227))] → S_impl_greedyOrder__LexOrderc1_j5 F x385 x418 x419 = some res4 → K409 a w := by
     intro x418 x419 a w hS hM hF
     unfold S_impl_greedyOrder__LexOrderc1_j5 at hF
     refine hK409 _ _ ?_
     refine wp_region_lit ?_
     refine st_val hS rfl rfl (by decide) (rv_add (hS.ev rfl) (hS.ev rfl)) fun a hS => ?_
     refine st_val hS rfl rfl (by decide) (rv_move (hS.ev rfl)) fun a hS => ?_
     refine wpList_nil ?_
     cases hF
     exact hN4 _ _ _ rfl ⟨(hS.sub (sub_cons rfl (sub_cons rfl (sub_cons rfl (sub_cons rfl (sub_cons rfl (sub_cons rfl (sub_cons rfl sub_nil)))))))), (hM.pick [0, 1, 2, 3, 4] (by decide) rfl)⟩
    refine wp_block ?_
    refine wp_seq_k fun K420 hK420 => ?_
    refine wp_region_lit ?_
    refine st_val hS rfl rfl (by decide) (rv_move (hS.ev rfl)) fun a hS => ?_
    refine st_val hS rfl rfl (by decide) (rv_assign (hS.ev rfl)) fun a hS => ?_
    refine wpList_nil ?_
    refine hK420 _ _ ?_
    refine wp_seq_k fun K421 hK421 => ?_
    refine wp_region_lit ?_
    refine st_val hS rfl rfl (by decide) (rv_move (hS.ev rfl)) fun a hS => ?_
    refine st_val hS rfl rfl (by decide) (rv_move (hS.ev rfl)) fun a hS => ?_
    refine st_val hS rfl rfl (by decide) (rv_move (hS.ev rfl)) fun a hS => ?_
    obtain ⟨r423, hr, hF⟩ := bind_some hF
    refine st_wp hS rfl (wp_callv (vs := [(int i64 x385), v226]) (cap := [(fdp p2_number_c0b 0)]) hS rfl rfl rfl (by decide) fn_ok_97 rfl (c_impl_LexOrder_c1 F x385 l227 p2_number_c0_Size p2_number_c0_Rows v226 p2_number_c0_Rowsv p2_number_c0b hr _ (rd_of_ow (hM.get 4 rfl)) (hM.get 1 rfl) (hM.get 0 rfl)) fun v w a hK hS => ?_)
    obtain ⟨rfl, hN⟩ := hK
    have hM := hM.fra hN.fr
    refine st_val hS rfl rfl (by decide) (rv_assign (hS.ev rfl)) fun a hS => ?_
    refine wpList_nil ?_
    refine hK421 _ _ ?_
    refine wp_seq_k fun K424 hK424 => ?_
    have hJ6 : ∀ (p426 : Bool) (a : Act) (w : World), Sl 51 [(2, (Value.func (Fn.func 97) #[] #[(fdp p2_number_c0b 0)])), (3, (fdp b3 0)), (8, v226), (9, (int i64 x383)), (10, (int i64 x384)), (11, (int i64 x385)), (12, (int i64 r423)), (26, (int i64 p0_g_Size)), (27, (int i64 x385)), (42, (Value.bool p426))] a → Mem Nob w0 w [(false, bx p2_number_c0b 28 [(int i64 p2_number_c0_Size), p2_number_c0_Rowsv]), (false, rd p2_number_c0_Rowsv (List.map (int i64) p2_number_c0_Rows)), (true, bx b3 28 [(int i64 p0_g_Size), p0_g_Rowsv]), (false, rd p0_g_Rowsv (List.map (int i64) p0_g_Rows)), (true, ow 3 v226 (List.map (int i64) l227))] → S_impl_greedyOrder__LexOrderc1_j6 F x383 x384 x385 r423 p426 = some res4 → K424 a w := by
     intro p426 a w hS hM hF
     unfold S_impl_greedyOrder__LexOrderc1_j6 at hF
     refine hK424 _ _ ?_
     rcases ite_some hF with ⟨hc, hF⟩ | ⟨hc, hF⟩
     ·refine cond_t hS rfl hc ?_
      refine wp_region_lit ?_
      refine st_val hS rfl rfl (by decide) (rv_move (hS.ev rfl)) fun a hS => ?_
      refine st_val hS rfl rfl (by decide) (rv_move (hS.ev rfl)) fun a hS => ?_
      refine st_val hS rfl rfl (by decide) (rv_assign (hS.ev rfl)) fun a hS => ?_
      refine st_val hS rfl rfl (by decide) (rv_assign (hS.ev rfl)) fun a hS => ?_
      refine wpList_nil ?_
      exact hJ5 x385 r423 _ _ (hS.sub (sub_cons rfl (sub_cons rfl (sub_cons rfl (sub_cons rfl (sub_cons rfl (sub_cons rfl (sub_cons rfl sub_nil)))))))) (hM.pick [0, 1, 2, 3, 4] (by decide) rfl) hF
     ·refine cond_f hS rfl hc ?_
      refine wp_skip ?_
      exact hJ5 x383 x384 _ _ (hS.sub (sub_cons rfl (sub_cons rfl (sub_cons rfl (sub_cons rfl (sub_cons rfl (sub_cons rfl (sub_cons rfl sub_nil)))))))) (hM.pick [0, 1, 2, 3, 4] (by decide) rfl) hF
    refine wp_region_lit ?_
    refine st_val hS rfl rfl (by decide) (rv_move (hS.ev rfl)) fun a hS => ?_
    refine st_val hS rfl rfl (by decide) (rv_move (hS.ev rfl)) fun a hS => ?_
    obtain ⟨r427, hr, hF⟩ := bind_some hF
    refine st_wp hS rfl (wp_call hS rfl rfl (by decide) fn_ok_106 rfl (c_slices_Contains_int F l227 x385 v226 hr _ (rd_of_ow (hM.get 4 rfl))) fun v w a hK hS => ?_)
    obtain ⟨rfl, hN⟩ := hK
    have hM := hM.fra hN.fr
    refine st_val hS rfl rfl (by decide) (rv_not (hS.ev rfl)) fun a hS => ?_
    refine st_val hS rfl rfl (by decide) (rv_move (hS.ev rfl)) fun a hS => ?_
    rcases ite_some hF with ⟨hc, hF⟩ | ⟨hc, hF⟩
    ·have hS := hS.setb (t := 38) rfl hc
     refine st_val hS rfl rfl (by decide) (rv_move (hS.ev rfl)) fun a hS => ?_
     refine st_val hS rfl rfl (by decide) (rv_move (hS.ev rfl)) fun a hS => ?_
     refine st_val hS rfl rfl (by decide) (rv_gtr (hS.ev rfl) (hS.ev rfl)) fun a hS => ?_
     refine st_val hS rfl rfl (by decide) (rv_pick_t (hS.ev rfl) (hS.ev rfl)) fun a hS => ?_
     refine wpList_nil ?_
     exact hJ6 (decide (x384 < r423)) _ _ (hS.sub (sub_cons rfl (sub_cons rfl (sub_cons rfl (sub_cons rfl (sub_cons rfl (sub_cons rfl (sub_cons rfl (sub_cons rfl (sub_cons rfl (sub_cons rfl sub_nil))))))))))) (hM.pick [0, 1, 2, 3, 4] (by decide) rfl) hF
    ·have hS := hS.setb (t := 38) rfl hc
     refine st_skip hS rfl rfl (by decide) fun a hS => ?_
     refine st_skip hS rfl rfl (by decide) fun a hS => ?_
     refine st_skip hS rfl rfl (by decide) fun a hS => ?_
     refine st_val hS rfl rfl (by decide) (rv_pick_f (hS.ev rfl) (hS.ev rfl)) fun a hS => ?_
     refine wpList_nil ?_
     exact hJ6 false _ _ (hS.sub (sub_cons rfl (sub_cons rfl (sub_cons rfl (sub_cons rfl (sub_cons rfl (sub_cons rfl (sub_cons rfl (sub_cons rfl (sub_cons rfl (sub_cons rfl sub_nil))))))))))) (hM.pick [0, 1, 2, 3, 4] (by decide) rfl) hF
   ·refine cond_f hS rfl hc ?_
    refine wp_exit ?_
    cases hF
    exact hJ3 x383 _ _ (hS.sub (sub_cons rfl (sub_cons rfl (sub_cons rfl (sub_cons rfl sub_nil))))) (hM.pick [0, 1, 2, 3, 4] (by decide) rfl) (by have e := hX4 _ rfl; subst e; exact hF4)
  ·refine cond_f hS rfl hc ?_
   refine wp_exit ?_
   cases hF
   exact hJ1 l227 v226 _ _ (hS.sub (sub_cons rfl sub_nil)) (hM.pick [4] (by decide) rfl) (by have e := hX2 _ rfl; subst e; exact hF2)


theorem c_impl_LexOrder (F : Nat) (p0_g_Size : Int) (p0_g_Rows : List Int) (p1_start : Int) (p0_g_Rowsv : Value) {r : (List (Int)) × Bool} (hF : S_impl_LexOrder F p0_g_Size p0_g_Rows p1_start = some r) (w0 : World) (h0 : RdRow w0 p0_g_Rowsv (List.map (int i64) p0_g_Rows)) :
    Calls Try.prog 47 [(Value.agg #[(int i64 p0_g_Size), p0_g_Rowsv]), (int i64 p1_start)].toArray w0 (retPost fun v w' => ∃ v9, v = (Value.tuple #[v9, (Value.bool r.2)]) ∧ Mem Nob w0 w' [(true, ow 3 v9 (List.map (int i64) r.1))]) := by
 have hM : Mem Nob w0 w0 [(false, rd p0_g_Rowsv (List.map (int i64) p0_g_Rows))] := (Mem.rcons (Mem.nil w0) h0 (by simp))
 refine enter2 Try.func47 rfl rfl rfl fun Q a hQr hQn hQp hS => ?_
 have hS : Sl 12 [(0, (Value.agg #[(int i64 p0_g_Size), p0_g_Rowsv])), (1, (int i64 p1_start))] a := hS
 unfold S_impl_LexOrder at hF
 refine wp_seq_k fun K1 hK1 => ?_
 refine wp_region_lit ?_
 obtain ⟨b3, w, hr, hM⟩ := hM.boxE (ρ := a.eval) (dst := some 2) (ty := _) (pos := _) (af := _) (gd := _) (x := .tmp 0) (T := 28) [(int i64 p0_g_Size), p0_g_Rowsv] (hS.ev rfl) rfl
 refine st_val hS rfl rfl (by decide) hr fun a hS => ?_
 refine st_val hS rfl rfl (by decide) (rv_assign (hS.ev rfl)) fun a hS => ?_
 refine st_val hS rfl rfl (by decide) (rv_assign (hS.ev rfl)) fun a hS => ?_
 refine wpList_nil ?_
 refine hK1 _ _ ?_
 refine wp_seq_k fun K4 hK4 => ?_
 refine wp_region_lit ?_
 refine st_val hS rfl rfl (by decide) (rv_load_agg (hS.ev rfl) ty_ag_28 (hM.get 0 rfl) ty_sz_28) fun a hS => ?_
 refine st_val hS rfl rfl (by decide) (rv_move (hS.ev rfl)) fun a hS => ?_
 refine st_val hS rfl rfl (by decide) (rv_makeFunc hS rfl) fun a hS => ?_
 obtain ⟨r7, hr, hF⟩ := bind_some hF
 refine st_wp hS rfl (wp_call hS rfl rfl (by decide) fn_ok_96 rfl (c_impl_greedyOrder__LexOrderc1 F p0_g_Size p0_g_Rows p1_start p0_g_Size p0_g_Rows p0_g_Rowsv p0_g_Rowsv b3 hr _ (hM.get 1 rfl) (hM.get 1 rfl) (hM.get 0 rfl)) fun v w a hK hS => ?_)
 obtain ⟨v8, rfl, hN⟩ := hK
 have hM := hM.add hN rfl
 refine st_val hS rfl rfl (by decide) (rv_extract (hS.ev rfl) rfl) fun a hS => ?_
 refine st_val hS rfl rfl (by decide) (rv_extract (hS.ev rfl) rfl) fun a hS => ?_
 refine st_val hS rfl rfl (by decide) (rv_assign (hS.ev rfl)) fun a hS => ?_
 refine st_val hS rfl rfl (by decide) (rv_assign (hS.ev rfl)) fun a hS => ?_
 refine wpList_nil ?_
 refine hK4 _ _ ?_
 have hS : Sl 12 [(4, v8), (5, (Value.bool r7.2))] a := hS.sub (sub_cons rfl (sub_cons rfl sub_nil))
 have hM := hM.pick [0] (by decide) rfl
 refine wp_ret ?_
 cases hF
 exact hQr _ _ (r_2 hS rfl rfl rfl ⟨v8, rfl, hM.pick [0] (by decide) rfl⟩)


theorem c_spec_l5Label (F : Nat) (p0_g_Size : Int) (p0_g_Rows : List Int) (p1_order : List Int) (p2_v : Int) (p0_g_Rowsv : Value) (p1_orderv : Value) {r : Int} (hF : S_spec_l5Label F p0_g_Size p0_g_Rows p1_order p2_v = some r) (w0 : World) (h0 : RdRow w0 p0_g_Rowsv (List.map (int i64) p0_g_Rows)) (h1 : RdRow w0 p1_orderv (List.map (int i64) p1_order)) :
    Calls Try.prog 99 [(Value.agg #[(int i64 p0_g_Size), p0_g_Rowsv]), p1_orderv, (int i64 p2_v)].toArray w0 (retPost fun v w' => v = (int i64 r) ∧ Mem Nob w0 w' []) := by
 have hM : Mem Nob w0 w0 [(false, rd p0_g_Rowsv (List.map (int i64) p0_g_Rows)), (false, rd p1_orderv (List.map (int i64) p1_order))] := (Mem.rcons (Mem.rcons (Mem.nil w0) h1 (by simp)) h0 (by simp))
 refine enter2 Try.func99 rfl rfl rfl fun Q a hQr hQn hQp hS => ?_
 have hS : Sl 31 [(0, (Value.agg #[(int i64 p0_g_Size), p0_g_Rowsv])), (1, p1_orderv), (2, (int i64 p2_v))] a := hS
 unfold S_spec_l5Label at hF
 refine wp_seq_k fun K1 hK1 => ?_
 refine wp_region_lit ?_
 obtain ⟨b3, w, hr, hM⟩ := hM.boxE (ρ := a.eval) (dst := some 3) (ty := _) (pos := _) (af := _) (gd := _) (x := .tmp 0) (T := 28) [(int i64 p0_g_Size), p0_g_Rowsv] (hS.ev rfl) rfl
 refine st_val hS rfl rfl (by decide) hr fun a hS => ?_
 refine st_val hS rfl rfl (by decide) (rv_assign (hS.ev rfl)) fun a hS => ?_
 refine wpList_nil ?_
 refine hK1 _ _ ?_
 refine wp_seq_k fun K4 hK4 => ?_
 refine wp_region_lit ?_
 refine st_val hS rfl rfl (by decide) (rv_assign (hS.ev rfl)) fun a hS => ?_
 refine wpList_nil ?_
 refine hK4 _ _ ?_
 refine wp_seq_k fun K5 hK5 => ?_
 have hJ1 : ∀ (x47 : Int) (a : Act) (w : World), Sl 31 [(7, (int i64 x47))] a → Mem Nob w0 w [] → S_spec_l5Label_j1 F x47 = some r → K5 a w := by
  intro x47 a w hS hM hF
  unfold S_spec_l5Label_j1 at hF
  refine hK5 _ _ ?_
  refine wp_seq_k fun K48 hK48 => ?_
  refine wp_region_lit ?_
  refine st_val hS rfl rfl (by decide) (rv_move (hS.ev rfl)) fun a hS => ?_
  refine st_val hS rfl rfl (by decide) (rv_assign (hS.ev rfl)) fun a hS => ?_
  refine wpList_nil ?_
  refine hK48 _ _ ?_
  refine wp_ret ?_
  cases hF
  exact hQr _ _ (r_1 hS rfl rfl ⟨rfl, hM.pick [] (by decide) rfl⟩)
 refine wp_seq_k fun K49 hK49 => ?_
 refine wp_region_lit ?_
 refine st_val hS rfl rfl (by decide) (rv_assign (hS.ev rfl)) fun a hS => ?_
 refine wpList_nil ?_
 refine hK49 _ _ ?_
 refine wp_block ?_
 obtain ⟨lb2, hl2, hF2⟩ := bind_some hF
 refine wp_loop_sh (fun s => S_spec_l5Label_l2 F p0_g_Size p0_g_Rows p1_order p2_v s.1 s.2) (fun s a w => Sl 31 [(1, p1_orderv), (2, (int i64 p2_v)), (3, (fdp b3 0)), (7, (int i64 s.1)), (8, (int i64 s.2))] a ∧ Mem Nob w0 w [(false, rd p1_orderv (List.map (int i64) p1_order)), (true, bx b3 28 [(int i64 p0_g_Size), p0_g_Rowsv]), (false, rd p0_g_Rowsv (List.map (int i64) p0_g_Rows))]) hl2 ⟨(hS.sub (sub_cons rfl (sub_cons rfl (sub_cons rfl (sub_cons rfl (sub_cons rfl sub_nil)))))), (hM.pick [2, 0, 1] (by decide) rfl)⟩ ?_
 rintro K2 ⟨x50, x51⟩ a w res2 ⟨hS, hM⟩ hF hN2 hX2
 have hF : S_spec_l5Label_l2 F p0_g_Size p0_g_Rows p1_order p2_v x50 x51 = some res2 := hF
 have hS : Sl 31 [(1, p1_orderv), (2, (int i64 p2_v)), (3, (fdp b3 0)), (7, (int i64 x50)), (8, (int i64 x51))] a := hS
 have hM : Mem Nob w0 w [(false, rd p1_orderv (List.map (int i64) p1_order)), (true, bx b3 28 [(int i64 p0_g_Size), p0_g_Rowsv]), (false, rd p0_g_Rowsv (List.map (int i64) p0_g_Rows))] := hM
 unfold S_spec_l5Label_l2 at hF
 refine wp_seq_k fun K71 hK71 => ?_
 refine wp_seq_k fun K73 hK73 => ?_
 refine wp_region_lit ?_
 refine st_val hS rfl rfl (by decide) (rv_move (hS.ev rfl)) fun a hS => ?_
 refine st_val hS rfl rfl (by decide) (rv_lss (hS.ev rfl) (hS.ev rfl)) fun a hS => ?_
 refine wpList_nil ?_
 refine hK73 _ _ ?_
 rcases ite_some hF with ⟨hc, hF⟩ | ⟨hc, hF⟩
 ·refine cond_t hS rfl hc ?_
  refine wp_skip ?_
  refine hK71 _ _ ?_
  refine wp_seq_k fun K74 hK74 => ?_
  have hJ3 : ∀ (x82 : Int) (a : Act) (w : World), Sl 31 [(1, p1_orderv), (2, (int i64 p2_v)), (3, (fdp b3 0)), (7, (int i64 x82)), (8, (int i64 x51))] a → Mem Nob w0 w [(false, rd p1_orderv (List.map (int i64) p1_order)), (true, bx b3 28 [(int i64 p0_g_Size), p0_g_Rowsv]), (false, rd p0_g_Rowsv (List.map (int i64) p0_g_Rows))] → S_spec_l5Label_j3 F x51 x82 = some res2 → K74 a w := by
   intro x82 a w hS hM hF
   unfold S_spec_l5Label_j3 at hF
   refine hK74 _ _ ?_
   refine wp_region_lit ?_
   refine st_val hS rfl rfl (by decide) (rv_move (hS.ev rfl)) fun a hS => ?_
   refine st_val hS rfl rfl (by decide) (rv_add (hS.ev rfl) (hS.ev rfl)) fun a hS => ?_
   refine st_val hS rfl rfl (by decide) (rv_assign (hS.ev rfl)) fun a hS => ?_
   refine wpList_nil ?_
   cases hF
   exact hN2 _ _ _ rfl ⟨(hS.sub (sub_cons rfl (sub_cons rfl (sub_cons rfl (sub_cons rfl (sub_cons rfl sub_nil)))))), (hM.pick [0, 1, 2] (by decide) rfl)⟩
  refine wp_block ?_
  refine wp_seq_k fun K83 hK83 => ?_
  refine wp_region_lit ?_
  refine st_val hS rfl rfl (by decide) (rv_move (hS.ev rfl)) fun a hS => ?_
  refine st_val hS rfl rfl (by decide) (rv_mul (hS.ev rfl) (hS.ev rfl)) fun a hS => ?_
  refine st_val hS rfl rfl (by decide) (rv_assign (hS.ev rfl)) fun a hS => ?_
  refine wpList_nil ?_
  refine hK83 _ _ ?_
  refine wp_seq_k fun K84 hK84 => ?_
  have hJ4 : ∀ (p87 : Bool) (a : Act) (w : World), Sl 31 [(1, p1_orderv), (2, (int i64 p2_v)), (3, (fdp b3 0)), (7, (int i64 (i64.wrap (x50 * 2)))), (8, (int i64 x51)), (27, (Value.bool p87))] a → Mem Nob w0 w [(false, rd p1_orderv (List.map (int i64) p1_order)), (true, bx b3 28 [(int i64 p0_g_Size), p0_g_Rowsv]), (false, rd p0_g_Rowsv (List.map (int i64) p0_g_Rows))] → S_spec_l5Label_j4 F x50 x51 p87 = some res2 → K84 a w := by
   intro p87 a w hS hM hF
   unfold S_spec_l5Label_j4 at hF
   refine hK84 _ _ ?_
   rcases ite_some hF with ⟨hc, hF⟩ | ⟨hc, hF⟩
   ·refine cond_t hS rfl hc ?_
    refine wp_region_lit ?_
    refine st_val hS rfl rfl (by decide) (rv_move (hS.ev rfl)) fun a hS => ?_
    refine st_val hS rfl rfl (by decide) (rv_add (hS.ev rfl) (hS.ev rfl)) fun a hS => ?_
    refine st_val hS rfl rfl (by decide) (rv_assign (hS.ev rfl)) fun a hS => ?_
    refine wpList_nil ?_
    exact hJ3 (i64.wrap ((i64.wrap (x50 * 2)) + 1)) _ _ (hS.sub (sub_cons rfl (sub_cons rfl (sub_cons rfl (sub_cons rfl (sub_cons rfl sub_nil)))))) (hM.pick [0, 1, 2] (by decide) rfl) hF
   ·refine cond_f hS rfl hc ?_
    refine wp_skip ?_
    exact hJ3 (i64.wrap (x50 * 2)) _ _ (hS.sub (sub_cons rfl (sub_cons rfl (sub_cons rfl (sub_cons rfl (sub_cons rfl sub_nil)))))) (hM.pick [0, 1, 2] (by decide) rfl) hF
  refine an_startB 13 Nob ty_mixed (by kernel_rfl) fun w hf => ?_
  have hM := hM.fra hf
  have hB := hM
  have hM := hB.reg0
  refine tkB hS 0 1 (by kernel_rfl) rfl rfl rfl hQp rfl (fun w' hC' => (rv_move (hS.ev rfl))) hM.fr fun a hS => ?_
  refine tkB hS 1 3 (by kernel_rfl) rfl rfl rfl hQp rfl (fun w' hC' => (rv_move (hS.ev rfl))) hM.fr fun a hS => ?_
  refine tkB hS 2 7 (by kernel_rfl) rfl rfl rfl hQp rfl (fun w' hC' => (rv_len_rowM Try.underlying22 (hS.ev rfl) (hM.get 0 rfl))) hM.fr fun a hS => ?_
  refine tkB hS 3 15 (by kernel_rfl) rfl rfl rfl hQp rfl (fun w' hC' => (rv_lss (hS.ev rfl) (hS.ev rfl))) hM.fr fun a hS => ?_
  refine tkB hS 4 31 (by kernel_rfl) rfl rfl rfl hQp rfl (fun w' hC' => (rv_move (hS.ev rfl))) hM.fr fun a hS => ?_
  rcases ite_some hF with ⟨hc, hF⟩ | ⟨hc, hF⟩
  ·have hS := hS.setb (t := 19) rfl hc
   refine tkB hS 5 63 (by kernel_rfl) rfl rfl rfl hQp rfl (fun w' hC' => (rv_load_agg (hS.ev rfl) ty_ag_28 ((hB.fra hC').get 1 rfl) ty_sz_28)) hM.fr fun a hS => ?_
   refine tkB hS 6 127 (by kernel_rfl) rfl rfl rfl hQp rfl (fun w' hC' => (rv_move (hS.ev rfl))) hM.fr fun a hS => ?_
   refine tkB hS 7 255 (by kernel_rfl) rfl rfl rfl hQp rfl (fun w' hC' => (rv_move (hS.ev rfl))) hM.fr fun a hS => ?_
   obtain ⟨x88, hx, hF⟩ := bind_some hF
   obtain ⟨hi0, hi1, hex88⟩ := idxL_some hx
   refine tkB hS 8 511 (by kernel_rfl) rfl rfl rfl hQp rfl (fun w' hC' => (rv_indexAddr Try.underlying22 ty_el_3 (hS.ev rfl) (hS.ev rfl) (hM.get 0 rfl) hi0 (map_len hi1))) hM.fr fun a hS => ?_
   refine tkB hS 9 1023 (by kernel_rfl) rfl rfl rfl hQp rfl (fun w' hC' => (rv_load_el (hS.ev rfl) ty_ag_3 ((hB.fra hC').get 0 rfl) (mget hex88))) hM.fr fun a hS => ?_
   refine tkB hS 10 2047 (by kernel_rfl) rfl rfl rfl hQp rfl (fun w' hC' => (rv_move (hS.ev rfl))) hM.fr fun a hS => ?_
   obtain ⟨r89, hr, hF⟩ := bind_some hF
   refine an_oneB hS (i := 11) 4095 (by kernel_rfl) rfl (by kernel_rfl) rfl ?_
   refine wp_call hS rfl rfl (by decide) fn_ok_94 rfl (c_spec_l2Edge F p0_g_Size p0_g_Rows x88 p2_v p0_g_Rowsv hr _ (hM.get 2 rfl)) fun v w a hK hS => ?_
   obtain ⟨rfl, hN⟩ := hK
   have hM := hM.fra hN.fr
   refine ⟨hM.fr, ?_⟩
   refine tkB hS 12 8191 (by kernel_rfl) rfl rfl rfl hQp rfl (fun w' hC' => (rv_pick_t (hS.ev rfl) (hS.ev rfl))) hM.fr fun a hS => ?_
   refine an_done (by kernel_rfl) ?_
   have hN := hM.pick [] (by decide) rfl
   have hM := Mem.callo0 hB hN rfl
   exact hJ4 r89 _ _ (hS.sub (sub_cons rfl (sub_cons rfl (sub_cons rfl (sub_cons rfl (sub_cons rfl (sub_cons rfl sub_nil))))))) (hM.pick [0, 1, 2] (by decide) rfl) hF
  ·have hS := hS.setb (t := 19) rfl hc
   refine skB hS [5, 6, 7, 8, 9, 10, 11] [20, 21, 22, 23, 24, 25, 26] 4095 1 rfl (by kernel_rfl) hQp hM.fr fun a hS => ?_
   refine tkB hS 12 8191 (by kernel_rfl) rfl rfl rfl hQp rfl (fun w' hC' => (rv_pick_f (hS.ev rfl) (hS.ev rfl))) hM.fr fun a hS => ?_
   refine an_done (by kernel_rfl) ?_
   have hN := hM.pick [] (by decide) rfl
   have hM := Mem.callo0 hB hN rfl
   exact hJ4 false _ _ (hS.sub (sub_cons rfl (sub_cons rfl (sub_cons rfl (sub_cons rfl (sub_cons rfl (sub_cons rfl sub_nil))))))) (hM.pick [0, 1, 2] (by decide) rfl) hF
 ·refine cond_f hS rfl hc ?_
  refine wp_exit ?_
  cases hF
  exact hJ1 x50 _ _ (hS.sub (sub_cons rfl sub_nil)) (hM.pick [] (by decide) rfl) (by have e := hX2 _ rfl; subst e; exact hF2)


theorem c_spec_LexOrder (F : Nat) (p0_g_Size : Int) (p0_g_Rows : List Int) (p1_start : Int) (p0_g_Rowsv : Value) {r : (List (Int)) × Bool} (hF : S_spec_LexOrder F p0_g_Size p0_g_Rows p1_start = some r) (w0 : World) (h0 : RdRow w0 p0_g_Rowsv (List.map (int i64) p0_g_Rows)) :
    Calls Try.prog 48 [(Value.agg #[(int i64 p0_g_Size), p0_g_Rowsv]), (int i64 p1_start)].toArray w0 (retPost fun v w' => ∃ v373, v = (Value.tuple #[v373, (Value.bool r.2)]) ∧ Mem Nob w0 w' [(true, ow 3 v373 (List.map (int i64) r.1))]) := by
 have hM : Mem Nob w0 w0 [(false, rd p0_g_Rowsv (List.map (int i64) p0_g_Rows))] := (Mem.rcons (Mem.nil w0) h0 (by simp))
 refine enter2 Try.func48 rfl rfl rfl fun Q a hQr hQn hQp hS => ?_
 have hS : Sl 69 [(0, (Value.agg #[(int i64 p0_g_Size), p0_g_Rowsv])), (1, (int i64 p1_start))] a := hS
 unfold S_spec_LexOrder at hF
 refine wp_seq_k fun K1 hK1 => ?_
 refine wp_region_lit ?_
 obtain ⟨b3, w, hr, hM⟩ := hM.boxE (ρ := a.eval) (dst := some 2) (ty := _) (pos := _) (af := _) (gd := _) (x := .tmp 0) (T := 28) [(int i64 p0_g_Size), p0_g_Rowsv] (hS.ev rfl) rfl
 refine st_val hS rfl rfl (by decide) hr fun a hS => ?_
 refine st_val hS rfl rfl (by decide) (rv_assign (hS.ev rfl)) fun a hS => ?_
 refine st_val hS rfl rfl (by decide) (rv_assign (hS.ev rfl)) fun a hS => ?_
 refine wpList_nil ?_
 refine hK1 _ _ ?_
 refine wp_seq_k fun K4 hK4 => ?_
 refine wp_seq_k fun K12 hK12 => ?_
 have hJ1 : ∀ (p14 : Bool) (a : Act) (w : World), Sl 69 [(1, (int i64 p1_start)), (2, (fdp b3 0)), (22, (Value.bool p14))] a → Mem Nob w0 w [(true, bx b3 28 [(int i64 p0_g_Size), p0_g_Rowsv]), (false, rd p0_g_Rowsv (List.map (int i64) p0_g_Rows))] → S_spec_LexOrder_j1 F p0_g_Size p0_g_Rows p1_start p14 = some r → K12 a w := by
  intro p14 a w hS hM hF
  unfold S_spec_LexOrder_j1 at hF
  refine hK12 _ _ ?_
  rcases ite_some hF with ⟨hc, hF⟩ | ⟨hc, hF⟩
  ·refine cond_t hS rfl hc ?_
   refine wp_seq_k fun K15 hK15 => ?_
   refine wp_region_lit ?_
   obtain ⟨v17, w, hr, hM⟩ := Mem.litE (f := (int i64)) (dst := some 23) (ty := _) (pos := _) (af := _) (gd := _) (ps := []) ([] : List (Int)) i64_one hM hS Try.underlying22 ty_el_3 rfl rfl rfl rfl
   refine st_val hS rfl rfl (by decide) hr fun a hS => ?_
   refine st_val hS rfl rfl (by decide) (rv_assign (hS.ev rfl)) fun a hS => ?_
   refine st_val hS rfl rfl (by decide) (rv_assign (hS.ev rfl)) fun a hS => ?_
   refine wpList_nil ?_
   refine hK15 _ _ ?_
   refine wp_ret ?_
   cases hF
   exact hQr _ _ (r_2 hS rfl rfl rfl ⟨v17, rfl, hM.pick [0] (by decide) rfl⟩)
  ·refine cond_f hS rfl hc ?_
   refine wp_skip ?_
   refine hK4 _ _ ?_
   refine wp_seq_k fun K18 hK18 => ?_
   refine wp_region_lit ?_
   refine st_val hS rfl rfl (by decide) (rv_move (hS.ev rfl)) fun a hS => ?_
   obtain ⟨v20, w, hr, hM⟩ := Mem.litE (f := (int i64)) (dst := some 25) (ty := _) (pos := _) (af := _) (gd := _) (ps := [(0, .tmp 24)]) ([p1_start] : List (Int)) i64_one hM hS Try.underlying22 ty_el_3 rfl rfl rfl rfl
   refine st_val hS rfl rfl (by decide) hr fun a hS => ?_
   refine st_val hS rfl rfl (by decide) (rv_assign (hS.ev rfl)) fun a hS => ?_
   refine wpList_nil ?_
   refine hK18 _ _ ?_
   refine wp_seq_k fun K21 hK21 => ?_
   refine wp_region_lit ?_
   refine st_val hS rfl rfl (by decide) (rv_move (hS.ev rfl)) fun a hS => ?_
   obtain ⟨_, hx, hF⟩ := bind_some hF
   have hi0 := nnO_some hx
   refine st_val hS rfl rfl (by decide) (rv_shl (hS.ev rfl) (hS.ev rfl) hi0) fun a hS => ?_
   refine st_val hS rfl rfl (by decide) (rv_assign (hS.ev rfl)) fun a hS => ?_
   refine wpList_nil ?_
   refine hK21 _ _ ?_
   refine wp_seq_k fun K22 hK22 => ?_
   have hJ2 : ∀ (l197 : List Int) (v196 : Value) (a : Act) (w : World), Sl 69 [(6, v196)] a → Mem Nob w0 w [(true, ow 3 v196 (List.map (int i64) l197))] → S_spec_LexOrder_j2 F l197 = some r → K22 a w := by
    intro l197 v196 a w hS hM hF
    unfold S_spec_LexOrder_j2 at hF
    refine hK22 _ _ ?_
    refine wp_seq_k fun K198 hK198 => ?_
    refine wp_region_lit ?_
    refine st_val hS rfl rfl (by decide) (rv_move (hS.ev rfl)) fun a hS => ?_
    refine st_val hS rfl rfl (by decide) (rv_assign (hS.ev rfl)) fun a hS => ?_
    refine st_val hS rfl rfl (by decide) (rv_assign (hS.ev rfl)) fun a hS => ?_
    refine wpList_nil ?_
    refine hK198 _ _ ?_
    refine wp_ret ?_
    cases hF
    exact hQr _ _ (r_2 hS rfl rfl rfl ⟨v196, rfl, hM.pick [0] (by decide) rfl⟩)
   refine wp_block ?_
   obtain ⟨lb3, hl3, hF3⟩ := bind_some hF
   refine wp_loop_sh (fun s => S_spec_LexOrder_l3 F p0_g_Size p0_g_Rows s.1 s.2) (fun s a w => ∃ (v199 : Value), Sl 69 [(2, (fdp b3 0)), (6, v199), (7, (int i64 s.2))] a ∧ Mem Nob w0 w [(true, bx b3 28 [(int i64 p0_g_Size), p0_g_Rowsv]), (false, rd p0_g_Rowsv (List.map (int i64) p0_g_Rows)), (true, ow 3 v199 (List.map (int i64) s.1))]) hl3 ⟨v20, (hS.sub (sub_cons rfl (sub_cons rfl (sub_cons rfl sub_nil)))), (hM.pick [1, 2, 0] (by decide) rfl)⟩ ?_
   rintro K3 ⟨l200, x201⟩ a w res3 ⟨v199, hS, hM⟩ hF hN3 hX3
   have hF : S_spec_LexOrder_l3 F p0_g_Size p0_g_Rows l200 x201 = some res3 := hF
   have hS : Sl 69 [(2, (fdp b3 0)), (6, v199), (7, (int i64 x201))] a := hS
   have hM : Mem Nob w0 w [(true, bx b3 28 [(int i64 p0_g_Size), p0_g_Rowsv]), (false, rd p0_g_Rowsv (List.map (int i64) p0_g_Rows)), (true, ow 3 v199 (List.map (int i64) l200))] := hM
   unfold S_spec_LexOrder_l3 at hF
   refine wp_seq_k fun K287 hK287 => ?_
   refine wp_seq_k fun K289 hK289 => ?_
   refine wp_region_lit ?_
   refine st_val hS rfl rfl (by decide) (rv_move (hS.ev rfl)) fun a hS => ?_
   refine st_val hS rfl rfl (by decide) (rv_len_rowM Try.underlying22 (hS.ev rfl) (rd_of_ow (hM.get 2 rfl))) fun a hS => ?_
   refine st_val hS rfl rfl (by decide) (rv_fieldAddr ty_fd_28_0 (hS.ev rfl)) fun a hS => ?_
   refine st_val hS rfl rfl (by decide) (rv_load_bx (hS.ev rfl) ty_ag_3 (hM.get 0 rfl) rfl) fun a hS => ?_
   refine st_val hS rfl rfl (by decide) (rv_lss (hS.ev rfl) (hS.ev rfl)) fun a hS => ?_
   refine wpList_nil ?_
   refine hK289 _ _ ?_
   rcases ite_some hF with ⟨hc, hF⟩ | ⟨hc, hF⟩
   ·refine cond_t hS rfl hc ?_
    refine wp_skip ?_
    refine hK287 _ _ ?_
    refine wp_block ?_
    refine wp_seq_k fun K290 hK290 => ?_
    refine wp_region_lit ?_
    refine st_val hS rfl rfl (by decide) (rv_assign (hS.ev rfl)) fun a hS => ?_
    refine wpList_nil ?_
    refine hK290 _ _ ?_
    refine wp_seq_k fun K291 hK291 => ?_
    have hJ4 : ∀ (x329 : Int) (a : Act) (w : World), Sl 69 [(2, (fdp b3 0)), (6, v199), (7, (int i64 x201)), (8, (int i64 x329))] a → Mem Nob w0 w [(true, bx b3 28 [(int i64 p0_g_Size), p0_g_Rowsv]), (false, rd p0_g_Rowsv (List.map (int i64) p0_g_Rows)), (true, ow 3 v199 (List.map (int i64) l200))] → S_spec_LexOrder_j4 F l200 x201 x329 = some res3 → K291 a w := by
     intro x329 a w hS hM hF
     unfold S_spec_LexOrder_j4 at hF
     refine hK291 _ _ ?_
     refine wp_seq_k fun K330 hK330 => ?_
     refine wp_region_lit ?_
     refine st_val hS rfl rfl (by decide) (rv_move (hS.ev rfl)) fun a hS => ?_
     refine st_val hS rfl rfl (by decide) (rv_move (hS.ev rfl)) fun a hS => ?_
     obtain ⟨v333, w, hr, hM⟩ := Mem.litE (f := (int i64)) (dst := some 62) (ty := _) (pos := _) (af := _) (gd := _) (ps := [(0, .tmp 61)]) ([x329] : List (Int)) i64_one hM hS Try.underlying22 ty_el_3 rfl rfl rfl rfl
     refine st_val hS rfl rfl (by decide) hr fun a hS => ?_
     obtain ⟨_, hx, hF⟩ := bind_some hF
     have hM := hM.pick [3, 0, 1, 2] (by decide) rfl
     obtain ⟨v334, w, hr, hM⟩ := Mem.appE (f := (int i64)) (S := _) (R := [(true, ow 3 v333 (List.map (int i64) ([x329] : List (Int)))), (true, bx b3 28 [(int i64 p0_g_Size), p0_g_Rowsv]), (false, rd p0_g_Rowsv (List.map (int i64) p0_g_Rows))]) (ρ := a.eval) (dst := some 63) (ty := _) (pos := _) (af := _) (gd := _) (x := .tmp 60) (y := .tmp 62) i64_one hM Try.underlying22 ty_el_3 rfl (by decide) (hS.ev rfl) (hS.ev rfl) (rd_of_ow (hM.get 1 rfl)) (catO_some hx)
     refine st_val hS rfl rfl (by decide) hr fun a hS => ?_
     refine st_val hS rfl rfl (by decide) (rv_assign (hS.ev rfl)) fun a hS => ?_
     refine wpList_nil ?_
     refine hK330 _ _ ?_
     refine wp_region_lit ?_
     refine st_val hS rfl rfl (by decide) (rv_move (hS.ev rfl)) fun a hS => ?_
     refine st_val hS rfl rfl (by decide) (rv_move (hS.ev rfl)) fun a hS => ?_
     obtain ⟨_, hx, hF⟩ := bind_some hF
     have hi0 := nnO_some hx
     refine st_val hS rfl rfl (by decide) (rv_shl (hS.ev rfl) (hS.ev rfl) hi0) fun a hS => ?_
     refine st_val hS rfl rfl (by decide) (rv_add (hS.ev rfl) (hS.ev rfl)) fun a hS => ?_
     refine st_val hS rfl rfl (by decide) (rv_assign (hS.ev rfl)) fun a hS => ?_
     refine wpList_nil ?_
     cases hF
     exact hN3 _ _ _ rfl ⟨v334, (hS.sub (sub_cons rfl (sub_cons rfl (sub_cons rfl sub_nil)))), (hM.pick [2, 3, 0] (by decide) rfl)⟩
    refine wp_seq_k fun K335 hK335 => ?_
    refine wp_region_lit ?_
    refine st_val hS rfl rfl (by decide) (rv_assign (hS.ev rfl)) fun a hS => ?_
    refine wpList_nil ?_
    refine hK335 _ _ ?_
    refine wp_block ?_
    obtain ⟨lb5, hl5, hF5⟩ := bind_some hF
    refine wp_loop_sh (fun s => S_spec_LexOrder_l5 F p0_g_Size p0_g_Rows l200 x201 s.1 s.2) (fun s a w => Sl 69 [(2, (fdp b3 0)), (6, v199), (7, (int i64 x201)), (8, (int i64 s.1)), (9, (int i64 s.2))] a ∧ Mem Nob w0 w [(true, bx b3 28 [(int i64 p0_g_Size), p0_g_Rowsv]), (false, rd p0_g_Rowsv (List.map (int i64) p0_g_Rows)), (true, ow 3 v199 (List.map (int i64) l200))]) hl5 ⟨(hS.sub (sub_cons rfl (sub_cons rfl (sub_cons rfl (sub_cons rfl (sub_cons rfl sub_nil)))))), (hM.pick [0, 1, 2] (by decide) rfl)⟩ ?_
    rintro K5 ⟨x336, x337⟩ a w res5 ⟨hS, hM⟩ hF hN5 hX5
    have hF : S_spec_LexOrder_l5 F p0_g_Size p0_g_Rows l200 x201 x336 x337 = some res5 := hF
    have hS : Sl 69 [(2, (fdp b3 0)), (6, v199), (7, (int i64 x201)), (8, (int i64 x336)), (9, (int i64 x337))] a := hS
    have hM : Mem Nob w0 w [(true, bx b3 28 [(int i64 p0_g_Size), p0_g_Rowsv]), (false, rd p0_g_Rowsv (List.map (int i64) p0_g_Rows)), (true, ow 3 v199 (List.map (int i64) l200))] := hM
    unfold S_spec_LexOrder_l5 at hF
    refine wp_seq_k fun K355 hK355 => ?_
    refine wp_seq_k fun K357 hK357 => ?_
    refine wp_region_lit ?_
    refine st_val hS rfl rfl (by decide) (rv_move (hS.ev rfl)) fun a hS => ?_
    refine st_val hS rfl rfl (by decide) (rv_fieldAddr ty_fd_28_0 (hS.ev rfl)) fun a hS => ?_
    refine st_val hS rfl rfl (by decide) (rv_load_bx (hS.ev rfl) ty_ag_3 (hM.get 0 rfl) rfl) fun a hS => ?_
    refine st_val hS rfl rfl (by decide) (rv_lss (hS.ev rfl) (hS.ev rfl)) fun a hS => ?_
    refine wpList_nil ?_
    refine hK357 _ _ ?_
    rcases ite_some hF with ⟨hc, hF⟩ | ⟨hc, hF⟩
    ·refine cond_t hS rfl hc ?_
     refine wp_skip ?_
     refine hK355 _ _ ?_
     refine wp_seq_k fun K358 hK358 => ?_
     have hJ6 : ∀ (x365 : Int) (a : Act) (w : World), Sl 69 [(2, (fdp b3 0)), (6, v199), (7, (int i64 x201)), (8, (int i64 x365)), (9, (int i64 x337))] a → Mem Nob w0 w [(true, bx b3 28 [(int i64 p0_g_Size), p0_g_Rowsv]), (false, rd p0_g_Rowsv (List.map (int i64) p0_g_Rows)), (true, ow 3 v199 (List.map (int i64) l200))] → S_spec_LexOrder_j6 F x337 x365 = some res5 → K358 a w := by
      intro x365 a w hS hM hF
      unfold S_spec_LexOrder_j6 at hF
      refine hK358 _ _ ?_
      refine wp_region_lit ?_
      refine st_val hS rfl rfl (by decide) (rv_move (hS.ev rfl)) fun a hS => ?_
      refine st_val hS rfl rfl (by decide) (rv_add (hS.ev rfl) (hS.ev rfl)) fun a hS => ?_
      refine st_val hS rfl rfl (by decide) (rv_assign (hS.ev rfl)) fun a hS => ?_
      refine wpList_nil ?_
      cases hF
      exact hN5 _ _ _ rfl ⟨(hS.sub (sub_cons rfl (sub_cons rfl (sub_cons rfl (sub_cons rfl (sub_cons rfl sub_nil)))))), (hM.pick [0, 1, 2] (by decide) rfl)⟩
     refine wp_block ?_
     refine wp_seq_k fun K366 hK366 => ?_
     have hJ7 : ∀ (p369 : Bool) (a : Act) (w : World), Sl 69 [(2, (fdp b3 0)), (6, v199), (7, (int i64 x201)), (8, (int i64 x336)), (9, (int i64 x337)), (58, (Value.bool p369))] a → Mem Nob w0 w [(true, bx b3 28 [(int i64 p0_g_Size), p0_g_Rowsv]), (false, rd p0_g_Rowsv (List.map (int i64) p0_g_Rows)), (true, ow 3 v199 (List.map (int i64) l200))] → S_spec_LexOrder_j7 F x336 x337 p369 = some res5 → K366 a w := by
      intro p369 a w hS hM hF
      unfold S_spec_LexOrder_j7 at hF
      refine hK366 _ _ ?_
      rcases ite_some hF with ⟨hc, hF⟩ | ⟨hc, hF⟩
      ·refine cond_t hS rfl hc ?_
       refine wp_region_lit ?_
       refine st_val hS rfl rfl (by decide) (rv_move (hS.ev rfl)) fun a hS => ?_
       refine st_val hS rfl rfl (by decide) (rv_assign (hS.ev rfl)) fun a hS => ?_
       refine wpList_nil ?_
       exact hJ6 x337 _ _ (hS.sub (sub_cons rfl (sub_cons rfl (sub_cons rfl (sub_cons rfl (sub_cons rfl sub_nil)))))) (hM.pick [0, 1, 2] (by decide) rfl) hF
      ·refine cond_f hS rfl hc ?_
       refine wp_skip ?_
       exact hJ6 x336 _ _ (hS.sub (sub_cons rfl (sub_cons rfl (sub_cons rfl (sub_cons rfl (sub_cons rfl sub_nil)))))) (hM.pick [0, 1, 2] (by decide) rfl) hF
     refine an_startB 20 Nob ty_mixed (by kernel_rfl) fun w hf => ?_
     have hM := hM.fra hf
     have hB := hM
     have hM := hB.reg0
     refine tkB hS 0 1 (by kernel_rfl) rfl rfl rfl hQp rfl (fun w' hC' => (rv_move (hS.ev rfl))) hM.fr fun a hS => ?_
     refine tkB hS 1 3 (by kernel_rfl) rfl rfl rfl hQp rfl (fun w' hC' => (rv_move (hS.ev rfl))) hM.fr fun a hS => ?_
     obtain ⟨_, hx, hF⟩ := bind_some hF
     have hi0 := nnO_some hx
     refine tkB hS 2 7 (by kernel_rfl) rfl rfl rfl hQp rfl (fun w' hC' => (rv_shr (hS.ev rfl) (hS.ev rfl) hi0)) hM.fr fun a hS => ?_
     refine tkB hS 3 15 (by kernel_rfl) rfl rfl rfl hQp rfl (fun w' hC' => (rv_and (hS.ev rfl) (hS.ev rfl))) hM.fr fun a hS => ?_
     refine tkB hS 4 31 (by kernel_rfl) rfl rfl rfl hQp rfl (fun w' hC' => (rv_eql (hS.ev rfl) (hS.ev rfl))) hM.fr fun a hS => ?_
     refine tkB hS 5 63 (by kernel_rfl) rfl rfl rfl hQp rfl (fun w' hC' => (rv_move (hS.ev rfl))) hM.fr fun a hS => ?_
     rcases ite_some hF with ⟨hc, hF⟩ | ⟨hc, hF⟩
     ·have hS := hS.setb (t := 44) rfl hc
      refine tkB hS 6 127 (by kernel_rfl) rfl rfl rfl hQp rfl (fun w' hC' => (rv_move (hS.ev rfl))) hM.fr fun a hS => ?_
      refine tkB hS 7 255 (by kernel_rfl) rfl rfl rfl hQp rfl (fun w' hC' => (rv_lss (hS.ev rfl) (hS.ev rfl))) hM.fr fun a hS => ?_
      refine tkB hS 8 511 (by kernel_rfl) rfl rfl rfl hQp rfl (fun w' hC' => (rv_move (hS.ev rfl))) hM.fr fun a hS => ?_
      rcases ite_some hF with ⟨hc, hF⟩ | ⟨hc, hF⟩
      ·have hS := hS.setb (t := 47) rfl hc
       refine skB hS [9, 10, 11, 12, 13, 14, 15, 16, 17] [48, 49, 50, 51, 52, 53, 54, 55, 56] 262143 2 rfl (by kernel_rfl) hQp hM.fr fun a hS => ?_
       refine tkB hS 18 524287 (by kernel_rfl) rfl rfl rfl hQp rfl (fun w' hC' => (rv_pick_t (hS.ev rfl) (hS.ev rfl))) hM.fr fun a hS => ?_
       refine tkB hS 19 1048575 (by kernel_rfl) rfl rfl rfl hQp rfl (fun w' hC' => (rv_pick_t (hS.ev rfl) (hS.ev rfl))) hM.fr fun a hS => ?_
       refine an_done (by kernel_rfl) ?_
       have hN := hM.pick [] (by decide) rfl
       have hM := Mem.callo0 hB hN rfl
       exact hJ7 true _ _ (hS.sub (sub_cons rfl (sub_cons rfl (sub_cons rfl (sub_cons rfl (sub_cons rfl (sub_cons rfl sub_nil))))))) (hM.pick [0, 1, 2] (by decide) rfl) hF
      ·have hS := hS.setb (t := 47) rfl hc
       refine tkB hS 9 1023 (by kernel_rfl) rfl rfl rfl hQp rfl (fun w' hC' => (rv_load_agg (hS.ev rfl) ty_ag_28 ((hB.fra hC').get 0 rfl) ty_sz_28)) hM.fr fun a hS => ?_
       refine tkB hS 10 2047 (by kernel_rfl) rfl rfl rfl hQp rfl (fun w' hC' => (rv_move (hS.ev rfl))) hM.fr fun a hS => ?_
       refine tkB hS 11 4095 (by kernel_rfl) rfl rfl rfl hQp rfl (fun w' hC' => (rv_move (hS.ev rfl))) hM.fr fun a hS => ?_
       refine tkB hS 13 12287 (by kernel_rfl) rfl rfl rfl hQp rfl (fun w' hC' => (rv_load_agg (hS.ev rfl) ty_ag_28 ((hB.fra hC').get 0 rfl) ty_sz_28)) hM.fr fun a hS => ?_
       refine tkB hS 14 28671 (by kernel_rfl) rfl rfl rfl hQp rfl (fun w' hC' => (rv_move (hS.ev rfl))) hM.fr fun a hS => ?_
       refine tkB hS 15 61439 (by kernel_rfl) rfl rfl rfl hQp rfl (fun w' hC' => (rv_move (hS.ev rfl))) hM.fr fun a hS => ?_
       obtain ⟨r370, hr, hF⟩ := bind_some hF
       refine an_oneB hS (i := 12) 65535 (by kernel_rfl) rfl (by kernel_rfl) rfl ?_
       refine wp_call hS rfl rfl (by decide) fn_ok_99 rfl (c_spec_l5Label F p0_g_Size p0_g_Rows l200 x337 p0_g_Rowsv v199 hr _ (hM.get 1 rfl) (rd_of_ow (hM.get 2 rfl))) fun v w a hK hS => ?_
       obtain ⟨rfl, hN⟩ := hK
       have hM := hM.fra hN.fr
       refine ⟨hM.fr, ?_⟩
       obtain ⟨r371, hr, hF⟩ := bind_some hF
       refine an_oneB hS (i := 16) 131071 (by kernel_rfl) rfl (by kernel_rfl) rfl ?_
       refine wp_call hS rfl rfl (by decide) fn_ok_99 rfl (c_spec_l5Label F p0_g_Size p0_g_Rows l200 x336 p0_g_Rowsv v199 hr _ (hM.get 1 rfl) (rd_of_ow (hM.get 2 rfl))) fun v w a hK hS => ?_
       obtain ⟨rfl, hN⟩ := hK
       have hM := hM.fra hN.fr
       refine ⟨hM.fr, ?_⟩
       refine tkB hS 17 262143 (by kernel_rfl) rfl rfl rfl hQp rfl (fun w' hC' => (rv_gtr (hS.ev rfl) (hS.ev rfl))) hM.fr fun a hS => ?_
       refine tkB hS 18 524287 (by kernel_rfl) rfl rfl rfl hQp rfl (fun w' hC' => (rv_pick_f (hS.ev rfl) (hS.ev rfl))) hM.fr fun a hS => ?_
       refine tkB hS 19 1048575 (by kernel_rfl) rfl rfl rfl hQp rfl (fun w' hC' => (rv_pick_t (hS.ev rfl) (hS.ev rfl))) hM.fr fun a hS => ?_
       refine an_done (by kernel_rfl) ?_
       have hN := hM.pick [] (by decide) rfl
       have hM := Mem.callo0 hB hN rfl
       exact hJ7 (decide (r371 < r370)) _ _ (hS.sub (sub_cons rfl (sub_cons rfl (sub_cons rfl (sub_cons rfl (sub_cons rfl (sub_cons rfl sub_nil))))))) (hM.pick [0, 1, 2] (by decide) rfl) hF
     ·have hS := hS.setb (t := 44) rfl hc
      refine skB hS [6, 7, 8, 9, 10, 11, 12, 13, 14, 15, 16, 17, 18] [45, 46, 47, 48, 49, 50, 51, 52, 53, 54, 55, 56, 57] 524287 1 rfl (by kernel_rfl) hQp hM.fr fun a hS => ?_
      refine tkB hS 19 1048575 (by kernel_rfl) rfl rfl rfl hQp rfl (fun w' hC' => (rv_pick_f (hS.ev rfl) (hS.ev rfl))) hM.fr fun a hS => ?_
      refine an_done (by kernel_rfl) ?_
      have hN := hM.pick [] (by decide) rfl
      have hM := Mem.callo0 hB hN rfl
      exact hJ7 false _ _ (hS.sub (sub_cons rfl (sub_cons rfl (sub_cons rfl (sub_cons rfl (sub_cons rfl (sub_cons rfl sub_nil))))))) (hM.pick [0, 1, 2] (by decide) rfl) hF
    ·refine cond_f hS rfl hc ?_
     refine wp_exit ?_
     cases hF
     exact hJ4 x336 _ _ (hS.sub (sub_cons rfl (sub_cons rfl (sub_cons rfl (sub_cons rfl sub_nil))))) (hM.pick [0, 1, 2] (by decide) rfl) (by have e := hX5 _ rfl; subst e; exact hF5)
   ·refine cond_f hS rfl hc ?_
    refine wp_exit ?_
    cases hF
    exact hJ2 l200 v199 _ _ (hS.sub (sub_cons rfl sub_nil)) (hM.pick [2] (by decide) rfl) (by have e := hX3 _ rfl; subst e; exact hF3)
 refine wp_region_lit ?_
 refine st_val hS rfl rfl (by decide) (rv_load_agg (hS.ev rfl) ty_ag_28 (hM.get 0 rfl) ty_sz_28) fun a hS => ?_
 obtain ⟨r372, hr, hF⟩ := bind_some hF
 refine st_wp hS rfl (wp_call hS rfl rfl (by decide) fn_ok_73 rfl (c_spec_IsGraph F p0_g_Size p0_g_Rows p0_g_Rowsv hr _ (hM.get 1 rfl)) fun v w a hK hS => ?_)
 obtain ⟨rfl, hN⟩ := hK
 have hM := hM.fra hN.fr
 refine st_val hS rfl rfl (by decide) (rv_not (hS.ev rfl)) fun a hS => ?_
 refine st_val hS rfl rfl (by decide) (rv_move (hS.ev rfl)) fun a hS => ?_
 rcases ite_some hF with ⟨hc, hF⟩ | ⟨hc, hF⟩
 ·have hS := hS.setb (t := 13) rfl hc
  refine st_skip hS rfl rfl (by decide) fun a hS => ?_
  refine st_skip hS rfl rfl (by decide) fun a hS => ?_
  refine st_val hS rfl rfl (by decide) (rv_pick_t (hS.ev rfl) (hS.ev rfl)) fun a hS => ?_
  refine st_val hS rfl rfl (by decide) (rv_move (hS.ev rfl)) fun a hS => ?_
  refine st_skip hS rfl rfl (by decide) fun a hS => ?_
  refine st_skip hS rfl rfl (by decide) fun a hS => ?_
  refine st_skip hS rfl rfl (by decide) fun a hS => ?_
  refine st_skip hS rfl rfl (by decide) fun a hS => ?_
  refine st_val hS rfl rfl (by decide) (rv_pick_t (hS.ev rfl) (hS.ev rfl)) fun a hS => ?_
  refine wpList_nil ?_
  exact hJ1 true _ _ (hS.sub (sub_cons rfl (sub_cons rfl (sub_cons rfl sub_nil)))) (hM.pick [0, 1] (by decide) rfl) hF
 ·have hS := hS.setb (t := 13) rfl hc
  refine st_val hS rfl rfl (by decide) (rv_move (hS.ev rfl)) fun a hS => ?_
  refine st_val hS rfl rfl (by decide) (rv_lss (hS.ev rfl) (hS.ev rfl)) fun a hS => ?_
  refine st_val hS rfl rfl (by decide) (rv_pick_f (hS.ev rfl) (hS.ev rfl)) fun a hS => ?_
  refine st_val hS rfl rfl (by decide) (rv_move (hS.ev rfl)) fun a hS => ?_
  rcases ite_some hF with ⟨hc, hF⟩ | ⟨hc, hF⟩
  ·have hS := hS.setb (t := 17) rfl hc
   refine st_skip hS rfl rfl (by decide) fun a hS => ?_
   refine st_skip hS rfl rfl (by decide) fun a hS => ?_
   refine st_skip hS rfl rfl (by decide) fun a hS => ?_
   refine st_skip hS rfl rfl (by decide) fun a hS => ?_
   refine st_val hS rfl rfl (by decide) (rv_pick_t (hS.ev rfl) (hS.ev rfl)) fun a hS => ?_
   refine wpList_nil ?_
   exact hJ1 true _ _ (hS.sub (sub_cons rfl (sub_cons rfl (sub_cons rfl sub_nil)))) (hM.pick [0, 1] (by decide) rfl) hF
  ·have hS := hS.setb (t := 17) rfl hc
   refine st_val hS rfl rfl (by decide) (rv_move (hS.ev rfl)) fun a hS => ?_
   refine st_val hS rfl rfl (by decide) (rv_fieldAddr ty_fd_28_0 (hS.ev rfl)) fun a hS => ?_
   refine st_val hS rfl rfl (by decide) (rv_load_bx (hS.ev rfl) ty_ag_3 (hM.get 0 rfl) rfl) fun a hS => ?_
   refine st_val hS rfl rfl (by decide) (rv_geq (hS.ev rfl) (hS.ev rfl)) fun a hS => ?_
   refine st_val hS rfl rfl (by decide) (rv_pick_f (hS.ev rfl) (hS.ev rfl)) fun a hS => ?_
   refine wpList_nil ?_
   exact hJ1 (decide (p0_g_Size ≤ p1_start)) _ _ (hS.sub (sub_cons rfl (sub_cons rfl (sub_cons rfl sub_nil)))) (hM.pick [0, 1] (by decide) rfl) hF


theorem c_impl_SetOf (F : Nat) (p0_l : List Int) (p0_lv : Value) {r : Int × Bool} (hF : S_impl_SetOf F p0_l = some r) (w0 : World) (h0 : RdRow w0 p0_lv (List.map (int i64) p0_l)) :
    Calls Try.prog 101 [p0_lv].toArray w0 (retPost fun v w' => v = (Value.tuple #[(int i64 r.1), (Value.bool r.2)]) ∧ Mem Nob w0 w' []) := by
 have hM : Mem Nob w0 w0 [(false, rd p0_lv (List.map (int i64) p0_l))] := (Mem.rcons (Mem.nil w0) h0 (by simp))
 refine enter2 Try.func101 rfl rfl rfl fun Q a hQr hQn hQp hS => ?_
 have hS : Sl 27 [(0, p0_lv)] a := hS
 unfold S_impl_SetOf at hF
 refine wp_seq_k fun K1 hK1 => ?_
 refine wp_region_lit ?_
 refine st_val hS rfl rfl (by decide) (rv_assign (hS.ev rfl)) fun a hS => ?_
 refine st_val hS rfl rfl (by decide) (rv_assign (hS.ev rfl)) fun a hS => ?_
 refine wpList_nil ?_
 refine hK1 _ _ ?_
 refine wp_seq_k fun K2 hK2 => ?_
 refine wp_region_lit ?_
 refine st_val hS rfl rfl (by decide) (rv_assign (hS.ev rfl)) fun a hS => ?_
 refine wpList_nil ?_
 refine hK2 _ _ ?_
 refine wp_seq_k fun K3 hK3 => ?_
 have hJ1 : ∀ (x85 : Int) (a : Act) (w : World), Sl 27 [(4, (int i64 x85))] a → Mem Nob w0 w [] → S_impl_SetOf_j1 F x85 = some r → K3 a w := by
  intro x85 a w hS hM hF
  unfold S_impl_SetOf_j1 at hF
  refine hK3 _ _ ?_
  refine wp_seq_k fun K86 hK86 => ?_
  refine wp_region_lit ?_
  refine st_val hS rfl rfl (by decide) (rv_move (hS.ev rfl)) fun a hS => ?_
  refine st_val hS rfl rfl (by decide) (rv_assign (hS.ev rfl)) fun a hS => ?_
  refine st_val hS rfl rfl (by decide) (rv_assign (hS.ev rfl)) fun a hS => ?_
  refine wpList_nil ?_
  refine hK86 _ _ ?_
  refine wp_ret ?_
  cases hF
  exact hQr _ _ (r_2 hS rfl rfl rfl ⟨rfl, hM.pick [] (by decide) rfl⟩)
 refine wp_seq_k fun K87 hK87 => ?_
 refine wp_region_lit ?_
 refine st_val hS rfl rfl (by decide) (rv_move (hS.ev rfl)) fun a hS => ?_
 refine st_val hS rfl rfl (by decide) (rv_len_rowM Try.underlying22 (hS.ev rfl) (hM.get 0 rfl)) fun a hS => ?_
 refine st_val hS rfl rfl (by decide) (rv_move (hS.ev rfl)) fun a hS => ?_
 refine wpList_nil ?_
 refine hK87 _ _ ?_
 refine wp_block ?_
 obtain ⟨lb2, hl2, hF2⟩ := bind_some hF
 refine wp_loop_sh (fun s => S_impl_SetOf_l2 F p0_l s.1 s.2) (fun s a w => Sl 27 [(4, (int i64 s.1)), (7, p0_lv), (8, (int i64 (p0_l.length : Int))), (9, (int i64 s.2))] a ∧ Mem Nob w0 w [(false, rd p0_lv (List.map (int i64) p0_l))]) hl2 ⟨(hS.sub (sub_cons rfl (sub_cons rfl (sub_cons rfl (sub_cons rfl sub_nil))))), (hM.pick [0] (by decide) rfl)⟩ ?_
 rintro K2 ⟨x88, x89⟩ a w res2 ⟨hS, hM⟩ hF hN2 hX2
 have hF : S_impl_SetOf_l2 F p0_l x88 x89 = some res2 := hF
 have hS : Sl 27 [(4, (int i64 x88)), (7, p0_lv), (8, (int i64 (p0_l.length : Int))), (9, (int i64 x89))] a := hS
 have hM : Mem Nob w0 w [(false, rd p0_lv (List.map (int i64) p0_l))] := hM
 unfold S_impl_SetOf_l2 at hF
 refine wp_seq_k fun K129 hK129 => ?_
 refine wp_region_lit ?_
 refine st_val hS rfl rfl (by decide) (rv_lss (hS.ev rfl) (hS.ev rfl)) fun a hS => ?_
 refine wpList_nil ?_
 refine hK129 _ _ ?_
 refine wp_seq_k fun K130 hK130 => ?_
 rcases ite_some hF with ⟨hc, hF⟩ | ⟨hc, hF⟩
 ·refine cond_t hS rfl hc ?_
  refine wp_skip ?_
  refine hK130 _ _ ?_
  refine wp_seq_k fun K131 hK131 => ?_
  refine wp_block ?_
  refine wp_seq_k fun K150 hK150 => ?_
  refine wp_region_lit ?_
  obtain ⟨x152, hx, hF⟩ := bind_some hF
  obtain ⟨hi0, hi1, hex152⟩ := idxL_some hx
  refine st_val hS rfl rfl (by decide) (rv_indexAddr Try.underlying22 ty_el_3 (hS.ev rfl) (hS.ev rfl) (hM.get 0 rfl) hi0 (map_len hi1)) fun a hS => ?_
  refine st_val hS rfl rfl (by decide) (rv_load_el (hS.ev rfl) ty_ag_3 (hM.get 0 rfl) (mget hex152)) fun a hS => ?_
  refine st_val hS rfl rfl (by decide) (rv_assign (hS.ev rfl)) fun a hS => ?_
  refine wpList_nil ?_
  refine hK150 _ _ ?_
  refine wp_seq_k fun K153 hK153 => ?_
  refine wp_seq_k fun K161 hK161 => ?_
  have hJ3 : ∀ (p164 : Bool) (a : Act) (w : World), Sl 27 [(4, (int i64 x88)), (6, (int i64 x152)), (7, p0_lv), (8, (int i64 (p0_l.length : Int))), (9, (int i64 x89)), (20, (Value.bool p164))] a → Mem Nob w0 w [(false, rd p0_lv (List.map (int i64) p0_l))] → S_impl_SetOf_j3 F x88 x89 x152 p164 = some res2 → K161 a w := by
   intro p164 a w hS hM hF
   unfold S_impl_SetOf_j3 at hF
   refine hK161 _ _ ?_
   rcases ite_some hF with ⟨hc, hF⟩ | ⟨hc, hF⟩
   ·refine cond_t hS rfl hc ?_
    refine wp_seq_k fun K165 hK165 => ?_
    refine wp_region_lit ?_
    refine st_val hS rfl rfl (by decide) (rv_assign (hS.ev rfl)) fun a hS => ?_
    refine st_val hS rfl rfl (by decide) (rv_assign (hS.ev rfl)) fun a hS => ?_
    refine wpList_nil ?_
    refine hK165 _ _ ?_
    refine wp_ret ?_
    cases hF
    have e := hX2 _ rfl
    subst e
    have hF := hF2
    cases hF
    exact hQr _ _ (r_2 hS rfl rfl rfl ⟨rfl, hM.pick [] (by decide) rfl⟩)
   ·refine cond_f hS rfl hc ?_
    refine wp_skip ?_
    refine hK153 _ _ ?_
    refine wp_region_lit ?_
    refine st_val hS rfl rfl (by decide) (rv_move (hS.ev rfl)) fun a hS => ?_
    refine st_val hS rfl rfl (by decide) (rv_move (hS.ev rfl)) fun a hS => ?_
    obtain ⟨_, hx, hF⟩ := bind_some hF
    have hi0 := nnO_some hx
    refine st_val hS rfl rfl (by decide) (rv_shl (hS.ev rfl) (hS.ev rfl) hi0) fun a hS => ?_
    refine st_val hS rfl rfl (by decide) (rv_or (hS.ev rfl) (hS.ev rfl)) fun a hS => ?_
    refine st_val hS rfl rfl (by decide) (rv_assign (hS.ev rfl)) fun a hS => ?_
    refine wpList_nil ?_
    refine hK131 _ _ ?_
    refine wp_region_lit ?_
    refine st_val hS rfl rfl (by decide) (rv_add (hS.ev rfl) (hS.ev rfl)) fun a hS => ?_
    refine st_val hS rfl rfl (by decide) (rv_move (hS.ev rfl)) fun a hS => ?_
    refine wpList_nil ?_
    cases hF
    exact hN2 _ _ _ rfl ⟨(hS.sub (sub_cons rfl (sub_cons rfl (sub_cons rfl (sub_cons rfl sub_nil))))), (hM.pick [0] (by decide) rfl)⟩
  refine wp_region_lit ?_
  refine st_val hS rfl rfl (by decide) (rv_move (hS.ev rfl)) fun a hS => ?_
  obtain ⟨r166, hr, hF⟩ := bind_some hF
  refine st_wp hS rfl (wp_call hS rfl rfl (by decide) fn_ok_76 rfl (c_impl_within F x152 0 6 hr _) fun v w a hK hS => ?_)
  obtain ⟨rfl, hN⟩ := hK
  have hM := hM.fra hN.fr
  refine st_val hS rfl rfl (by decide) (rv_not (hS.ev rfl)) fun a hS => ?_
  refine st_val hS rfl rfl (by decide) (rv_move (hS.ev rfl)) fun a hS => ?_
  rcases ite_some hF with ⟨hc, hF⟩ | ⟨hc, hF⟩
  ·have hS := hS.setb (t := 16) rfl hc
   refine st_skip hS rfl rfl (by decide) fun a hS => ?_
   refine st_skip hS rfl rfl (by decide) fun a hS => ?_
   refine st_skip hS rfl rfl (by decide) fun a hS => ?_
   refine st_val hS rfl rfl (by decide) (rv_pick_t (hS.ev rfl) (hS.ev rfl)) fun a hS => ?_
   refine wpList_nil ?_
   exact hJ3 true _ _ (hS.sub (sub_cons rfl (sub_cons rfl (sub_cons rfl (sub_cons rfl (sub_cons rfl (sub_cons rfl sub_nil))))))) (hM.pick [0] (by decide) rfl) hF
  ·have hS := hS.setb (t := 16) rfl hc
   refine st_val hS rfl rfl (by decide) (rv_move (hS.ev rfl)) fun a hS => ?_
   refine st_val hS rfl rfl (by decide) (rv_move (hS.ev rfl)) fun a hS => ?_
   obtain ⟨r167, hr, hF⟩ := bind_some hF
   refine st_wp hS rfl (wp_call hS rfl rfl (by decide) fn_ok_108 rfl (c_impl_has F x88 x152 hr _) fun v w a hK hS => ?_)
   obtain ⟨rfl, hN⟩ := hK
   have hM := hM.fra hN.fr
   refine st_val hS rfl rfl (by decide) (rv_pick_f (hS.ev rfl) (hS.ev rfl)) fun a hS => ?_
   refine wpList_nil ?_
   exact hJ3 r167 _ _ (hS.sub (sub_cons rfl (sub_cons rfl (sub_cons rfl (sub_cons rfl (sub_cons rfl (sub_cons rfl sub_nil))))))) (hM.pick [0] (by decide) rfl) hF
 ·refine cond_f hS rfl hc ?_
  refine wp_exit ?_
  cases hF
  exact hJ1 x88 _ _ (hS.sub (sub_cons rfl sub_nil)) (hM.pick [] (by decide) rfl) (by have e := hX2 _ rfl; subst e; exact hF2)


theorem c_impl_ListOf (F : Nat) (p0_set : Int) {r : (List (Int))} (hF : S_impl_ListOf F p0_set = some r) (w0 : World) :
    Calls Try.prog 105 [(int i64 p0_set)].toArray w0 (retPost fun v w' => Mem Nob w0 w' [(true, ow 3 v (List.map (int i64) r))]) := by
 have hM : Mem Nob w0 w0 [] := (Mem.nil w0)
 refine enter2 Try.func105 rfl rfl rfl fun Q a hQr hQn hQp hS => ?_
 have hS : Sl 22 [(0, (int i64 p0_set))] a := hS
 unfold S_impl_ListOf at hF
 refine wp_seq_k fun K1 hK1 => ?_
 refine wp_region_lit ?_
 refine st_val hS rfl rfl (by decide) (rv_assign (hS.ev rfl)) fun a hS => ?_
 refine wpList_nil ?_
 refine hK1 _ _ ?_
 refine wp_seq_k fun K2 hK2 => ?_
 refine wp_region_lit ?_
 obtain ⟨v4, w, hr, hM⟩ := Mem.litE (f := (int i64)) (dst := some 5) (ty := _) (pos := _) (af := _) (gd := _) (ps := []) ([] : List (Int)) i64_one hM hS Try.underlying22 ty_el_3 rfl rfl rfl rfl
 refine st_val hS rfl rfl (by decide) hr fun a hS => ?_
 refine st_val hS rfl rfl (by decide) (rv_assign (hS.ev rfl)) fun a hS => ?_
 refine wpList_nil ?_
 refine hK2 _ _ ?_
 refine wp_seq_k fun K5 hK5 => ?_
 refine wp_seq_k fun K10 hK10 => ?_
 refine wp_region_lit ?_
 refine st_val hS rfl rfl (by decide) (rv_move (hS.ev rfl)) fun a hS => ?_
 obtain ⟨r12, hr, hF⟩ := bind_some hF
 refine st_wp hS rfl (wp_call hS rfl rfl (by decide) fn_ok_76 rfl (c_impl_within F p0_set 0 127 hr _) fun v w a hK hS => ?_)
 obtain ⟨rfl, hN⟩ := hK
 have hM := hM.fra hN.fr
 refine st_val hS rfl rfl (by decide) (rv_not (hS.ev rfl)) fun a hS => ?_
 refine wpList_nil ?_
 refine hK10 _ _ ?_
 rcases ite_some hF with ⟨hc, hF⟩ | ⟨hc, hF⟩
 ·refine cond_t hS rfl hc ?_
  refine wp_seq_k fun K13 hK13 => ?_
  refine wp_region_lit ?_
  refine st_val hS rfl rfl (by decide) (rv_move (hS.ev rfl)) fun a hS => ?_
  refine st_val hS rfl rfl (by decide) (rv_assign (hS.ev rfl)) fun a hS => ?_
  refine wpList_nil ?_
  refine hK13 _ _ ?_
  refine wp_ret ?_
  cases hF
  exact hQr _ _ (r_1 hS rfl rfl (hM.pick [0] (by decide) rfl))
 ·refine cond_f hS rfl hc ?_
  refine wp_skip ?_
  refine hK5 _ _ ?_
  refine wp_seq_k fun K14 hK14 => ?_
  have hJ1 : ∀ (l54 : List Int) (v53 : Value) (a : Act) (w : World), Sl 22 [(3, v53)] a → Mem Nob w0 w [(true, ow 3 v53 (List.map (int i64) l54))] → S_impl_ListOf_j1 F l54 = some r → K14 a w := by
   intro l54 v53 a w hS hM hF
   unfold S_impl_ListOf_j1 at hF
   refine hK14 _ _ ?_
   refine wp_seq_k fun K55 hK55 => ?_
   refine wp_region_lit ?_
   refine st_val hS rfl rfl (by decide) (rv_move (hS.ev rfl)) fun a hS => ?_
   refine st_val hS rfl rfl (by decide) (rv_assign (hS.ev rfl)) fun a hS => ?_
   refine wpList_nil ?_
   refine hK55 _ _ ?_
   refine wp_ret ?_
   cases hF
   exact hQr _ _ (r_1 hS rfl rfl (hM.pick [0] (by decide) rfl))
  refine wp_seq_k fun K56 hK56 => ?_
  refine wp_region_lit ?_
  refine st_val hS rfl rfl (by decide) (rv_move (hS.ev rfl)) fun a hS => ?_
  refine wpList_nil ?_
  refine hK56 _ _ ?_
  refine wp_block ?_
  obtain ⟨lb2, hl2, hF2⟩ := bind_some hF
  refine wp_loop_sh (fun s => S_impl_ListOf_l2 F p0_set s.1 s.2) (fun s a w => ∃ (v57 : Value), Sl 22 [(0, (int i64 p0_set)), (3, v57), (10, (int i64 s.2))] a ∧ Mem Nob w0 w [(true, ow 3 v57 (List.map (int i64) s.1))]) hl2 ⟨v4, (hS.sub (sub_cons rfl (sub_cons rfl (sub_cons rfl sub_nil)))), (hM.pick [0] (by decide) rfl)⟩ ?_
  rintro K2 ⟨l58, x59⟩ a w res2 ⟨v57, hS, hM⟩ hF hN2 hX2
  have hF : S_impl_ListOf_l2 F p0_set l58 x59 = some res2 := hF
  have hS : Sl 22 [(0, (int i64 p0_set)), (3, v57), (10, (int i64 x59))] a := hS
  have hM : Mem Nob w0 w [(true, ow 3 v57 (List.map (int i64) l58))] := hM
  unfold S_impl_ListOf_l2 at hF
  refine wp_seq_k fun K77 hK77 => ?_
  refine wp_region_lit ?_
  refine st_val hS rfl rfl (by decide) (rv_lss (hS.ev rfl) (hS.ev rfl)) fun a hS => ?_
  refine wpList_nil ?_
  refine hK77 _ _ ?_
  refine wp_seq_k fun K78 hK78 => ?_
  rcases ite_some hF with ⟨hc, hF⟩ | ⟨hc, hF⟩
  ·refine cond_t hS rfl hc ?_
   refine wp_skip ?_
   refine hK78 _ _ ?_
   refine wp_seq_k fun K79 hK79 => ?_
   have hJ3 : ∀ (l87 : List Int) (v86 : Value) (a : Act) (w : World), Sl 22 [(0, (int i64 p0_set)), (3, v86), (10, (int i64 x59))] a → Mem Nob w0 w [(true, ow 3 v86 (List.map (int i64) l87))] → S_impl_ListOf_j3 F x59 l87 = some res2 → K79 a w := by
    intro l87 v86 a w hS hM hF
    unfold S_impl_ListOf_j3 at hF
    refine hK79 _ _ ?_
    refine wp_region_lit ?_
    refine st_val hS rfl rfl (by decide) (rv_add (hS.ev rfl) (hS.ev rfl)) fun a hS => ?_
    refine st_val hS rfl rfl (by decide) (rv_move (hS.ev rfl)) fun a hS => ?_
    refine wpList_nil ?_
    cases hF
    exact hN2 _ _ _ rfl ⟨v86, (hS.sub (sub_cons rfl (sub_cons rfl (sub_cons rfl sub_nil)))), (hM.pick [0] (by decide) rfl)⟩
   refine wp_block ?_
   refine wp_seq_k fun K88 hK88 => ?_
   refine wp_region_lit ?_
   refine st_val hS rfl rfl (by decide) (rv_move (hS.ev rfl)) fun a hS => ?_
   refine st_val hS rfl rfl (by decide) (rv_assign (hS.ev rfl)) fun a hS => ?_
   refine wpList_nil ?_
   refine hK88 _ _ ?_
   refine wp_seq_k fun K89 hK89 => ?_
   refine wp_region_lit ?_
   refine st_val hS rfl rfl (by decide) (rv_move (hS.ev rfl)) fun a hS => ?_
   refine st_val hS rfl rfl (by decide) (rv_move (hS.ev rfl)) fun a hS => ?_
   obtain ⟨r91, hr, hF⟩ := bind_some hF
   refine st_wp hS rfl (wp_call hS rfl rfl (by decide) fn_ok_108 rfl (c_impl_has F p0_set x59 hr _) fun v w a hK hS => ?_)
   obtain ⟨rfl, hN⟩ := hK
   have hM := hM.fra hN.fr
   refine wpList_nil ?_
   refine hK89 _ _ ?_
   rcases ite_some hF with ⟨hc, hF⟩ | ⟨hc, hF⟩
   ·refine cond_t hS rfl hc ?_
    refine wp_region_lit ?_
    refine st_val hS rfl rfl (by decide) (rv_move (hS.ev rfl)) fun a hS => ?_
    refine st_val hS rfl rfl (by decide) (rv_move (hS.ev rfl)) fun a hS => ?_
    obtain ⟨v92, w, hr, hM⟩ := Mem.litE (f := (int i64)) (dst := some 18) (ty := _) (pos := _) (af := _) (gd := _) (ps := [(0, .tmp 17)]) ([x59] : List (Int)) i64_one hM hS Try.underlying22 ty_el_3 rfl rfl rfl rfl
    refine st_val hS rfl rfl (by decide) hr fun a hS => ?_
    obtain ⟨_, hx, hF⟩ := bind_some hF
    have hM := hM.pick [1, 0] (by decide) rfl
    obtain ⟨v93, w, hr, hM⟩ := Mem.appE (f := (int i64)) (S := _) (R := [(true, ow 3 v92 (List.map (int i64) ([x59] : List (Int))))]) (ρ := a.eval) (dst := some 19) (ty := _) (pos := _) (af := _) (gd := _) (x := .tmp 16) (y := .tmp 18) i64_one hM Try.underlying22 ty_el_3 rfl (by decide) (hS.ev rfl) (hS.ev rfl) (rd_of_ow (hM.get 1 rfl)) (catO_some hx)
    refine st_val hS rfl rfl (by decide) hr fun a hS => ?_
    refine st_val hS rfl rfl (by decide) (rv_assign (hS.ev rfl)) fun a hS => ?_
    refine wpList_nil ?_
    exact hJ3 (l58 ++ ([x59] : List (Int))) v93 _ _ (hS.sub (sub_cons rfl (sub_cons rfl (sub_cons rfl sub_nil)))) (hM.pick [0] (by decide) rfl) hF
   ·refine cond_f hS rfl hc ?_
    refine wp_skip ?_
    exact hJ3 l58 v57 _ _ (hS.sub (sub_cons rfl (sub_cons rfl (sub_cons rfl sub_nil)))) (hM.pick [0] (by decide) rfl) hF
  ·refine cond_f hS rfl hc ?_
   refine wp_exit ?_
   cases hF
   exact hJ1 l58 v57 _ _ (hS.sub (sub_cons rfl sub_nil)) (hM.pick [0] (by decide) rfl) (by have e := hX2 _ rfl; subst e; exact hF2)


theorem c_impl_CountSet (F : Nat) (p0_set : Int) {r : Int} (hF : S_impl_CountSet F p0_set = some r) (w0 : World) :
    Calls Try.prog 102 [(int i64 p0_set)].toArray w0 (retPost fun v w' => v = (int i64 r) ∧ Mem Nob w0 w' []) := by
 have hM : Mem Nob w0 w0 [] := (Mem.nil w0)
 refine enter2 Try.func102 rfl rfl rfl fun Q a hQr hQn hQp hS => ?_
 have hS : Sl 6 [(0, (int i64 p0_set))] a := hS
 unfold S_impl_CountSet at hF
 refine wp_seq_k fun K1 hK1 => ?_
 refine wp_region_lit ?_
 refine st_val hS rfl rfl (by decide) (rv_assign (hS.ev rfl)) fun a hS => ?_
 refine wpList_nil ?_
 refine hK1 _ _ ?_
 refine wp_seq_k fun K2 hK2 => ?_
 refine wp_region_lit ?_
 refine st_val hS rfl rfl (by decide) (rv_move (hS.ev rfl)) fun a hS => ?_
 obtain ⟨r5, hr, hF⟩ := bind_some hF
 refine st_wp hS rfl (wp_call hS rfl rfl (by decide) fn_ok_105 rfl (c_impl_ListOf F p0_set hr _) fun v6 w a hK hS => ?_)
 have hN := hK
 have hM := hM.add hN rfl
 refine st_val hS rfl rfl (by decide) (rv_len_rowM Try.underlying22 (hS.ev rfl) (rd_of_ow (hM.get 0 rfl))) fun a hS => ?_
 refine st_val hS rfl rfl (by decide) (rv_assign (hS.ev rfl)) fun a hS => ?_
 refine wpList_nil ?_
 refine hK2 _ _ ?_
 refine wp_ret ?_
 cases hF
 exact hQr _ _ (r_1 hS rfl rfl ⟨rfl, hM.pick [] (by decide) rfl⟩)


theorem c_impl_CardinalityOrder_c1 (F : Nat) (p0_v : Int) (p1_order : List Int) (q0_Size : Int) (q0_Rows : List Int) (p1_orderv : Value) (q0_Rowsv : Value) (q0b : Nat) {r : Int} (hF : S_impl_CardinalityOrder_c1 F p0_v p1_order q0_Size q0_Rows = some r) (w0 : World) (h0 : RdRow w0 p1_orderv (List.map (int i64) p1_order)) (h1 : RdRow w0 q0_Rowsv (List.map (int i64) q0_Rows)) (h2 : (bx q0b 28 [(int i64 q0_Size), q0_Rowsv]).P w0) :
    Calls Try.prog 100 [(int i64 p0_v), p1_orderv, (fdp q0b 0)].toArray w0 (retPost fun v w' => v = (int i64 r) ∧ Mem Nob w0 w' []) := by
 have hM : Mem Nob w0 w0 [(false, rd p1_orderv (List.map (int i64) p1_order)), (false, rd q0_Rowsv (List.map (int i64) q0_Rows)), (false, bx q0b 28 [(int i64 q0_Size), q0_Rowsv])] := (Mem.rcons (Mem.rcons (Mem.gcons (Mem.nil w0) h2 (by simp)) h1 (by simp)) h0 (by simp))
 refine enter2 Try.func100 rfl rfl rfl fun Q a hQr hQn hQp hS => ?_
 have hS : Sl 21 [(0, (int i64 p0_v)), (1, p1_orderv), (2, (fdp q0b 0))] a := hS
 unfold S_impl_CardinalityOrder_c1 at hF
 refine wp_seq_k fun K1 hK1 => ?_
 refine wp_region_lit ?_
 refine st_val hS rfl rfl (by decide) (rv_assign (hS.ev rfl)) fun a hS => ?_
 refine wpList_nil ?_
 refine hK1 _ _ ?_
 refine wp_seq_k fun K2 hK2 => ?_
 refine wp_region_lit ?_
 refine st_val hS rfl rfl (by decide) (rv_move (hS.ev rfl)) fun a hS => ?_
 obtain ⟨r4, hr, hF⟩ := bind_some hF
 refine st_wp hS rfl (wp_call hS rfl rfl (by decide) fn_ok_101 rfl (c_impl_SetOf F p1_order p1_orderv hr _ (hM.get 0 rfl)) fun v w a hK hS => ?_)
 obtain ⟨rfl, hN⟩ := hK
 have hM := hM.fra hN.fr
 refine st_val hS rfl rfl (by decide) (rv_move (hS.ev rfl)) fun a hS => ?_
 refine st_val hS rfl rfl (by decide) (rv_extract (hS.ev rfl) rfl) fun a hS => ?_
 refine st_val hS rfl rfl (by decide) (rv_extract (hS.ev rfl) rfl) fun a hS => ?_
 refine st_val hS rfl rfl (by decide) (rv_assign (hS.ev rfl)) fun a hS => ?_
 refine st_val hS rfl rfl (by decide) (rv_assign (hS.ev rfl)) fun a hS => ?_
 refine wpList_nil ?_
 refine hK2 _ _ ?_
 have hS : Sl 21 [(0, (int i64 p0_v)), (2, (fdp q0b 0)), (6, (int i64 r4.1))] a := hS.sub (sub_cons rfl (sub_cons rfl (sub_cons rfl sub_nil)))
 have hM := hM.pick [1, 2] (by decide) rfl
 refine wp_seq_k fun K5 hK5 => ?_
 refine wp_region_lit ?_
 refine st_val hS rfl rfl (by decide) (rv_fieldAddr ty_fd_28_1 (hS.ev rfl)) fun a hS => ?_
 refine st_val hS rfl rfl (by decide) (rv_load_bx (hS.ev rfl) ty_ag_22 (hM.get 1 rfl) rfl) fun a hS => ?_
 refine st_val hS rfl rfl (by decide) (rv_move (hS.ev rfl)) fun a hS => ?_
 obtain ⟨x8, hx, hF⟩ := bind_some hF
 obtain ⟨hi0, hi1, hex8⟩ := idxL_some hx
 refine st_val hS rfl rfl (by decide) (rv_indexAddr Try.underlying22 ty_el_3 (hS.ev rfl) (hS.ev rfl) (hM.get 0 rfl) hi0 (map_len hi1)) fun a hS => ?_
 refine st_val hS rfl rfl (by decide) (rv_load_el (hS.ev rfl) ty_ag_3 (hM.get 0 rfl) (mget hex8)) fun a hS => ?_
 refine st_val hS rfl rfl (by decide) (rv_move (hS.ev rfl)) fun a hS => ?_
 refine st_val hS rfl rfl (by decide) (rv_and (hS.ev rfl) (hS.ev rfl)) fun a hS => ?_
 obtain ⟨r9, hr, hF⟩ := bind_some hF
 refine st_wp hS rfl (wp_call hS rfl rfl (by decide) fn_ok_102 rfl (c_impl_CountSet F (bAnd x8 r4.1) hr _) fun v w a hK hS => ?_)
 obtain ⟨rfl, hN⟩ := hK
 have hM := hM.fra hN.fr
 refine st_val hS rfl rfl (by decide) (rv_assign (hS.ev rfl)) fun a hS => ?_
 refine wpList_nil ?_
 refine hK5 _ _ ?_
 have hS : Sl 21 [(5, (int i64 r9))] a := hS.sub (sub_cons rfl sub_nil)
 have hM := hM.pick [] (by decide) rfl
 refine wp_ret ?_
 cases hF
 exact hQr _ _ (r_1 hS rfl rfl ⟨rfl, hM.pick [] (by decide) rfl⟩)


end Go.Proofs.Ytilfniehellmmaa
