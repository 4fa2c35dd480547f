/- Proved here: that each Go function does what its shallow function says -/
import Derived.Test.YtilfniehellmmaaSh
import Derived.Test.YtilfniehellmmaaTy
import Derived.Test.YtilfniehellmmaaK11
import Derived.Test.YtilfniehellmmaaW2
namespace Go.Proofs.Ytilfniehellmmaa
open Go Go.RowKit
set_option linter.unusedVariables false
set_option linter.unusedSimpArgs false
set_option maxRecDepth 100000
set_option maxHeartbeats 4000000

theorem c_impl_IsGraph (F : Nat) (p0_g_Size : Int) (p0_g_Rows : List Int) (p0_g_Rowsv : Value) {r : Bool} (hF : S_impl_IsGraph F p0_g_Size p0_g_Rows = some r) (w0 : World) (h0 : RdRow w0 p0_g_Rowsv (List.map (Value.int IntKind.i64) p0_g_Rows)) :
    Calls Try.prog 110 [(Value.agg #[(Value.int IntKind.i64 p0_g_Size), p0_g_Rowsv])].toArray w0 (retPost fun v w' => v = (Value.bool r) ∧ Mem Nob w0 w' []) := by
  have hM : Mem Nob w0 w0 [(false, rd p0_g_Rowsv (List.map (Value.int IntKind.i64) p0_g_Rows))] := (Mem.rcons (Mem.nil w0) h0 (by simp))
  refine enter2 Try.func110 rfl rfl rfl fun Q a hQr hQn hQp hS => ?_
  have hS : Sl 66 [(0, (Value.agg #[(Value.int IntKind.i64 p0_g_Size), p0_g_Rowsv]))] a := hS
  unfold S_impl_IsGraph at hF
  refine wp_seq_k fun K1 hK1 => ?_
  refine wp_region_lit ?_
  obtain ⟨b3, w, hr, hM⟩ := hM.boxE (ρ := a.eval) (dst := some 1) (ty := _) (pos := _) (af := _) (gd := _) (x := .tmp 0) (T := 28) [(Value.int IntKind.i64 p0_g_Size), p0_g_Rowsv] (hS.ev rfl) rfl
  refine st_val hS rfl rfl (by decide) hr fun a hS => ?_
  refine st_val hS rfl rfl (by decide) (rv_assign (hS.ev rfl)) fun a hS => ?_
  refine wpList_nil ?_
  refine hK1 _ _ ?_
  refine wp_seq_k fun K4 hK4 => ?_
  refine wp_seq_k fun K10 hK10 => ?_
  have hJ1 : ∀ (p12 : Bool) (a : Act) (w : World), Sl 66 [(1, (fdp b3 0)), (19, (Value.bool p12))] a → Mem Nob w0 w [(true, bx b3 28 [(Value.int IntKind.i64 p0_g_Size), p0_g_Rowsv]), (false, rd p0_g_Rowsv (List.map (Value.int IntKind.i64) p0_g_Rows))] → S_impl_IsGraph_j1 F p0_g_Size p0_g_Rows p12 = some r → K10 a w := by
    intro p12 a w hS hM hF
    unfold S_impl_IsGraph_j1 at hF
    refine hK10 _ _ ?_
    rcases ite_some hF with ⟨hc, hF⟩ | ⟨hc, hF⟩
    · refine cond_t hS rfl hc ?_
      refine wp_seq_k fun K13 hK13 => ?_
      refine wp_region_lit ?_
      refine st_val hS rfl rfl (by decide) (rv_assign (hS.ev rfl)) fun a hS => ?_
      refine wpList_nil ?_
      refine hK13 _ _ ?_
      refine wp_ret ?_
      cases hF
      exact hQr _ _ (r_1 hS rfl rfl ⟨rfl, hM.pick [] (by decide) rfl⟩)
    · refine cond_f hS rfl hc ?_
      refine wp_skip ?_
      refine hK4 _ _ ?_
      refine wp_seq_k fun K14 hK14 => ?_
      have hJ2 : ∀ (a : Act) (w : World), Sl 66 [(1, (fdp b3 0))] a → Mem Nob w0 w [(true, bx b3 28 [(Value.int IntKind.i64 p0_g_Size), p0_g_Rowsv]), (false, rd p0_g_Rowsv (List.map (Value.int IntKind.i64) p0_g_Rows))] → S_impl_IsGraph_j2 F p0_g_Rows = some r → K14 a w := by
        intro a w hS hM hF
        unfold S_impl_IsGraph_j2 at hF
        refine hK14 _ _ ?_
        refine wp_seq_k fun K63 hK63 => ?_
        have hJ3 : ∀ (a : Act) (w : World), Sl 66 [] a → Mem Nob w0 w [] → S_impl_IsGraph_j3 F = some r → K63 a w := by
          intro a w hS hM hF
          unfold S_impl_IsGraph_j3 at hF
          refine hK63 _ _ ?_
          refine wp_seq_k fun K260 hK260 => ?_
          refine wp_region_lit ?_
          refine st_val hS rfl rfl (by decide) (rv_assign (hS.ev rfl)) fun a hS => ?_
          refine wpList_nil ?_
          refine hK260 _ _ ?_
          refine wp_ret ?_
          cases hF
          exact hQr _ _ (r_1 hS rfl rfl ⟨rfl, hM.pick [] (by decide) rfl⟩)
        refine wp_seq_k fun K261 hK261 => ?_
        refine wp_region_lit ?_
        refine st_val hS rfl rfl (by decide) (rv_fieldAddr ty_fd_28_1 (hS.ev rfl)) fun a hS => ?_
        refine st_val hS rfl rfl (by decide) (rv_load_bx (hS.ev rfl) ty_ag_22 (hM.get 0 rfl) rfl) fun a hS => ?_
        refine st_val hS rfl rfl (by decide) (rv_len_rowM Try.underlying22 (hS.ev rfl) (hM.get 1 rfl)) fun a hS => ?_
        refine st_val hS rfl rfl (by decide) (rv_move (hS.ev rfl)) fun a hS => ?_
        refine wpList_nil ?_
        refine hK261 _ _ ?_
        refine wp_block ?_
        obtain ⟨lb4, hl4, hF4⟩ := bind_some hF
        refine wp_loop_sh (fun s => S_impl_IsGraph_l4 F p0_g_Rows s) (fun s a w => Sl 66 [(1, (fdp b3 0)), (42, p0_g_Rowsv), (43, (Value.int IntKind.i64 (p0_g_Rows.length : Int))), (44, (Value.int IntKind.i64 s))] a ∧ Mem Nob w0 w [(true, bx b3 28 [(Value.int IntKind.i64 p0_g_Size), p0_g_Rowsv]), (false, rd p0_g_Rowsv (List.map (Value.int IntKind.i64) p0_g_Rows))]) hl4 ⟨(hS.sub (sub_cons rfl (sub_cons rfl (sub_cons rfl (sub_cons rfl sub_nil))))), (hM.pick [0, 1] (by decide) rfl)⟩ ?_
        rintro K4 x262 a w res4 ⟨hS, hM⟩ hF hN4 hX4
        have hF : S_impl_IsGraph_l4 F p0_g_Rows x262 = some res4 := hF
        have hS : Sl 66 [(1, (fdp b3 0)), (42, p0_g_Rowsv), (43, (Value.int IntKind.i64 (p0_g_Rows.length : Int))), (44, (Value.int IntKind.i64 x262))] a := hS
        have hM : Mem Nob w0 w [(true, bx b3 28 [(Value.int IntKind.i64 p0_g_Size), p0_g_Rowsv]), (false, rd p0_g_Rowsv (List.map (Value.int IntKind.i64) p0_g_Rows))] := hM
        unfold S_impl_IsGraph_l4 at hF
        refine wp_seq_k fun K360 hK360 => ?_
        refine wp_region_lit ?_
        refine st_val hS rfl rfl (by decide) (rv_lss (hS.ev rfl) (hS.ev rfl)) fun a hS => ?_
        refine wpList_nil ?_
        refine hK360 _ _ ?_
        refine wp_seq_k fun K361 hK361 => ?_
        rcases ite_some hF with ⟨hc, hF⟩ | ⟨hc, hF⟩
        · refine cond_t hS rfl hc ?_
          refine wp_skip ?_
          refine hK361 _ _ ?_
          refine wp_seq_k fun K362 hK362 => ?_
          have hJ5 : ∀ (a : Act) (w : World), Sl 66 [(1, (fdp b3 0)), (42, p0_g_Rowsv), (43, (Value.int IntKind.i64 (p0_g_Rows.length : Int))), (44, (Value.int IntKind.i64 x262))] a → Mem Nob w0 w [(true, bx b3 28 [(Value.int IntKind.i64 p0_g_Size), p0_g_Rowsv]), (false, rd p0_g_Rowsv (List.map (Value.int IntKind.i64) p0_g_Rows))] → S_impl_IsGraph_j5 F x262 = some res4 → K362 a w := by
            intro a w hS hM hF
            unfold S_impl_IsGraph_j5 at hF
            refine hK362 _ _ ?_
            refine wp_region_lit ?_
            refine st_val hS rfl rfl (by decide) (rv_add (hS.ev rfl) (hS.ev rfl)) fun a hS => ?_
            refine st_val hS rfl rfl (by decide) (rv_move (hS.ev rfl)) fun a hS => ?_
            refine wpList_nil ?_
            cases hF
            exact hN4 _ _ _ rfl ⟨(hS.sub (sub_cons rfl (sub_cons rfl (sub_cons rfl (sub_cons rfl sub_nil))))), (hM.pick [0, 1] (by decide) rfl)⟩
          refine wp_block ?_
          refine wp_seq_k fun K410 hK410 => ?_
          refine wp_region_lit ?_
          refine st_val hS rfl rfl (by decide) (rv_move (hS.ev rfl)) fun a hS => ?_
          obtain ⟨x412, hx, hF⟩ := bind_some hF
          obtain ⟨hi0, hi1, hex412⟩ := idxL_some hx
          refine st_val hS rfl rfl (by decide) (rv_indexAddr Try.underlying22 ty_el_3 (hS.ev rfl) (hS.ev rfl) (hM.get 1 rfl) hi0 (map_len hi1)) fun a hS => ?_
          refine st_val hS rfl rfl (by decide) (rv_load_el (hS.ev rfl) ty_ag_3 (hM.get 1 rfl) (mget hex412)) fun a hS => ?_
          refine st_val hS rfl rfl (by decide) (rv_assign (hS.ev rfl)) fun a hS => ?_
          refine st_val hS rfl rfl (by decide) (rv_assign (hS.ev rfl)) fun a hS => ?_
          refine wpList_nil ?_
          refine hK410 _ _ ?_
          refine wp_seq_k fun K413 hK413 => ?_
          refine wp_region_lit ?_
          refine st_val hS rfl rfl (by decide) (rv_move (hS.ev rfl)) fun a hS => ?_
          refine st_val hS rfl rfl (by decide) (rv_move (hS.ev rfl)) fun a hS => ?_
          refine wpList_nil ?_
          refine hK413 _ _ ?_
          refine wp_block ?_
          obtain ⟨lb6, hl6, hF6⟩ := bind_some hF
          refine wp_loop_sh (fun s => S_impl_IsGraph_l6 F p0_g_Rows x262 x412 s) (fun s a w => Sl 66 [(1, (fdp b3 0)), (5, (Value.int IntKind.i64 x262)), (6, (Value.int IntKind.i64 x412)), (42, p0_g_Rowsv), (43, (Value.int IntKind.i64 (p0_g_Rows.length : Int))), (44, (Value.int IntKind.i64 x262)), (49, (Value.int IntKind.i64 x262)), (50, (Value.int IntKind.i64 s))] a ∧ Mem Nob w0 w [(true, bx b3 28 [(Value.int IntKind.i64 p0_g_Size), p0_g_Rowsv]), (false, rd p0_g_Rowsv (List.map (Value.int IntKind.i64) p0_g_Rows))]) hl6 ⟨(hS.sub (sub_cons rfl (sub_cons rfl (sub_cons rfl (sub_cons rfl (sub_cons rfl (sub_cons rfl (sub_cons rfl (sub_cons rfl sub_nil))))))))), (hM.pick [0, 1] (by decide) rfl)⟩ ?_
          rintro K6 x414 a w res6 ⟨hS, hM⟩ hF hN6 hX6
          have hF : S_impl_IsGraph_l6 F p0_g_Rows x262 x412 x414 = some res6 := hF
          have hS : Sl 66 [(1, (fdp b3 0)), (5, (Value.int IntKind.i64 x262)), (6, (Value.int IntKind.i64 x412)), (42, p0_g_Rowsv), (43, (Value.int IntKind.i64 (p0_g_Rows.length : Int))), (44, (Value.int IntKind.i64 x262)), (49, (Value.int IntKind.i64 x262)), (50, (Value.int IntKind.i64 x414))] a := hS
          have hM : Mem Nob w0 w [(true, bx b3 28 [(Value.int IntKind.i64 p0_g_Size), p0_g_Rowsv]), (false, rd p0_g_Rowsv (List.map (Value.int IntKind.i64) p0_g_Rows))] := hM
          unfold S_impl_IsGraph_l6 at hF
          refine wp_seq_k fun K436 hK436 => ?_
          refine wp_region_lit ?_
          refine st_val hS rfl rfl (by decide) (rv_lss (hS.ev rfl) (hS.ev rfl)) fun a hS => ?_
          refine wpList_nil ?_
          refine hK436 _ _ ?_
          refine wp_seq_k fun K437 hK437 => ?_
          rcases ite_some hF with ⟨hc, hF⟩ | ⟨hc, hF⟩
          · refine cond_t hS rfl hc ?_
            refine wp_skip ?_
            refine hK437 _ _ ?_
            refine wp_seq_k fun K438 hK438 => ?_
            refine wp_block ?_
            refine wp_seq_k fun K448 hK448 => ?_
            refine wp_region_lit ?_
            refine st_val hS rfl rfl (by decide) (rv_move (hS.ev rfl)) fun a hS => ?_
            refine st_val hS rfl rfl (by decide) (rv_assign (hS.ev rfl)) fun a hS => ?_
            refine wpList_nil ?_
            refine hK448 _ _ ?_
            refine wp_seq_k fun K449 hK449 => ?_
            refine an_start Nob ty_mixed fun w hf => ?_
            have hM := hM.fra hf
            have hB := hM
            have hM := hB.reg0
            refine an_take hS (i := 0) rfl (by kernel_rfl) (by kernel_rfl) (by kernel_rfl) rfl (by decide) (fun c a a' w hd h => hQp c a a' w hd h) rfl (fun w' hC' => (rv_move (hS.ev rfl))) hM.fr fun a hS => ?_
            refine an_take hS (i := 1) rfl (by kernel_rfl) (by kernel_rfl) (by kernel_rfl) rfl (by decide) (fun c a a' w hd h => hQp c a a' w hd h) rfl (fun w' hC' => (rv_move (hS.ev rfl))) hM.fr fun a hS => ?_
            refine an_take hS (i := 3) rfl (by kernel_rfl) (by kernel_rfl) (by kernel_rfl) rfl (by decide) (fun c a a' w hd h => hQp c a a' w hd h) rfl (fun w' hC' => (rv_fieldAddr ty_fd_28_1 (hS.ev rfl))) hM.fr fun a hS => ?_
            refine an_take hS (i := 4) rfl (by kernel_rfl) (by kernel_rfl) (by kernel_rfl) rfl (by decide) (fun c a a' w hd h => hQp c a a' w hd h) rfl (fun w' hC' => (rv_load_bx (hS.ev rfl) ty_ag_22 ((hB.fra hC').get 0 rfl) rfl)) hM.fr fun a hS => ?_
            refine an_take hS (i := 5) rfl (by kernel_rfl) (by kernel_rfl) (by kernel_rfl) rfl (by decide) (fun c a a' w hd h => hQp c a a' w hd h) rfl (fun w' hC' => (rv_move (hS.ev rfl))) hM.fr fun a hS => ?_
            obtain ⟨x453, hx, hF⟩ := bind_some hF
            obtain ⟨hi0, hi1, hex453⟩ := idxL_some hx
            refine an_take hS (i := 6) rfl (by kernel_rfl) (by kernel_rfl) (by kernel_rfl) rfl (by decide) (fun c a a' w hd h => hQp c a a' w hd h) rfl (fun w' hC' => (rv_indexAddr Try.underlying22 ty_el_3 (hS.ev rfl) (hS.ev rfl) (hM.get 1 rfl) hi0 (map_len hi1))) hM.fr fun a hS => ?_
            refine an_take hS (i := 7) rfl (by kernel_rfl) (by kernel_rfl) (by kernel_rfl) rfl (by decide) (fun c a a' w hd h => hQp c a a' w hd h) rfl (fun w' hC' => (rv_load_el (hS.ev rfl) ty_ag_3 ((hB.fra hC').get 1 rfl) (mget hex453))) hM.fr fun a hS => ?_
            refine an_take hS (i := 8) rfl (by kernel_rfl) (by kernel_rfl) (by kernel_rfl) rfl (by decide) (fun c a a' w hd h => hQp c a a' w hd h) rfl (fun w' hC' => (rv_move (hS.ev rfl))) hM.fr fun a hS => ?_
            obtain ⟨r454, hr, hF⟩ := bind_some hF
            refine an_one hS (i := 2) rfl (by kernel_rfl) rfl ?_
            refine wp_call hS rfl rfl (by decide) fn_ok_108 rfl (c_impl_has F x412 x414 hr _) fun v w a hK hS => ?_
            obtain ⟨rfl, hN⟩ := hK
            have hM := hM.fra hN.fr
            refine ⟨hM.fr, ?_⟩
            obtain ⟨r455, hr, hF⟩ := bind_some hF
            refine an_one hS (i := 9) rfl (by kernel_rfl) rfl ?_
            refine wp_call hS rfl rfl (by decide) fn_ok_108 rfl (c_impl_has F x453 x262 hr _) fun v w a hK hS => ?_
            obtain ⟨rfl, hN⟩ := hK
            have hM := hM.fra hN.fr
            refine ⟨hM.fr, ?_⟩
            refine an_take hS (i := 10) rfl (by kernel_rfl) (by kernel_rfl) (by kernel_rfl) rfl (by decide) (fun c a a' w hd h => hQp c a a' w hd h) rfl (fun w' hC' => (rv_bneq Try.underlying4 (hS.ev rfl) (hS.ev rfl))) hM.fr fun a hS => ?_
            refine an_done (by kernel_rfl) ?_
            have hN := hM.pick [] (by decide) rfl
            have hM := Mem.callo (A := []) (B := [(true, bx b3 28 [(Value.int IntKind.i64 p0_g_Size), p0_g_Rowsv]), (false, rd p0_g_Rowsv (List.map (Value.int IntKind.i64) p0_g_Rows))]) hB rfl (hN.memS fun _ h => h.elim) rfl
            refine hK449 _ _ ?_
            rcases ite_some hF with ⟨hc, hF⟩ | ⟨hc, hF⟩
            · refine cond_t hS rfl hc ?_
              refine wp_seq_k fun K456 hK456 => ?_
              refine wp_region_lit ?_
              refine st_val hS rfl rfl (by decide) (rv_assign (hS.ev rfl)) fun a hS => ?_
              refine wpList_nil ?_
              refine hK456 _ _ ?_
              refine wp_ret ?_
              cases hF
              have e := hX6 _ rfl
              subst e
              have hF := hF6
              cases hF
              have e := hX4 _ rfl
              subst e
              have hF := hF4
              cases hF
              exact hQr _ _ (r_1 hS rfl rfl ⟨rfl, hM.pick [] (by decide) rfl⟩)
            · refine cond_f hS rfl hc ?_
              refine wp_skip ?_
              refine hK438 _ _ ?_
              refine wp_region_lit ?_
              refine st_val hS rfl rfl (by decide) (rv_add (hS.ev rfl) (hS.ev rfl)) fun a hS => ?_
              refine st_val hS rfl rfl (by decide) (rv_move (hS.ev rfl)) fun a hS => ?_
              refine wpList_nil ?_
              cases hF
              exact hN6 _ _ _ rfl ⟨(hS.sub (sub_cons rfl (sub_cons rfl (sub_cons rfl (sub_cons rfl (sub_cons rfl (sub_cons rfl (sub_cons rfl (sub_cons rfl sub_nil))))))))), (hM.pick [0, 1] (by decide) rfl)⟩
          · refine cond_f hS rfl hc ?_
            refine wp_exit ?_
            cases hF
            exact hJ5 _ _ (hS.sub (sub_cons rfl (sub_cons rfl (sub_cons rfl (sub_cons rfl sub_nil))))) (hM.pick [0, 1] (by decide) rfl) (by have e := hX6 _ rfl; subst e; exact hF6)
        · refine cond_f hS rfl hc ?_
          refine wp_exit ?_
          cases hF
          exact hJ3 _ _ (hS.sub sub_nil) (hM.pick [] (by decide) rfl) (by have e := hX4 _ rfl; subst e; exact hF4)
      refine wp_seq_k fun K457 hK457 => ?_
      refine wp_region_lit ?_
      refine st_val hS rfl rfl (by decide) (rv_fieldAddr ty_fd_28_1 (hS.ev rfl)) fun a hS => ?_
      refine st_val hS rfl rfl (by decide) (rv_load_bx (hS.ev rfl) ty_ag_22 (hM.get 0 rfl) rfl) fun a hS => ?_
      refine st_val hS rfl rfl (by decide) (rv_len_rowM Try.underlying22 (hS.ev rfl) (hM.get 1 rfl)) fun a hS => ?_
      refine st_val hS rfl rfl (by decide) (rv_move (hS.ev rfl)) fun a hS => ?_
      refine wpList_nil ?_
      refine hK457 _ _ ?_
      refine wp_block ?_
      obtain ⟨lb7, hl7, hF7⟩ := bind_some hF
      refine wp_loop_sh (fun s => S_impl_IsGraph_l7 F p0_g_Size p0_g_Rows s) (fun s a w => Sl 66 [(1, (fdp b3 0)), (21, p0_g_Rowsv), (22, (Value.int IntKind.i64 (p0_g_Rows.length : Int))), (23, (Value.int IntKind.i64 s))] a ∧ Mem Nob w0 w [(true, bx b3 28 [(Value.int IntKind.i64 p0_g_Size), p0_g_Rowsv]), (false, rd p0_g_Rowsv (List.map (Value.int IntKind.i64) p0_g_Rows))]) hl7 ⟨(hS.sub (sub_cons rfl (sub_cons rfl (sub_cons rfl (sub_cons rfl sub_nil))))), (hM.pick [0, 1] (by decide) rfl)⟩ ?_
      rintro K7 x458 a w res7 ⟨hS, hM⟩ hF hN7 hX7
      have hF : S_impl_IsGraph_l7 F p0_g_Size p0_g_Rows x458 = some res7 := hF
      have hS : Sl 66 [(1, (fdp b3 0)), (21, p0_g_Rowsv), (22, (Value.int IntKind.i64 (p0_g_Rows.length : Int))), (23, (Value.int IntKind.i64 x458))] a := hS
      have hM : Mem Nob w0 w [(true, bx b3 28 [(Value.int IntKind.i64 p0_g_Size), p0_g_Rowsv]), (false, rd p0_g_Rowsv (List.map (Value.int IntKind.i64) p0_g_Rows))] := hM
      unfold S_impl_IsGraph_l7 at hF
      refine wp_seq_k fun K482 hK482 => ?_
      refine wp_region_lit ?_
      refine st_val hS rfl rfl (by decide) (rv_lss (hS.ev rfl) (hS.ev rfl)) fun a hS => ?_
      refine wpList_nil ?_
      refine hK482 _ _ ?_
      refine wp_seq_k fun K483 hK483 => ?_
      rcases ite_some hF with ⟨hc, hF⟩ | ⟨hc, hF⟩
      · refine cond_t hS rfl hc ?_
        refine wp_skip ?_
        refine hK483 _ _ ?_
        refine wp_seq_k fun K484 hK484 => ?_
        refine wp_block ?_
        refine wp_seq_k fun K495 hK495 => ?_
        refine wp_region_lit ?_
        refine st_val hS rfl rfl (by decide) (rv_move (hS.ev rfl)) fun a hS => ?_
        obtain ⟨x497, hx, hF⟩ := bind_some hF
        obtain ⟨hi0, hi1, hex497⟩ := idxL_some hx
        refine st_val hS rfl rfl (by decide) (rv_indexAddr Try.underlying22 ty_el_3 (hS.ev rfl) (hS.ev rfl) (hM.get 1 rfl) hi0 (map_len hi1)) fun a hS => ?_
        refine st_val hS rfl rfl (by decide) (rv_load_el (hS.ev rfl) ty_ag_3 (hM.get 1 rfl) (mget hex497)) fun a hS => ?_
        refine st_val hS rfl rfl (by decide) (rv_assign (hS.ev rfl)) fun a hS => ?_
        refine st_val hS rfl rfl (by decide) (rv_assign (hS.ev rfl)) fun a hS => ?_
        refine wpList_nil ?_
        refine hK495 _ _ ?_
        refine wp_seq_k fun K498 hK498 => ?_
        have hJ8 : ∀ (p501 : Bool) (a : Act) (w : World), Sl 66 [(1, (fdp b3 0)), (21, p0_g_Rowsv), (22, (Value.int IntKind.i64 (p0_g_Rows.length : Int))), (23, (Value.int IntKind.i64 x458)), (39, (Value.bool p501))] a → Mem Nob w0 w [(true, bx b3 28 [(Value.int IntKind.i64 p0_g_Size), p0_g_Rowsv]), (false, rd p0_g_Rowsv (List.map (Value.int IntKind.i64) p0_g_Rows))] → S_impl_IsGraph_j8 F x458 p501 = some res7 → K498 a w := by
          intro p501 a w hS hM hF
          unfold S_impl_IsGraph_j8 at hF
          refine hK498 _ _ ?_
          rcases ite_some hF with ⟨hc, hF⟩ | ⟨hc, hF⟩
          · refine cond_t hS rfl hc ?_
            refine wp_seq_k fun K502 hK502 => ?_
            refine wp_region_lit ?_
            refine st_val hS rfl rfl (by decide) (rv_assign (hS.ev rfl)) fun a hS => ?_
            refine wpList_nil ?_
            refine hK502 _ _ ?_
            refine wp_ret ?_
            cases hF
            have e := hX7 _ rfl
            subst e
            have hF := hF7
            cases hF
            exact hQr _ _ (r_1 hS rfl rfl ⟨rfl, hM.pick [] (by decide) rfl⟩)
          · refine cond_f hS rfl hc ?_
            refine wp_skip ?_
            refine hK484 _ _ ?_
            refine wp_region_lit ?_
            refine st_val hS rfl rfl (by decide) (rv_add (hS.ev rfl) (hS.ev rfl)) fun a hS => ?_
            refine st_val hS rfl rfl (by decide) (rv_move (hS.ev rfl)) fun a hS => ?_
            refine wpList_nil ?_
            cases hF
            exact hN7 _ _ _ rfl ⟨(hS.sub (sub_cons rfl (sub_cons rfl (sub_cons rfl (sub_cons rfl sub_nil))))), (hM.pick [0, 1] (by decide) rfl)⟩
        refine wp_region_lit ?_
        refine st_val hS rfl rfl (by decide) (rv_move (hS.ev rfl)) fun a hS => ?_
        refine st_val hS rfl rfl (by decide) (rv_fieldAddr ty_fd_28_0 (hS.ev rfl)) fun a hS => ?_
        refine st_val hS rfl rfl (by decide) (rv_load_bx (hS.ev rfl) ty_ag_3 (hM.get 0 rfl) rfl) fun a hS => ?_
        obtain ⟨_, hx, hF⟩ := bind_some hF
        have hi0 := nnO_some hx
        refine st_val hS rfl rfl (by decide) (rv_shl (hS.ev rfl) (hS.ev rfl) hi0) fun a hS => ?_
        refine st_val hS rfl rfl (by decide) (rv_sub (hS.ev rfl) (hS.ev rfl)) fun a hS => ?_
        obtain ⟨r503, hr, hF⟩ := bind_some hF
        refine st_wp hS rfl (wp_call hS rfl rfl (by decide) fn_ok_76 rfl (c_impl_within F x497 0 (IntKind.i64.wrap ((shL 1 p0_g_Size) - 1)) hr _) fun v w a hK hS => ?_)
        obtain ⟨rfl, hN⟩ := hK
        have hM := hM.fra hN.fr
        refine st_val hS rfl rfl (by decide) (rv_not (hS.ev rfl)) fun a hS => ?_
        refine st_val hS rfl rfl (by decide) (rv_move (hS.ev rfl)) fun a hS => ?_
        rcases ite_some hF with ⟨hc, hF⟩ | ⟨hc, hF⟩
        · have hS := hS.setb (t := 35) rfl hc
          refine st_skip hS rfl rfl (by decide) fun a hS => ?_
          refine st_skip hS rfl rfl (by decide) fun a hS => ?_
          refine st_skip hS rfl rfl (by decide) fun a hS => ?_
          refine st_val hS rfl rfl (by decide) (rv_pick_t (hS.ev rfl) (hS.ev rfl)) fun a hS => ?_
          refine wpList_nil ?_
          exact hJ8 true _ _ (hS.sub (sub_cons rfl (sub_cons rfl (sub_cons rfl (sub_cons rfl (sub_cons rfl sub_nil)))))) (hM.pick [0, 1] (by decide) rfl) hF
        · have hS := hS.setb (t := 35) rfl hc
          refine st_val hS rfl rfl (by decide) (rv_move (hS.ev rfl)) fun a hS => ?_
          refine st_val hS rfl rfl (by decide) (rv_move (hS.ev rfl)) fun a hS => ?_
          obtain ⟨r504, hr, hF⟩ := bind_some hF
          refine st_wp hS rfl (wp_call hS rfl rfl (by decide) fn_ok_108 rfl (c_impl_has F x497 x458 hr _) fun v w a hK hS => ?_)
          obtain ⟨rfl, hN⟩ := hK
          have hM := hM.fra hN.fr
          refine st_val hS rfl rfl (by decide) (rv_pick_f (hS.ev rfl) (hS.ev rfl)) fun a hS => ?_
          refine wpList_nil ?_
          exact hJ8 r504 _ _ (hS.sub (sub_cons rfl (sub_cons rfl (sub_cons rfl (sub_cons rfl (sub_cons rfl sub_nil)))))) (hM.pick [0, 1] (by decide) rfl) hF
      · refine cond_f hS rfl hc ?_
        refine wp_exit ?_
        cases hF
        exact hJ2 _ _ (hS.sub (sub_cons rfl sub_nil)) (hM.pick [0, 1] (by decide) rfl) (by have e := hX7 _ rfl; subst e; exact hF7)
  refine wp_region_lit ?_
  refine st_val hS rfl rfl (by decide) (rv_fieldAddr ty_fd_28_0 (hS.ev rfl)) fun a hS => ?_
  refine st_val hS rfl rfl (by decide) (rv_load_bx (hS.ev rfl) ty_ag_3 (hM.get 0 rfl) rfl) fun a hS => ?_
  obtain ⟨r505, hr, hF⟩ := bind_some hF
  refine st_wp hS rfl (wp_call hS rfl rfl (by decide) fn_ok_76 rfl (c_impl_within F p0_g_Size 1 7 hr _) fun v w a hK hS => ?_)
  obtain ⟨rfl, hN⟩ := hK
  have hM := hM.fra hN.fr
  refine st_val hS rfl rfl (by decide) (rv_not (hS.ev rfl)) fun a hS => ?_
  refine st_val hS rfl rfl (by decide) (rv_move (hS.ev rfl)) fun a hS => ?_
  rcases ite_some hF with ⟨hc, hF⟩ | ⟨hc, hF⟩
  · have hS := hS.setb (t := 12) rfl hc
    refine st_skip hS rfl rfl (by decide) fun a hS => ?_
    refine st_skip hS rfl rfl (by decide) fun a hS => ?_
    refine st_skip hS rfl rfl (by decide) fun a hS => ?_
    refine st_skip hS rfl rfl (by decide) fun a hS => ?_
    refine st_skip hS rfl rfl (by decide) fun a hS => ?_
    refine st_skip hS rfl rfl (by decide) fun a hS => ?_
    refine st_val hS rfl rfl (by decide) (rv_pick_t (hS.ev rfl) (hS.ev rfl)) fun a hS => ?_
    refine wpList_nil ?_
    exact hJ1 true _ _ (hS.sub (sub_cons rfl (sub_cons rfl sub_nil))) (hM.pick [0, 1] (by decide) rfl) hF
  · have hS := hS.setb (t := 12) rfl hc
    refine st_val hS rfl rfl (by decide) (rv_fieldAddr ty_fd_28_1 (hS.ev rfl)) fun a hS => ?_
    refine st_val hS rfl rfl (by decide) (rv_load_bx (hS.ev rfl) ty_ag_22 (hM.get 0 rfl) rfl) fun a hS => ?_
    refine st_val hS rfl rfl (by decide) (rv_len_rowM Try.underlying22 (hS.ev rfl) (hM.get 1 rfl)) fun a hS => ?_
    refine st_val hS rfl rfl (by decide) (rv_fieldAddr ty_fd_28_0 (hS.ev rfl)) fun a hS => ?_
    refine st_val hS rfl rfl (by decide) (rv_load_bx (hS.ev rfl) ty_ag_3 (hM.get 0 rfl) rfl) fun a hS => ?_
    refine st_val hS rfl rfl (by decide) (rv_neq (hS.ev rfl) (hS.ev rfl)) fun a hS => ?_
    refine st_val hS rfl rfl (by decide) (rv_pick_f (hS.ev rfl) (hS.ev rfl)) fun a hS => ?_
    refine wpList_nil ?_
    exact hJ1 ((p0_g_Rows.length : Int) != p0_g_Size) _ _ (hS.sub (sub_cons rfl (sub_cons rfl sub_nil))) (hM.pick [0, 1] (by decide) rfl) hF


theorem c_impl_areVertices (F : Nat) (p0_g_Size : Int) (p0_g_Rows : List Int) (p1_l : List Int) (p0_g_Rowsv : Value) (p1_lv : Value) {r : Bool} (hF : S_impl_areVertices F p0_g_Size p0_g_Rows p1_l = some r) (w0 : World) (h0 : RdRow w0 p0_g_Rowsv (List.map (Value.int IntKind.i64) p0_g_Rows)) (h1 : RdRow w0 p1_lv (List.map (Value.int IntKind.i64) p1_l)) :
    Calls Try.prog 107 [(Value.agg #[(Value.int IntKind.i64 p0_g_Size), p0_g_Rowsv]), p1_lv].toArray w0 (retPost fun v w' => v = (Value.bool r) ∧ Mem Nob w0 w' []) := by
  have hM : Mem Nob w0 w0 [(false, rd p0_g_Rowsv (List.map (Value.int IntKind.i64) p0_g_Rows)), (false, rd p1_lv (List.map (Value.int IntKind.i64) p1_l))] := (Mem.rcons (Mem.rcons (Mem.nil w0) h1 (by simp)) h0 (by simp))
  refine enter2 Try.func107 rfl rfl rfl fun Q a hQr hQn hQp hS => ?_
  have hS : Sl 30 [(0, (Value.agg #[(Value.int IntKind.i64 p0_g_Size), p0_g_Rowsv])), (1, p1_lv)] a := hS
  unfold S_impl_areVertices at hF
  refine wp_seq_k fun K1 hK1 => ?_
  refine wp_region_lit ?_
  obtain ⟨b3, w, hr, hM⟩ := hM.boxE (ρ := a.eval) (dst := some 2) (ty := _) (pos := _) (af := _) (gd := _) (x := .tmp 0) (T := 28) [(Value.int IntKind.i64 p0_g_Size), p0_g_Rowsv] (hS.ev rfl) rfl
  refine st_val hS rfl rfl (by decide) hr fun a hS => ?_
  refine st_val hS rfl rfl (by decide) (rv_assign (hS.ev rfl)) fun a hS => ?_
  refine wpList_nil ?_
  refine hK1 _ _ ?_
  refine wp_seq_k fun K4 hK4 => ?_
  have hJ1 : ∀ (a : Act) (w : World), Sl 30 [(2, (fdp b3 0))] a → Mem Nob w0 w [(true, bx b3 28 [(Value.int IntKind.i64 p0_g_Size), p0_g_Rowsv]), (false, rd p0_g_Rowsv (List.map (Value.int IntKind.i64) p0_g_Rows))] → S_impl_areVertices_j1 F p0_g_Size p0_g_Rows = some r → K4 a w := by
    intro a w hS hM hF
    unfold S_impl_areVertices_j1 at hF
    refine hK4 _ _ ?_
    refine wp_seq_k fun K61 hK61 => ?_
    refine wp_region_lit ?_
    refine st_val hS rfl rfl (by decide) (rv_load_agg (hS.ev rfl) ty_ag_28 (hM.get 0 rfl) ty_sz_28) fun a hS => ?_
    obtain ⟨r63, hr, hF⟩ := bind_some hF
    refine st_wp hS rfl (wp_call hS rfl rfl (by decide) fn_ok_110 rfl (c_impl_IsGraph F p0_g_Size p0_g_Rows p0_g_Rowsv hr _ (hM.get 1 rfl)) fun v w a hK hS => ?_)
    obtain ⟨rfl, hN⟩ := hK
    have hM := hM.fra hN.fr
    refine st_val hS rfl rfl (by decide) (rv_assign (hS.ev rfl)) fun a hS => ?_
    refine wpList_nil ?_
    refine hK61 _ _ ?_
    refine wp_ret ?_
    cases hF
    exact hQr _ _ (r_1 hS rfl rfl ⟨rfl, hM.pick [] (by decide) rfl⟩)
  refine wp_seq_k fun K64 hK64 => ?_
  refine wp_region_lit ?_
  refine st_val hS rfl rfl (by decide) (rv_move (hS.ev rfl)) fun a hS => ?_
  refine st_val hS rfl rfl (by decide) (rv_len_rowM Try.underlying22 (hS.ev rfl) (hM.get 2 rfl)) fun a hS => ?_
  refine st_val hS rfl rfl (by decide) (rv_move (hS.ev rfl)) fun a hS => ?_
  refine wpList_nil ?_
  refine hK64 _ _ ?_
  refine wp_block ?_
  obtain ⟨lb2, hl2, hF2⟩ := bind_some hF
  refine wp_loop_sh (fun s => S_impl_areVertices_l2 F p0_g_Size p1_l s) (fun s a w => Sl 30 [(1, p1_lv), (2, (fdp b3 0)), (7, p1_lv), (8, (Value.int IntKind.i64 (p1_l.length : Int))), (9, (Value.int IntKind.i64 s))] a ∧ Mem Nob w0 w [(false, rd p1_lv (List.map (Value.int IntKind.i64) p1_l)), (true, bx b3 28 [(Value.int IntKind.i64 p0_g_Size), p0_g_Rowsv]), (false, rd p0_g_Rowsv (List.map (Value.int IntKind.i64) p0_g_Rows))]) hl2 ⟨(hS.sub (sub_cons rfl (sub_cons rfl (sub_cons rfl (sub_cons rfl (sub_cons rfl sub_nil)))))), (hM.pick [2, 0, 1] (by decide) rfl)⟩ ?_
  rintro K2 x65 a w res2 ⟨hS, hM⟩ hF hN2 hX2
  have hF : S_impl_areVertices_l2 F p0_g_Size p1_l x65 = some res2 := hF
  have hS : Sl 30 [(1, p1_lv), (2, (fdp b3 0)), (7, p1_lv), (8, (Value.int IntKind.i64 (p1_l.length : Int))), (9, (Value.int IntKind.i64 x65))] a := hS
  have hM : Mem Nob w0 w [(false, rd p1_lv (List.map (Value.int IntKind.i64) p1_l)), (true, bx b3 28 [(Value.int IntKind.i64 p0_g_Size), p0_g_Rowsv]), (false, rd p0_g_Rowsv (List.map (Value.int IntKind.i64) p0_g_Rows))] := hM
  unfold S_impl_areVertices_l2 at hF
  refine wp_seq_k fun K93 hK93 => ?_
  refine wp_region_lit ?_
  refine st_val hS rfl rfl (by decide) (rv_lss (hS.ev rfl) (hS.ev rfl)) fun a hS => ?_
  refine wpList_nil ?_
  refine hK93 _ _ ?_
  refine wp_seq_k fun K94 hK94 => ?_
  rcases ite_some hF with ⟨hc, hF⟩ | ⟨hc, hF⟩
  · refine cond_t hS rfl hc ?_
    refine wp_skip ?_
    refine hK94 _ _ ?_
    refine wp_seq_k fun K95 hK95 => ?_
    refine wp_block ?_
    refine wp_seq_k fun K108 hK108 => ?_
    refine wp_region_lit ?_
    refine st_val hS rfl rfl (by decide) (rv_move (hS.ev rfl)) fun a hS => ?_
    obtain ⟨x110, hx, hF⟩ := bind_some hF
    obtain ⟨hi0, hi1, hex110⟩ := idxL_some hx
    refine st_val hS rfl rfl (by decide) (rv_indexAddr Try.underlying22 ty_el_3 (hS.ev rfl) (hS.ev rfl) (hM.get 0 rfl) hi0 (map_len hi1)) fun a hS => ?_
    refine st_val hS rfl rfl (by decide) (rv_load_el (hS.ev rfl) ty_ag_3 (hM.get 0 rfl) (mget hex110)) fun a hS => ?_
    refine st_val hS rfl rfl (by decide) (rv_assign (hS.ev rfl)) fun a hS => ?_
    refine st_val hS rfl rfl (by decide) (rv_assign (hS.ev rfl)) fun a hS => ?_
    refine wpList_nil ?_
    refine hK108 _ _ ?_
    refine wp_seq_k fun K111 hK111 => ?_
    have hJ3 : ∀ (p115 : Bool) (a : Act) (w : World), Sl 30 [(1, p1_lv), (2, (fdp b3 0)), (7, p1_lv), (8, (Value.int IntKind.i64 (p1_l.length : Int))), (9, (Value.int IntKind.i64 x65)), (26, (Value.bool p115))] a → Mem Nob w0 w [(false, rd p1_lv (List.map (Value.int IntKind.i64) p1_l)), (true, bx b3 28 [(Value.int IntKind.i64 p0_g_Size), p0_g_Rowsv]), (false, rd p0_g_Rowsv (List.map (Value.int IntKind.i64) p0_g_Rows))] → S_impl_areVertices_j3 F x65 p115 = some res2 → K111 a w := by
      intro p115 a w hS hM hF
      unfold S_impl_areVertices_j3 at hF
      refine hK111 _ _ ?_
      rcases ite_some hF with ⟨hc, hF⟩ | ⟨hc, hF⟩
      · refine cond_t hS rfl hc ?_
        refine wp_seq_k fun K116 hK116 => ?_
        refine wp_region_lit ?_
        refine st_val hS rfl rfl (by decide) (rv_assign (hS.ev rfl)) fun a hS => ?_
        refine wpList_nil ?_
        refine hK116 _ _ ?_
        refine wp_ret ?_
        cases hF
        have e := hX2 _ rfl
        subst e
        have hF := hF2
        cases hF
        exact hQr _ _ (r_1 hS rfl rfl ⟨rfl, hM.pick [] (by decide) rfl⟩)
      · refine cond_f hS rfl hc ?_
        refine wp_skip ?_
        refine hK95 _ _ ?_
        refine wp_region_lit ?_
        refine st_val hS rfl rfl (by decide) (rv_add (hS.ev rfl) (hS.ev rfl)) fun a hS => ?_
        refine st_val hS rfl rfl (by decide) (rv_move (hS.ev rfl)) fun a hS => ?_
        refine wpList_nil ?_
        cases hF
        exact hN2 _ _ _ rfl ⟨(hS.sub (sub_cons rfl (sub_cons rfl (sub_cons rfl (sub_cons rfl (sub_cons rfl sub_nil)))))), (hM.pick [0, 1, 2] (by decide) rfl)⟩
    refine wp_region_lit ?_
    refine st_val hS rfl rfl (by decide) (rv_move (hS.ev rfl)) fun a hS => ?_
    refine st_val hS rfl rfl (by decide) (rv_fieldAddr ty_fd_28_0 (hS.ev rfl)) fun a hS => ?_
    refine st_val hS rfl rfl (by decide) (rv_load_bx (hS.ev rfl) ty_ag_3 (hM.get 1 rfl) rfl) fun a hS => ?_
    refine st_val hS rfl rfl (by decide) (rv_sub (hS.ev rfl) (hS.ev rfl)) fun a hS => ?_
    obtain ⟨r117, hr, hF⟩ := bind_some hF
    refine st_wp hS rfl (wp_call hS rfl rfl (by decide) fn_ok_76 rfl (c_impl_within F x110 0 (IntKind.i64.wrap (p0_g_Size - 1)) hr _) fun v w a hK hS => ?_)
    obtain ⟨rfl, hN⟩ := hK
    have hM := hM.fra hN.fr
    refine st_val hS rfl rfl (by decide) (rv_not (hS.ev rfl)) fun a hS => ?_
    refine st_val hS rfl rfl (by decide) (rv_move (hS.ev rfl)) fun a hS => ?_
    rcases ite_some hF with ⟨hc, hF⟩ | ⟨hc, hF⟩
    · have hS := hS.setb (t := 20) rfl hc
      refine st_skip hS rfl rfl (by decide) fun a hS => ?_
      refine st_skip hS rfl rfl (by decide) fun a hS => ?_
      refine st_skip hS rfl rfl (by decide) fun a hS => ?_
      refine st_skip hS rfl rfl (by decide) fun a hS => ?_
      refine st_skip hS rfl rfl (by decide) fun a hS => ?_
      refine st_val hS rfl rfl (by decide) (rv_pick_t (hS.ev rfl) (hS.ev rfl)) fun a hS => ?_
      refine wpList_nil ?_
      exact hJ3 true _ _ (hS.sub (sub_cons rfl (sub_cons rfl (sub_cons rfl (sub_cons rfl (sub_cons rfl (sub_cons rfl sub_nil))))))) (hM.pick [0, 1, 2] (by decide) rfl) hF
    · have hS := hS.setb (t := 20) rfl hc
      refine st_val hS rfl rfl (by decide) (rv_move (hS.ev rfl)) fun a hS => ?_
      refine st_val hS rfl rfl (by decide) (rv_move (hS.ev rfl)) fun a hS => ?_
      obtain ⟨_, hx, hF⟩ := bind_some hF
      have hj118 := slO_some hx
      refine st_val hS rfl rfl (by decide) (rv_slH Try.underlying22 ty_el_3 (hS.ev rfl) (hS.ev rfl) (hM.get 0 rfl) hj118.1 (map_le hj118.2)) fun a hS => ?_
      refine st_val hS rfl rfl (by decide) (rv_move (hS.ev rfl)) fun a hS => ?_
      obtain ⟨r119, hr, hF⟩ := bind_some hF
      refine st_wp hS rfl (wp_call hS rfl rfl (by decide) fn_ok_106 rfl (c_slices_Contains_int F (p1_l.take (x65.toNat)) x110 (slH p1_lv (x65.toNat)) hr _ (rd_slHm (hM.get 0 rfl) hj118.2)) fun v w a hK hS => ?_)
      obtain ⟨rfl, hN⟩ := hK
      have hM := hM.fra hN.fr
      refine st_val hS rfl rfl (by decide) (rv_pick_f (hS.ev rfl) (hS.ev rfl)) fun a hS => ?_
      refine wpList_nil ?_
      exact hJ3 r119 _ _ (hS.sub (sub_cons rfl (sub_cons rfl (sub_cons rfl (sub_cons rfl (sub_cons rfl (sub_cons rfl sub_nil))))))) (hM.pick [0, 1, 2] (by decide) rfl) hF
  · refine cond_f hS rfl hc ?_
    refine wp_exit ?_
    cases hF
    exact hJ1 _ _ (hS.sub (sub_cons rfl sub_nil)) (hM.pick [1, 2] (by decide) rfl) (by have e := hX2 _ rfl; subst e; exact hF2)


theorem c_impl_IsClaw_c1 (F : Nat) (p0_i : Int) (p1_k : Int) {r : Bool} (hF : S_impl_IsClaw_c1 F p0_i p1_k = some r) (w0 : World) :
    Calls Try.prog 90 [(Value.int IntKind.i64 p0_i), (Value.int IntKind.i64 p1_k)].toArray w0 (retPost fun v w' => v = (Value.bool r) ∧ Mem Nob w0 w' []) := by
  have hM : Mem Nob w0 w0 [] := (Mem.nil w0)
  refine enter2 Try.func90 rfl rfl rfl fun Q a hQr hQn hQp hS => ?_
  have hS : Sl 7 [(0, (Value.int IntKind.i64 p0_i)), (1, (Value.int IntKind.i64 p1_k))] a := hS
  unfold S_impl_IsClaw_c1 at hF
  refine wp_seq_k fun K1 hK1 => ?_
  refine wp_region_lit ?_
  refine st_val hS rfl rfl (by decide) (rv_assign (hS.ev rfl)) fun a hS => ?_
  refine wpList_nil ?_
  refine hK1 _ _ ?_
  refine wp_seq_k fun K2 hK2 => ?_
  refine wp_region_lit ?_
  refine st_val hS rfl rfl (by decide) (rv_move (hS.ev rfl)) fun a hS => ?_
  refine st_val hS rfl rfl (by decide) (rv_eql (hS.ev rfl) (hS.ev rfl)) fun a hS => ?_
  refine st_val hS rfl rfl (by decide) (rv_assign (hS.ev rfl)) fun a hS => ?_
  refine wpList_nil ?_
  refine hK2 _ _ ?_
  refine wp_ret ?_
  cases hF
  exact hQr _ _ (r_1 hS rfl rfl ⟨rfl, hM.pick [] (by decide) rfl⟩)


theorem c_impl_areJoined__IsClawc1 (F : Nat) (p0_g_Size : Int) (p0_g_Rows : List Int) (p1_l : List Int) (p0_g_Rowsv : Value) (p1_lv : Value) {r : Bool} (hF : S_impl_areJoined__IsClawc1 F p0_g_Size p0_g_Rows p1_l = some r) (w0 : World) (h0 : RdRow w0 p0_g_Rowsv (List.map (Value.int IntKind.i64) p0_g_Rows)) (h1 : RdRow w0 p1_lv (List.map (Value.int IntKind.i64) p1_l)) :
    Calls Try.prog 82 [(Value.agg #[(Value.int IntKind.i64 p0_g_Size), p0_g_Rowsv]), p1_lv, (Value.func (Fn.func 90) #[] #[])].toArray w0 (retPost fun v w' => v = (Value.bool r) ∧ Mem Nob w0 w' []) := by
  have hM : Mem Nob w0 w0 [(false, rd p0_g_Rowsv (List.map (Value.int IntKind.i64) p0_g_Rows)), (false, rd p1_lv (List.map (Value.int IntKind.i64) p1_l))] := (Mem.rcons (Mem.rcons (Mem.nil w0) h1 (by simp)) h0 (by simp))
  refine enter2 Try.func82 rfl rfl rfl fun Q a hQr hQn hQp hS => ?_
  have hS : Sl 42 [(0, (Value.agg #[(Value.int IntKind.i64 p0_g_Size), p0_g_Rowsv])), (1, p1_lv), (2, (Value.func (Fn.func 90) #[] #[]))] a := hS
  unfold S_impl_areJoined__IsClawc1 at hF
  refine wp_seq_k fun K1 hK1 => ?_
  refine wp_region_lit ?_
  obtain ⟨b3, w, hr, hM⟩ := hM.boxE (ρ := a.eval) (dst := some 3) (ty := _) (pos := _) (af := _) (gd := _) (x := .tmp 0) (T := 28) [(Value.int IntKind.i64 p0_g_Size), p0_g_Rowsv] (hS.ev rfl) rfl
  refine st_val hS rfl rfl (by decide) hr fun a hS => ?_
  refine st_val hS rfl rfl (by decide) (rv_assign (hS.ev rfl)) fun a hS => ?_
  refine wpList_nil ?_
  refine hK1 _ _ ?_
  refine wp_seq_k fun K4 hK4 => ?_
  refine wp_seq_k fun K9 hK9 => ?_
  refine wp_region_lit ?_
  refine st_val hS rfl rfl (by decide) (rv_load_agg (hS.ev rfl) ty_ag_28 (hM.get 0 rfl) ty_sz_28) fun a hS => ?_
  refine st_val hS rfl rfl (by decide) (rv_move (hS.ev rfl)) fun a hS => ?_
  obtain ⟨r11, hr, hF⟩ := bind_some hF
  refine st_wp hS rfl (wp_call hS rfl rfl (by decide) fn_ok_107 rfl (c_impl_areVertices F p0_g_Size p0_g_Rows p1_l p0_g_Rowsv p1_lv hr _ (hM.get 1 rfl) (hM.get 2 rfl)) fun v w a hK hS => ?_)
  obtain ⟨rfl, hN⟩ := hK
  have hM := hM.fra hN.fr
  refine st_val hS rfl rfl (by decide) (rv_not (hS.ev rfl)) fun a hS => ?_
  refine wpList_nil ?_
  refine hK9 _ _ ?_
  rcases ite_some hF with ⟨hc, hF⟩ | ⟨hc, hF⟩
  · refine cond_t hS rfl hc ?_
    refine wp_seq_k fun K12 hK12 => ?_
    refine wp_region_lit ?_
    refine st_val hS rfl rfl (by decide) (rv_assign (hS.ev rfl)) fun a hS => ?_
    refine wpList_nil ?_
    refine hK12 _ _ ?_
    refine wp_ret ?_
    cases hF
    exact hQr _ _ (r_1 hS rfl rfl ⟨rfl, hM.pick [] (by decide) rfl⟩)
  · refine cond_f hS rfl hc ?_
    refine wp_skip ?_
    refine hK4 _ _ ?_
    refine wp_seq_k fun K13 hK13 => ?_
    have hJ1 : ∀ (a : Act) (w : World), Sl 42 [] a → Mem Nob w0 w [] → S_impl_areJoined__IsClawc1_j1 F = some r → K13 a w := by
      intro a w hS hM hF
      unfold S_impl_areJoined__IsClawc1_j1 at hF
      refine hK13 _ _ ?_
      refine wp_seq_k fun K266 hK266 => ?_
      refine wp_region_lit ?_
      refine st_val hS rfl rfl (by decide) (rv_assign (hS.ev rfl)) fun a hS => ?_
      refine wpList_nil ?_
      refine hK266 _ _ ?_
      refine wp_ret ?_
      cases hF
      exact hQr _ _ (r_1 hS rfl rfl ⟨rfl, hM.pick [] (by decide) rfl⟩)
    refine wp_seq_k fun K267 hK267 => ?_
    refine wp_region_lit ?_
    refine st_val hS rfl rfl (by decide) (rv_move (hS.ev rfl)) fun a hS => ?_
    refine st_val hS rfl rfl (by decide) (rv_len_rowM Try.underlying22 (hS.ev rfl) (hM.get 2 rfl)) fun a hS => ?_
    refine st_val hS rfl rfl (by decide) (rv_move (hS.ev rfl)) fun a hS => ?_
    refine wpList_nil ?_
    refine hK267 _ _ ?_
    refine wp_block ?_
    obtain ⟨lb2, hl2, hF2⟩ := bind_some hF
    refine wp_loop_sh (fun s => S_impl_areJoined__IsClawc1_l2 F p0_g_Rows p1_l s) (fun s a w => Sl 42 [(1, p1_lv), (2, (Value.func (Fn.func 90) #[] #[])), (3, (fdp b3 0)), (14, (Value.int IntKind.i64 (p1_l.length : Int))), (15, (Value.int IntKind.i64 s))] a ∧ Mem Nob w0 w [(false, rd p1_lv (List.map (Value.int IntKind.i64) p1_l)), (true, bx b3 28 [(Value.int IntKind.i64 p0_g_Size), p0_g_Rowsv]), (false, rd p0_g_Rowsv (List.map (Value.int IntKind.i64) p0_g_Rows))]) hl2 ⟨(hS.sub (sub_cons rfl (sub_cons rfl (sub_cons rfl (sub_cons rfl (sub_cons rfl sub_nil)))))), (hM.pick [2, 0, 1] (by decide) rfl)⟩ ?_
    rintro K2 x268 a w res2 ⟨hS, hM⟩ hF hN2 hX2
    have hF : S_impl_areJoined__IsClawc1_l2 F p0_g_Rows p1_l x268 = some res2 := hF
    have hS : Sl 42 [(1, p1_lv), (2, (Value.func (Fn.func 90) #[] #[])), (3, (fdp b3 0)), (14, (Value.int IntKind.i64 (p1_l.length : Int))), (15, (Value.int IntKind.i64 x268))] a := hS
    have hM : Mem Nob w0 w [(false, rd p1_lv (List.map (Value.int IntKind.i64) p1_l)), (true, bx b3 28 [(Value.int IntKind.i64 p0_g_Size), p0_g_Rowsv]), (false, rd p0_g_Rowsv (List.map (Value.int IntKind.i64) p0_g_Rows))] := hM
    unfold S_impl_areJoined__IsClawc1_l2 at hF
    refine wp_seq_k fun K394 hK394 => ?_
    refine wp_region_lit ?_
    refine st_val hS rfl rfl (by decide) (rv_lss (hS.ev rfl) (hS.ev rfl)) fun a hS => ?_
    refine wpList_nil ?_
    refine hK394 _ _ ?_
    refine wp_seq_k fun K395 hK395 => ?_
    rcases ite_some hF with ⟨hc, hF⟩ | ⟨hc, hF⟩
    · refine cond_t hS rfl hc ?_
      refine wp_skip ?_
      refine hK395 _ _ ?_
      refine wp_seq_k fun K396 hK396 => ?_
      have hJ3 : ∀ (a : Act) (w : World), Sl 42 [(1, p1_lv), (2, (Value.func (Fn.func 90) #[] #[])), (3, (fdp b3 0)), (14, (Value.int IntKind.i64 (p1_l.length : Int))), (15, (Value.int IntKind.i64 x268))] a → Mem Nob w0 w [(false, rd p1_lv (List.map (Value.int IntKind.i64) p1_l)), (true, bx b3 28 [(Value.int IntKind.i64 p0_g_Size), p0_g_Rowsv]), (false, rd p0_g_Rowsv (List.map (Value.int IntKind.i64) p0_g_Rows))] → S_impl_areJoined__IsClawc1_j3 F x268 = some res2 → K396 a w := by
        intro a w hS hM hF
        unfold S_impl_areJoined__IsClawc1_j3 at hF
        refine hK396 _ _ ?_
        refine wp_region_lit ?_
        refine st_val hS rfl rfl (by decide) (rv_add (hS.ev rfl) (hS.ev rfl)) fun a hS => ?_
        refine st_val hS rfl rfl (by decide) (rv_move (hS.ev rfl)) fun a hS => ?_
        refine wpList_nil ?_
        cases hF
        exact hN2 _ _ _ rfl ⟨(hS.sub (sub_cons rfl (sub_cons rfl (sub_cons rfl (sub_cons rfl (sub_cons rfl sub_nil)))))), (hM.pick [0, 1, 2] (by decide) rfl)⟩
      refine wp_block ?_
      refine wp_seq_k fun K458 hK458 => ?_
      refine wp_region_lit ?_
      refine st_val hS rfl rfl (by decide) (rv_move (hS.ev rfl)) fun a hS => ?_
      refine st_val hS rfl rfl (by decide) (rv_assign (hS.ev rfl)) fun a hS => ?_
      refine wpList_nil ?_
      refine hK458 _ _ ?_
      refine wp_seq_k fun K459 hK459 => ?_
      refine wp_region_lit ?_
      refine st_val hS rfl rfl (by decide) (rv_move (hS.ev rfl)) fun a hS => ?_
      refine st_val hS rfl rfl (by decide) (rv_move (hS.ev rfl)) fun a hS => ?_
      refine wpList_nil ?_
      refine hK459 _ _ ?_
      refine wp_block ?_
      obtain ⟨lb4, hl4, hF4⟩ := bind_some hF
      refine wp_loop_sh (fun s => S_impl_areJoined__IsClawc1_l4 F p0_g_Rows p1_l x268 s) (fun s a w => Sl 42 [(1, p1_lv), (2, (Value.func (Fn.func 90) #[] #[])), (3, (fdp b3 0)), (7, (Value.int IntKind.i64 x268)), (14, (Value.int IntKind.i64 (p1_l.length : Int))), (15, (Value.int IntKind.i64 x268)), (18, (Value.int IntKind.i64 x268)), (19, (Value.int IntKind.i64 s))] a ∧ Mem Nob w0 w [(false, rd p1_lv (List.map (Value.int IntKind.i64) p1_l)), (true, bx b3 28 [(Value.int IntKind.i64 p0_g_Size), p0_g_Rowsv]), (false, rd p0_g_Rowsv (List.map (Value.int IntKind.i64) p0_g_Rows))]) hl4 ⟨(hS.sub (sub_cons rfl (sub_cons rfl (sub_cons rfl (sub_cons rfl (sub_cons rfl (sub_cons rfl (sub_cons rfl (sub_cons rfl sub_nil))))))))), (hM.pick [0, 1, 2] (by decide) rfl)⟩ ?_
      rintro K4 x460 a w res4 ⟨hS, hM⟩ hF hN4 hX4
      have hF : S_impl_areJoined__IsClawc1_l4 F p0_g_Rows p1_l x268 x460 = some res4 := hF
      have hS : Sl 42 [(1, p1_lv), (2, (Value.func (Fn.func 90) #[] #[])), (3, (fdp b3 0)), (7, (Value.int IntKind.i64 x268)), (14, (Value.int IntKind.i64 (p1_l.length : Int))), (15, (Value.int IntKind.i64 x268)), (18, (Value.int IntKind.i64 x268)), (19, (Value.int IntKind.i64 x460))] a := hS
      have hM : Mem Nob w0 w [(false, rd p1_lv (List.map (Value.int IntKind.i64) p1_l)), (true, bx b3 28 [(Value.int IntKind.i64 p0_g_Size), p0_g_Rowsv]), (false, rd p0_g_Rowsv (List.map (Value.int IntKind.i64) p0_g_Rows))] := hM
      unfold S_impl_areJoined__IsClawc1_l4 at hF
      refine wp_seq_k fun K490 hK490 => ?_
      refine wp_region_lit ?_
      refine st_val hS rfl rfl (by decide) (rv_lss (hS.ev rfl) (hS.ev rfl)) fun a hS => ?_
      refine wpList_nil ?_
      refine hK490 _ _ ?_
      refine wp_seq_k fun K491 hK491 => ?_
      rcases ite_some hF with ⟨hc, hF⟩ | ⟨hc, hF⟩
      · refine cond_t hS rfl hc ?_
        refine wp_skip ?_
        refine hK491 _ _ ?_
        refine wp_seq_k fun K492 hK492 => ?_
        refine wp_block ?_
        refine wp_seq_k fun K506 hK506 => ?_
        refine wp_region_lit ?_
        refine st_val hS rfl rfl (by decide) (rv_move (hS.ev rfl)) fun a hS => ?_
        refine st_val hS rfl rfl (by decide) (rv_assign (hS.ev rfl)) fun a hS => ?_
        refine wpList_nil ?_
        refine hK506 _ _ ?_
        refine wp_seq_k fun K507 hK507 => ?_
        refine an_start Nob ty_mixed fun w hf => ?_
        have hM := hM.fra hf
        have hB := hM
        have hM := hB.reg0
        refine an_take hS (i := 0) rfl (by kernel_rfl) (by kernel_rfl) (by kernel_rfl) rfl (by decide) (fun c a a' w hd h => hQp c a a' w hd h) rfl (fun w' hC' => (rv_fieldAddr ty_fd_28_1 (hS.ev rfl))) hM.fr fun a hS => ?_
        refine an_take hS (i := 1) rfl (by kernel_rfl) (by kernel_rfl) (by kernel_rfl) rfl (by decide) (fun c a a' w hd h => hQp c a a' w hd h) rfl (fun w' hC' => (rv_load_bx (hS.ev rfl) ty_ag_22 ((hB.fra hC').get 1 rfl) rfl)) hM.fr fun a hS => ?_
        refine an_take hS (i := 2) rfl (by kernel_rfl) (by kernel_rfl) (by kernel_rfl) rfl (by decide) (fun c a a' w hd h => hQp c a a' w hd h) rfl (fun w' hC' => (rv_move (hS.ev rfl))) hM.fr fun a hS => ?_
        refine an_take hS (i := 3) rfl (by kernel_rfl) (by kernel_rfl) (by kernel_rfl) rfl (by decide) (fun c a a' w hd h => hQp c a a' w hd h) rfl (fun w' hC' => (rv_move (hS.ev rfl))) hM.fr fun a hS => ?_
        obtain ⟨x513, hx, hF⟩ := bind_some hF
        obtain ⟨hi0, hi1, hex513⟩ := idxL_some hx
        refine an_take hS (i := 4) rfl (by kernel_rfl) (by kernel_rfl) (by kernel_rfl) rfl (by decide) (fun c a a' w hd h => hQp c a a' w hd h) rfl (fun w' hC' => (rv_indexAddr Try.underlying22 ty_el_3 (hS.ev rfl) (hS.ev rfl) (hM.get 0 rfl) hi0 (map_len hi1))) hM.fr fun a hS => ?_
        refine an_take hS (i := 5) rfl (by kernel_rfl) (by kernel_rfl) (by kernel_rfl) rfl (by decide) (fun c a a' w hd h => hQp c a a' w hd h) rfl (fun w' hC' => (rv_load_el (hS.ev rfl) ty_ag_3 ((hB.fra hC').get 0 rfl) (mget hex513))) hM.fr fun a hS => ?_
        obtain ⟨x514, hx, hF⟩ := bind_some hF
        obtain ⟨hi0, hi1, hex514⟩ := idxL_some hx
        refine an_take hS (i := 6) rfl (by kernel_rfl) (by kernel_rfl) (by kernel_rfl) rfl (by decide) (fun c a a' w hd h => hQp c a a' w hd h) rfl (fun w' hC' => (rv_indexAddr Try.underlying22 ty_el_3 (hS.ev rfl) (hS.ev rfl) (hM.get 2 rfl) hi0 (map_len hi1))) hM.fr fun a hS => ?_
        refine an_take hS (i := 7) rfl (by kernel_rfl) (by kernel_rfl) (by kernel_rfl) rfl (by decide) (fun c a a' w hd h => hQp c a a' w hd h) rfl (fun w' hC' => (rv_load_el (hS.ev rfl) ty_ag_3 ((hB.fra hC').get 2 rfl) (mget hex514))) hM.fr fun a hS => ?_
        refine an_take hS (i := 8) rfl (by kernel_rfl) (by kernel_rfl) (by kernel_rfl) rfl (by decide) (fun c a a' w hd h => hQp c a a' w hd h) rfl (fun w' hC' => (rv_move (hS.ev rfl))) hM.fr fun a hS => ?_
        refine an_take hS (i := 9) rfl (by kernel_rfl) (by kernel_rfl) (by kernel_rfl) rfl (by decide) (fun c a a' w hd h => hQp c a a' w hd h) rfl (fun w' hC' => (rv_move (hS.ev rfl))) hM.fr fun a hS => ?_
        obtain ⟨x515, hx, hF⟩ := bind_some hF
        obtain ⟨hi0, hi1, hex515⟩ := idxL_some hx
        refine an_take hS (i := 10) rfl (by kernel_rfl) (by kernel_rfl) (by kernel_rfl) rfl (by decide) (fun c a a' w hd h => hQp c a a' w hd h) rfl (fun w' hC' => (rv_indexAddr Try.underlying22 ty_el_3 (hS.ev rfl) (hS.ev rfl) (hM.get 0 rfl) hi0 (map_len hi1))) hM.fr fun a hS => ?_
        refine an_take hS (i := 11) rfl (by kernel_rfl) (by kernel_rfl) (by kernel_rfl) rfl (by decide) (fun c a a' w hd h => hQp c a a' w hd h) rfl (fun w' hC' => (rv_load_el (hS.ev rfl) ty_ag_3 ((hB.fra hC').get 0 rfl) (mget hex515))) hM.fr fun a hS => ?_
        refine an_take hS (i := 13) rfl (by kernel_rfl) (by kernel_rfl) (by kernel_rfl) rfl (by decide) (fun c a a' w hd h => hQp c a a' w hd h) rfl (fun w' hC' => (rv_move (hS.ev rfl))) hM.fr fun a hS => ?_
        refine an_take hS (i := 14) rfl (by kernel_rfl) (by kernel_rfl) (by kernel_rfl) rfl (by decide) (fun c a a' w hd h => hQp c a a' w hd h) rfl (fun w' hC' => (rv_move (hS.ev rfl))) hM.fr fun a hS => ?_
        refine an_take hS (i := 15) rfl (by kernel_rfl) (by kernel_rfl) (by kernel_rfl) rfl (by decide) (fun c a a' w hd h => hQp c a a' w hd h) rfl (fun w' hC' => (rv_move (hS.ev rfl))) hM.fr fun a hS => ?_
        obtain ⟨r516, hr, hF⟩ := bind_some hF
        refine an_one hS (i := 12) rfl (by kernel_rfl) rfl ?_
        refine wp_call hS rfl rfl (by decide) fn_ok_108 rfl (c_impl_has F x514 x515 hr _) fun v w a hK hS => ?_
        obtain ⟨rfl, hN⟩ := hK
        have hM := hM.fra hN.fr
        refine ⟨hM.fr, ?_⟩
        obtain ⟨r517, hr, hF⟩ := bind_some hF
        refine an_one hS (i := 16) rfl (by kernel_rfl) rfl ?_
        refine wp_callv (vs := [(Value.int IntKind.i64 x460), (Value.int IntKind.i64 x268)]) (cap := []) hS rfl rfl rfl (by decide) fn_ok_90 rfl (c_impl_IsClaw_c1 F x460 x268 hr _) fun v w a hK hS => ?_
        obtain ⟨rfl, hN⟩ := hK
        have hM := hM.fra hN.fr
        refine ⟨hM.fr, ?_⟩
        refine an_take hS (i := 17) rfl (by kernel_rfl) (by kernel_rfl) (by kernel_rfl) rfl (by decide) (fun c a a' w hd h => hQp c a a' w hd h) rfl (fun w' hC' => (rv_bneq Try.underlying4 (hS.ev rfl) (hS.ev rfl))) hM.fr fun a hS => ?_
        refine an_done (by kernel_rfl) ?_
        have hN := hM.pick [] (by decide) rfl
        have hM := Mem.callo (A := []) (B := [(false, rd p1_lv (List.map (Value.int IntKind.i64) p1_l)), (true, bx b3 28 [(Value.int IntKind.i64 p0_g_Size), p0_g_Rowsv]), (false, rd p0_g_Rowsv (List.map (Value.int IntKind.i64) p0_g_Rows))]) hB rfl (hN.memS fun _ h => h.elim) rfl
        refine hK507 _ _ ?_
        rcases ite_some hF with ⟨hc, hF⟩ | ⟨hc, hF⟩
        · refine cond_t hS rfl hc ?_
          refine wp_seq_k fun K518 hK518 => ?_
          refine wp_region_lit ?_
          refine st_val hS rfl rfl (by decide) (rv_assign (hS.ev rfl)) fun a hS => ?_
          refine wpList_nil ?_
          refine hK518 _ _ ?_
          refine wp_ret ?_
          cases hF
          have e := hX4 _ rfl
          subst e
          have hF := hF4
          cases hF
          have e := hX2 _ rfl
          subst e
          have hF := hF2
          cases hF
          exact hQr _ _ (r_1 hS rfl rfl ⟨rfl, hM.pick [] (by decide) rfl⟩)
        · refine cond_f hS rfl hc ?_
          refine wp_skip ?_
          refine hK492 _ _ ?_
          refine wp_region_lit ?_
          refine st_val hS rfl rfl (by decide) (rv_add (hS.ev rfl) (hS.ev rfl)) fun a hS => ?_
          refine st_val hS rfl rfl (by decide) (rv_move (hS.ev rfl)) fun a hS => ?_
          refine wpList_nil ?_
          cases hF
          exact hN4 _ _ _ rfl ⟨(hS.sub (sub_cons rfl (sub_cons rfl (sub_cons rfl (sub_cons rfl (sub_cons rfl (sub_cons rfl (sub_cons rfl (sub_cons rfl sub_nil))))))))), (hM.pick [0, 1, 2] (by decide) rfl)⟩
      · refine cond_f hS rfl hc ?_
        refine wp_exit ?_
        cases hF
        exact hJ3 _ _ (hS.sub (sub_cons rfl (sub_cons rfl (sub_cons rfl (sub_cons rfl (sub_cons rfl sub_nil)))))) (hM.pick [0, 1, 2] (by decide) rfl) (by have e := hX4 _ rfl; subst e; exact hF4)
    · refine cond_f hS rfl hc ?_
      refine wp_exit ?_
      cases hF
      exact hJ1 _ _ (hS.sub sub_nil) (hM.pick [] (by decide) rfl) (by have e := hX2 _ rfl; subst e; exact hF2)


theorem c_impl_IsClaw (F : Nat) (p0_g_Size : Int) (p0_g_Rows : List Int) (p1_l : List Int) (p0_g_Rowsv : Value) (p1_lv : Value) {r : Bool} (hF : S_impl_IsClaw F p0_g_Size p0_g_Rows p1_l = some r) (w0 : World) (h0 : RdRow w0 p0_g_Rowsv (List.map (Value.int IntKind.i64) p0_g_Rows)) (h1 : RdRow w0 p1_lv (List.map (Value.int IntKind.i64) p1_l)) :
    Calls Try.prog 35 [(Value.agg #[(Value.int IntKind.i64 p0_g_Size), p0_g_Rowsv]), p1_lv].toArray w0 (retPost fun v w' => v = (Value.bool r) ∧ Mem Nob w0 w' []) := by
  have hM : Mem Nob w0 w0 [(false, rd p0_g_Rowsv (List.map (Value.int IntKind.i64) p0_g_Rows)), (false, rd p1_lv (List.map (Value.int IntKind.i64) p1_l))] := (Mem.rcons (Mem.rcons (Mem.nil w0) h1 (by simp)) h0 (by simp))
  refine enter2 Try.func35 rfl rfl rfl fun Q a hQr hQn hQp hS => ?_
  have hS : Sl 13 [(0, (Value.agg #[(Value.int IntKind.i64 p0_g_Size), p0_g_Rowsv])), (1, p1_lv)] a := hS
  unfold S_impl_IsClaw at hF
  refine wp_seq_k fun K1 hK1 => ?_
  refine wp_region_lit ?_
  obtain ⟨b3, w, hr, hM⟩ := hM.boxE (ρ := a.eval) (dst := some 2) (ty := _) (pos := _) (af := _) (gd := _) (x := .tmp 0) (T := 28) [(Value.int IntKind.i64 p0_g_Size), p0_g_Rowsv] (hS.ev rfl) rfl
  refine st_val hS rfl rfl (by decide) hr fun a hS => ?_
  refine st_val hS rfl rfl (by decide) (rv_assign (hS.ev rfl)) fun a hS => ?_
  refine wpList_nil ?_
  refine hK1 _ _ ?_
  refine wp_seq_k fun K4 hK4 => ?_
  have hJ1 : ∀ (p6 : Bool) (a : Act) (w : World), Sl 13 [(4, (Value.bool p6))] a → Mem Nob w0 w [] → S_impl_IsClaw_j1 F p6 = some r → K4 a w := by
    intro p6 a w hS hM hF
    unfold S_impl_IsClaw_j1 at hF
    refine hK4 _ _ ?_
    refine wp_ret ?_
    cases hF
    exact hQr _ _ (r_1 hS rfl rfl ⟨rfl, hM.pick [] (by decide) rfl⟩)
  refine wp_region_lit ?_
  refine st_val hS rfl rfl (by decide) (rv_move (hS.ev rfl)) fun a hS => ?_
  refine st_val hS rfl rfl (by decide) (rv_len_rowM Try.underlying22 (hS.ev rfl) (hM.get 2 rfl)) fun a hS => ?_
  refine st_val hS rfl rfl (by decide) (rv_eql (hS.ev rfl) (hS.ev rfl)) fun a hS => ?_
  refine st_val hS rfl rfl (by decide) (rv_move (hS.ev rfl)) fun a hS => ?_
  rcases ite_some hF with ⟨hc, hF⟩ | ⟨hc, hF⟩
  · have hS := hS.setb (t := 8) rfl hc
    refine st_val hS rfl rfl (by decide) (rv_load_agg (hS.ev rfl) ty_ag_28 (hM.get 0 rfl) ty_sz_28) fun a hS => ?_
    refine st_val hS rfl rfl (by decide) (rv_move (hS.ev rfl)) fun a hS => ?_
    obtain ⟨r7, hr, hF⟩ := bind_some hF
    refine st_wp hS rfl (wp_call hS rfl rfl (by decide) fn_ok_82 rfl (c_impl_areJoined__IsClawc1 F p0_g_Size p0_g_Rows p1_l p0_g_Rowsv p1_lv hr _ (hM.get 1 rfl) (hM.get 2 rfl)) fun v w a hK hS => ?_)
    obtain ⟨rfl, hN⟩ := hK
    have hM := hM.fra hN.fr
    refine st_val hS rfl rfl (by decide) (rv_pick_t (hS.ev rfl) (hS.ev rfl)) fun a hS => ?_
    refine st_val hS rfl rfl (by decide) (rv_assign (hS.ev rfl)) fun a hS => ?_
    refine wpList_nil ?_
    exact hJ1 r7 _ _ (hS.sub (sub_cons rfl sub_nil)) (hM.pick [] (by decide) rfl) hF
  · have hS := hS.setb (t := 8) rfl hc
    refine st_skip hS rfl rfl (by decide) fun a hS => ?_
    refine st_skip hS rfl rfl (by decide) fun a hS => ?_
    refine st_skip hS rfl rfl (by decide) fun a hS => ?_
    refine st_val hS rfl rfl (by decide) (rv_pick_f (hS.ev rfl) (hS.ev rfl)) fun a hS => ?_
    refine st_val hS rfl rfl (by decide) (rv_assign (hS.ev rfl)) fun a hS => ?_
    refine wpList_nil ?_
    exact hJ1 false _ _ (hS.sub (sub_cons rfl sub_nil)) (hM.pick [] (by decide) rfl) hF


theorem c_impl_FindClaw_c1 (F : Nat) (p0_l : List Int) (q0_Size : Int) (q0_Rows : List Int) (p0_lv : Value) (q0_Rowsv : Value) (q0b : Nat) {r : Bool} (hF : S_impl_FindClaw_c1 F p0_l q0_Size q0_Rows = some r) (w0 : World) (h0 : RdRow w0 p0_lv (List.map (Value.int IntKind.i64) p0_l)) (h1 : RdRow w0 q0_Rowsv (List.map (Value.int IntKind.i64) q0_Rows)) (h2 : (bx q0b 28 [(Value.int IntKind.i64 q0_Size), q0_Rowsv]).P w0) :
    Calls Try.prog 71 [p0_lv, (fdp q0b 0)].toArray w0 (retPost fun v w' => v = (Value.bool r) ∧ Mem Nob w0 w' []) := by
  have hM : Mem Nob w0 w0 [(false, rd p0_lv (List.map (Value.int IntKind.i64) p0_l)), (false, rd q0_Rowsv (List.map (Value.int IntKind.i64) q0_Rows)), (false, bx q0b 28 [(Value.int IntKind.i64 q0_Size), q0_Rowsv])] := (Mem.rcons (Mem.rcons (Mem.gcons (Mem.nil w0) h2 (by simp)) h1 (by simp)) h0 (by simp))
  refine enter2 Try.func71 rfl rfl rfl fun Q a hQr hQn hQp hS => ?_
  have hS : Sl 7 [(0, p0_lv), (1, (fdp q0b 0))] a := hS
  unfold S_impl_FindClaw_c1 at hF
  refine wp_seq_k fun K1 hK1 => ?_
  refine wp_region_lit ?_
  refine st_val hS rfl rfl (by decide) (rv_assign (hS.ev rfl)) fun a hS => ?_
  refine wpList_nil ?_
  refine hK1 _ _ ?_
  refine wp_seq_k fun K2 hK2 => ?_
  refine wp_region_lit ?_
  refine st_val hS rfl rfl (by decide) (rv_load_agg (hS.ev rfl) ty_ag_28 (hM.get 2 rfl) ty_sz_28) fun a hS => ?_
  refine st_val hS rfl rfl (by decide) (rv_move (hS.ev rfl)) fun a hS => ?_
  obtain ⟨r4, hr, hF⟩ := bind_some hF
  refine st_wp hS rfl (wp_call hS rfl rfl (by decide) fn_ok_35 rfl (c_impl_IsClaw F q0_Size q0_Rows p0_l q0_Rowsv p0_lv hr _ (hM.get 1 rfl) (hM.get 0 rfl)) fun v w a hK hS => ?_)
  obtain ⟨rfl, hN⟩ := hK
  have hM := hM.fra hN.fr
  refine st_val hS rfl rfl (by decide) (rv_assign (hS.ev rfl)) fun a hS => ?_
  refine wpList_nil ?_
  refine hK2 _ _ ?_
  refine wp_ret ?_
  cases hF
  exact hQr _ _ (r_1 hS rfl rfl ⟨rfl, hM.pick [] (by decide) rfl⟩)


theorem c_slices_Clone_int (F : Nat) (p0_s : List Int) (p0_sv : Value) {r : (List (Int))} (hF : S_slices_Clone_int F p0_s = some r) (w0 : World) (h0 : RdRow w0 p0_sv (List.map (Value.int IntKind.i64) p0_s)) :
    Calls Try.prog 117 [p0_sv].toArray w0 (retPost fun v w' => Mem Nob w0 w' [(true, ow 3 v (List.map (Value.int IntKind.i64) r))]) := by
  have hM : Mem Nob w0 w0 [(false, rd p0_sv (List.map (Value.int IntKind.i64) p0_s))] := (Mem.rcons (Mem.nil w0) h0 (by simp))
  refine enter2 Try.func117 rfl rfl rfl fun Q a hQr hQn hQp hS => ?_
  have hS : Sl 8 [(0, p0_sv)] a := hS
  unfold S_slices_Clone_int at hF
  refine wp_seq_k fun K1 hK1 => ?_
  refine wp_region_lit ?_
  refine st_val hS rfl rfl (by decide) (rv_assign (hS.ev rfl)) fun a hS => ?_
  refine wpList_nil ?_
  refine hK1 _ _ ?_
  refine wp_seq_k fun K2 hK2 => ?_
  refine wp_seq_k fun K4 hK4 => ?_
  refine wp_region_lit ?_
  refine st_val hS rfl rfl (by decide) (rv_move (hS.ev rfl)) fun a hS => ?_
  obtain ⟨_, hx, hF⟩ := bind_some hF
  have hi0 := neO_some hx
  refine st_val hS rfl rfl (by decide) (rv_eql_nil Try.underlying22 (hS.ev rfl) (hS.ev rfl) (hM.get 0 rfl) hi0) fun a hS => ?_
  refine wpList_nil ?_
  refine hK4 _ _ ?_
  refine cond_f hS rfl rfl ?_
  refine wp_skip ?_
  refine hK2 _ _ ?_
  refine wp_seq_k fun K5 hK5 => ?_
  refine wp_region_lit ?_
  obtain ⟨v8, w, hr, hM⟩ := Mem.litE (f := (Value.int IntKind.i64)) (dst := some 5) (ty := _) (pos := _) (af := _) (gd := _) (ps := []) ([] : List (Int)) i64_one hM hS Try.underlying22 ty_el_3 rfl rfl rfl rfl
  refine st_val hS rfl rfl (by decide) hr fun a hS => ?_
  refine st_val hS rfl rfl (by decide) (rv_move (hS.ev rfl)) fun a hS => ?_
  obtain ⟨_, hx, hF⟩ := bind_some hF
  obtain ⟨v9, w, hr, hM⟩ := Mem.appE (f := (Value.int IntKind.i64)) (S := _) (R := [(false, rd p0_sv (List.map (Value.int IntKind.i64) p0_s))]) (ρ := a.eval) (dst := some 7) (ty := _) (pos := _) (af := _) (gd := _) (x := .tmp 5) (y := .tmp 6) i64_one hM Try.underlying22 ty_el_3 rfl (by decide) (hS.ev rfl) (hS.ev rfl) (hM.get 1 rfl) (catO_some hx)
  refine st_val hS rfl rfl (by decide) hr fun a hS => ?_
  refine st_val hS rfl rfl (by decide) (rv_assign (hS.ev rfl)) fun a hS => ?_
  refine wpList_nil ?_
  refine hK5 _ _ ?_
  refine wp_ret ?_
  cases hF
  exact hQr _ _ (r_1 hS rfl rfl (hM.pick [0] (by decide) rfl))


theorem c_impl_always (F : Nat) (p0_l : List Int) (p0_lv : Value) {r : Bool} (hF : S_impl_always F p0_l = some r) (w0 : World) (h0 : RdRow w0 p0_lv (List.map (Value.int IntKind.i64) p0_l)) :
    Calls Try.prog 70 [p0_lv].toArray w0 (retPost fun v w' => v = (Value.bool r) ∧ Mem Nob w0 w' []) := by
  have hM : Mem Nob w0 w0 [(false, rd p0_lv (List.map (Value.int IntKind.i64) p0_l))] := (Mem.rcons (Mem.nil w0) h0 (by simp))
  refine enter2 Try.func70 rfl rfl rfl fun Q a hQr hQn hQp hS => ?_
  have hS : Sl 3 [(0, p0_lv)] a := hS
  unfold S_impl_always at hF
  refine wp_seq_k fun K1 hK1 => ?_
  refine wp_region_lit ?_
  refine st_val hS rfl rfl (by decide) (rv_assign (hS.ev rfl)) fun a hS => ?_
  refine wpList_nil ?_
  refine hK1 _ _ ?_
  refine wp_seq_k fun K2 hK2 => ?_
  refine wp_region_lit ?_
  refine st_val hS rfl rfl (by decide) (rv_assign (hS.ev rfl)) fun a hS => ?_
  refine wpList_nil ?_
  refine hK2 _ _ ?_
  refine wp_ret ?_
  cases hF
  exact hQr _ _ (r_1 hS rfl rfl ⟨rfl, hM.pick [] (by decide) rfl⟩)


theorem c_impl_firstList_c1__FindClawc1__always__firstListc1_b (F : Nat) (slf : (List Int) → Int → Int → (List Int) → Int → (List Int) → Option ((Option (List Int)))) (ih : ∀ (p0_l : List Int) (q0_v : Int) (q1_v_c0_Size : Int) (q1_v_c0_Rows : List Int) (q2_Size : Int) (q2_Rows : List Int) (p0_lv : Value) (q0b : Nat) (q1_v_c0_Rowsv : Value) (q1_v_c0b : Nat) (q1b : Nat) (q2_Rowsv : Value) (q2b : Nat) (q3b : Nat) (q4b : Nat) {r : (Option (List Int))} (hF : slf p0_l q0_v q1_v_c0_Size q1_v_c0_Rows q2_Size q2_Rows = some r) (w0 : World) (h0 : RdRow w0 p0_lv (List.map (Value.int IntKind.i64) p0_l)) (h1 : (bx q0b 3 [(Value.int IntKind.i64 q0_v)]).P w0) (h2 : RdRow w0 q1_v_c0_Rowsv (List.map (Value.int IntKind.i64) q1_v_c0_Rows)) (h3 : (bx q1_v_c0b 28 [(Value.int IntKind.i64 q1_v_c0_Size), q1_v_c0_Rowsv]).P w0) (h4 : (bx q1b 55 [(Value.func (Fn.func 71) #[] #[(fdp q1_v_c0b 0)])]).P w0) (h5 : RdRow w0 q2_Rowsv (List.map (Value.int IntKind.i64) q2_Rows)) (h6 : (bx q2b 28 [(Value.int IntKind.i64 q2_Size), q2_Rowsv]).P w0) (h7 : (bx q3b 55 [(Value.func (Fn.func 70) #[] #[])]).P w0) (h8 : (bx q4b 41 [(Value.func (Fn.func 116) #[] #[(fdp q0b 0), (fdp q1b 0), (fdp q2b 0), (fdp q3b 0), (fdp q4b 0)])]).P w0), Calls Try.prog 116 [p0_lv, (fdp q0b 0), (fdp q1b 0), (fdp q2b 0), (fdp q3b 0), (fdp q4b 0)].toArray w0 (retPost fun v w' => OptRow Nob w0 w' 3 v r)) (p0_l : List Int) (q0_v : Int) (q1_v_c0_Size : Int) (q1_v_c0_Rows : List Int) (q2_Size : Int) (q2_Rows : List Int) (p0_lv : Value) (q0b : Nat) (q1_v_c0_Rowsv : Value) (q1_v_c0b : Nat) (q1b : Nat) (q2_Rowsv : Value) (q2b : Nat) (q3b : Nat) (q4b : Nat) {r : (Option (List Int))} (hF : S_impl_firstList_c1__FindClawc1__always__firstListc1_b F slf p0_l q0_v q1_v_c0_Size q1_v_c0_Rows q2_Size q2_Rows = some r) (w0 : World) (h0 : RdRow w0 p0_lv (List.map (Value.int IntKind.i64) p0_l)) (h1 : (bx q0b 3 [(Value.int IntKind.i64 q0_v)]).P w0) (h2 : RdRow w0 q1_v_c0_Rowsv (List.map (Value.int IntKind.i64) q1_v_c0_Rows)) (h3 : (bx q1_v_c0b 28 [(Value.int IntKind.i64 q1_v_c0_Size), q1_v_c0_Rowsv]).P w0) (h4 : (bx q1b 55 [(Value.func (Fn.func 71) #[] #[(fdp q1_v_c0b 0)])]).P w0) (h5 : RdRow w0 q2_Rowsv (List.map (Value.int IntKind.i64) q2_Rows)) (h6 : (bx q2b 28 [(Value.int IntKind.i64 q2_Size), q2_Rowsv]).P w0) (h7 : (bx q3b 55 [(Value.func (Fn.func 70) #[] #[])]).P w0) (h8 : (bx q4b 41 [(Value.func (Fn.func 116) #[] #[(fdp q0b 0), (fdp q1b 0), (fdp q2b 0), (fdp q3b 0), (fdp q4b 0)])]).P w0) :
    Calls Try.prog 116 [p0_lv, (fdp q0b 0), (fdp q1b 0), (fdp q2b 0), (fdp q3b 0), (fdp q4b 0)].toArray w0 (retPost fun v w' => OptRow Nob w0 w' 3 v r) := by
  have hM : Mem Nob w0 w0 [(false, rd p0_lv (List.map (Value.int IntKind.i64) p0_l)), (false, bx q0b 3 [(Value.int IntKind.i64 q0_v)]), (false, rd q1_v_c0_Rowsv (List.map (Value.int IntKind.i64) q1_v_c0_Rows)), (false, bx q1_v_c0b 28 [(Value.int IntKind.i64 q1_v_c0_Size), q1_v_c0_Rowsv]), (false, bx q1b 55 [(Value.func (Fn.func 71) #[] #[(fdp q1_v_c0b 0)])]), (false, rd q2_Rowsv (List.map (Value.int IntKind.i64) q2_Rows)), (false, bx q2b 28 [(Value.int IntKind.i64 q2_Size), q2_Rowsv]), (false, bx q3b 55 [(Value.func (Fn.func 70) #[] #[])]), (false, bx q4b 41 [(Value.func (Fn.func 116) #[] #[(fdp q0b 0), (fdp q1b 0), (fdp q2b 0), (fdp q3b 0), (fdp q4b 0)])])] := (Mem.rcons (Mem.gcons (Mem.rcons (Mem.gcons (Mem.gcons (Mem.rcons (Mem.gcons (Mem.gcons (Mem.gcons (Mem.nil w0) h8 (by simp)) h7 (by simp)) h6 (by simp)) h5 (by simp)) h4 (by simp)) h3 (by simp)) h2 (by simp)) h1 (by simp)) h0 (by simp))
  refine enter2 Try.func116 rfl rfl rfl fun Q a hQr hQn hQp hS => ?_
  have hS : Sl 50 [(0, p0_lv), (1, (fdp q0b 0)), (2, (fdp q1b 0)), (3, (fdp q2b 0)), (4, (fdp q3b 0)), (5, (fdp q4b 0))] a := hS
  unfold S_impl_firstList_c1__FindClawc1__always__firstListc1_b at hF
  refine wp_seq_k fun K1 hK1 => ?_
  refine wp_region_lit ?_
  refine st_val hS rfl rfl (by decide) (rv_assign (hS.ev rfl)) fun a hS => ?_
  refine wpList_nil ?_
  refine hK1 _ _ ?_
  refine wp_seq_k fun K2 hK2 => ?_
  refine wp_seq_k fun K22 hK22 => ?_
  refine wp_region_lit ?_
  refine st_val hS rfl rfl (by decide) (rv_move (hS.ev rfl)) fun a hS => ?_
  refine st_val hS rfl rfl (by decide) (rv_len_rowM Try.underlying22 (hS.ev rfl) (hM.get 0 rfl)) fun a hS => ?_
  refine st_val hS rfl rfl (by decide) (rv_load_bx (hS.ev rfl) ty_ag_3 (hM.get 1 rfl) rfl) fun a hS => ?_
  refine st_val hS rfl rfl (by decide) (rv_eql (hS.ev rfl) (hS.ev rfl)) fun a hS => ?_
  refine wpList_nil ?_
  refine hK22 _ _ ?_
  rcases ite_some hF with ⟨hc, hF⟩ | ⟨hc, hF⟩
  · refine cond_t hS rfl hc ?_
    refine wp_seq_k fun K23 hK23 => ?_
    refine wp_seq_k fun K32 hK32 => ?_
    refine wp_region_lit ?_
    refine st_val hS rfl rfl (by decide) (rv_load_bx (hS.ev rfl) ty_ag_55 (hM.get 4 rfl) rfl) fun a hS => ?_
    refine st_val hS rfl rfl (by decide) (rv_move (hS.ev rfl)) fun a hS => ?_
    obtain ⟨r34, hr, hF⟩ := bind_some hF
    refine st_wp hS rfl (wp_callv (vs := [p0_lv]) (cap := [(fdp q1_v_c0b 0)]) hS rfl rfl rfl (by decide) fn_ok_71 rfl (c_impl_FindClaw_c1 F p0_l q1_v_c0_Size q1_v_c0_Rows p0_lv q1_v_c0_Rowsv q1_v_c0b hr _ (hM.get 0 rfl) (hM.get 2 rfl) (hM.get 3 rfl)) fun v w a hK hS => ?_)
    obtain ⟨rfl, hN⟩ := hK
    have hM := hM.fra hN.fr
    refine wpList_nil ?_
    refine hK32 _ _ ?_
    rcases ite_some hF with ⟨hc, hF⟩ | ⟨hc, hF⟩
    · refine cond_t hS rfl hc ?_
      refine wp_seq_k fun K35 hK35 => ?_
      refine wp_region_lit ?_
      refine st_val hS rfl rfl (by decide) (rv_move (hS.ev rfl)) fun a hS => ?_
      obtain ⟨r38, hr, hF⟩ := bind_some hF
      refine st_wp hS rfl (wp_call hS rfl rfl (by decide) fn_ok_117 rfl (c_slices_Clone_int F p0_l p0_lv hr _ (hM.get 0 rfl)) fun v39 w a hK hS => ?_)
      have hN := hK
      have hM := hM.add hN rfl
      refine st_val hS rfl rfl (by decide) (rv_assign (hS.ev rfl)) fun a hS => ?_
      refine wpList_nil ?_
      refine hK35 _ _ ?_
      refine wp_ret ?_
      cases hF
      exact hQr _ _ (r_1 hS rfl rfl (hM.pick [0] (by decide) rfl))
    · refine cond_f hS rfl hc ?_
      refine wp_skip ?_
      refine hK23 _ _ ?_
      refine wp_seq_k fun K40 hK40 => ?_
      refine wp_region_lit ?_
      refine st_val hS rfl rfl (by decide) (rv_assign (hS.ev rfl)) fun a hS => ?_
      refine wpList_nil ?_
      refine hK40 _ _ ?_
      refine wp_ret ?_
      cases hF
      exact hQr _ _ (r_1 hS rfl rfl ⟨rfl, hM.pick [] (by decide) rfl⟩)
  · refine cond_f hS rfl hc ?_
    refine wp_skip ?_
    refine hK2 _ _ ?_
    refine wp_seq_k fun K41 hK41 => ?_
    have hJ1 : ∀ (a : Act) (w : World), Sl 50 [] a → Mem Nob w0 w [] → S_impl_firstList_c1__FindClawc1__always__firstListc1_j1 F = some r → K41 a w := by
      intro a w hS hM hF
      unfold S_impl_firstList_c1__FindClawc1__always__firstListc1_j1 at hF
      refine hK41 _ _ ?_
      refine wp_seq_k fun K146 hK146 => ?_
      refine wp_region_lit ?_
      refine st_val hS rfl rfl (by decide) (rv_assign (hS.ev rfl)) fun a hS => ?_
      refine wpList_nil ?_
      refine hK146 _ _ ?_
      refine wp_ret ?_
      cases hF
      exact hQr _ _ (r_1 hS rfl rfl ⟨rfl, hM.pick [] (by decide) rfl⟩)
    refine wp_seq_k fun K147 hK147 => ?_
    refine wp_region_lit ?_
    refine st_val hS rfl rfl (by decide) (rv_fieldAddr ty_fd_28_0 (hS.ev rfl)) fun a hS => ?_
    refine st_val hS rfl rfl (by decide) (rv_load_bx (hS.ev rfl) ty_ag_3 (hM.get 6 rfl) rfl) fun a hS => ?_
    refine st_val hS rfl rfl (by decide) (rv_move (hS.ev rfl)) fun a hS => ?_
    refine wpList_nil ?_
    refine hK147 _ _ ?_
    refine wp_block ?_
    obtain ⟨lb2, hl2, hF2⟩ := bind_some hF
    refine wp_loop_sh (fun s => S_impl_firstList_c1__FindClawc1__always__firstListc1_l2 F p0_l q0_v q1_v_c0_Size q1_v_c0_Rows q2_Size q2_Rows slf s) (fun s a w => Sl 50 [(0, p0_lv), (4, (fdp q3b 0)), (5, (fdp q4b 0)), (21, (Value.int IntKind.i64 q2_Size)), (22, (Value.int IntKind.i64 s))] a ∧ Mem Nob w0 w [(false, rd p0_lv (List.map (Value.int IntKind.i64) p0_l)), (false, bx q3b 55 [(Value.func (Fn.func 70) #[] #[])]), (false, bx q4b 41 [(Value.func (Fn.func 116) #[] #[(fdp q0b 0), (fdp q1b 0), (fdp q2b 0), (fdp q3b 0), (fdp q4b 0)])]), (false, bx q0b 3 [(Value.int IntKind.i64 q0_v)]), (false, bx q1b 55 [(Value.func (Fn.func 71) #[] #[(fdp q1_v_c0b 0)])]), (false, bx q1_v_c0b 28 [(Value.int IntKind.i64 q1_v_c0_Size), q1_v_c0_Rowsv]), (false, rd q1_v_c0_Rowsv (List.map (Value.int IntKind.i64) q1_v_c0_Rows)), (false, bx q2b 28 [(Value.int IntKind.i64 q2_Size), q2_Rowsv]), (false, rd q2_Rowsv (List.map (Value.int IntKind.i64) q2_Rows))]) hl2 ⟨(hS.sub (sub_cons rfl (sub_cons rfl (sub_cons rfl (sub_cons rfl (sub_cons rfl sub_nil)))))), (hM.pick [0, 7, 8, 1, 4, 3, 2, 6, 5] (by decide) rfl)⟩ ?_
    rintro K2 x148 a w res2 ⟨hS, hM⟩ hF hN2 hX2
    have hF : S_impl_firstList_c1__FindClawc1__always__firstListc1_l2 F p0_l q0_v q1_v_c0_Size q1_v_c0_Rows q2_Size q2_Rows slf x148 = some res2 := hF
    have hS : Sl 50 [(0, p0_lv), (4, (fdp q3b 0)), (5, (fdp q4b 0)), (21, (Value.int IntKind.i64 q2_Size)), (22, (Value.int IntKind.i64 x148))] a := hS
    have hM : Mem Nob w0 w [(false, rd p0_lv (List.map (Value.int IntKind.i64) p0_l)), (false, bx q3b 55 [(Value.func (Fn.func 70) #[] #[])]), (false, bx q4b 41 [(Value.func (Fn.func 116) #[] #[(fdp q0b 0), (fdp q1b 0), (fdp q2b 0), (fdp q3b 0), (fdp q4b 0)])]), (false, bx q0b 3 [(Value.int IntKind.i64 q0_v)]), (false, bx q1b 55 [(Value.func (Fn.func 71) #[] #[(fdp q1_v_c0b 0)])]), (false, bx q1_v_c0b 28 [(Value.int IntKind.i64 q1_v_c0_Size), q1_v_c0_Rowsv]), (false, rd q1_v_c0_Rowsv (List.map (Value.int IntKind.i64) q1_v_c0_Rows)), (false, bx q2b 28 [(Value.int IntKind.i64 q2_Size), q2_Rowsv]), (false, rd q2_Rowsv (List.map (Value.int IntKind.i64) q2_Rows))] := hM
    unfold S_impl_firstList_c1__FindClawc1__always__firstListc1_l2 at hF
    refine wp_seq_k fun K200 hK200 => ?_
    refine wp_region_lit ?_
    refine st_val hS rfl rfl (by decide) (rv_lss (hS.ev rfl) (hS.ev rfl)) fun a hS => ?_
    refine wpList_nil ?_
    refine hK200 _ _ ?_
    refine wp_seq_k fun K201 hK201 => ?_
    rcases ite_some hF with ⟨hc, hF⟩ | ⟨hc, hF⟩
    · refine cond_t hS rfl hc ?_
      refine wp_skip ?_
      refine hK201 _ _ ?_
      refine wp_seq_k fun K202 hK202 => ?_
      have hJ3 : ∀ (a : Act) (w : World), Sl 50 [(0, p0_lv), (4, (fdp q3b 0)), (5, (fdp q4b 0)), (21, (Value.int IntKind.i64 q2_Size)), (22, (Value.int IntKind.i64 x148))] a → Mem Nob w0 w [(false, rd p0_lv (List.map (Value.int IntKind.i64) p0_l)), (false, bx q3b 55 [(Value.func (Fn.func 70) #[] #[])]), (false, bx q4b 41 [(Value.func (Fn.func 116) #[] #[(fdp q0b 0), (fdp q1b 0), (fdp q2b 0), (fdp q3b 0), (fdp q4b 0)])]), (false, bx q0b 3 [(Value.int IntKind.i64 q0_v)]), (false, bx q1b 55 [(Value.func (Fn.func 71) #[] #[(fdp q1_v_c0b 0)])]), (false, bx q1_v_c0b 28 [(Value.int IntKind.i64 q1_v_c0_Size), q1_v_c0_Rowsv]), (false, rd q1_v_c0_Rowsv (List.map (Value.int IntKind.i64) q1_v_c0_Rows)), (false, bx q2b 28 [(Value.int IntKind.i64 q2_Size), q2_Rowsv]), (false, rd q2_Rowsv (List.map (Value.int IntKind.i64) q2_Rows))] → S_impl_firstList_c1__FindClawc1__always__firstListc1_j3 F x148 = some res2 → K202 a w := by
        intro a w hS hM hF
        unfold S_impl_firstList_c1__FindClawc1__always__firstListc1_j3 at hF
        refine hK202 _ _ ?_
        refine wp_region_lit ?_
        refine st_val hS rfl rfl (by decide) (rv_add (hS.ev rfl) (hS.ev rfl)) fun a hS => ?_
        refine st_val hS rfl rfl (by decide) (rv_move (hS.ev rfl)) fun a hS => ?_
        refine wpList_nil ?_
        cases hF
        exact hN2 _ _ _ rfl ⟨(hS.sub (sub_cons rfl (sub_cons rfl (sub_cons rfl (sub_cons rfl (sub_cons rfl sub_nil)))))), (hM.pick [0, 1, 2, 3, 4, 5, 6, 7, 8] (by decide) rfl)⟩
      refine wp_block ?_
      refine wp_seq_k fun K227 hK227 => ?_
      refine wp_region_lit ?_
      refine st_val hS rfl rfl (by decide) (rv_move (hS.ev rfl)) fun a hS => ?_
      refine st_val hS rfl rfl (by decide) (rv_assign (hS.ev rfl)) fun a hS => ?_
      refine wpList_nil ?_
      refine hK227 _ _ ?_
      refine wp_seq_k fun K228 hK228 => ?_
      refine wp_region_lit ?_
      refine st_val hS rfl rfl (by decide) (rv_move (hS.ev rfl)) fun a hS => ?_
      refine st_val hS rfl rfl (by decide) (rv_move (hS.ev rfl)) fun a hS => ?_
      refine st_val hS rfl rfl (by decide) (rv_len_rowM Try.underlying22 (hS.ev rfl) (hM.get 0 rfl)) fun a hS => ?_
      refine st_val hS rfl rfl (by decide) (rv_move (hS.ev rfl)) fun a hS => ?_
      refine st_val hS rfl rfl (by decide) (rv_len_rowM Try.underlying22 (hS.ev rfl) (hM.get 0 rfl)) fun a hS => ?_
      obtain ⟨_, hx, hF⟩ := bind_some hF
      have hj232 := slO_some hx
      refine st_val hS rfl rfl (by decide) (rv_slF Try.underlying22 ty_el_3 (hS.ev rfl) (hS.ev rfl) (hS.ev rfl) (hM.get 0 rfl) hj232.1 (map_le hj232.2)) fun a hS => ?_
      refine st_val hS rfl rfl (by decide) (rv_move (hS.ev rfl)) fun a hS => ?_
      obtain ⟨v233, w, hr, hM⟩ := Mem.litE (f := (Value.int IntKind.i64)) (dst := some 32) (ty := _) (pos := _) (af := _) (gd := _) (ps := [(0, .tmp 31)]) ([x148] : List (Int)) i64_one hM hS Try.underlying22 ty_el_3 rfl rfl rfl rfl
      refine st_val hS rfl rfl (by decide) hr fun a hS => ?_
      obtain ⟨_, hx, hF⟩ := bind_some hF
      obtain ⟨v234, w, hr, hM⟩ := Mem.appF (f := (Value.int IntKind.i64)) (ρ := a.eval) (dst := some 33) (ty := _) (pos := _) (af := _) (gd := _) (x := .tmp 30) (y := .tmp 32) i64_one hM Try.underlying22 ty_el_3 rfl (by decide) (hS.ev rfl) (hM.get 1 rfl) hj232.1 hj232.2 (hS.ev rfl) (rd_of_ow (hM.get 0 rfl)) (by simp) (catO_some hx)
      refine st_val hS rfl rfl (by decide) hr fun a hS => ?_
      refine st_val hS rfl rfl (by decide) (rv_assign (hS.ev rfl)) fun a hS => ?_
      refine wpList_nil ?_
      refine hK228 _ _ ?_
      refine wp_seq_k fun K235 hK235 => ?_
      have hJ4 : ∀ (p238 : Bool) (a : Act) (w : World), Sl 50 [(0, p0_lv), (4, (fdp q3b 0)), (5, (fdp q4b 0)), (9, v234), (21, (Value.int IntKind.i64 q2_Size)), (22, (Value.int IntKind.i64 x148)), (42, (Value.bool p238))] a → Mem Nob w0 w [(false, rd p0_lv (List.map (Value.int IntKind.i64) p0_l)), (false, bx q3b 55 [(Value.func (Fn.func 70) #[] #[])]), (false, bx q4b 41 [(Value.func (Fn.func 116) #[] #[(fdp q0b 0), (fdp q1b 0), (fdp q2b 0), (fdp q3b 0), (fdp q4b 0)])]), (false, bx q0b 3 [(Value.int IntKind.i64 q0_v)]), (false, bx q1b 55 [(Value.func (Fn.func 71) #[] #[(fdp q1_v_c0b 0)])]), (false, bx q1_v_c0b 28 [(Value.int IntKind.i64 q1_v_c0_Size), q1_v_c0_Rowsv]), (false, rd q1_v_c0_Rowsv (List.map (Value.int IntKind.i64) q1_v_c0_Rows)), (false, bx q2b 28 [(Value.int IntKind.i64 q2_Size), q2_Rowsv]), (false, rd q2_Rowsv (List.map (Value.int IntKind.i64) q2_Rows)), (true, ow 3 v234 (List.map (Value.int IntKind.i64) (p0_l.take ((p0_l.length : Int).toNat) ++ ([x148] : List (Int)))))] → S_impl_firstList_c1__FindClawc1__always__firstListc1_j4 F p0_l q0_v q1_v_c0_Size q1_v_c0_Rows q2_Size q2_Rows slf x148 p238 = some res2 → K235 a w := by
        intro p238 a w hS hM hF
        unfold S_impl_firstList_c1__FindClawc1__always__firstListc1_j4 at hF
        refine hK235 _ _ ?_
        rcases ite_some hF with ⟨hc, hF⟩ | ⟨hc, hF⟩
        · refine cond_t hS rfl hc ?_
          refine wp_seq_k fun K239 hK239 => ?_
          refine wp_region_lit ?_
          refine st_val hS rfl rfl (by decide) (rv_load_bx (hS.ev rfl) ty_ag_41 (hM.get 2 rfl) rfl) fun a hS => ?_
          refine st_val hS rfl rfl (by decide) (rv_move (hS.ev rfl)) fun a hS => ?_
          obtain ⟨r243, hr, hF⟩ := bind_some hF
          refine st_wp hS rfl (wp_callv (vs := [v234]) (cap := [(fdp q0b 0), (fdp q1b 0), (fdp q2b 0), (fdp q3b 0), (fdp q4b 0)]) hS rfl rfl rfl (by decide) fn_ok_116 rfl (ih (p0_l.take ((p0_l.length : Int).toNat) ++ ([x148] : List (Int))) q0_v q1_v_c0_Size q1_v_c0_Rows q2_Size q2_Rows v234 q0b q1_v_c0_Rowsv q1_v_c0b q1b q2_Rowsv q2b q3b q4b hr _ (rd_of_ow (hM.get 9 rfl)) (hM.get 3 rfl) (hM.get 6 rfl) (hM.get 5 rfl) (hM.get 4 rfl) (hM.get 8 rfl) (hM.get 7 rfl) (hM.get 1 rfl) (hM.get 2 rfl)) fun v244 w a hK hS => ?_)
          rcases r243 with _ | c245
          · dsimp only at hF
            obtain ⟨rfl, hN⟩ := hK
            have hM := hM.fra hN.fr
            refine st_val hS rfl rfl (by decide) (rv_assign (hS.ev rfl)) fun a hS => ?_
            refine wpList_nil ?_
            refine hK239 _ _ ?_
            refine wp_seq_k fun K246 hK246 => ?_
            refine wp_region_lit ?_
            refine st_val hS rfl rfl (by decide) (rv_move (hS.ev rfl)) fun a hS => ?_
            refine st_val hS rfl rfl (by decide) (rv_nil_neq Try.underlying22 (hS.ev rfl) (hS.ev rfl)) fun a hS => ?_
            refine wpList_nil ?_
            refine hK246 _ _ ?_
            refine cond_f hS rfl rfl ?_
            refine wp_skip ?_
            exact hJ3 _ _ (hS.sub (sub_cons rfl (sub_cons rfl (sub_cons rfl (sub_cons rfl (sub_cons rfl sub_nil)))))) (hM.pick [0, 1, 2, 3, 4, 5, 6, 7, 8] (by decide) rfl) hF
          · dsimp only at hF
            have hN : Mem Nob _ w [(true, ow 3 v244 (List.map (Value.int IntKind.i64) c245))] := hK
            have hM := hM.add hN rfl
            refine st_val hS rfl rfl (by decide) (rv_assign (hS.ev rfl)) fun a hS => ?_
            refine wpList_nil ?_
            refine hK239 _ _ ?_
            refine wp_seq_k fun K247 hK247 => ?_
            refine wp_region_lit ?_
            refine st_val hS rfl rfl (by decide) (rv_move (hS.ev rfl)) fun a hS => ?_
            obtain ⟨_, hx, hF⟩ := bind_some hF
            have hi0 := neO_some hx
            refine st_val hS rfl rfl (by decide) (rv_neq_nil Try.underlying22 (hS.ev rfl) (hS.ev rfl) (rd_of_ow (hM.get 0 rfl)) hi0) fun a hS => ?_
            refine wpList_nil ?_
            refine hK247 _ _ ?_
            refine cond_t hS rfl rfl ?_
            refine wp_seq_k fun K248 hK248 => ?_
            refine wp_region_lit ?_
            refine st_val hS rfl rfl (by decide) (rv_move (hS.ev rfl)) fun a hS => ?_
            refine st_val hS rfl rfl (by decide) (rv_assign (hS.ev rfl)) fun a hS => ?_
            refine wpList_nil ?_
            refine hK248 _ _ ?_
            refine wp_ret ?_
            cases hF
            have e := hX2 _ rfl
            subst e
            have hF := hF2
            cases hF
            exact hQr _ _ (r_1 hS rfl rfl (hM.pick [0] (by decide) rfl))
        · refine cond_f hS rfl hc ?_
          refine wp_skip ?_
          exact hJ3 _ _ (hS.sub (sub_cons rfl (sub_cons rfl (sub_cons rfl (sub_cons rfl (sub_cons rfl sub_nil)))))) (hM.pick [0, 1, 2, 3, 4, 5, 6, 7, 8] (by decide) rfl) hF
      refine wp_region_lit ?_
      refine st_val hS rfl rfl (by decide) (rv_move (hS.ev rfl)) fun a hS => ?_
      refine st_val hS rfl rfl (by decide) (rv_move (hS.ev rfl)) fun a hS => ?_
      obtain ⟨r249, hr, hF⟩ := bind_some hF
      refine st_wp hS rfl (wp_call hS rfl rfl (by decide) fn_ok_106 rfl (c_slices_Contains_int F p0_l x148 p0_lv hr _ (hM.get 2 rfl)) fun v w a hK hS => ?_)
      obtain ⟨rfl, hN⟩ := hK
      have hM := hM.fra hN.fr
      refine st_val hS rfl rfl (by decide) (rv_not (hS.ev rfl)) fun a hS => ?_
      refine st_val hS rfl rfl (by decide) (rv_move (hS.ev rfl)) fun a hS => ?_
      rcases ite_some hF with ⟨hc, hF⟩ | ⟨hc, hF⟩
      · have hS := hS.setb (t := 38) rfl hc
        refine st_val hS rfl rfl (by decide) (rv_load_bx (hS.ev rfl) ty_ag_55 (hM.get 3 rfl) rfl) fun a hS => ?_
        refine st_val hS rfl rfl (by decide) (rv_move (hS.ev rfl)) fun a hS => ?_
        obtain ⟨r250, hr, hF⟩ := bind_some hF
        refine st_wp hS rfl (wp_callv (vs := [v234]) (cap := []) hS rfl rfl rfl (by decide) fn_ok_70 rfl (c_impl_always F (p0_l.take ((p0_l.length : Int).toNat) ++ ([x148] : List (Int))) v234 hr _ (rd_of_ow (hM.get 0 rfl))) fun v w a hK hS => ?_)
        obtain ⟨rfl, hN⟩ := hK
        have hM := hM.fra hN.fr
        refine st_val hS rfl rfl (by decide) (rv_pick_t (hS.ev rfl) (hS.ev rfl)) fun a hS => ?_
        refine wpList_nil ?_
        exact hJ4 r250 _ _ (hS.sub (sub_cons rfl (sub_cons rfl (sub_cons rfl (sub_cons rfl (sub_cons rfl (sub_cons rfl (sub_cons rfl sub_nil)))))))) (hM.pick [2, 3, 4, 5, 6, 7, 8, 9, 10, 0] (by decide) rfl) hF
      · have hS := hS.setb (t := 38) rfl hc
        refine st_skip hS rfl rfl (by decide) fun a hS => ?_
        refine st_skip hS rfl rfl (by decide) fun a hS => ?_
        refine st_skip hS rfl rfl (by decide) fun a hS => ?_
        refine st_val hS rfl rfl (by decide) (rv_pick_f (hS.ev rfl) (hS.ev rfl)) fun a hS => ?_
        refine wpList_nil ?_
        exact hJ4 false _ _ (hS.sub (sub_cons rfl (sub_cons rfl (sub_cons rfl (sub_cons rfl (sub_cons rfl (sub_cons rfl (sub_cons rfl sub_nil)))))))) (hM.pick [2, 3, 4, 5, 6, 7, 8, 9, 10, 0] (by decide) rfl) hF
    · refine cond_f hS rfl hc ?_
      refine wp_exit ?_
      cases hF
      exact hJ1 _ _ (hS.sub sub_nil) (hM.pick [] (by decide) rfl) (by have e := hX2 _ rfl; subst e; exact hF2)

theorem c_impl_firstList_c1__FindClawc1__always__firstListc1_d (F : Nat) : ∀ (D : Nat) (p0_l : List Int) (q0_v : Int) (q1_v_c0_Size : Int) (q1_v_c0_Rows : List Int) (q2_Size : Int) (q2_Rows : List Int) (p0_lv : Value) (q0b : Nat) (q1_v_c0_Rowsv : Value) (q1_v_c0b : Nat) (q1b : Nat) (q2_Rowsv : Value) (q2b : Nat) (q3b : Nat) (q4b : Nat) {r : (Option (List Int))} (hF : S_impl_firstList_c1__FindClawc1__always__firstListc1_d F D p0_l q0_v q1_v_c0_Size q1_v_c0_Rows q2_Size q2_Rows = some r) (w0 : World) (h0 : RdRow w0 p0_lv (List.map (Value.int IntKind.i64) p0_l)) (h1 : (bx q0b 3 [(Value.int IntKind.i64 q0_v)]).P w0) (h2 : RdRow w0 q1_v_c0_Rowsv (List.map (Value.int IntKind.i64) q1_v_c0_Rows)) (h3 : (bx q1_v_c0b 28 [(Value.int IntKind.i64 q1_v_c0_Size), q1_v_c0_Rowsv]).P w0) (h4 : (bx q1b 55 [(Value.func (Fn.func 71) #[] #[(fdp q1_v_c0b 0)])]).P w0) (h5 : RdRow w0 q2_Rowsv (List.map (Value.int IntKind.i64) q2_Rows)) (h6 : (bx q2b 28 [(Value.int IntKind.i64 q2_Size), q2_Rowsv]).P w0) (h7 : (bx q3b 55 [(Value.func (Fn.func 70) #[] #[])]).P w0) (h8 : (bx q4b 41 [(Value.func (Fn.func 116) #[] #[(fdp q0b 0), (fdp q1b 0), (fdp q2b 0), (fdp q3b 0), (fdp q4b 0)])]).P w0), Calls Try.prog 116 [p0_lv, (fdp q0b 0), (fdp q1b 0), (fdp q2b 0), (fdp q3b 0), (fdp q4b 0)].toArray w0 (retPost fun v w' => OptRow Nob w0 w' 3 v r) := by
  intro D
  induction D with
  | zero =>
    intro p0_l q0_v q1_v_c0_Size q1_v_c0_Rows q2_Size q2_Rows p0_lv q0b q1_v_c0_Rowsv q1_v_c0b q1b q2_Rowsv q2b q3b q4b r hF
    simp [S_impl_firstList_c1__FindClawc1__always__firstListc1_d] at hF
  | succ D ih =>
    intro p0_l q0_v q1_v_c0_Size q1_v_c0_Rows q2_Size q2_Rows p0_lv q0b q1_v_c0_Rowsv q1_v_c0b q1b q2_Rowsv q2b q3b q4b r hF w0 h0 h1 h2 h3 h4 h5 h6 h7 h8
    rw [S_impl_firstList_c1__FindClawc1__always__firstListc1_d] at hF
    exact c_impl_firstList_c1__FindClawc1__always__firstListc1_b F (S_impl_firstList_c1__FindClawc1__always__firstListc1_d F D) ih p0_l q0_v q1_v_c0_Size q1_v_c0_Rows q2_Size q2_Rows p0_lv q0b q1_v_c0_Rowsv q1_v_c0b q1b q2_Rowsv q2b q3b q4b hF w0 h0 h1 h2 h3 h4 h5 h6 h7 h8

theorem c_impl_firstList_c1__FindClawc1__always__firstListc1 (F : Nat) (p0_l : List Int) (q0_v : Int) (q1_v_c0_Size : Int) (q1_v_c0_Rows : List Int) (q2_Size : Int) (q2_Rows : List Int) (p0_lv : Value) (q0b : Nat) (q1_v_c0_Rowsv : Value) (q1_v_c0b : Nat) (q1b : Nat) (q2_Rowsv : Value) (q2b : Nat) (q3b : Nat) (q4b : Nat) {r : (Option (List Int))} (hF : S_impl_firstList_c1__FindClawc1__always__firstListc1 F p0_l q0_v q1_v_c0_Size q1_v_c0_Rows q2_Size q2_Rows = some r) (w0 : World) (h0 : RdRow w0 p0_lv (List.map (Value.int IntKind.i64) p0_l)) (h1 : (bx q0b 3 [(Value.int IntKind.i64 q0_v)]).P w0) (h2 : RdRow w0 q1_v_c0_Rowsv (List.map (Value.int IntKind.i64) q1_v_c0_Rows)) (h3 : (bx q1_v_c0b 28 [(Value.int IntKind.i64 q1_v_c0_Size), q1_v_c0_Rowsv]).P w0) (h4 : (bx q1b 55 [(Value.func (Fn.func 71) #[] #[(fdp q1_v_c0b 0)])]).P w0) (h5 : RdRow w0 q2_Rowsv (List.map (Value.int IntKind.i64) q2_Rows)) (h6 : (bx q2b 28 [(Value.int IntKind.i64 q2_Size), q2_Rowsv]).P w0) (h7 : (bx q3b 55 [(Value.func (Fn.func 70) #[] #[])]).P w0) (h8 : (bx q4b 41 [(Value.func (Fn.func 116) #[] #[(fdp q0b 0), (fdp q1b 0), (fdp q2b 0), (fdp q3b 0), (fdp q4b 0)])]).P w0) : Calls Try.prog 116 [p0_lv, (fdp q0b 0), (fdp q1b 0), (fdp q2b 0), (fdp q3b 0), (fdp q4b 0)].toArray w0 (retPost fun v w' => OptRow Nob w0 w' 3 v r) :=
  c_impl_firstList_c1__FindClawc1__always__firstListc1_d F F p0_l q0_v q1_v_c0_Size q1_v_c0_Rows q2_Size q2_Rows p0_lv q0b q1_v_c0_Rowsv q1_v_c0b q1b q2_Rowsv q2b q3b q4b hF w0 h0 h1 h2 h3 h4 h5 h6 h7 h8


theorem c_impl_firstList__always__FindClawc1 (F : Nat) (p0_g_Size : Int) (p0_g_Rows : List Int) (p1_n : Int) (p3_holds_c0_Size : Int) (p3_holds_c0_Rows : List Int) (p0_g_Rowsv : Value) (p3_holds_c0_Rowsv : Value) (p3_holds_c0b : Nat) {r : (List (Int)) × Bool} (hF : S_impl_firstList__always__FindClawc1 F p0_g_Size p0_g_Rows p1_n p3_holds_c0_Size p3_holds_c0_Rows = some r) (w0 : World) (h0 : RdRow w0 p0_g_Rowsv (List.map (Value.int IntKind.i64) p0_g_Rows)) (h1 : RdRow w0 p3_holds_c0_Rowsv (List.map (Value.int IntKind.i64) p3_holds_c0_Rows)) (h2 : (bx p3_holds_c0b 28 [(Value.int IntKind.i64 p3_holds_c0_Size), p3_holds_c0_Rowsv]).P w0) :
    Calls Try.prog 69 [(Value.agg #[(Value.int IntKind.i64 p0_g_Size), p0_g_Rowsv]), (Value.int IntKind.i64 p1_n), (Value.func (Fn.func 70) #[] #[]), (Value.func (Fn.func 71) #[] #[(fdp p3_holds_c0b 0)])].toArray w0 (retPost fun v w' => ∃ v32, v = (Value.tuple #[v32, (Value.bool r.2)]) ∧ Mem Nob w0 w' [(true, ow 3 v32 (List.map (Value.int IntKind.i64) r.1))]) := by
  have hM : Mem Nob w0 w0 [(false, rd p0_g_Rowsv (List.map (Value.int IntKind.i64) p0_g_Rows)), (false, rd p3_holds_c0_Rowsv (List.map (Value.int IntKind.i64) p3_holds_c0_Rows)), (false, bx p3_holds_c0b 28 [(Value.int IntKind.i64 p3_holds_c0_Size), p3_holds_c0_Rowsv])] := (Mem.rcons (Mem.rcons (Mem.gcons (Mem.nil w0) h2 (by simp)) h1 (by simp)) h0 (by simp))
  refine enter2 Try.func69 rfl rfl rfl fun Q a hQr hQn hQp hS => ?_
  have hS : Sl 21 [(0, (Value.agg #[(Value.int IntKind.i64 p0_g_Size), p0_g_Rowsv])), (1, (Value.int IntKind.i64 p1_n)), (2, (Value.func (Fn.func 70) #[] #[])), (3, (Value.func (Fn.func 71) #[] #[(fdp p3_holds_c0b 0)]))] a := hS
  unfold S_impl_firstList__always__FindClawc1 at hF
  refine wp_seq_k fun K1 hK1 => ?_
  refine wp_region_lit ?_
  obtain ⟨b6, w, hr, hM⟩ := hM.boxE (ρ := a.eval) (dst := some 4) (ty := _) (pos := _) (af := _) (gd := _) (x := .tmp 0) (T := 28) [(Value.int IntKind.i64 p0_g_Size), p0_g_Rowsv] (hS.ev rfl) rfl
  refine st_val hS rfl rfl (by decide) hr fun a hS => ?_
  obtain ⟨b7, w, hr, hM⟩ := hM.boxE (ρ := a.eval) (dst := some 5) (ty := _) (pos := _) (af := _) (gd := _) (x := .tmp 1) (T := 3) [(Value.int IntKind.i64 p1_n)] (hS.ev rfl) rfl
  refine st_val hS rfl rfl (by decide) hr fun a hS => ?_
  obtain ⟨b8, w, hr, hM⟩ := hM.boxE (ρ := a.eval) (dst := some 6) (ty := _) (pos := _) (af := _) (gd := _) (x := .tmp 2) (T := 55) [(Value.func (Fn.func 70) #[] #[])] (hS.ev rfl) rfl
  refine st_val hS rfl rfl (by decide) hr fun a hS => ?_
  obtain ⟨b9, w, hr, hM⟩ := hM.boxE (ρ := a.eval) (dst := some 7) (ty := _) (pos := _) (af := _) (gd := _) (x := .tmp 3) (T := 55) [(Value.func (Fn.func 71) #[] #[(fdp p3_holds_c0b 0)])] (hS.ev rfl) rfl
  refine st_val hS rfl rfl (by decide) hr fun a hS => ?_
  refine st_val hS rfl rfl (by decide) (rv_assign (hS.ev rfl)) fun a hS => ?_
  refine st_val hS rfl rfl (by decide) (rv_assign (hS.ev rfl)) fun a hS => ?_
  refine wpList_nil ?_
  refine hK1 _ _ ?_
  refine wp_seq_k fun K10 hK10 => ?_
  refine wp_region_lit ?_
  obtain ⟨b12, w, hr, hM⟩ := hM.allocE (ρ := a.eval) (dst := some 10) (ty := _) (pos := _) (af := _) (gd := _) (T := 41) (P := Try.prog) [Value.nilFunc] ty_zr_41 rfl
  refine st_val hS rfl rfl (by decide) hr fun a hS => ?_
  refine wpList_nil ?_
  refine hK10 _ _ ?_
  refine wp_seq_k fun K13 hK13 => ?_
  refine wp_region_lit ?_
  refine st_val hS rfl rfl (by decide) (rv_makeFunc hS rfl) fun a hS => ?_
  obtain ⟨w, hr, hM⟩ := hM.st_bx1 (n := 0) (cs' := [(Value.func (Fn.func 116) #[] #[(fdp b7 0), (fdp b9 0), (fdp b6 0), (fdp b8 0), (fdp b12 0)])]) (ρ := a.eval) (dst := none) (ty := _) (pos := _) (af := _) (gd := _) (x := .tmp 10) (y := .tmp 12) (hS.ev rfl) (hS.ev rfl) ty_sz_41 rfl rfl rfl
  refine st_unit hS rfl rfl hr ?_
  refine wpList_nil ?_
  refine hK13 _ _ ?_
  refine wp_seq_k fun K14 hK14 => ?_
  refine wp_seq_k fun K19 hK19 => ?_
  refine wp_region_lit ?_
  refine st_val hS rfl rfl (by decide) (rv_load_agg (hS.ev rfl) ty_ag_28 (hM.get 4 rfl) ty_sz_28) fun a hS => ?_
  obtain ⟨r21, hr, hF⟩ := bind_some hF
  refine st_wp hS rfl (wp_call hS rfl rfl (by decide) fn_ok_110 rfl (c_impl_IsGraph F p0_g_Size p0_g_Rows p0_g_Rowsv hr _ (hM.get 5 rfl)) fun v w a hK hS => ?_)
  obtain ⟨rfl, hN⟩ := hK
  have hM := hM.fra hN.fr
  refine st_val hS rfl rfl (by decide) (rv_not (hS.ev rfl)) fun a hS => ?_
  refine wpList_nil ?_
  refine hK19 _ _ ?_
  rcases ite_some hF with ⟨hc, hF⟩ | ⟨hc, hF⟩
  · refine cond_t hS rfl hc ?_
    refine wp_seq_k fun K22 hK22 => ?_
    refine wp_region_lit ?_
    refine st_val hS rfl rfl (by decide) (rv_assign (hS.ev rfl)) fun a hS => ?_
    refine st_val hS rfl rfl (by decide) (rv_assign (hS.ev rfl)) fun a hS => ?_
    refine wpList_nil ?_
    refine hK22 _ _ ?_
    refine wp_ret ?_
    cases hF
    have hM := hM.addNil 3
    exact hQr _ _ (r_2 hS rfl rfl rfl ⟨(Value.slice none 0 0), rfl, hM.pick [0] (by decide) rfl⟩)
  · refine cond_f hS rfl hc ?_
    refine wp_skip ?_
    refine hK14 _ _ ?_
    refine wp_seq_k fun K23 hK23 => ?_
    refine wp_region_lit ?_
    refine st_val hS rfl rfl (by decide) (rv_load_bx (hS.ev rfl) ty_ag_41 (hM.get 0 rfl) rfl) fun a hS => ?_
    have hM := hM.addNil 3
    obtain ⟨r27, hr, hF⟩ := bind_some hF
    refine st_wp hS rfl (wp_callv (vs := [(Value.slice none 0 0)]) (cap := [(fdp b7 0), (fdp b9 0), (fdp b6 0), (fdp b8 0), (fdp b12 0)]) hS rfl rfl rfl (by decide) fn_ok_116 rfl (c_impl_firstList_c1__FindClawc1__always__firstListc1 F ([] : List (Int)) p1_n p3_holds_c0_Size p3_holds_c0_Rows p0_g_Size p0_g_Rows (Value.slice none 0 0) b7 p3_holds_c0_Rowsv p3_holds_c0b b9 p0_g_Rowsv b6 b8 b12 hr _ (rd_of_ow (hM.get 0 rfl)) (hM.get 4 rfl) (hM.get 7 rfl) (hM.get 8 rfl) (hM.get 2 rfl) (hM.get 6 rfl) (hM.get 5 rfl) (hM.get 3 rfl) (hM.get 1 rfl)) fun v28 w a hK hS => ?_)
    rcases r27 with _ | c29
    · dsimp only at hF
      obtain ⟨rfl, hN⟩ := hK
      have hM := hM.fra hN.fr
      refine st_val hS rfl rfl (by decide) (rv_assign (hS.ev rfl)) fun a hS => ?_
      refine wpList_nil ?_
      refine hK23 _ _ ?_
      refine wp_seq_k fun K30 hK30 => ?_
      refine wp_region_lit ?_
      refine st_val hS rfl rfl (by decide) (rv_move (hS.ev rfl)) fun a hS => ?_
      refine st_val hS rfl rfl (by decide) (rv_move (hS.ev rfl)) fun a hS => ?_
      refine st_val hS rfl rfl (by decide) (rv_nil_neq Try.underlying22 (hS.ev rfl) (hS.ev rfl)) fun a hS => ?_
      refine st_val hS rfl rfl (by decide) (rv_assign (hS.ev rfl)) fun a hS => ?_
      refine st_val hS rfl rfl (by decide) (rv_assign (hS.ev rfl)) fun a hS => ?_
      refine wpList_nil ?_
      refine hK30 _ _ ?_
      refine wp_ret ?_
      cases hF
      have hM := hM.addNil 3
      exact hQr _ _ (r_2 hS rfl rfl rfl ⟨(Value.slice none 0 0), rfl, hM.pick [0] (by decide) rfl⟩)
    · dsimp only at hF
      have hN : Mem Nob _ w [(true, ow 3 v28 (List.map (Value.int IntKind.i64) c29))] := hK
      have hM := hM.add hN rfl
      refine st_val hS rfl rfl (by decide) (rv_assign (hS.ev rfl)) fun a hS => ?_
      refine wpList_nil ?_
      refine hK23 _ _ ?_
      refine wp_seq_k fun K31 hK31 => ?_
      refine wp_region_lit ?_
      refine st_val hS rfl rfl (by decide) (rv_move (hS.ev rfl)) fun a hS => ?_
      refine st_val hS rfl rfl (by decide) (rv_move (hS.ev rfl)) fun a hS => ?_
      obtain ⟨_, hx, hF⟩ := bind_some hF
      have hi0 := neO_some hx
      refine st_val hS rfl rfl (by decide) (rv_neq_nil Try.underlying22 (hS.ev rfl) (hS.ev rfl) (rd_of_ow (hM.get 0 rfl)) hi0) fun a hS => ?_
      refine st_val hS rfl rfl (by decide) (rv_assign (hS.ev rfl)) fun a hS => ?_
      refine st_val hS rfl rfl (by decide) (rv_assign (hS.ev rfl)) fun a hS => ?_
      refine wpList_nil ?_
      refine hK31 _ _ ?_
      refine wp_ret ?_
      cases hF
      exact hQr _ _ (r_2 hS rfl rfl rfl ⟨v28, rfl, hM.pick [0] (by decide) rfl⟩)


theorem c_impl_FindClaw (F : Nat) (p0_g_Size : Int) (p0_g_Rows : List Int) (p0_g_Rowsv : Value) {r : (List (Int)) × Bool} (hF : S_impl_FindClaw F p0_g_Size p0_g_Rows = some r) (w0 : World) (h0 : RdRow w0 p0_g_Rowsv (List.map (Value.int IntKind.i64) p0_g_Rows)) :
    Calls Try.prog 12 [(Value.agg #[(Value.int IntKind.i64 p0_g_Size), p0_g_Rowsv])].toArray w0 (retPost fun v w' => ∃ v9, v = (Value.tuple #[v9, (Value.bool r.2)]) ∧ Mem Nob w0 w' [(true, ow 3 v9 (List.map (Value.int IntKind.i64) r.1))]) := by
  have hM : Mem Nob w0 w0 [(false, rd p0_g_Rowsv (List.map (Value.int IntKind.i64) p0_g_Rows))] := (Mem.rcons (Mem.nil w0) h0 (by simp))
  refine enter2 Try.func12 rfl rfl rfl fun Q a hQr hQn hQp hS => ?_
  have hS : Sl 9 [(0, (Value.agg #[(Value.int IntKind.i64 p0_g_Size), p0_g_Rowsv]))] a := hS
  unfold S_impl_FindClaw at hF
  refine wp_seq_k fun K1 hK1 => ?_
  refine wp_region_lit ?_
  obtain ⟨b3, w, hr, hM⟩ := hM.boxE (ρ := a.eval) (dst := some 1) (ty := _) (pos := _) (af := _) (gd := _) (x := .tmp 0) (T := 28) [(Value.int IntKind.i64 p0_g_Size), p0_g_Rowsv] (hS.ev rfl) rfl
  refine st_val hS rfl rfl (by decide) hr fun a hS => ?_
  refine st_val hS rfl rfl (by decide) (rv_assign (hS.ev rfl)) fun a hS => ?_
  refine st_val hS rfl rfl (by decide) (rv_assign (hS.ev rfl)) fun a hS => ?_
  refine wpList_nil ?_
  refine hK1 _ _ ?_
  refine wp_seq_k fun K4 hK4 => ?_
  refine wp_region_lit ?_
  refine st_val hS rfl rfl (by decide) (rv_load_agg (hS.ev rfl) ty_ag_28 (hM.get 0 rfl) ty_sz_28) fun a hS => ?_
  refine st_val hS rfl rfl (by decide) (rv_makeFunc hS rfl) fun a hS => ?_
  obtain ⟨r7, hr, hF⟩ := bind_some hF
  refine st_wp hS rfl (wp_call hS rfl rfl (by decide) fn_ok_69 rfl (c_impl_firstList__always__FindClawc1 F p0_g_Size p0_g_Rows 4 p0_g_Size p0_g_Rows p0_g_Rowsv p0_g_Rowsv b3 hr _ (hM.get 1 rfl) (hM.get 1 rfl) (hM.get 0 rfl)) fun v w a hK hS => ?_)
  obtain ⟨v8, rfl, hN⟩ := hK
  have hM := hM.add hN rfl
  refine st_val hS rfl rfl (by decide) (rv_extract (hS.ev rfl) rfl) fun a hS => ?_
  refine st_val hS rfl rfl (by decide) (rv_extract (hS.ev rfl) rfl) fun a hS => ?_
  refine st_val hS rfl rfl (by decide) (rv_assign (hS.ev rfl)) fun a hS => ?_
  refine st_val hS rfl rfl (by decide) (rv_assign (hS.ev rfl)) fun a hS => ?_
  refine wpList_nil ?_
  refine hK4 _ _ ?_
  refine wp_ret ?_
  cases hF
  exact hQr _ _ (r_2 hS rfl rfl rfl ⟨v8, rfl, hM.pick [0] (by decide) rfl⟩)


theorem c_laws_eqIntS (F : Nat) (p0_a : List Int) (p1_b : List Int) (p0_av : Value) (p1_bv : Value) {r : Bool} (hF : S_laws_eqIntS F p0_a p1_b = some r) (w0 : World) (h0 : RdRow w0 p0_av (List.map (Value.int IntKind.i64) p0_a)) (h1 : RdRow w0 p1_bv (List.map (Value.int IntKind.i64) p1_b)) :
    Calls Try.prog 13 [p0_av, p1_bv].toArray w0 (retPost fun v w' => v = (Value.bool r) ∧ Mem Nob w0 w' []) := by
  have hM : Mem Nob w0 w0 [(false, rd p0_av (List.map (Value.int IntKind.i64) p0_a)), (false, rd p1_bv (List.map (Value.int IntKind.i64) p1_b))] := (Mem.rcons (Mem.rcons (Mem.nil w0) h1 (by simp)) h0 (by simp))
  refine enter2 Try.func13 rfl rfl rfl fun Q a hQr hQn hQp hS => ?_
  have hS : Sl 26 [(0, p0_av), (1, p1_bv)] a := hS
  unfold S_laws_eqIntS at hF
  refine wp_seq_k fun K1 hK1 => ?_
  refine wp_region_lit ?_
  refine st_val hS rfl rfl (by decide) (rv_assign (hS.ev rfl)) fun a hS => ?_
  refine wpList_nil ?_
  refine hK1 _ _ ?_
  refine wp_seq_k fun K2 hK2 => ?_
  refine wp_seq_k fun K5 hK5 => ?_
  refine wp_region_lit ?_
  refine st_val hS rfl rfl (by decide) (rv_move (hS.ev rfl)) fun a hS => ?_
  refine st_val hS rfl rfl (by decide) (rv_len_rowM Try.underlying22 (hS.ev rfl) (hM.get 0 rfl)) fun a hS => ?_
  refine st_val hS rfl rfl (by decide) (rv_move (hS.ev rfl)) fun a hS => ?_
  refine st_val hS rfl rfl (by decide) (rv_len_rowM Try.underlying22 (hS.ev rfl) (hM.get 1 rfl)) fun a hS => ?_
  refine st_val hS rfl rfl (by decide) (rv_neq (hS.ev rfl) (hS.ev rfl)) fun a hS => ?_
  refine wpList_nil ?_
  refine hK5 _ _ ?_
  rcases ite_some hF with ⟨hc, hF⟩ | ⟨hc, hF⟩
  · refine cond_t hS rfl hc ?_
    refine wp_seq_k fun K6 hK6 => ?_
    refine wp_region_lit ?_
    refine st_val hS rfl rfl (by decide) (rv_assign (hS.ev rfl)) fun a hS => ?_
    refine wpList_nil ?_
    refine hK6 _ _ ?_
    refine wp_ret ?_
    cases hF
    exact hQr _ _ (r_1 hS rfl rfl ⟨rfl, hM.pick [] (by decide) rfl⟩)
  · refine cond_f hS rfl hc ?_
    refine wp_skip ?_
    refine hK2 _ _ ?_
    refine wp_seq_k fun K7 hK7 => ?_
    have hJ1 : ∀ (a : Act) (w : World), Sl 26 [] a → Mem Nob w0 w [] → S_laws_eqIntS_j1 F = some r → K7 a w := by
      intro a w hS hM hF
      unfold S_laws_eqIntS_j1 at hF
      refine hK7 _ _ ?_
      refine wp_seq_k fun K42 hK42 => ?_
      refine wp_region_lit ?_
      refine st_val hS rfl rfl (by decide) (rv_assign (hS.ev rfl)) fun a hS => ?_
      refine wpList_nil ?_
      refine hK42 _ _ ?_
      refine wp_ret ?_
      cases hF
      exact hQr _ _ (r_1 hS rfl rfl ⟨rfl, hM.pick [] (by decide) rfl⟩)
    refine wp_seq_k fun K43 hK43 => ?_
    refine wp_region_lit ?_
    refine st_val hS rfl rfl (by decide) (rv_assign (hS.ev rfl)) fun a hS => ?_
    refine wpList_nil ?_
    refine hK43 _ _ ?_
    refine wp_block ?_
    obtain ⟨lb2, hl2, hF2⟩ := bind_some hF
    refine wp_loop_sh (fun s => S_laws_eqIntS_l2 F p0_a p1_b s) (fun s a w => Sl 26 [(0, p0_av), (1, p1_bv), (5, (Value.int IntKind.i64 s))] a ∧ Mem Nob w0 w [(false, rd p0_av (List.map (Value.int IntKind.i64) p0_a)), (false, rd p1_bv (List.map (Value.int IntKind.i64) p1_b))]) hl2 ⟨(hS.sub (sub_cons rfl (sub_cons rfl (sub_cons rfl sub_nil)))), (hM.pick [0, 1] (by decide) rfl)⟩ ?_
    rintro K2 x44 a w res2 ⟨hS, hM⟩ hF hN2 hX2
    have hF : S_laws_eqIntS_l2 F p0_a p1_b x44 = some res2 := hF
    have hS : Sl 26 [(0, p0_av), (1, p1_bv), (5, (Value.int IntKind.i64 x44))] a := hS
    have hM : Mem Nob w0 w [(false, rd p0_av (List.map (Value.int IntKind.i64) p0_a)), (false, rd p1_bv (List.map (Value.int IntKind.i64) p1_b))] := hM
    unfold S_laws_eqIntS_l2 at hF
    refine wp_seq_k fun K61 hK61 => ?_
    refine wp_seq_k fun K63 hK63 => ?_
    refine wp_region_lit ?_
    refine st_val hS rfl rfl (by decide) (rv_move (hS.ev rfl)) fun a hS => ?_
    refine st_val hS rfl rfl (by decide) (rv_move (hS.ev rfl)) fun a hS => ?_
    refine st_val hS rfl rfl (by decide) (rv_len_rowM Try.underlying22 (hS.ev rfl) (hM.get 0 rfl)) fun a hS => ?_
    refine st_val hS rfl rfl (by decide) (rv_lss (hS.ev rfl) (hS.ev rfl)) fun a hS => ?_
    refine wpList_nil ?_
    refine hK63 _ _ ?_
    rcases ite_some hF with ⟨hc, hF⟩ | ⟨hc, hF⟩
    · refine cond_t hS rfl hc ?_
      refine wp_skip ?_
      refine hK61 _ _ ?_
      refine wp_seq_k fun K64 hK64 => ?_
      refine wp_block ?_
      refine wp_seq_k fun K71 hK71 => ?_
      refine an_start Nob ty_mixed fun w hf => ?_
      have hM := hM.fra hf
      have hB := hM
      have hM := hB.reg0
      refine an_take hS (i := 0) rfl (by kernel_rfl) (by kernel_rfl) (by kernel_rfl) rfl (by decide) (fun c a a' w hd h => hQp c a a' w hd h) rfl (fun w' hC' => (rv_move (hS.ev rfl))) hM.fr fun a hS => ?_
      refine an_take hS (i := 1) rfl (by kernel_rfl) (by kernel_rfl) (by kernel_rfl) rfl (by decide) (fun c a a' w hd h => hQp c a a' w hd h) rfl (fun w' hC' => (rv_move (hS.ev rfl))) hM.fr fun a hS => ?_
      obtain ⟨x74, hx, hF⟩ := bind_some hF
      obtain ⟨hi0, hi1, hex74⟩ := idxL_some hx
      refine an_take hS (i := 2) rfl (by kernel_rfl) (by kernel_rfl) (by kernel_rfl) rfl (by decide) (fun c a a' w hd h => hQp c a a' w hd h) rfl (fun w' hC' => (rv_indexAddr Try.underlying22 ty_el_3 (hS.ev rfl) (hS.ev rfl) (hM.get 0 rfl) hi0 (map_len hi1))) hM.fr fun a hS => ?_
      refine an_take hS (i := 3) rfl (by kernel_rfl) (by kernel_rfl) (by kernel_rfl) rfl (by decide) (fun c a a' w hd h => hQp c a a' w hd h) rfl (fun w' hC' => (rv_load_el (hS.ev rfl) ty_ag_3 ((hB.fra hC').get 0 rfl) (mget hex74))) hM.fr fun a hS => ?_
      refine an_take hS (i := 4) rfl (by kernel_rfl) (by kernel_rfl) (by kernel_rfl) rfl (by decide) (fun c a a' w hd h => hQp c a a' w hd h) rfl (fun w' hC' => (rv_move (hS.ev rfl))) hM.fr fun a hS => ?_
      refine an_take hS (i := 5) rfl (by kernel_rfl) (by kernel_rfl) (by kernel_rfl) rfl (by decide) (fun c a a' w hd h => hQp c a a' w hd h) rfl (fun w' hC' => (rv_move (hS.ev rfl))) hM.fr fun a hS => ?_
      obtain ⟨x75, hx, hF⟩ := bind_some hF
      obtain ⟨hi0, hi1, hex75⟩ := idxL_some hx
      refine an_take hS (i := 6) rfl (by kernel_rfl) (by kernel_rfl) (by kernel_rfl) rfl (by decide) (fun c a a' w hd h => hQp c a a' w hd h) rfl (fun w' hC' => (rv_indexAddr Try.underlying22 ty_el_3 (hS.ev rfl) (hS.ev rfl) (hM.get 1 rfl) hi0 (map_len hi1))) hM.fr fun a hS => ?_
      refine an_take hS (i := 7) rfl (by kernel_rfl) (by kernel_rfl) (by kernel_rfl) rfl (by decide) (fun c a a' w hd h => hQp c a a' w hd h) rfl (fun w' hC' => (rv_load_el (hS.ev rfl) ty_ag_3 ((hB.fra hC').get 1 rfl) (mget hex75))) hM.fr fun a hS => ?_
      refine an_take hS (i := 8) rfl (by kernel_rfl) (by kernel_rfl) (by kernel_rfl) rfl (by decide) (fun c a a' w hd h => hQp c a a' w hd h) rfl (fun w' hC' => (rv_neq (hS.ev rfl) (hS.ev rfl))) hM.fr fun a hS => ?_
      refine an_done (by kernel_rfl) ?_
      have hN := hM.pick [] (by decide) rfl
      have hM := Mem.callo (A := []) (B := [(false, rd p0_av (List.map (Value.int IntKind.i64) p0_a)), (false, rd p1_bv (List.map (Value.int IntKind.i64) p1_b))]) hB rfl (hN.memS fun _ h => h.elim) rfl
      refine hK71 _ _ ?_
      rcases ite_some hF with ⟨hc, hF⟩ | ⟨hc, hF⟩
      · refine cond_t hS rfl hc ?_
        refine wp_seq_k fun K76 hK76 => ?_
        refine wp_region_lit ?_
        refine st_val hS rfl rfl (by decide) (rv_assign (hS.ev rfl)) fun a hS => ?_
        refine wpList_nil ?_
        refine hK76 _ _ ?_
        refine wp_ret ?_
        cases hF
        have e := hX2 _ rfl
        subst e
        have hF := hF2
        cases hF
        exact hQr _ _ (r_1 hS rfl rfl ⟨rfl, hM.pick [] (by decide) rfl⟩)
      · refine cond_f hS rfl hc ?_
        refine wp_skip ?_
        refine hK64 _ _ ?_
        refine wp_region_lit ?_
        refine st_val hS rfl rfl (by decide) (rv_move (hS.ev rfl)) fun a hS => ?_
        refine st_val hS rfl rfl (by decide) (rv_add (hS.ev rfl) (hS.ev rfl)) fun a hS => ?_
        refine st_val hS rfl rfl (by decide) (rv_assign (hS.ev rfl)) fun a hS => ?_
        refine wpList_nil ?_
        cases hF
        exact hN2 _ _ _ rfl ⟨(hS.sub (sub_cons rfl (sub_cons rfl (sub_cons rfl sub_nil)))), (hM.pick [0, 1] (by decide) rfl)⟩
    · refine cond_f hS rfl hc ?_
      refine wp_exit ?_
      cases hF
      exact hJ1 _ _ (hS.sub sub_nil) (hM.pick [] (by decide) rfl) (by have e := hX2 _ rfl; subst e; exact hF2)


theorem c_laws_eqGraph (F : Nat) (p0_a_Size : Int) (p0_a_Rows : List Int) (p1_b_Size : Int) (p1_b_Rows : List Int) (p0_a_Rowsv : Value) (p1_b_Rowsv : Value) {r : Bool} (hF : S_laws_eqGraph F p0_a_Size p0_a_Rows p1_b_Size p1_b_Rows = some r) (w0 : World) (h0 : RdRow w0 p0_a_Rowsv (List.map (Value.int IntKind.i64) p0_a_Rows)) (h1 : RdRow w0 p1_b_Rowsv (List.map (Value.int IntKind.i64) p1_b_Rows)) :
    Calls Try.prog 14 [(Value.agg #[(Value.int IntKind.i64 p0_a_Size), p0_a_Rowsv]), (Value.agg #[(Value.int IntKind.i64 p1_b_Size), p1_b_Rowsv])].toArray w0 (retPost fun v w' => v = (Value.bool r) ∧ Mem Nob w0 w' []) := by
  have hM : Mem Nob w0 w0 [(false, rd p0_a_Rowsv (List.map (Value.int IntKind.i64) p0_a_Rows)), (false, rd p1_b_Rowsv (List.map (Value.int IntKind.i64) p1_b_Rows))] := (Mem.rcons (Mem.rcons (Mem.nil w0) h1 (by simp)) h0 (by simp))
  refine enter2 Try.func14 rfl rfl rfl fun Q a hQr hQn hQp hS => ?_
  have hS : Sl 16 [(0, (Value.agg #[(Value.int IntKind.i64 p0_a_Size), p0_a_Rowsv])), (1, (Value.agg #[(Value.int IntKind.i64 p1_b_Size), p1_b_Rowsv]))] a := hS
  unfold S_laws_eqGraph at hF
  refine wp_seq_k fun K1 hK1 => ?_
  refine wp_region_lit ?_
  obtain ⟨b4, w, hr, hM⟩ := hM.boxE (ρ := a.eval) (dst := some 2) (ty := _) (pos := _) (af := _) (gd := _) (x := .tmp 0) (T := 28) [(Value.int IntKind.i64 p0_a_Size), p0_a_Rowsv] (hS.ev rfl) rfl
  refine st_val hS rfl rfl (by decide) hr fun a hS => ?_
  obtain ⟨b5, w, hr, hM⟩ := hM.boxE (ρ := a.eval) (dst := some 3) (ty := _) (pos := _) (af := _) (gd := _) (x := .tmp 1) (T := 28) [(Value.int IntKind.i64 p1_b_Size), p1_b_Rowsv] (hS.ev rfl) rfl
  refine st_val hS rfl rfl (by decide) hr fun a hS => ?_
  refine st_val hS rfl rfl (by decide) (rv_assign (hS.ev rfl)) fun a hS => ?_
  refine wpList_nil ?_
  refine hK1 _ _ ?_
  refine wp_seq_k fun K6 hK6 => ?_
  refine wp_seq_k fun K9 hK9 => ?_
  refine wp_region_lit ?_
  refine st_val hS rfl rfl (by decide) (rv_fieldAddr ty_fd_28_0 (hS.ev rfl)) fun a hS => ?_
  refine st_val hS rfl rfl (by decide) (rv_load_bx (hS.ev rfl) ty_ag_3 (hM.get 1 rfl) rfl) fun a hS => ?_
  refine st_val hS rfl rfl (by decide) (rv_fieldAddr ty_fd_28_0 (hS.ev rfl)) fun a hS => ?_
  refine st_val hS rfl rfl (by decide) (rv_load_bx (hS.ev rfl) ty_ag_3 (hM.get 0 rfl) rfl) fun a hS => ?_
  refine st_val hS rfl rfl (by decide) (rv_neq (hS.ev rfl) (hS.ev rfl)) fun a hS => ?_
  refine wpList_nil ?_
  refine hK9 _ _ ?_
  rcases ite_some hF with ⟨hc, hF⟩ | ⟨hc, hF⟩
  · refine cond_t hS rfl hc ?_
    refine wp_seq_k fun K10 hK10 => ?_
    refine wp_region_lit ?_
    refine st_val hS rfl rfl (by decide) (rv_assign (hS.ev rfl)) fun a hS => ?_
    refine wpList_nil ?_
    refine hK10 _ _ ?_
    refine wp_ret ?_
    cases hF
    exact hQr _ _ (r_1 hS rfl rfl ⟨rfl, hM.pick [] (by decide) rfl⟩)
  · refine cond_f hS rfl hc ?_
    refine wp_skip ?_
    refine hK6 _ _ ?_
    refine wp_seq_k fun K11 hK11 => ?_
    refine wp_seq_k fun K16 hK16 => ?_
    refine wp_region_lit ?_
    refine st_val hS rfl rfl (by decide) (rv_fieldAddr ty_fd_28_1 (hS.ev rfl)) fun a hS => ?_
    refine st_val hS rfl rfl (by decide) (rv_load_bx (hS.ev rfl) ty_ag_22 (hM.get 1 rfl) rfl) fun a hS => ?_
    refine st_val hS rfl rfl (by decide) (rv_fieldAddr ty_fd_28_1 (hS.ev rfl)) fun a hS => ?_
    refine st_val hS rfl rfl (by decide) (rv_load_bx (hS.ev rfl) ty_ag_22 (hM.get 0 rfl) rfl) fun a hS => ?_
    obtain ⟨r18, hr, hF⟩ := bind_some hF
    refine st_wp hS rfl (wp_call hS rfl rfl (by decide) fn_ok_13 rfl (c_laws_eqIntS F p0_a_Rows p1_b_Rows p0_a_Rowsv p1_b_Rowsv hr _ (hM.get 2 rfl) (hM.get 3 rfl)) fun v w a hK hS => ?_)
    obtain ⟨rfl, hN⟩ := hK
    have hM := hM.fra hN.fr
    refine st_val hS rfl rfl (by decide) (rv_not (hS.ev rfl)) fun a hS => ?_
    refine wpList_nil ?_
    refine hK16 _ _ ?_
    rcases ite_some hF with ⟨hc, hF⟩ | ⟨hc, hF⟩
    · refine cond_t hS rfl hc ?_
      refine wp_seq_k fun K19 hK19 => ?_
      refine wp_region_lit ?_
      refine st_val hS rfl rfl (by decide) (rv_assign (hS.ev rfl)) fun a hS => ?_
      refine wpList_nil ?_
      refine hK19 _ _ ?_
      refine wp_ret ?_
      cases hF
      exact hQr _ _ (r_1 hS rfl rfl ⟨rfl, hM.pick [] (by decide) rfl⟩)
    · refine cond_f hS rfl hc ?_
      refine wp_skip ?_
      refine hK11 _ _ ?_
      refine wp_seq_k fun K20 hK20 => ?_
      refine wp_region_lit ?_
      refine st_val hS rfl rfl (by decide) (rv_assign (hS.ev rfl)) fun a hS => ?_
      refine wpList_nil ?_
      refine hK20 _ _ ?_
      refine wp_ret ?_
      cases hF
      exact hQr _ _ (r_1 hS rfl rfl ⟨rfl, hM.pick [] (by decide) rfl⟩)


theorem c_laws_markIntS (F : Nat) (p0_a : List Int) (p1_k : Int) (p0_av : Value) {r : Int × (List (Int))} (hF : S_laws_markIntS F p0_a p1_k = some r) (w0 : World) (hM : Mem (feet [(true, ow 3 p0_av (List.map (Value.int IntKind.i64) p0_a))]) w0 w0 [(true, ow 3 p0_av (List.map (Value.int IntKind.i64) p0_a))]) :
    Calls Try.prog 16 [p0_av, (Value.int IntKind.i64 p1_k)].toArray w0 (retPost fun v w' => v = (Value.int IntKind.i64 r.1) ∧ Mem (feet [(true, ow 3 p0_av (List.map (Value.int IntKind.i64) p0_a))]) w0 w' [(true, ow 3 p0_av (List.map (Value.int IntKind.i64) r.2))]) := by
  refine enter2 Try.func16 rfl rfl rfl fun Q a hQr hQn hQp hS => ?_
  have hS : Sl 19 [(0, p0_av), (1, (Value.int IntKind.i64 p1_k))] a := hS
  unfold S_laws_markIntS at hF
  refine wp_seq_k fun K1 hK1 => ?_
  refine wp_region_lit ?_
  refine st_val hS rfl rfl (by decide) (rv_assign (hS.ev rfl)) fun a hS => ?_
  refine wpList_nil ?_
  refine hK1 _ _ ?_
  refine wp_seq_k fun K2 hK2 => ?_
  have hJ1 : ∀ (x39 : Int) (l40 : List Int) (a : Act) (w : World), Sl 19 [(1, (Value.int IntKind.i64 x39))] a → Mem (feet [(true, ow 3 p0_av (List.map (Value.int IntKind.i64) p0_a))]) w0 w [(true, ow 3 p0_av (List.map (Value.int IntKind.i64) l40))] → S_laws_markIntS_j1 F x39 l40 = some r → K2 a w := by
    intro x39 l40 a w hS hM hF
    unfold S_laws_markIntS_j1 at hF
    refine hK2 _ _ ?_
    refine wp_seq_k fun K41 hK41 => ?_
    refine wp_region_lit ?_
    refine st_val hS rfl rfl (by decide) (rv_move (hS.ev rfl)) fun a hS => ?_
    refine st_val hS rfl rfl (by decide) (rv_assign (hS.ev rfl)) fun a hS => ?_
    refine wpList_nil ?_
    refine hK41 _ _ ?_
    refine wp_ret ?_
    cases hF
    exact hQr _ _ (r_1 hS rfl rfl ⟨rfl, hM.pick [0] (by decide) rfl⟩)
  refine wp_seq_k fun K42 hK42 => ?_
  refine wp_region_lit ?_
  refine st_val hS rfl rfl (by decide) (rv_assign (hS.ev rfl)) fun a hS => ?_
  refine wpList_nil ?_
  refine hK42 _ _ ?_
  refine wp_block ?_
  obtain ⟨lb2, hl2, hF2⟩ := bind_some hF
  refine wp_loop_sh (fun s => S_laws_markIntS_l2 F s.1 s.2.1 s.2.2) (fun s a w => Sl 19 [(0, p0_av), (1, (Value.int IntKind.i64 s.2.1)), (5, (Value.int IntKind.i64 s.2.2))] a ∧ Mem (feet [(true, ow 3 p0_av (List.map (Value.int IntKind.i64) p0_a))]) w0 w [(true, ow 3 p0_av (List.map (Value.int IntKind.i64) s.1))]) hl2 ⟨(hS.sub (sub_cons rfl (sub_cons rfl (sub_cons rfl sub_nil)))), (hM.pick [0] (by decide) rfl)⟩ ?_
  rintro K2 ⟨l55, x56, x57⟩ a w res2 ⟨hS, hM⟩ hF hN2 hX2
  have hF : S_laws_markIntS_l2 F l55 x56 x57 = some res2 := hF
  have hS : Sl 19 [(0, p0_av), (1, (Value.int IntKind.i64 x56)), (5, (Value.int IntKind.i64 x57))] a := hS
  have hM : Mem (feet [(true, ow 3 p0_av (List.map (Value.int IntKind.i64) p0_a))]) w0 w [(true, ow 3 p0_av (List.map (Value.int IntKind.i64) l55))] := hM
  unfold S_laws_markIntS_l2 at hF
  refine wp_seq_k fun K68 hK68 => ?_
  refine wp_seq_k fun K70 hK70 => ?_
  refine wp_region_lit ?_
  refine st_val hS rfl rfl (by decide) (rv_move (hS.ev rfl)) fun a hS => ?_
  refine st_val hS rfl rfl (by decide) (rv_move (hS.ev rfl)) fun a hS => ?_
  refine st_val hS rfl rfl (by decide) (rv_len_rowM Try.underlying22 (hS.ev rfl) (rd_of_ow (hM.get 0 rfl))) fun a hS => ?_
  refine st_val hS rfl rfl (by decide) (rv_lss (hS.ev rfl) (hS.ev rfl)) fun a hS => ?_
  refine wpList_nil ?_
  refine hK70 _ _ ?_
  rcases ite_some hF with ⟨hc, hF⟩ | ⟨hc, hF⟩
  · refine cond_t hS rfl hc ?_
    refine wp_skip ?_
    refine hK68 _ _ ?_
    refine wp_seq_k fun K71 hK71 => ?_
    refine wp_block ?_
    refine wp_seq_k fun K75 hK75 => ?_
    refine wp_region_lit ?_
    refine st_val hS rfl rfl (by decide) (rv_move (hS.ev rfl)) fun a hS => ?_
    refine st_val hS rfl rfl (by decide) (rv_move (hS.ev rfl)) fun a hS => ?_
    refine st_val hS rfl rfl (by decide) (rv_move (hS.ev rfl)) fun a hS => ?_
    obtain ⟨x77, hx, hF⟩ := bind_some hF
    obtain ⟨hi0, hi1, hex77⟩ := idxL_some hx
    refine st_val hS rfl rfl (by decide) (rv_indexAddr Try.underlying22 ty_el_3 (hS.ev rfl) (hS.ev rfl) (rd_of_ow (hM.get 0 rfl)) hi0 (map_len hi1)) fun a hS => ?_
    obtain ⟨w, hr, hM⟩ := hM.st_el (f := (Value.int IntKind.i64)) (n := x57.toNat) (c := x56) (ρ := a.eval) (dst := none) (ty := _) (pos := _) (af := _) (gd := _) (x := .tmp 15) (y := .tmp 14) i64_one (hS.ev rfl) (hS.ev rfl) ty_sz_3 (List.getElem?_eq_some_iff.1 hex77).1
    refine st_unit hS rfl rfl hr ?_
    refine wpList_nil ?_
    refine hK75 _ _ ?_
    refine wp_region_lit ?_
    refine st_val hS rfl rfl (by decide) (rv_move (hS.ev rfl)) fun a hS => ?_
    refine st_val hS rfl rfl (by decide) (rv_add (hS.ev rfl) (hS.ev rfl)) fun a hS => ?_
    refine st_val hS rfl rfl (by decide) (rv_assign (hS.ev rfl)) fun a hS => ?_
    refine wpList_nil ?_
    refine hK71 _ _ ?_
    refine wp_region_lit ?_
    refine st_val hS rfl rfl (by decide) (rv_move (hS.ev rfl)) fun a hS => ?_
    refine st_val hS rfl rfl (by decide) (rv_add (hS.ev rfl) (hS.ev rfl)) fun a hS => ?_
    refine st_val hS rfl rfl (by decide) (rv_assign (hS.ev rfl)) fun a hS => ?_
    refine wpList_nil ?_
    cases hF
    exact hN2 _ _ _ rfl ⟨(hS.sub (sub_cons rfl (sub_cons rfl (sub_cons rfl sub_nil)))), (hM.pick [0] (by decide) rfl)⟩
  · refine cond_f hS rfl hc ?_
    refine wp_exit ?_
    cases hF
    exact hJ1 x56 l55 _ _ (hS.sub (sub_cons rfl sub_nil)) (hM.pick [0] (by decide) rfl) (by have e := hX2 _ rfl; subst e; exact hF2)


theorem c_laws_markGraph (F : Nat) (p0_a_Size : Int) (p0_a_Rows : List Int) (p1_k : Int) (p0_a_Rowsv : Value) {r : Int × (List (Int))} (hF : S_laws_markGraph F p0_a_Size p0_a_Rows p1_k = some r) (w0 : World) (hM : Mem (feet [(true, ow 3 p0_a_Rowsv (List.map (Value.int IntKind.i64) p0_a_Rows))]) w0 w0 [(true, ow 3 p0_a_Rowsv (List.map (Value.int IntKind.i64) p0_a_Rows))]) :
    Calls Try.prog 15 [(Value.agg #[(Value.int IntKind.i64 p0_a_Size), p0_a_Rowsv]), (Value.int IntKind.i64 p1_k)].toArray w0 (retPost fun v w' => v = (Value.int IntKind.i64 r.1) ∧ Mem (feet [(true, ow 3 p0_a_Rowsv (List.map (Value.int IntKind.i64) p0_a_Rows))]) w0 w' [(true, ow 3 p0_a_Rowsv (List.map (Value.int IntKind.i64) r.2))]) := by
  refine enter2 Try.func15 rfl rfl rfl fun Q a hQr hQn hQp hS => ?_
  have hS : Sl 10 [(0, (Value.agg #[(Value.int IntKind.i64 p0_a_Size), p0_a_Rowsv])), (1, (Value.int IntKind.i64 p1_k))] a := hS
  unfold S_laws_markGraph at hF
  refine wp_seq_k fun K1 hK1 => ?_
  refine wp_region_lit ?_
  obtain ⟨b3, w, hr, hM⟩ := hM.boxE (ρ := a.eval) (dst := some 2) (ty := _) (pos := _) (af := _) (gd := _) (x := .tmp 0) (T := 28) [(Value.int IntKind.i64 p0_a_Size), p0_a_Rowsv] (hS.ev rfl) rfl
  refine st_val hS rfl rfl (by decide) hr fun a hS => ?_
  refine st_val hS rfl rfl (by decide) (rv_assign (hS.ev rfl)) fun a hS => ?_
  refine wpList_nil ?_
  refine hK1 _ _ ?_
  refine wp_seq_k fun K4 hK4 => ?_
  refine wp_region_lit ?_
  refine st_val hS rfl rfl (by decide) (rv_fieldAddr ty_fd_28_1 (hS.ev rfl)) fun a hS => ?_
  refine st_val hS rfl rfl (by decide) (rv_load_bx (hS.ev rfl) ty_ag_22 (hM.get 0 rfl) rfl) fun a hS => ?_
  refine st_val hS rfl rfl (by decide) (rv_move (hS.ev rfl)) fun a hS => ?_
  obtain ⟨r6, hr, hF⟩ := bind_some hF
  have hM := hM.pick [1, 0] (by decide) rfl
  have hP := Mem.pre (A := [(true, ow 3 p0_a_Rowsv (List.map (Value.int IntKind.i64) p0_a_Rows))]) (C := []) (B := [(true, bx b3 28 [(Value.int IntKind.i64 p0_a_Size), p0_a_Rowsv])]) hM rfl weaks_nil
  refine st_wp hS rfl (wp_call hS rfl rfl (by decide) fn_ok_16 rfl (c_laws_markIntS F p0_a_Rows p1_k p0_a_Rowsv hr _ hP) fun v w a hK hS => ?_)
  obtain ⟨rfl, hN⟩ := hK
  have hM := Mem.callo (A := [(true, ow 3 p0_a_Rowsv (List.map (Value.int IntKind.i64) p0_a_Rows))]) (B := [(true, bx b3 28 [(Value.int IntKind.i64 p0_a_Size), p0_a_Rowsv])]) hM rfl hN rfl
  refine st_val hS rfl rfl (by decide) (rv_assign (hS.ev rfl)) fun a hS => ?_
  refine wpList_nil ?_
  refine hK4 _ _ ?_
  refine wp_seq_k fun K7 hK7 => ?_
  refine wp_region_lit ?_
  refine st_val hS rfl rfl (by decide) (rv_move (hS.ev rfl)) fun a hS => ?_
  refine st_val hS rfl rfl (by decide) (rv_assign (hS.ev rfl)) fun a hS => ?_
  refine wpList_nil ?_
  refine hK7 _ _ ?_
  refine wp_ret ?_
  cases hF
  exact hQr _ _ (r_1 hS rfl rfl ⟨rfl, hM.pick [0] (by decide) rfl⟩)


theorem c_laws_heldIntS (F : Nat) (p0_a : List Int) (p1_k : Int) (p0_av : Value) {r : Int} (hF : S_laws_heldIntS F p0_a p1_k = some r) (w0 : World) (h0 : RdRow w0 p0_av (List.map (Value.int IntKind.i64) p0_a)) :
    Calls Try.prog 17 [p0_av, (Value.int IntKind.i64 p1_k)].toArray w0 (retPost fun v w' => v = (Value.int IntKind.i64 r) ∧ Mem Nob w0 w' []) := by
  have hM : Mem Nob w0 w0 [(false, rd p0_av (List.map (Value.int IntKind.i64) p0_a))] := (Mem.rcons (Mem.nil w0) h0 (by simp))
  refine enter2 Try.func17 rfl rfl rfl fun Q a hQr hQn hQp hS => ?_
  have hS : Sl 21 [(0, p0_av), (1, (Value.int IntKind.i64 p1_k))] a := hS
  unfold S_laws_heldIntS at hF
  refine wp_seq_k fun K1 hK1 => ?_
  refine wp_region_lit ?_
  refine st_val hS rfl rfl (by decide) (rv_assign (hS.ev rfl)) fun a hS => ?_
  refine wpList_nil ?_
  refine hK1 _ _ ?_
  refine wp_seq_k fun K2 hK2 => ?_
  have hJ1 : ∀ (x50 : Int) (a : Act) (w : World), Sl 21 [(1, (Value.int IntKind.i64 x50))] a → Mem Nob w0 w [] → S_laws_heldIntS_j1 F x50 = some r → K2 a w := by
    intro x50 a w hS hM hF
    unfold S_laws_heldIntS_j1 at hF
    refine hK2 _ _ ?_
    refine wp_seq_k fun K51 hK51 => ?_
    refine wp_region_lit ?_
    refine st_val hS rfl rfl (by decide) (rv_move (hS.ev rfl)) fun a hS => ?_
    refine st_val hS rfl rfl (by decide) (rv_assign (hS.ev rfl)) fun a hS => ?_
    refine wpList_nil ?_
    refine hK51 _ _ ?_
    refine wp_ret ?_
    cases hF
    exact hQr _ _ (r_1 hS rfl rfl ⟨rfl, hM.pick [] (by decide) rfl⟩)
  refine wp_seq_k fun K52 hK52 => ?_
  refine wp_region_lit ?_
  refine st_val hS rfl rfl (by decide) (rv_assign (hS.ev rfl)) fun a hS => ?_
  refine wpList_nil ?_
  refine hK52 _ _ ?_
  refine wp_block ?_
  obtain ⟨lb2, hl2, hF2⟩ := bind_some hF
  refine wp_loop_sh (fun s => S_laws_heldIntS_l2 F p0_a s.1 s.2) (fun s a w => Sl 21 [(0, p0_av), (1, (Value.int IntKind.i64 s.1)), (5, (Value.int IntKind.i64 s.2))] a ∧ Mem Nob w0 w [(false, rd p0_av (List.map (Value.int IntKind.i64) p0_a))]) hl2 ⟨(hS.sub (sub_cons rfl (sub_cons rfl (sub_cons rfl sub_nil)))), (hM.pick [0] (by decide) rfl)⟩ ?_
  rintro K2 ⟨x53, x54⟩ a w res2 ⟨hS, hM⟩ hF hN2 hX2
  have hF : S_laws_heldIntS_l2 F p0_a x53 x54 = some res2 := hF
  have hS : Sl 21 [(0, p0_av), (1, (Value.int IntKind.i64 x53)), (5, (Value.int IntKind.i64 x54))] a := hS
  have hM : Mem Nob w0 w [(false, rd p0_av (List.map (Value.int IntKind.i64) p0_a))] := hM
  unfold S_laws_heldIntS_l2 at hF
  refine wp_seq_k fun K77 hK77 => ?_
  refine wp_seq_k fun K79 hK79 => ?_
  refine wp_region_lit ?_
  refine st_val hS rfl rfl (by decide) (rv_move (hS.ev rfl)) fun a hS => ?_
  refine st_val hS rfl rfl (by decide) (rv_move (hS.ev rfl)) fun a hS => ?_
  refine st_val hS rfl rfl (by decide) (rv_len_rowM Try.underlying22 (hS.ev rfl) (hM.get 0 rfl)) fun a hS => ?_
  refine st_val hS rfl rfl (by decide) (rv_lss (hS.ev rfl) (hS.ev rfl)) fun a hS => ?_
  refine wpList_nil ?_
  refine hK79 _ _ ?_
  rcases ite_some hF with ⟨hc, hF⟩ | ⟨hc, hF⟩
  · refine cond_t hS rfl hc ?_
    refine wp_skip ?_
    refine hK77 _ _ ?_
    refine wp_seq_k fun K80 hK80 => ?_
    refine wp_block ?_
    refine wp_seq_k fun K90 hK90 => ?_
    refine wp_seq_k fun K95 hK95 => ?_
    refine wp_region_lit ?_
    refine st_val hS rfl rfl (by decide) (rv_move (hS.ev rfl)) fun a hS => ?_
    refine st_val hS rfl rfl (by decide) (rv_move (hS.ev rfl)) fun a hS => ?_
    obtain ⟨x97, hx, hF⟩ := bind_some hF
    obtain ⟨hi0, hi1, hex97⟩ := idxL_some hx
    refine st_val hS rfl rfl (by decide) (rv_indexAddr Try.underlying22 ty_el_3 (hS.ev rfl) (hS.ev rfl) (hM.get 0 rfl) hi0 (map_len hi1)) fun a hS => ?_
    refine st_val hS rfl rfl (by decide) (rv_load_el (hS.ev rfl) ty_ag_3 (hM.get 0 rfl) (mget hex97)) fun a hS => ?_
    refine st_val hS rfl rfl (by decide) (rv_move (hS.ev rfl)) fun a hS => ?_
    refine st_val hS rfl rfl (by decide) (rv_neq (hS.ev rfl) (hS.ev rfl)) fun a hS => ?_
    refine wpList_nil ?_
    refine hK95 _ _ ?_
    rcases ite_some hF with ⟨hc, hF⟩ | ⟨hc, hF⟩
    · refine cond_t hS rfl hc ?_
      refine wp_seq_k fun K98 hK98 => ?_
      refine wp_region_lit ?_
      refine st_val hS rfl rfl (by decide) (rv_assign (hS.ev rfl)) fun a hS => ?_
      refine wpList_nil ?_
      refine hK98 _ _ ?_
      refine wp_ret ?_
      cases hF
      have e := hX2 _ rfl
      subst e
      have hF := hF2
      cases hF
      exact hQr _ _ (r_1 hS rfl rfl ⟨rfl, hM.pick [] (by decide) rfl⟩)
    · refine cond_f hS rfl hc ?_
      refine wp_skip ?_
      refine hK90 _ _ ?_
      refine wp_region_lit ?_
      refine st_val hS rfl rfl (by decide) (rv_move (hS.ev rfl)) fun a hS => ?_
      refine st_val hS rfl rfl (by decide) (rv_add (hS.ev rfl) (hS.ev rfl)) fun a hS => ?_
      refine st_val hS rfl rfl (by decide) (rv_assign (hS.ev rfl)) fun a hS => ?_
      refine wpList_nil ?_
      refine hK80 _ _ ?_
      refine wp_region_lit ?_
      refine st_val hS rfl rfl (by decide) (rv_move (hS.ev rfl)) fun a hS => ?_
      refine st_val hS rfl rfl (by decide) (rv_add (hS.ev rfl) (hS.ev rfl)) fun a hS => ?_
      refine st_val hS rfl rfl (by decide) (rv_assign (hS.ev rfl)) fun a hS => ?_
      refine wpList_nil ?_
      cases hF
      exact hN2 _ _ _ rfl ⟨(hS.sub (sub_cons rfl (sub_cons rfl (sub_cons rfl sub_nil)))), (hM.pick [0] (by decide) rfl)⟩
  · refine cond_f hS rfl hc ?_
    refine wp_exit ?_
    cases hF
    exact hJ1 x53 _ _ (hS.sub (sub_cons rfl sub_nil)) (hM.pick [] (by decide) rfl) (by have e := hX2 _ rfl; subst e; exact hF2)


theorem c_laws_szIntS (F : Nat) (p0_a : List Int) (p1_left : Int) (p0_av : Value) {r : Int} (hF : S_laws_szIntS F p0_a p1_left = some r) (w0 : World) (h0 : RdRow w0 p0_av (List.map (Value.int IntKind.i64) p0_a)) :
    Calls Try.prog 66 [p0_av, (Value.int IntKind.i64 p1_left)].toArray w0 (retPost fun v w' => v = (Value.int IntKind.i64 r) ∧ Mem Nob w0 w' []) := by
  have hM : Mem Nob w0 w0 [(false, rd p0_av (List.map (Value.int IntKind.i64) p0_a))] := (Mem.rcons (Mem.nil w0) h0 (by simp))
  refine enter2 Try.func66 rfl rfl rfl fun Q a hQr hQn hQp hS => ?_
  have hS : Sl 12 [(0, p0_av), (1, (Value.int IntKind.i64 p1_left))] a := hS
  unfold S_laws_szIntS at hF
  refine wp_seq_k fun K1 hK1 => ?_
  refine wp_region_lit ?_
  refine st_val hS rfl rfl (by decide) (rv_assign (hS.ev rfl)) fun a hS => ?_
  refine wpList_nil ?_
  refine hK1 _ _ ?_
  refine wp_seq_k fun K2 hK2 => ?_
  refine wp_region_lit ?_
  refine st_val hS rfl rfl (by decide) (rv_move (hS.ev rfl)) fun a hS => ?_
  refine st_val hS rfl rfl (by decide) (rv_move (hS.ev rfl)) fun a hS => ?_
  refine st_val hS rfl rfl (by decide) (rv_len_rowM Try.underlying22 (hS.ev rfl) (hM.get 0 rfl)) fun a hS => ?_
  refine st_val hS rfl rfl (by decide) (rv_sub (hS.ev rfl) (hS.ev rfl)) fun a hS => ?_
  refine st_val hS rfl rfl (by decide) (rv_assign (hS.ev rfl)) fun a hS => ?_
  refine wpList_nil ?_
  refine hK2 _ _ ?_
  refine wp_seq_k fun K3 hK3 => ?_
  refine wp_seq_k fun K6 hK6 => ?_
  refine wp_region_lit ?_
  refine st_val hS rfl rfl (by decide) (rv_move (hS.ev rfl)) fun a hS => ?_
  refine st_val hS rfl rfl (by decide) (rv_lss (hS.ev rfl) (hS.ev rfl)) fun a hS => ?_
  refine wpList_nil ?_
  refine hK6 _ _ ?_
  rcases ite_some hF with ⟨hc, hF⟩ | ⟨hc, hF⟩
  · refine cond_t hS rfl hc ?_
    refine wp_seq_k fun K7 hK7 => ?_
    refine wp_region_lit ?_
    refine st_val hS rfl rfl (by decide) (rv_assign (hS.ev rfl)) fun a hS => ?_
    refine wpList_nil ?_
    refine hK7 _ _ ?_
    refine wp_ret ?_
    cases hF
    exact hQr _ _ (r_1 hS rfl rfl ⟨rfl, hM.pick [] (by decide) rfl⟩)
  · refine cond_f hS rfl hc ?_
    refine wp_skip ?_
    refine hK3 _ _ ?_
    refine wp_seq_k fun K8 hK8 => ?_
    refine wp_region_lit ?_
    refine st_val hS rfl rfl (by decide) (rv_move (hS.ev rfl)) fun a hS => ?_
    refine st_val hS rfl rfl (by decide) (rv_assign (hS.ev rfl)) fun a hS => ?_
    refine wpList_nil ?_
    refine hK8 _ _ ?_
    refine wp_ret ?_
    cases hF
    exact hQr _ _ (r_1 hS rfl rfl ⟨rfl, hM.pick [] (by decide) rfl⟩)


theorem c_laws_szGraph (F : Nat) (p0_a_Size : Int) (p0_a_Rows : List Int) (p1_left : Int) (p0_a_Rowsv : Value) {r : Int} (hF : S_laws_szGraph F p0_a_Size p0_a_Rows p1_left = some r) (w0 : World) (h0 : RdRow w0 p0_a_Rowsv (List.map (Value.int IntKind.i64) p0_a_Rows)) :
    Calls Try.prog 9 [(Value.agg #[(Value.int IntKind.i64 p0_a_Size), p0_a_Rowsv]), (Value.int IntKind.i64 p1_left)].toArray w0 (retPost fun v w' => v = (Value.int IntKind.i64 r) ∧ Mem Nob w0 w' []) := by
  have hM : Mem Nob w0 w0 [(false, rd p0_a_Rowsv (List.map (Value.int IntKind.i64) p0_a_Rows))] := (Mem.rcons (Mem.nil w0) h0 (by simp))
  refine enter2 Try.func9 rfl rfl rfl fun Q a hQr hQn hQp hS => ?_
  have hS : Sl 12 [(0, (Value.agg #[(Value.int IntKind.i64 p0_a_Size), p0_a_Rowsv])), (1, (Value.int IntKind.i64 p1_left))] a := hS
  unfold S_laws_szGraph at hF
  refine wp_seq_k fun K1 hK1 => ?_
  refine wp_region_lit ?_
  obtain ⟨b3, w, hr, hM⟩ := hM.boxE (ρ := a.eval) (dst := some 2) (ty := _) (pos := _) (af := _) (gd := _) (x := .tmp 0) (T := 24) [(Value.int IntKind.i64 p0_a_Size), p0_a_Rowsv] (hS.ev rfl) rfl
  refine st_val hS rfl rfl (by decide) hr fun a hS => ?_
  refine st_val hS rfl rfl (by decide) (rv_assign (hS.ev rfl)) fun a hS => ?_
  refine wpList_nil ?_
  refine hK1 _ _ ?_
  refine wp_seq_k fun K4 hK4 => ?_
  refine wp_region_lit ?_
  refine st_val hS rfl rfl (by decide) (rv_fieldAddr ty_fd_24_1 (hS.ev rfl)) fun a hS => ?_
  refine st_val hS rfl rfl (by decide) (rv_load_bx (hS.ev rfl) ty_ag_22 (hM.get 0 rfl) rfl) fun a hS => ?_
  refine st_val hS rfl rfl (by decide) (rv_move (hS.ev rfl)) fun a hS => ?_
  obtain ⟨r6, hr, hF⟩ := bind_some hF
  refine st_wp hS rfl (wp_call hS rfl rfl (by decide) fn_ok_66 rfl (c_laws_szIntS F p0_a_Rows p1_left p0_a_Rowsv hr _ (hM.get 1 rfl)) fun v w a hK hS => ?_)
  obtain ⟨rfl, hN⟩ := hK
  have hM := hM.fra hN.fr
  refine st_val hS rfl rfl (by decide) (rv_assign (hS.ev rfl)) fun a hS => ?_
  refine wpList_nil ?_
  refine hK4 _ _ ?_
  refine wp_seq_k fun K7 hK7 => ?_
  refine wp_seq_k fun K10 hK10 => ?_
  refine wp_region_lit ?_
  refine st_val hS rfl rfl (by decide) (rv_move (hS.ev rfl)) fun a hS => ?_
  refine st_val hS rfl rfl (by decide) (rv_lss (hS.ev rfl) (hS.ev rfl)) fun a hS => ?_
  refine wpList_nil ?_
  refine hK10 _ _ ?_
  rcases ite_some hF with ⟨hc, hF⟩ | ⟨hc, hF⟩
  · refine cond_t hS rfl hc ?_
    refine wp_seq_k fun K11 hK11 => ?_
    refine wp_region_lit ?_
    refine st_val hS rfl rfl (by decide) (rv_assign (hS.ev rfl)) fun a hS => ?_
    refine wpList_nil ?_
    refine hK11 _ _ ?_
    refine wp_ret ?_
    cases hF
    exact hQr _ _ (r_1 hS rfl rfl ⟨rfl, hM.pick [] (by decide) rfl⟩)
  · refine cond_f hS rfl hc ?_
    refine wp_skip ?_
    refine hK7 _ _ ?_
    refine wp_seq_k fun K12 hK12 => ?_
    refine wp_region_lit ?_
    refine st_val hS rfl rfl (by decide) (rv_move (hS.ev rfl)) fun a hS => ?_
    refine st_val hS rfl rfl (by decide) (rv_assign (hS.ev rfl)) fun a hS => ?_
    refine wpList_nil ?_
    refine hK12 _ _ ?_
    refine wp_ret ?_
    cases hF
    exact hQr _ _ (r_1 hS rfl rfl ⟨rfl, hM.pick [] (by decide) rfl⟩)


end Go.Proofs.Ytilfniehellmmaa
