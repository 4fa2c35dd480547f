/- Proved here: that each Go function does what its shallow function says -/
import Derived.Test.YtfhjmoikggiblaaSh
import Derived.Test.YtfhjmoikggiblaaTy
import Derived.Test.YtfhjmoikggiblaaK9
import Derived.Test.YtfhjmoikggiblaaW0
import Derived.Test.YtfhjmoikggiblaaW1
import Derived.Test.YtfhjmoikggiblaaW2
namespace Go.Proofs.Ytfhjmoikggiblaa
open Go Go.RowKit
set_option linter.unusedVariables false
set_option linter.unusedSimpArgs false
set_option maxRecDepth 100000
set_option maxHeartbeats 4000000

theorem c_impl_areJoined__IsClawc1 (F : Nat) (p0_g_Size : Int) (p0_g_Rows : List Int) (p1_l : List Int) (p0_g_Rowsv : Value) (p1_lv : Value) {r : Bool} (hF : S_impl_areJoined__IsClawc1 F p0_g_Size p0_g_Rows p1_l = some r) (w0 : World) (h0 : RdRow w0 p0_g_Rowsv (List.map (Value.int IntKind.i64) p0_g_Rows)) (h1 : RdRow w0 p1_lv (List.map (Value.int IntKind.i64) p1_l)) :
    Calls Try.prog 61 [(Value.agg #[(Value.int IntKind.i64 p0_g_Size), p0_g_Rowsv]), p1_lv, (Value.func (Fn.func 62) #[] #[])].toArray w0 (retPost fun v w' => v = (Value.bool r) ∧ Mem Nob w0 w' []) := by
  have hM : Mem Nob w0 w0 [(false, rd p0_g_Rowsv (List.map (Value.int IntKind.i64) p0_g_Rows)), (false, rd p1_lv (List.map (Value.int IntKind.i64) p1_l))] := (Mem.rcons (Mem.rcons (Mem.nil w0) h1 (by simp)) h0 (by simp))
  refine enter2 Try.func61 rfl rfl rfl fun Q a hQr hQn hQp hS => ?_
  have hS : Sl 42 [(0, (Value.agg #[(Value.int IntKind.i64 p0_g_Size), p0_g_Rowsv])), (1, p1_lv), (2, (Value.func (Fn.func 62) #[] #[]))] a := hS
  unfold S_impl_areJoined__IsClawc1 at hF
  refine wp_seq_k fun K1 hK1 => ?_
  refine wp_region_lit ?_
  obtain ⟨b3, w, hr, hM⟩ := hM.boxE (ρ := a.eval) (dst := some 3) (ty := _) (pos := _) (af := _) (gd := _) (x := .tmp 0) (T := 27) [(Value.int IntKind.i64 p0_g_Size), p0_g_Rowsv] (hS.ev rfl) rfl
  refine st_val hS rfl rfl (by decide) hr fun a hS => ?_
  refine st_val hS rfl rfl (by decide) (rv_assign (hS.ev rfl)) fun a hS => ?_
  refine wpList_nil ?_
  refine hK1 _ _ ?_
  refine wp_seq_k fun K4 hK4 => ?_
  refine wp_seq_k fun K9 hK9 => ?_
  refine wp_region_lit ?_
  refine st_val hS rfl rfl (by decide) (rv_load_agg (hS.ev rfl) ty_ag_27 (hM.get 0 rfl) ty_sz_27) fun a hS => ?_
  refine st_val hS rfl rfl (by decide) (rv_move (hS.ev rfl)) fun a hS => ?_
  obtain ⟨r11, hr, hF⟩ := bind_some hF
  refine st_wp hS rfl (wp_call hS rfl rfl (by decide) fn_ok_82 rfl (c_impl_areVertices F p0_g_Size p0_g_Rows p1_l p0_g_Rowsv p1_lv hr _ (hM.get 1 rfl) (hM.get 2 rfl)) fun v w a hK hS => ?_)
  obtain ⟨rfl, hN⟩ := hK
  have hM := hM.fra hN.fr
  refine st_val hS rfl rfl (by decide) (rv_not (hS.ev rfl)) fun a hS => ?_
  refine wpList_nil ?_
  refine hK9 _ _ ?_
  rcases ite_some hF with ⟨hc, hF⟩ | ⟨hc, hF⟩
  · refine cond_t hS rfl hc ?_
    refine wp_seq_k fun K12 hK12 => ?_
    refine wp_region_lit ?_
    refine st_val hS rfl rfl (by decide) (rv_assign (hS.ev rfl)) fun a hS => ?_
    refine wpList_nil ?_
    refine hK12 _ _ ?_
    refine wp_ret ?_
    cases hF
    exact hQr _ _ (r_1 hS rfl rfl ⟨rfl, hM.pick [] (by decide) rfl⟩)
  · refine cond_f hS rfl hc ?_
    refine wp_skip ?_
    refine hK4 _ _ ?_
    refine wp_seq_k fun K13 hK13 => ?_
    have hJ1 : ∀ (a : Act) (w : World), Sl 42 [] a → Mem Nob w0 w [] → S_impl_areJoined__IsClawc1_j1 F = some r → K13 a w := by
      intro a w hS hM hF
      unfold S_impl_areJoined__IsClawc1_j1 at hF
      refine hK13 _ _ ?_
      refine wp_seq_k fun K266 hK266 => ?_
      refine wp_region_lit ?_
      refine st_val hS rfl rfl (by decide) (rv_assign (hS.ev rfl)) fun a hS => ?_
      refine wpList_nil ?_
      refine hK266 _ _ ?_
      refine wp_ret ?_
      cases hF
      exact hQr _ _ (r_1 hS rfl rfl ⟨rfl, hM.pick [] (by decide) rfl⟩)
    refine wp_seq_k fun K267 hK267 => ?_
    refine wp_region_lit ?_
    refine st_val hS rfl rfl (by decide) (rv_move (hS.ev rfl)) fun a hS => ?_
    refine st_val hS rfl rfl (by decide) (rv_len_rowM Try.underlying22 (hS.ev rfl) (hM.get 2 rfl)) fun a hS => ?_
    refine st_val hS rfl rfl (by decide) (rv_move (hS.ev rfl)) fun a hS => ?_
    refine wpList_nil ?_
    refine hK267 _ _ ?_
    refine wp_block ?_
    obtain ⟨lb2, hl2, hF2⟩ := bind_some hF
    refine wp_loop_sh (fun s => S_impl_areJoined__IsClawc1_l2 F p0_g_Rows p1_l s) (fun s a w => Sl 42 [(1, p1_lv), (2, (Value.func (Fn.func 62) #[] #[])), (3, (fdp b3 0)), (14, (Value.int IntKind.i64 (p1_l.length : Int))), (15, (Value.int IntKind.i64 s))] a ∧ Mem Nob w0 w [(false, rd p1_lv (List.map (Value.int IntKind.i64) p1_l)), (true, bx b3 27 [(Value.int IntKind.i64 p0_g_Size), p0_g_Rowsv]), (false, rd p0_g_Rowsv (List.map (Value.int IntKind.i64) p0_g_Rows))]) hl2 ⟨(hS.sub (sub_cons rfl (sub_cons rfl (sub_cons rfl (sub_cons rfl (sub_cons rfl sub_nil)))))), (hM.pick [2, 0, 1] (by decide) rfl)⟩ ?_
    rintro K2 x268 a w res2 ⟨hS, hM⟩ hF hN2 hX2
    have hF : S_impl_areJoined__IsClawc1_l2 F p0_g_Rows p1_l x268 = some res2 := hF
    have hS : Sl 42 [(1, p1_lv), (2, (Value.func (Fn.func 62) #[] #[])), (3, (fdp b3 0)), (14, (Value.int IntKind.i64 (p1_l.length : Int))), (15, (Value.int IntKind.i64 x268))] a := hS
    have hM : Mem Nob w0 w [(false, rd p1_lv (List.map (Value.int IntKind.i64) p1_l)), (true, bx b3 27 [(Value.int IntKind.i64 p0_g_Size), p0_g_Rowsv]), (false, rd p0_g_Rowsv (List.map (Value.int IntKind.i64) p0_g_Rows))] := hM
    unfold S_impl_areJoined__IsClawc1_l2 at hF
    refine wp_seq_k fun K394 hK394 => ?_
    refine wp_region_lit ?_
    refine st_val hS rfl rfl (by decide) (rv_lss (hS.ev rfl) (hS.ev rfl)) fun a hS => ?_
    refine wpList_nil ?_
    refine hK394 _ _ ?_
    refine wp_seq_k fun K395 hK395 => ?_
    rcases ite_some hF with ⟨hc, hF⟩ | ⟨hc, hF⟩
    · refine cond_t hS rfl hc ?_
      refine wp_skip ?_
      refine hK395 _ _ ?_
      refine wp_seq_k fun K396 hK396 => ?_
      have hJ3 : ∀ (a : Act) (w : World), Sl 42 [(1, p1_lv), (2, (Value.func (Fn.func 62) #[] #[])), (3, (fdp b3 0)), (14, (Value.int IntKind.i64 (p1_l.length : Int))), (15, (Value.int IntKind.i64 x268))] a → Mem Nob w0 w [(false, rd p1_lv (List.map (Value.int IntKind.i64) p1_l)), (true, bx b3 27 [(Value.int IntKind.i64 p0_g_Size), p0_g_Rowsv]), (false, rd p0_g_Rowsv (List.map (Value.int IntKind.i64) p0_g_Rows))] → S_impl_areJoined__IsClawc1_j3 F x268 = some res2 → K396 a w := by
        intro a w hS hM hF
        unfold S_impl_areJoined__IsClawc1_j3 at hF
        refine hK396 _ _ ?_
        refine wp_region_lit ?_
        refine st_val hS rfl rfl (by decide) (rv_add (hS.ev rfl) (hS.ev rfl)) fun a hS => ?_
        refine st_val hS rfl rfl (by decide) (rv_move (hS.ev rfl)) fun a hS => ?_
        refine wpList_nil ?_
        cases hF
        exact hN2 _ _ _ rfl ⟨(hS.sub (sub_cons rfl (sub_cons rfl (sub_cons rfl (sub_cons rfl (sub_cons rfl sub_nil)))))), (hM.pick [0, 1, 2] (by decide) rfl)⟩
      refine wp_block ?_
      refine wp_seq_k fun K458 hK458 => ?_
      refine wp_region_lit ?_
      refine st_val hS rfl rfl (by decide) (rv_move (hS.ev rfl)) fun a hS => ?_
      refine st_val hS rfl rfl (by decide) (rv_assign (hS.ev rfl)) fun a hS => ?_
      refine wpList_nil ?_
      refine hK458 _ _ ?_
      refine wp_seq_k fun K459 hK459 => ?_
      refine wp_region_lit ?_
      refine st_val hS rfl rfl (by decide) (rv_move (hS.ev rfl)) fun a hS => ?_
      refine st_val hS rfl rfl (by decide) (rv_move (hS.ev rfl)) fun a hS => ?_
      refine wpList_nil ?_
      refine hK459 _ _ ?_
      refine wp_block ?_
      obtain ⟨lb4, hl4, hF4⟩ := bind_some hF
      refine wp_loop_sh (fun s => S_impl_areJoined__IsClawc1_l4 F p0_g_Rows p1_l x268 s) (fun s a w => Sl 42 [(1, p1_lv), (2, (Value.func (Fn.func 62) #[] #[])), (3, (fdp b3 0)), (7, (Value.int IntKind.i64 x268)), (14, (Value.int IntKind.i64 (p1_l.length : Int))), (15, (Value.int IntKind.i64 x268)), (18, (Value.int IntKind.i64 x268)), (19, (Value.int IntKind.i64 s))] a ∧ Mem Nob w0 w [(false, rd p1_lv (List.map (Value.int IntKind.i64) p1_l)), (true, bx b3 27 [(Value.int IntKind.i64 p0_g_Size), p0_g_Rowsv]), (false, rd p0_g_Rowsv (List.map (Value.int IntKind.i64) p0_g_Rows))]) hl4 ⟨(hS.sub (sub_cons rfl (sub_cons rfl (sub_cons rfl (sub_cons rfl (sub_cons rfl (sub_cons rfl (sub_cons rfl (sub_cons rfl sub_nil))))))))), (hM.pick [0, 1, 2] (by decide) rfl)⟩ ?_
      rintro K4 x460 a w res4 ⟨hS, hM⟩ hF hN4 hX4
      have hF : S_impl_areJoined__IsClawc1_l4 F p0_g_Rows p1_l x268 x460 = some res4 := hF
      have hS : Sl 42 [(1, p1_lv), (2, (Value.func (Fn.func 62) #[] #[])), (3, (fdp b3 0)), (7, (Value.int IntKind.i64 x268)), (14, (Value.int IntKind.i64 (p1_l.length : Int))), (15, (Value.int IntKind.i64 x268)), (18, (Value.int IntKind.i64 x268)), (19, (Value.int IntKind.i64 x460))] a := hS
      have hM : Mem Nob w0 w [(false, rd p1_lv (List.map (Value.int IntKind.i64) p1_l)), (true, bx b3 27 [(Value.int IntKind.i64 p0_g_Size), p0_g_Rowsv]), (false, rd p0_g_Rowsv (List.map (Value.int IntKind.i64) p0_g_Rows))] := hM
      unfold S_impl_areJoined__IsClawc1_l4 at hF
      refine wp_seq_k fun K490 hK490 => ?_
      refine wp_region_lit ?_
      refine st_val hS rfl rfl (by decide) (rv_lss (hS.ev rfl) (hS.ev rfl)) fun a hS => ?_
      refine wpList_nil ?_
      refine hK490 _ _ ?_
      refine wp_seq_k fun K491 hK491 => ?_
      rcases ite_some hF with ⟨hc, hF⟩ | ⟨hc, hF⟩
      · refine cond_t hS rfl hc ?_
        refine wp_skip ?_
        refine hK491 _ _ ?_
        refine wp_seq_k fun K492 hK492 => ?_
        refine wp_block ?_
        refine wp_seq_k fun K506 hK506 => ?_
        refine wp_region_lit ?_
        refine st_val hS rfl rfl (by decide) (rv_move (hS.ev rfl)) fun a hS => ?_
        refine st_val hS rfl rfl (by decide) (rv_assign (hS.ev rfl)) fun a hS => ?_
        refine wpList_nil ?_
        refine hK506 _ _ ?_
        refine wp_seq_k fun K507 hK507 => ?_
        refine an_start Nob ty_mixed fun w hf => ?_
        have hM := hM.fra hf
        have hB := hM
        have hM := hB.reg0
        refine an_take hS (i := 0) rfl (by kernel_rfl) (by kernel_rfl) (by kernel_rfl) rfl (by decide) (fun c a a' w hd h => hQp c a a' w hd h) rfl (fun w' hC' => (rv_fieldAddr ty_fd_27_1 (hS.ev rfl))) hM.fr fun a hS => ?_
        refine an_take hS (i := 1) rfl (by kernel_rfl) (by kernel_rfl) (by kernel_rfl) rfl (by decide) (fun c a a' w hd h => hQp c a a' w hd h) rfl (fun w' hC' => (rv_load_bx (hS.ev rfl) ty_ag_22 ((hB.fra hC').get 1 rfl) rfl)) hM.fr fun a hS => ?_
        refine an_take hS (i := 2) rfl (by kernel_rfl) (by kernel_rfl) (by kernel_rfl) rfl (by decide) (fun c a a' w hd h => hQp c a a' w hd h) rfl (fun w' hC' => (rv_move (hS.ev rfl))) hM.fr fun a hS => ?_
        refine an_take hS (i := 3) rfl (by kernel_rfl) (by kernel_rfl) (by kernel_rfl) rfl (by decide) (fun c a a' w hd h => hQp c a a' w hd h) rfl (fun w' hC' => (rv_move (hS.ev rfl))) hM.fr fun a hS => ?_
        obtain ⟨x513, hx, hF⟩ := bind_some hF
        obtain ⟨hi0, hi1, hex513⟩ := idxL_some hx
        refine an_take hS (i := 4) rfl (by kernel_rfl) (by kernel_rfl) (by kernel_rfl) rfl (by decide) (fun c a a' w hd h => hQp c a a' w hd h) rfl (fun w' hC' => (rv_indexAddr Try.underlying22 ty_el_3 (hS.ev rfl) (hS.ev rfl) (hM.get 0 rfl) hi0 (map_len hi1))) hM.fr fun a hS => ?_
        refine an_take hS (i := 5) rfl (by kernel_rfl) (by kernel_rfl) (by kernel_rfl) rfl (by decide) (fun c a a' w hd h => hQp c a a' w hd h) rfl (fun w' hC' => (rv_load_el (hS.ev rfl) ty_ag_3 ((hB.fra hC').get 0 rfl) (mget hex513))) hM.fr fun a hS => ?_
        obtain ⟨x514, hx, hF⟩ := bind_some hF
        obtain ⟨hi0, hi1, hex514⟩ := idxL_some hx
        refine an_take hS (i := 6) rfl (by kernel_rfl) (by kernel_rfl) (by kernel_rfl) rfl (by decide) (fun c a a' w hd h => hQp c a a' w hd h) rfl (fun w' hC' => (rv_indexAddr Try.underlying22 ty_el_3 (hS.ev rfl) (hS.ev rfl) (hM.get 2 rfl) hi0 (map_len hi1))) hM.fr fun a hS => ?_
        refine an_take hS (i := 7) rfl (by kernel_rfl) (by kernel_rfl) (by kernel_rfl) rfl (by decide) (fun c a a' w hd h => hQp c a a' w hd h) rfl (fun w' hC' => (rv_load_el (hS.ev rfl) ty_ag_3 ((hB.fra hC').get 2 rfl) (mget hex514))) hM.fr fun a hS => ?_
        refine an_take hS (i := 8) rfl (by kernel_rfl) (by kernel_rfl) (by kernel_rfl) rfl (by decide) (fun c a a' w hd h => hQp c a a' w hd h) rfl (fun w' hC' => (rv_move (hS.ev rfl))) hM.fr fun a hS => ?_
        refine an_take hS (i := 9) rfl (by kernel_rfl) (by kernel_rfl) (by kernel_rfl) rfl (by decide) (fun c a a' w hd h => hQp c a a' w hd h) rfl (fun w' hC' => (rv_move (hS.ev rfl))) hM.fr fun a hS => ?_
        obtain ⟨x515, hx, hF⟩ := bind_some hF
        obtain ⟨hi0, hi1, hex515⟩ := idxL_some hx
        refine an_take hS (i := 10) rfl (by kernel_rfl) (by kernel_rfl) (by kernel_rfl) rfl (by decide) (fun c a a' w hd h => hQp c a a' w hd h) rfl (fun w' hC' => (rv_indexAddr Try.underlying22 ty_el_3 (hS.ev rfl) (hS.ev rfl) (hM.get 0 rfl) hi0 (map_len hi1))) hM.fr fun a hS => ?_
        refine an_take hS (i := 11) rfl (by kernel_rfl) (by kernel_rfl) (by kernel_rfl) rfl (by decide) (fun c a a' w hd h => hQp c a a' w hd h) rfl (fun w' hC' => (rv_load_el (hS.ev rfl) ty_ag_3 ((hB.fra hC').get 0 rfl) (mget hex515))) hM.fr fun a hS => ?_
        refine an_take hS (i := 13) rfl (by kernel_rfl) (by kernel_rfl) (by kernel_rfl) rfl (by decide) (fun c a a' w hd h => hQp c a a' w hd h) rfl (fun w' hC' => (rv_move (hS.ev rfl))) hM.fr fun a hS => ?_
        refine an_take hS (i := 14) rfl (by kernel_rfl) (by kernel_rfl) (by kernel_rfl) rfl (by decide) (fun c a a' w hd h => hQp c a a' w hd h) rfl (fun w' hC' => (rv_move (hS.ev rfl))) hM.fr fun a hS => ?_
        refine an_take hS (i := 15) rfl (by kernel_rfl) (by kernel_rfl) (by kernel_rfl) rfl (by decide) (fun c a a' w hd h => hQp c a a' w hd h) rfl (fun w' hC' => (rv_move (hS.ev rfl))) hM.fr fun a hS => ?_
        obtain ⟨r516, hr, hF⟩ := bind_some hF
        refine an_one hS (i := 12) rfl (by kernel_rfl) rfl ?_
        refine wp_call hS rfl rfl (by decide) fn_ok_74 rfl (c_impl_has F x514 x515 hr _) fun v w a hK hS => ?_
        obtain ⟨rfl, hN⟩ := hK
        have hM := hM.fra hN.fr
        refine ⟨hM.fr, ?_⟩
        obtain ⟨r517, hr, hF⟩ := bind_some hF
        refine an_one hS (i := 16) rfl (by kernel_rfl) rfl ?_
        refine wp_callv (vs := [(Value.int IntKind.i64 x460), (Value.int IntKind.i64 x268)]) (cap := []) hS rfl rfl rfl (by decide) fn_ok_62 rfl (c_impl_IsClaw_c1 F x460 x268 hr _) fun v w a hK hS => ?_
        obtain ⟨rfl, hN⟩ := hK
        have hM := hM.fra hN.fr
        refine ⟨hM.fr, ?_⟩
        refine an_take hS (i := 17) rfl (by kernel_rfl) (by kernel_rfl) (by kernel_rfl) rfl (by decide) (fun c a a' w hd h => hQp c a a' w hd h) rfl (fun w' hC' => (rv_bneq Try.underlying4 (hS.ev rfl) (hS.ev rfl))) hM.fr fun a hS => ?_
        refine an_done (by kernel_rfl) ?_
        have hN := hM.pick [] (by decide) rfl
        have hM := Mem.callo (A := []) (B := [(false, rd p1_lv (List.map (Value.int IntKind.i64) p1_l)), (true, bx b3 27 [(Value.int IntKind.i64 p0_g_Size), p0_g_Rowsv]), (false, rd p0_g_Rowsv (List.map (Value.int IntKind.i64) p0_g_Rows))]) hB rfl (hN.memS fun _ h => h.elim) rfl
        refine hK507 _ _ ?_
        rcases ite_some hF with ⟨hc, hF⟩ | ⟨hc, hF⟩
        · refine cond_t hS rfl hc ?_
          refine wp_seq_k fun K518 hK518 => ?_
          refine wp_region_lit ?_
          refine st_val hS rfl rfl (by decide) (rv_assign (hS.ev rfl)) fun a hS => ?_
          refine wpList_nil ?_
          refine hK518 _ _ ?_
          refine wp_ret ?_
          cases hF
          have e := hX4 _ rfl
          subst e
          have hF := hF4
          cases hF
          have e := hX2 _ rfl
          subst e
          have hF := hF2
          cases hF
          exact hQr _ _ (r_1 hS rfl rfl ⟨rfl, hM.pick [] (by decide) rfl⟩)
        · refine cond_f hS rfl hc ?_
          refine wp_skip ?_
          refine hK492 _ _ ?_
          refine wp_region_lit ?_
          refine st_val hS rfl rfl (by decide) (rv_add (hS.ev rfl) (hS.ev rfl)) fun a hS => ?_
          refine st_val hS rfl rfl (by decide) (rv_move (hS.ev rfl)) fun a hS => ?_
          refine wpList_nil ?_
          cases hF
          exact hN4 _ _ _ rfl ⟨(hS.sub (sub_cons rfl (sub_cons rfl (sub_cons rfl (sub_cons rfl (sub_cons rfl (sub_cons rfl (sub_cons rfl (sub_cons rfl sub_nil))))))))), (hM.pick [0, 1, 2] (by decide) rfl)⟩
      · refine cond_f hS rfl hc ?_
        refine wp_exit ?_
        cases hF
        exact hJ3 _ _ (hS.sub (sub_cons rfl (sub_cons rfl (sub_cons rfl (sub_cons rfl (sub_cons rfl sub_nil)))))) (hM.pick [0, 1, 2] (by decide) rfl) (by have e := hX4 _ rfl; subst e; exact hF4)
    · refine cond_f hS rfl hc ?_
      refine wp_exit ?_
      cases hF
      exact hJ1 _ _ (hS.sub sub_nil) (hM.pick [] (by decide) rfl) (by have e := hX2 _ rfl; subst e; exact hF2)


theorem c_impl_IsClaw (F : Nat) (p0_g_Size : Int) (p0_g_Rows : List Int) (p1_l : List Int) (p0_g_Rowsv : Value) (p1_lv : Value) {r : Bool} (hF : S_impl_IsClaw F p0_g_Size p0_g_Rows p1_l = some r) (w0 : World) (h0 : RdRow w0 p0_g_Rowsv (List.map (Value.int IntKind.i64) p0_g_Rows)) (h1 : RdRow w0 p1_lv (List.map (Value.int IntKind.i64) p1_l)) :
    Calls Try.prog 26 [(Value.agg #[(Value.int IntKind.i64 p0_g_Size), p0_g_Rowsv]), p1_lv].toArray w0 (retPost fun v w' => v = (Value.bool r) ∧ Mem Nob w0 w' []) := by
  have hM : Mem Nob w0 w0 [(false, rd p0_g_Rowsv (List.map (Value.int IntKind.i64) p0_g_Rows)), (false, rd p1_lv (List.map (Value.int IntKind.i64) p1_l))] := (Mem.rcons (Mem.rcons (Mem.nil w0) h1 (by simp)) h0 (by simp))
  refine enter2 Try.func26 rfl rfl rfl fun Q a hQr hQn hQp hS => ?_
  have hS : Sl 13 [(0, (Value.agg #[(Value.int IntKind.i64 p0_g_Size), p0_g_Rowsv])), (1, p1_lv)] a := hS
  unfold S_impl_IsClaw at hF
  refine wp_seq_k fun K1 hK1 => ?_
  refine wp_region_lit ?_
  obtain ⟨b3, w, hr, hM⟩ := hM.boxE (ρ := a.eval) (dst := some 2) (ty := _) (pos := _) (af := _) (gd := _) (x := .tmp 0) (T := 27) [(Value.int IntKind.i64 p0_g_Size), p0_g_Rowsv] (hS.ev rfl) rfl
  refine st_val hS rfl rfl (by decide) hr fun a hS => ?_
  refine st_val hS rfl rfl (by decide) (rv_assign (hS.ev rfl)) fun a hS => ?_
  refine wpList_nil ?_
  refine hK1 _ _ ?_
  refine wp_seq_k fun K4 hK4 => ?_
  have hJ1 : ∀ (p6 : Bool) (a : Act) (w : World), Sl 13 [(4, (Value.bool p6))] a → Mem Nob w0 w [] → S_impl_IsClaw_j1 F p6 = some r → K4 a w := by
    intro p6 a w hS hM hF
    unfold S_impl_IsClaw_j1 at hF
    refine hK4 _ _ ?_
    refine wp_ret ?_
    cases hF
    exact hQr _ _ (r_1 hS rfl rfl ⟨rfl, hM.pick [] (by decide) rfl⟩)
  refine wp_region_lit ?_
  refine st_val hS rfl rfl (by decide) (rv_move (hS.ev rfl)) fun a hS => ?_
  refine st_val hS rfl rfl (by decide) (rv_len_rowM Try.underlying22 (hS.ev rfl) (hM.get 2 rfl)) fun a hS => ?_
  refine st_val hS rfl rfl (by decide) (rv_eql (hS.ev rfl) (hS.ev rfl)) fun a hS => ?_
  refine st_val hS rfl rfl (by decide) (rv_move (hS.ev rfl)) fun a hS => ?_
  rcases ite_some hF with ⟨hc, hF⟩ | ⟨hc, hF⟩
  · have hS := hS.setb (t := 8) rfl hc
    refine st_val hS rfl rfl (by decide) (rv_load_agg (hS.ev rfl) ty_ag_27 (hM.get 0 rfl) ty_sz_27) fun a hS => ?_
    refine st_val hS rfl rfl (by decide) (rv_move (hS.ev rfl)) fun a hS => ?_
    obtain ⟨r7, hr, hF⟩ := bind_some hF
    refine st_wp hS rfl (wp_call hS rfl rfl (by decide) fn_ok_61 rfl (c_impl_areJoined__IsClawc1 F p0_g_Size p0_g_Rows p1_l p0_g_Rowsv p1_lv hr _ (hM.get 1 rfl) (hM.get 2 rfl)) fun v w a hK hS => ?_)
    obtain ⟨rfl, hN⟩ := hK
    have hM := hM.fra hN.fr
    refine st_val hS rfl rfl (by decide) (rv_pick_t (hS.ev rfl) (hS.ev rfl)) fun a hS => ?_
    refine st_val hS rfl rfl (by decide) (rv_assign (hS.ev rfl)) fun a hS => ?_
    refine wpList_nil ?_
    exact hJ1 r7 _ _ (hS.sub (sub_cons rfl sub_nil)) (hM.pick [] (by decide) rfl) hF
  · have hS := hS.setb (t := 8) rfl hc
    refine st_skip hS rfl rfl (by decide) fun a hS => ?_
    refine st_skip hS rfl rfl (by decide) fun a hS => ?_
    refine st_skip hS rfl rfl (by decide) fun a hS => ?_
    refine st_val hS rfl rfl (by decide) (rv_pick_f (hS.ev rfl) (hS.ev rfl)) fun a hS => ?_
    refine st_val hS rfl rfl (by decide) (rv_assign (hS.ev rfl)) fun a hS => ?_
    refine wpList_nil ?_
    exact hJ1 false _ _ (hS.sub (sub_cons rfl sub_nil)) (hM.pick [] (by decide) rfl) hF


theorem c_laws_FnExactIsClaw (F : Nat) (p0_aG_Size : Int) (p0_aG_Rows : List Int) (p1_aL : List Int) (p0_aG_Rowsv : Value) (p1_aLv : Value) {r : Bool} (hF : S_laws_FnExactIsClaw F p0_aG_Size p0_aG_Rows p1_aL = some r) (w0 : World) (h0 : RdRow w0 p0_aG_Rowsv (List.map (Value.int IntKind.i64) p0_aG_Rows)) (h1 : RdRow w0 p1_aLv (List.map (Value.int IntKind.i64) p1_aL)) :
    Calls Try.prog 5 [(Value.agg #[(Value.int IntKind.i64 p0_aG_Size), p0_aG_Rowsv]), p1_aLv].toArray w0 (retPost fun v w' => v = (Value.bool r) ∧ Mem Nob w0 w' []) := by
  have hM : Mem Nob w0 w0 [(false, rd p0_aG_Rowsv (List.map (Value.int IntKind.i64) p0_aG_Rows)), (false, rd p1_aLv (List.map (Value.int IntKind.i64) p1_aL))] := (Mem.rcons (Mem.rcons (Mem.nil w0) h1 (by simp)) h0 (by simp))
  refine enter2 Try.func5 rfl rfl rfl fun Q a hQr hQn hQp hS => ?_
  have hS : Sl 43 [(0, (Value.agg #[(Value.int IntKind.i64 p0_aG_Size), p0_aG_Rowsv])), (1, p1_aLv)] a := hS
  unfold S_laws_FnExactIsClaw at hF
  refine wp_seq_k fun K1 hK1 => ?_
  refine wp_region_lit ?_
  obtain ⟨b3, w, hr, hM⟩ := hM.boxE (ρ := a.eval) (dst := some 2) (ty := _) (pos := _) (af := _) (gd := _) (x := .tmp 0) (T := 24) [(Value.int IntKind.i64 p0_aG_Size), p0_aG_Rowsv] (hS.ev rfl) rfl
  refine st_val hS rfl rfl (by decide) hr fun a hS => ?_
  refine st_val hS rfl rfl (by decide) (rv_assign (hS.ev rfl)) fun a hS => ?_
  refine wpList_nil ?_
  refine hK1 _ _ ?_
  refine wp_seq_k fun K4 hK4 => ?_
  refine wp_seq_k fun K7 hK7 => ?_
  refine wp_region_lit ?_
  refine st_val hS rfl rfl (by decide) (rv_move (hS.ev rfl)) fun a hS => ?_
  refine st_val hS rfl rfl (by decide) (rv_len_rowM Try.underlying22 (hS.ev rfl) (hM.get 2 rfl)) fun a hS => ?_
  refine st_val hS rfl rfl (by decide) (rv_gtr (hS.ev rfl) (hS.ev rfl)) fun a hS => ?_
  refine wpList_nil ?_
  refine hK7 _ _ ?_
  rcases ite_some hF with ⟨hc, hF⟩ | ⟨hc, hF⟩
  · refine cond_t hS rfl hc ?_
    refine wp_seq_k fun K8 hK8 => ?_
    refine wp_region_lit ?_
    refine st_val hS rfl rfl (by decide) (rv_assign (hS.ev rfl)) fun a hS => ?_
    refine wpList_nil ?_
    refine hK8 _ _ ?_
    refine wp_ret ?_
    cases hF
    exact hQr _ _ (r_1 hS rfl rfl ⟨rfl, hM.pick [] (by decide) rfl⟩)
  · refine cond_f hS rfl hc ?_
    refine wp_skip ?_
    refine hK4 _ _ ?_
    refine wp_seq_k fun K9 hK9 => ?_
    refine wp_region_lit ?_
    refine st_val hS rfl rfl (by decide) (rv_assign (hS.ev rfl)) fun a hS => ?_
    refine wpList_nil ?_
    refine hK9 _ _ ?_
    refine wp_seq_k fun K10 hK10 => ?_
    refine wp_region_lit ?_
    refine st_val hS rfl rfl (by decide) (rv_load_agg (hS.ev rfl) ty_ag_24 (hM.get 0 rfl) ty_sz_24) fun a hS => ?_
    refine st_val hS rfl rfl (by decide) (rv_move (hS.ev rfl)) fun a hS => ?_
    obtain ⟨r12, hr, hF⟩ := bind_some hF
    refine st_wp hS rfl (wp_call hS rfl rfl (by decide) fn_ok_15 rfl (c_laws_szGraph F p0_aG_Size p0_aG_Rows 1048576 p0_aG_Rowsv hr _ (hM.get 1 rfl)) fun v w a hK hS => ?_)
    obtain ⟨rfl, hN⟩ := hK
    have hM := hM.fra hN.fr
    refine st_val hS rfl rfl (by decide) (rv_assign (hS.ev rfl)) fun a hS => ?_
    refine wpList_nil ?_
    refine hK10 _ _ ?_
    refine wp_seq_k fun K13 hK13 => ?_
    refine wp_seq_k fun K16 hK16 => ?_
    refine wp_region_lit ?_
    refine st_val hS rfl rfl (by decide) (rv_move (hS.ev rfl)) fun a hS => ?_
    refine st_val hS rfl rfl (by decide) (rv_lss (hS.ev rfl) (hS.ev rfl)) fun a hS => ?_
    refine wpList_nil ?_
    refine hK16 _ _ ?_
    rcases ite_some hF with ⟨hc, hF⟩ | ⟨hc, hF⟩
    · refine cond_t hS rfl hc ?_
      refine wp_seq_k fun K17 hK17 => ?_
      refine wp_region_lit ?_
      refine st_val hS rfl rfl (by decide) (rv_assign (hS.ev rfl)) fun a hS => ?_
      refine wpList_nil ?_
      refine hK17 _ _ ?_
      refine wp_ret ?_
      cases hF
      exact hQr _ _ (r_1 hS rfl rfl ⟨rfl, hM.pick [] (by decide) rfl⟩)
    · refine cond_f hS rfl hc ?_
      refine wp_skip ?_
      refine hK13 _ _ ?_
      refine wp_seq_k fun K18 hK18 => ?_
      refine wp_region_lit ?_
      refine st_val hS rfl rfl (by decide) (rv_load_agg (hS.ev rfl) ty_ag_24 (hM.get 0 rfl) ty_sz_24) fun a hS => ?_
      obtain ⟨r24, hr, hF⟩ := bind_some hF
      refine st_wp hS rfl (wp_call hS rfl rfl (by decide) fn_ok_17 rfl (c_laws_toGraph F p0_aG_Size p0_aG_Rows p0_aG_Rowsv hr _ (hM.get 1 rfl)) fun v w a hK hS => ?_)
      obtain ⟨v25, rfl, hN⟩ := hK
      have hM := hM.add hN rfl
      refine st_val hS rfl rfl (by decide) (rv_move (hS.ev rfl)) fun a hS => ?_
      obtain ⟨r26, hr, hF⟩ := bind_some hF
      refine st_wp hS rfl (wp_call hS rfl rfl (by decide) fn_ok_25 rfl (c_laws_toIntS F p1_aL p1_aLv hr _ (hM.get 3 rfl)) fun v27 w a hK hS => ?_)
      have hN := hK
      have hM := hM.add hN rfl
      obtain ⟨r28, hr, hF⟩ := bind_some hF
      refine st_wp hS rfl (wp_call hS rfl rfl (by decide) fn_ok_24 rfl (c_spec_IsClaw F r24.1 r24.2 r26 v25 v27 hr _ (rd_of_ow (hM.get 1 rfl)) (rd_of_ow (hM.get 0 rfl))) fun v w a hK hS => ?_)
      obtain ⟨rfl, hN⟩ := hK
      have hM := hM.fra hN.fr
      refine st_val hS rfl rfl (by decide) (rv_assign (hS.ev rfl)) fun a hS => ?_
      refine wpList_nil ?_
      refine hK18 _ _ ?_
      refine wp_seq_k fun K29 hK29 => ?_
      refine wp_region_lit ?_
      refine st_val hS rfl rfl (by decide) (rv_load_agg (hS.ev rfl) ty_ag_24 (hM.get 2 rfl) ty_sz_24) fun a hS => ?_
      obtain ⟨r33, hr, hF⟩ := bind_some hF
      refine st_wp hS rfl (wp_call hS rfl rfl (by decide) fn_ok_17 rfl (c_laws_toGraph F p0_aG_Size p0_aG_Rows p0_aG_Rowsv hr _ (hM.get 3 rfl)) fun v w a hK hS => ?_)
      obtain ⟨v34, rfl, hN⟩ := hK
      have hM := hM.add hN rfl
      obtain ⟨b35, w, hr, hM⟩ := hM.allocE (ρ := a.eval) (dst := some 7) (ty := _) (pos := _) (af := _) (gd := _) (T := 27) (P := Try.prog) [(Value.int IntKind.i64 0), (Value.slice none 0 0)] ty_zr_27 rfl
      refine st_val hS rfl rfl (by decide) hr fun a hS => ?_
      have hM := hM.addNil 3
      have hM := hM.pick [1, 0, 2, 3, 4, 5, 6, 7] (by decide) rfl
      obtain ⟨w, hr, hM⟩ := hM.st_agg (us := [(Value.int IntKind.i64 r33.1), v34]) (ρ := a.eval) (dst := none) (ty := _) (pos := _) (af := _) (gd := _) (x := .tmp 7) (y := .tmp 24) (hS.ev rfl) (hS.ev rfl) ty_sz_27 (all1_cons rfl (all1_cons (rd_one (rd_of_ow (hM.get 2 rfl))) all1_nil)) rfl
      refine st_unit hS rfl rfl hr ?_
      refine wpList_nil ?_
      refine hK29 _ _ ?_
      refine wp_seq_k fun K36 hK36 => ?_
      refine wp_region_lit ?_
      refine st_val hS rfl rfl (by decide) (rv_move (hS.ev rfl)) fun a hS => ?_
      obtain ⟨r39, hr, hF⟩ := bind_some hF
      refine st_wp hS rfl (wp_call hS rfl rfl (by decide) fn_ok_25 rfl (c_laws_toIntS F p1_aL p1_aLv hr _ (hM.get 7 rfl)) fun v40 w a hK hS => ?_)
      have hN := hK
      have hM := hM.add hN rfl
      refine st_val hS rfl rfl (by decide) (rv_assign (hS.ev rfl)) fun a hS => ?_
      refine wpList_nil ?_
      refine hK36 _ _ ?_
      refine wp_seq_k fun K41 hK41 => ?_
      refine wp_region_lit ?_
      refine st_val hS rfl rfl (by decide) (rv_load_agg (hS.ev rfl) ty_ag_27 (hM.get 1 rfl) ty_sz_27) fun a hS => ?_
      refine st_val hS rfl rfl (by decide) (rv_move (hS.ev rfl)) fun a hS => ?_
      obtain ⟨r43, hr, hF⟩ := bind_some hF
      refine st_wp hS rfl (wp_call hS rfl rfl (by decide) fn_ok_26 rfl (c_impl_IsClaw F r33.1 r33.2 r39 v34 v40 hr _ (rd_of_ow (hM.get 3 rfl)) (rd_of_ow (hM.get 0 rfl))) fun v w a hK hS => ?_)
      obtain ⟨rfl, hN⟩ := hK
      have hM := hM.fra hN.fr
      refine st_val hS rfl rfl (by decide) (rv_assign (hS.ev rfl)) fun a hS => ?_
      refine wpList_nil ?_
      refine hK41 _ _ ?_
      refine wp_seq_k fun K44 hK44 => ?_
      refine wp_seq_k fun K47 hK47 => ?_
      refine wp_region_lit ?_
      refine st_val hS rfl rfl (by decide) (rv_move (hS.ev rfl)) fun a hS => ?_
      refine st_val hS rfl rfl (by decide) (rv_move (hS.ev rfl)) fun a hS => ?_
      refine st_val hS rfl rfl (by decide) (rv_bneq Try.underlying4 (hS.ev rfl) (hS.ev rfl)) fun a hS => ?_
      refine wpList_nil ?_
      refine hK47 _ _ ?_
      rcases ite_some hF with ⟨hc, hF⟩ | ⟨hc, hF⟩
      · refine cond_t hS rfl hc ?_
        refine wp_seq_k fun K48 hK48 => ?_
        refine wp_region_lit ?_
        refine st_val hS rfl rfl (by decide) (rv_assign (hS.ev rfl)) fun a hS => ?_
        refine wpList_nil ?_
        refine hK48 _ _ ?_
        refine wp_ret ?_
        cases hF
        exact hQr _ _ (r_1 hS rfl rfl ⟨rfl, hM.pick [] (by decide) rfl⟩)
      · refine cond_f hS rfl hc ?_
        refine wp_skip ?_
        refine hK44 _ _ ?_
        refine wp_seq_k fun K49 hK49 => ?_
        refine wp_seq_k fun K58 hK58 => ?_
        refine an_start Nob ty_mixed fun w hf => ?_
        have hM := hM.fra hf
        have hB := hM
        have hM := hB.reg0
        refine an_take hS (i := 0) rfl (by kernel_rfl) (by kernel_rfl) (by kernel_rfl) rfl (by decide) (fun c a a' w hd h => hQp c a a' w hd h) rfl (fun w' hC' => (rv_load_agg (hS.ev rfl) ty_ag_27 ((hB.fra hC').get 1 rfl) ty_sz_27)) hM.fr fun a hS => ?_
        refine an_take hS (i := 1) rfl (by kernel_rfl) (by kernel_rfl) (by kernel_rfl) rfl (by decide) (fun c a a' w hd h => hQp c a a' w hd h) rfl (fun w' hC' => (rv_load_agg (hS.ev rfl) ty_ag_24 ((hB.fra hC').get 6 rfl) ty_sz_24)) hM.fr fun a hS => ?_
        obtain ⟨r62, hr, hF⟩ := bind_some hF
        refine an_one hS (i := 2) rfl (by kernel_rfl) rfl ?_
        refine wp_call hS rfl rfl (by decide) fn_ok_17 rfl (c_laws_toGraph F p0_aG_Size p0_aG_Rows p0_aG_Rowsv hr _ (hM.get 7 rfl)) fun v w a hK hS => ?_
        obtain ⟨v63, rfl, hN⟩ := hK
        have hM := hM.add hN rfl
        refine ⟨hM.fr, ?_⟩
        obtain ⟨r64, hr, hF⟩ := bind_some hF
        refine an_one hS (i := 3) rfl (by kernel_rfl) rfl ?_
        refine wp_call hS rfl rfl (by decide) fn_ok_19 rfl (c_laws_eqGraph F r33.1 r33.2 r62.1 r62.2 v34 v63 hr _ (rd_of_ow (hM.get 4 rfl)) (rd_of_ow (hM.get 0 rfl))) fun v w a hK hS => ?_
        obtain ⟨rfl, hN⟩ := hK
        have hM := hM.fra hN.fr
        refine ⟨hM.fr, ?_⟩
        refine an_take hS (i := 4) rfl (by kernel_rfl) (by kernel_rfl) (by kernel_rfl) rfl (by decide) (fun c a a' w hd h => hQp c a a' w hd h) rfl (fun w' hC' => (rv_not (hS.ev rfl))) hM.fr fun a hS => ?_
        refine an_done (by kernel_rfl) ?_
        have hN := hM.pick [0] (by decide) rfl
        have hM := Mem.callo (A := []) (B := [(true, ow 3 v40 (List.map (Value.int IntKind.i64) r39)), (true, bx b35 27 [(Value.int IntKind.i64 r33.1), v34]), (true, ow 3 (Value.slice none 0 0) (List.map (Value.int IntKind.i64) ([] : List (Int)))), (true, ow 3 v34 (List.map (Value.int IntKind.i64) r33.2)), (true, ow 3 v27 (List.map (Value.int IntKind.i64) r26)), (true, ow 3 v25 (List.map (Value.int IntKind.i64) r24.2)), (true, bx b3 24 [(Value.int IntKind.i64 p0_aG_Size), p0_aG_Rowsv]), (false, rd p0_aG_Rowsv (List.map (Value.int IntKind.i64) p0_aG_Rows)), (false, rd p1_aLv (List.map (Value.int IntKind.i64) p1_aL))]) hB rfl (hN.memS fun _ h => h.elim) rfl
        refine hK58 _ _ ?_
        rcases ite_some hF with ⟨hc, hF⟩ | ⟨hc, hF⟩
        · refine cond_t hS rfl hc ?_
          refine wp_seq_k fun K65 hK65 => ?_
          refine wp_region_lit ?_
          refine st_val hS rfl rfl (by decide) (rv_assign (hS.ev rfl)) fun a hS => ?_
          refine wpList_nil ?_
          refine hK65 _ _ ?_
          refine wp_ret ?_
          cases hF
          exact hQr _ _ (r_1 hS rfl rfl ⟨rfl, hM.pick [] (by decide) rfl⟩)
        · refine cond_f hS rfl hc ?_
          refine wp_skip ?_
          refine hK49 _ _ ?_
          refine wp_seq_k fun K66 hK66 => ?_
          refine wp_seq_k fun K75 hK75 => ?_
          refine wp_region_lit ?_
          refine st_val hS rfl rfl (by decide) (rv_move (hS.ev rfl)) fun a hS => ?_
          refine st_val hS rfl rfl (by decide) (rv_move (hS.ev rfl)) fun a hS => ?_
          obtain ⟨r79, hr, hF⟩ := bind_some hF
          refine st_wp hS rfl (wp_call hS rfl rfl (by decide) fn_ok_25 rfl (c_laws_toIntS F p1_aL p1_aLv hr _ (hM.get 9 rfl)) fun v80 w a hK hS => ?_)
          have hN := hK
          have hM := hM.add hN rfl
          obtain ⟨r81, hr, hF⟩ := bind_some hF
          refine st_wp hS rfl (wp_call hS rfl rfl (by decide) fn_ok_27 rfl (c_laws_eqIntS F r39 r79 v40 v80 hr _ (rd_of_ow (hM.get 2 rfl)) (rd_of_ow (hM.get 0 rfl))) fun v w a hK hS => ?_)
          obtain ⟨rfl, hN⟩ := hK
          have hM := hM.fra hN.fr
          refine st_val hS rfl rfl (by decide) (rv_not (hS.ev rfl)) fun a hS => ?_
          refine wpList_nil ?_
          refine hK75 _ _ ?_
          rcases ite_some hF with ⟨hc, hF⟩ | ⟨hc, hF⟩
          · refine cond_t hS rfl hc ?_
            refine wp_seq_k fun K82 hK82 => ?_
            refine wp_region_lit ?_
            refine st_val hS rfl rfl (by decide) (rv_assign (hS.ev rfl)) fun a hS => ?_
            refine wpList_nil ?_
            refine hK82 _ _ ?_
            refine wp_ret ?_
            cases hF
            exact hQr _ _ (r_1 hS rfl rfl ⟨rfl, hM.pick [] (by decide) rfl⟩)
          · refine cond_f hS rfl hc ?_
            refine wp_skip ?_
            refine hK66 _ _ ?_
            refine wp_seq_k fun K83 hK83 => ?_
            refine wp_region_lit ?_
            refine st_val hS rfl rfl (by decide) (rv_assign (hS.ev rfl)) fun a hS => ?_
            refine wpList_nil ?_
            refine hK83 _ _ ?_
            refine wp_ret ?_
            cases hF
            exact hQr _ _ (r_1 hS rfl rfl ⟨rfl, hM.pick [] (by decide) rfl⟩)


theorem c_spec_IsTwoEdges (F : Nat) (p0_g_Size : Int) (p0_g_Rows : List Int) (p1_l : List Int) (p0_g_Rowsv : Value) (p1_lv : Value) {r : Bool} (hF : S_spec_IsTwoEdges F p0_g_Size p0_g_Rows p1_l = some r) (w0 : World) (h0 : RdRow w0 p0_g_Rowsv (List.map (Value.int IntKind.i64) p0_g_Rows)) (h1 : RdRow w0 p1_lv (List.map (Value.int IntKind.i64) p1_l)) :
    Calls Try.prog 28 [(Value.agg #[(Value.int IntKind.i64 p0_g_Size), p0_g_Rowsv]), p1_lv].toArray w0 (retPost fun v w' => v = (Value.bool r) ∧ Mem Nob w0 w' []) := by
  have hM : Mem Nob w0 w0 [(false, rd p0_g_Rowsv (List.map (Value.int IntKind.i64) p0_g_Rows)), (false, rd p1_lv (List.map (Value.int IntKind.i64) p1_l))] := (Mem.rcons (Mem.rcons (Mem.nil w0) h1 (by simp)) h0 (by simp))
  refine enter2 Try.func28 rfl rfl rfl fun Q a hQr hQn hQp hS => ?_
  have hS : Sl 77 [(0, (Value.agg #[(Value.int IntKind.i64 p0_g_Size), p0_g_Rowsv])), (1, p1_lv)] a := hS
  unfold S_spec_IsTwoEdges at hF
  refine wp_seq_k fun K1 hK1 => ?_
  refine wp_region_lit ?_
  obtain ⟨b3, w, hr, hM⟩ := hM.boxE (ρ := a.eval) (dst := some 2) (ty := _) (pos := _) (af := _) (gd := _) (x := .tmp 0) (T := 27) [(Value.int IntKind.i64 p0_g_Size), p0_g_Rowsv] (hS.ev rfl) rfl
  refine st_val hS rfl rfl (by decide) hr fun a hS => ?_
  refine st_val hS rfl rfl (by decide) (rv_assign (hS.ev rfl)) fun a hS => ?_
  refine wpList_nil ?_
  refine hK1 _ _ ?_
  refine wp_seq_k fun K4 hK4 => ?_
  have hJ1 : ∀ (p24 : Bool) (a : Act) (w : World), Sl 77 [(4, (Value.bool p24))] a → Mem Nob w0 w [] → S_spec_IsTwoEdges_j1 F p24 = some r → K4 a w := by
    intro p24 a w hS hM hF
    unfold S_spec_IsTwoEdges_j1 at hF
    refine hK4 _ _ ?_
    refine wp_ret ?_
    cases hF
    exact hQr _ _ (r_1 hS rfl rfl ⟨rfl, hM.pick [] (by decide) rfl⟩)
  refine an_start Nob ty_mixed fun w hf => ?_
  have hM := hM.fra hf
  have hB := hM
  have hM := hB.reg0
  refine an_take hS (i := 0) rfl (by kernel_rfl) (by kernel_rfl) (by kernel_rfl) rfl (by decide) (fun c a a' w hd h => hQp c a a' w hd h) rfl (fun w' hC' => (rv_move (hS.ev rfl))) hM.fr fun a hS => ?_
  refine an_take hS (i := 1) rfl (by kernel_rfl) (by kernel_rfl) (by kernel_rfl) rfl (by decide) (fun c a a' w hd h => hQp c a a' w hd h) rfl (fun w' hC' => (rv_len_rowM Try.underlying22 (hS.ev rfl) (hM.get 2 rfl))) hM.fr fun a hS => ?_
  refine an_take hS (i := 2) rfl (by kernel_rfl) (by kernel_rfl) (by kernel_rfl) rfl (by decide) (fun c a a' w hd h => hQp c a a' w hd h) rfl (fun w' hC' => (rv_eql (hS.ev rfl) (hS.ev rfl))) hM.fr fun a hS => ?_
  refine an_take hS (i := 3) rfl (by kernel_rfl) (by kernel_rfl) (by kernel_rfl) rfl (by decide) (fun c a a' w hd h => hQp c a a' w hd h) rfl (fun w' hC' => (rv_move (hS.ev rfl))) hM.fr fun a hS => ?_
  rcases ite_some hF with ⟨hc, hF⟩ | ⟨hc, hF⟩
  · have hS := hS.setb (t := 8) rfl hc
    refine an_take hS (i := 4) rfl (by kernel_rfl) (by kernel_rfl) (by kernel_rfl) rfl (by decide) (fun c a a' w hd h => hQp c a a' w hd h) rfl (fun w' hC' => (rv_load_agg (hS.ev rfl) ty_ag_27 ((hB.fra hC').get 0 rfl) ty_sz_27)) hM.fr fun a hS => ?_
    refine an_take hS (i := 5) rfl (by kernel_rfl) (by kernel_rfl) (by kernel_rfl) rfl (by decide) (fun c a a' w hd h => hQp c a a' w hd h) rfl (fun w' hC' => (rv_move (hS.ev rfl))) hM.fr fun a hS => ?_
    obtain ⟨r25, hr, hF⟩ := bind_some hF
    refine an_one hS (i := 6) rfl (by kernel_rfl) rfl ?_
    refine wp_call hS rfl rfl (by decide) fn_ok_59 rfl (c_spec_l4Distinct F p0_g_Size p0_g_Rows p1_l p0_g_Rowsv p1_lv hr _ (hM.get 1 rfl) (hM.get 2 rfl)) fun v w a hK hS => ?_
    obtain ⟨rfl, hN⟩ := hK
    have hM := hM.fra hN.fr
    refine ⟨hM.fr, ?_⟩
    refine an_take hS (i := 7) rfl (by kernel_rfl) (by kernel_rfl) (by kernel_rfl) rfl (by decide) (fun c a a' w hd h => hQp c a a' w hd h) rfl (fun w' hC' => (rv_pick_t (hS.ev rfl) (hS.ev rfl))) hM.fr fun a hS => ?_
    refine an_take hS (i := 8) rfl (by kernel_rfl) (by kernel_rfl) (by kernel_rfl) rfl (by decide) (fun c a a' w hd h => hQp c a a' w hd h) rfl (fun w' hC' => (rv_move (hS.ev rfl))) hM.fr fun a hS => ?_
    rcases ite_some hF with ⟨hc, hF⟩ | ⟨hc, hF⟩
    · have hS := hS.setb (t := 13) rfl hc
      refine an_take hS (i := 9) rfl (by kernel_rfl) (by kernel_rfl) (by kernel_rfl) rfl (by decide) (fun c a a' w hd h => hQp c a a' w hd h) rfl (fun w' hC' => (rv_load_agg (hS.ev rfl) ty_ag_27 ((hB.fra hC').get 0 rfl) ty_sz_27)) hM.fr fun a hS => ?_
      refine an_take hS (i := 10) rfl (by kernel_rfl) (by kernel_rfl) (by kernel_rfl) rfl (by decide) (fun c a a' w hd h => hQp c a a' w hd h) rfl (fun w' hC' => (rv_move (hS.ev rfl))) hM.fr fun a hS => ?_
      obtain ⟨x26, hx, hF⟩ := bind_some hF
      obtain ⟨hi0, hi1, hex26⟩ := idxL_some hx
      refine an_take hS (i := 11) rfl (by kernel_rfl) (by kernel_rfl) (by kernel_rfl) rfl (by decide) (fun c a a' w hd h => hQp c a a' w hd h) rfl (fun w' hC' => (rv_indexAddr Try.underlying22 ty_el_3 (hS.ev rfl) (hS.ev rfl) (hM.get 2 rfl) hi0 (map_len hi1))) hM.fr fun a hS => ?_
      refine an_take hS (i := 12) rfl (by kernel_rfl) (by kernel_rfl) (by kernel_rfl) rfl (by decide) (fun c a a' w hd h => hQp c a a' w hd h) rfl (fun w' hC' => (rv_load_el (hS.ev rfl) ty_ag_3 ((hB.fra hC').get 2 rfl) (mget hex26))) hM.fr fun a hS => ?_
      refine an_take hS (i := 13) rfl (by kernel_rfl) (by kernel_rfl) (by kernel_rfl) rfl (by decide) (fun c a a' w hd h => hQp c a a' w hd h) rfl (fun w' hC' => (rv_move (hS.ev rfl))) hM.fr fun a hS => ?_
      obtain ⟨x27, hx, hF⟩ := bind_some hF
      obtain ⟨hi0, hi1, hex27⟩ := idxL_some hx
      refine an_take hS (i := 14) rfl (by kernel_rfl) (by kernel_rfl) (by kernel_rfl) rfl (by decide) (fun c a a' w hd h => hQp c a a' w hd h) rfl (fun w' hC' => (rv_indexAddr Try.underlying22 ty_el_3 (hS.ev rfl) (hS.ev rfl) (hM.get 2 rfl) hi0 (map_len hi1))) hM.fr fun a hS => ?_
      refine an_take hS (i := 15) rfl (by kernel_rfl) (by kernel_rfl) (by kernel_rfl) rfl (by decide) (fun c a a' w hd h => hQp c a a' w hd h) rfl (fun w' hC' => (rv_load_el (hS.ev rfl) ty_ag_3 ((hB.fra hC').get 2 rfl) (mget hex27))) hM.fr fun a hS => ?_
      obtain ⟨r28, hr, hF⟩ := bind_some hF
      refine an_one hS (i := 16) rfl (by kernel_rfl) rfl ?_
      refine wp_call hS rfl rfl (by decide) fn_ok_60 rfl (c_spec_l2Edge F p0_g_Size p0_g_Rows x26 x27 p0_g_Rowsv hr _ (hM.get 1 rfl)) fun v w a hK hS => ?_
      obtain ⟨rfl, hN⟩ := hK
      have hM := hM.fra hN.fr
      refine ⟨hM.fr, ?_⟩
      refine an_take hS (i := 17) rfl (by kernel_rfl) (by kernel_rfl) (by kernel_rfl) rfl (by decide) (fun c a a' w hd h => hQp c a a' w hd h) rfl (fun w' hC' => (rv_pick_t (hS.ev rfl) (hS.ev rfl))) hM.fr fun a hS => ?_
      refine an_take hS (i := 18) rfl (by kernel_rfl) (by kernel_rfl) (by kernel_rfl) rfl (by decide) (fun c a a' w hd h => hQp c a a' w hd h) rfl (fun w' hC' => (rv_move (hS.ev rfl))) hM.fr fun a hS => ?_
      rcases ite_some hF with ⟨hc, hF⟩ | ⟨hc, hF⟩
      · have hS := hS.setb (t := 23) rfl hc
        refine an_take hS (i := 19) rfl (by kernel_rfl) (by kernel_rfl) (by kernel_rfl) rfl (by decide) (fun c a a' w hd h => hQp c a a' w hd h) rfl (fun w' hC' => (rv_load_agg (hS.ev rfl) ty_ag_27 ((hB.fra hC').get 0 rfl) ty_sz_27)) hM.fr fun a hS => ?_
        refine an_take hS (i := 20) rfl (by kernel_rfl) (by kernel_rfl) (by kernel_rfl) rfl (by decide) (fun c a a' w hd h => hQp c a a' w hd h) rfl (fun w' hC' => (rv_move (hS.ev rfl))) hM.fr fun a hS => ?_
        obtain ⟨x29, hx, hF⟩ := bind_some hF
        obtain ⟨hi0, hi1, hex29⟩ := idxL_some hx
        refine an_take hS (i := 21) rfl (by kernel_rfl) (by kernel_rfl) (by kernel_rfl) rfl (by decide) (fun c a a' w hd h => hQp c a a' w hd h) rfl (fun w' hC' => (rv_indexAddr Try.underlying22 ty_el_3 (hS.ev rfl) (hS.ev rfl) (hM.get 2 rfl) hi0 (map_len hi1))) hM.fr fun a hS => ?_
        refine an_take hS (i := 22) rfl (by kernel_rfl) (by kernel_rfl) (by kernel_rfl) rfl (by decide) (fun c a a' w hd h => hQp c a a' w hd h) rfl (fun w' hC' => (rv_load_el (hS.ev rfl) ty_ag_3 ((hB.fra hC').get 2 rfl) (mget hex29))) hM.fr fun a hS => ?_
        refine an_take hS (i := 23) rfl (by kernel_rfl) (by kernel_rfl) (by kernel_rfl) rfl (by decide) (fun c a a' w hd h => hQp c a a' w hd h) rfl (fun w' hC' => (rv_move (hS.ev rfl))) hM.fr fun a hS => ?_
        obtain ⟨x30, hx, hF⟩ := bind_some hF
        obtain ⟨hi0, hi1, hex30⟩ := idxL_some hx
        refine an_take hS (i := 24) rfl (by kernel_rfl) (by kernel_rfl) (by kernel_rfl) rfl (by decide) (fun c a a' w hd h => hQp c a a' w hd h) rfl (fun w' hC' => (rv_indexAddr Try.underlying22 ty_el_3 (hS.ev rfl) (hS.ev rfl) (hM.get 2 rfl) hi0 (map_len hi1))) hM.fr fun a hS => ?_
        refine an_take hS (i := 25) rfl (by kernel_rfl) (by kernel_rfl) (by kernel_rfl) rfl (by decide) (fun c a a' w hd h => hQp c a a' w hd h) rfl (fun w' hC' => (rv_load_el (hS.ev rfl) ty_ag_3 ((hB.fra hC').get 2 rfl) (mget hex30))) hM.fr fun a hS => ?_
        obtain ⟨r31, hr, hF⟩ := bind_some hF
        refine an_one hS (i := 26) rfl (by kernel_rfl) rfl ?_
        refine wp_call hS rfl rfl (by decide) fn_ok_60 rfl (c_spec_l2Edge F p0_g_Size p0_g_Rows x29 x30 p0_g_Rowsv hr _ (hM.get 1 rfl)) fun v w a hK hS => ?_
        obtain ⟨rfl, hN⟩ := hK
        have hM := hM.fra hN.fr
        refine ⟨hM.fr, ?_⟩
        refine an_take hS (i := 27) rfl (by kernel_rfl) (by kernel_rfl) (by kernel_rfl) rfl (by decide) (fun c a a' w hd h => hQp c a a' w hd h) rfl (fun w' hC' => (rv_pick_t (hS.ev rfl) (hS.ev rfl))) hM.fr fun a hS => ?_
        refine an_take hS (i := 28) rfl (by kernel_rfl) (by kernel_rfl) (by kernel_rfl) rfl (by decide) (fun c a a' w hd h => hQp c a a' w hd h) rfl (fun w' hC' => (rv_move (hS.ev rfl))) hM.fr fun a hS => ?_
        rcases ite_some hF with ⟨hc, hF⟩ | ⟨hc, hF⟩
        · have hS := hS.setb (t := 33) rfl hc
          refine an_take hS (i := 29) rfl (by kernel_rfl) (by kernel_rfl) (by kernel_rfl) rfl (by decide) (fun c a a' w hd h => hQp c a a' w hd h) rfl (fun w' hC' => (rv_load_agg (hS.ev rfl) ty_ag_27 ((hB.fra hC').get 0 rfl) ty_sz_27)) hM.fr fun a hS => ?_
          refine an_take hS (i := 30) rfl (by kernel_rfl) (by kernel_rfl) (by kernel_rfl) rfl (by decide) (fun c a a' w hd h => hQp c a a' w hd h) rfl (fun w' hC' => (rv_move (hS.ev rfl))) hM.fr fun a hS => ?_
          obtain ⟨x32, hx, hF⟩ := bind_some hF
          obtain ⟨hi0, hi1, hex32⟩ := idxL_some hx
          refine an_take hS (i := 31) rfl (by kernel_rfl) (by kernel_rfl) (by kernel_rfl) rfl (by decide) (fun c a a' w hd h => hQp c a a' w hd h) rfl (fun w' hC' => (rv_indexAddr Try.underlying22 ty_el_3 (hS.ev rfl) (hS.ev rfl) (hM.get 2 rfl) hi0 (map_len hi1))) hM.fr fun a hS => ?_
          refine an_take hS (i := 32) rfl (by kernel_rfl) (by kernel_rfl) (by kernel_rfl) rfl (by decide) (fun c a a' w hd h => hQp c a a' w hd h) rfl (fun w' hC' => (rv_load_el (hS.ev rfl) ty_ag_3 ((hB.fra hC').get 2 rfl) (mget hex32))) hM.fr fun a hS => ?_
          refine an_take hS (i := 33) rfl (by kernel_rfl) (by kernel_rfl) (by kernel_rfl) rfl (by decide) (fun c a a' w hd h => hQp c a a' w hd h) rfl (fun w' hC' => (rv_move (hS.ev rfl))) hM.fr fun a hS => ?_
          obtain ⟨x33, hx, hF⟩ := bind_some hF
          obtain ⟨hi0, hi1, hex33⟩ := idxL_some hx
          refine an_take hS (i := 34) rfl (by kernel_rfl) (by kernel_rfl) (by kernel_rfl) rfl (by decide) (fun c a a' w hd h => hQp c a a' w hd h) rfl (fun w' hC' => (rv_indexAddr Try.underlying22 ty_el_3 (hS.ev rfl) (hS.ev rfl) (hM.get 2 rfl) hi0 (map_len hi1))) hM.fr fun a hS => ?_
          refine an_take hS (i := 35) rfl (by kernel_rfl) (by kernel_rfl) (by kernel_rfl) rfl (by decide) (fun c a a' w hd h => hQp c a a' w hd h) rfl (fun w' hC' => (rv_load_el (hS.ev rfl) ty_ag_3 ((hB.fra hC').get 2 rfl) (mget hex33))) hM.fr fun a hS => ?_
          obtain ⟨r34, hr, hF⟩ := bind_some hF
          refine an_one hS (i := 36) rfl (by kernel_rfl) rfl ?_
          refine wp_call hS rfl rfl (by decide) fn_ok_60 rfl (c_spec_l2Edge F p0_g_Size p0_g_Rows x32 x33 p0_g_Rowsv hr _ (hM.get 1 rfl)) fun v w a hK hS => ?_
          obtain ⟨rfl, hN⟩ := hK
          have hM := hM.fra hN.fr
          refine ⟨hM.fr, ?_⟩
          refine an_take hS (i := 37) rfl (by kernel_rfl) (by kernel_rfl) (by kernel_rfl) rfl (by decide) (fun c a a' w hd h => hQp c a a' w hd h) rfl (fun w' hC' => (rv_not (hS.ev rfl))) hM.fr fun a hS => ?_
          refine an_take hS (i := 38) rfl (by kernel_rfl) (by kernel_rfl) (by kernel_rfl) rfl (by decide) (fun c a a' w hd h => hQp c a a' w hd h) rfl (fun w' hC' => (rv_pick_t (hS.ev rfl) (hS.ev rfl))) hM.fr fun a hS => ?_
          refine an_take hS (i := 39) rfl (by kernel_rfl) (by kernel_rfl) (by kernel_rfl) rfl (by decide) (fun c a a' w hd h => hQp c a a' w hd h) rfl (fun w' hC' => (rv_move (hS.ev rfl))) hM.fr fun a hS => ?_
          rcases ite_some hF with ⟨hc, hF⟩ | ⟨hc, hF⟩
          · have hS := hS.setb (t := 44) rfl hc
            refine an_take hS (i := 40) rfl (by kernel_rfl) (by kernel_rfl) (by kernel_rfl) rfl (by decide) (fun c a a' w hd h => hQp c a a' w hd h) rfl (fun w' hC' => (rv_load_agg (hS.ev rfl) ty_ag_27 ((hB.fra hC').get 0 rfl) ty_sz_27)) hM.fr fun a hS => ?_
            refine an_take hS (i := 41) rfl (by kernel_rfl) (by kernel_rfl) (by kernel_rfl) rfl (by decide) (fun c a a' w hd h => hQp c a a' w hd h) rfl (fun w' hC' => (rv_move (hS.ev rfl))) hM.fr fun a hS => ?_
            obtain ⟨x35, hx, hF⟩ := bind_some hF
            obtain ⟨hi0, hi1, hex35⟩ := idxL_some hx
            refine an_take hS (i := 42) rfl (by kernel_rfl) (by kernel_rfl) (by kernel_rfl) rfl (by decide) (fun c a a' w hd h => hQp c a a' w hd h) rfl (fun w' hC' => (rv_indexAddr Try.underlying22 ty_el_3 (hS.ev rfl) (hS.ev rfl) (hM.get 2 rfl) hi0 (map_len hi1))) hM.fr fun a hS => ?_
            refine an_take hS (i := 43) rfl (by kernel_rfl) (by kernel_rfl) (by kernel_rfl) rfl (by decide) (fun c a a' w hd h => hQp c a a' w hd h) rfl (fun w' hC' => (rv_load_el (hS.ev rfl) ty_ag_3 ((hB.fra hC').get 2 rfl) (mget hex35))) hM.fr fun a hS => ?_
            refine an_take hS (i := 44) rfl (by kernel_rfl) (by kernel_rfl) (by kernel_rfl) rfl (by decide) (fun c a a' w hd h => hQp c a a' w hd h) rfl (fun w' hC' => (rv_move (hS.ev rfl))) hM.fr fun a hS => ?_
            obtain ⟨x36, hx, hF⟩ := bind_some hF
            obtain ⟨hi0, hi1, hex36⟩ := idxL_some hx
            refine an_take hS (i := 45) rfl (by kernel_rfl) (by kernel_rfl) (by kernel_rfl) rfl (by decide) (fun c a a' w hd h => hQp c a a' w hd h) rfl (fun w' hC' => (rv_indexAddr Try.underlying22 ty_el_3 (hS.ev rfl) (hS.ev rfl) (hM.get 2 rfl) hi0 (map_len hi1))) hM.fr fun a hS => ?_
            refine an_take hS (i := 46) rfl (by kernel_rfl) (by kernel_rfl) (by kernel_rfl) rfl (by decide) (fun c a a' w hd h => hQp c a a' w hd h) rfl (fun w' hC' => (rv_load_el (hS.ev rfl) ty_ag_3 ((hB.fra hC').get 2 rfl) (mget hex36))) hM.fr fun a hS => ?_
            obtain ⟨r37, hr, hF⟩ := bind_some hF
            refine an_one hS (i := 47) rfl (by kernel_rfl) rfl ?_
            refine wp_call hS rfl rfl (by decide) fn_ok_60 rfl (c_spec_l2Edge F p0_g_Size p0_g_Rows x35 x36 p0_g_Rowsv hr _ (hM.get 1 rfl)) fun v w a hK hS => ?_
            obtain ⟨rfl, hN⟩ := hK
            have hM := hM.fra hN.fr
            refine ⟨hM.fr, ?_⟩
            refine an_take hS (i := 48) rfl (by kernel_rfl) (by kernel_rfl) (by kernel_rfl) rfl (by decide) (fun c a a' w hd h => hQp c a a' w hd h) rfl (fun w' hC' => (rv_not (hS.ev rfl))) hM.fr fun a hS => ?_
            refine an_take hS (i := 49) rfl (by kernel_rfl) (by kernel_rfl) (by kernel_rfl) rfl (by decide) (fun c a a' w hd h => hQp c a a' w hd h) rfl (fun w' hC' => (rv_pick_t (hS.ev rfl) (hS.ev rfl))) hM.fr fun a hS => ?_
            refine an_take hS (i := 50) rfl (by kernel_rfl) (by kernel_rfl) (by kernel_rfl) rfl (by decide) (fun c a a' w hd h => hQp c a a' w hd h) rfl (fun w' hC' => (rv_move (hS.ev rfl))) hM.fr fun a hS => ?_
            rcases ite_some hF with ⟨hc, hF⟩ | ⟨hc, hF⟩
            · have hS := hS.setb (t := 55) rfl hc
              refine an_take hS (i := 51) rfl (by kernel_rfl) (by kernel_rfl) (by kernel_rfl) rfl (by decide) (fun c a a' w hd h => hQp c a a' w hd h) rfl (fun w' hC' => (rv_load_agg (hS.ev rfl) ty_ag_27 ((hB.fra hC').get 0 rfl) ty_sz_27)) hM.fr fun a hS => ?_
              refine an_take hS (i := 52) rfl (by kernel_rfl) (by kernel_rfl) (by kernel_rfl) rfl (by decide) (fun c a a' w hd h => hQp c a a' w hd h) rfl (fun w' hC' => (rv_move (hS.ev rfl))) hM.fr fun a hS => ?_
              obtain ⟨x38, hx, hF⟩ := bind_some hF
              obtain ⟨hi0, hi1, hex38⟩ := idxL_some hx
              refine an_take hS (i := 53) rfl (by kernel_rfl) (by kernel_rfl) (by kernel_rfl) rfl (by decide) (fun c a a' w hd h => hQp c a a' w hd h) rfl (fun w' hC' => (rv_indexAddr Try.underlying22 ty_el_3 (hS.ev rfl) (hS.ev rfl) (hM.get 2 rfl) hi0 (map_len hi1))) hM.fr fun a hS => ?_
              refine an_take hS (i := 54) rfl (by kernel_rfl) (by kernel_rfl) (by kernel_rfl) rfl (by decide) (fun c a a' w hd h => hQp c a a' w hd h) rfl (fun w' hC' => (rv_load_el (hS.ev rfl) ty_ag_3 ((hB.fra hC').get 2 rfl) (mget hex38))) hM.fr fun a hS => ?_
              refine an_take hS (i := 55) rfl (by kernel_rfl) (by kernel_rfl) (by kernel_rfl) rfl (by decide) (fun c a a' w hd h => hQp c a a' w hd h) rfl (fun w' hC' => (rv_move (hS.ev rfl))) hM.fr fun a hS => ?_
              obtain ⟨x39, hx, hF⟩ := bind_some hF
              obtain ⟨hi0, hi1, hex39⟩ := idxL_some hx
              refine an_take hS (i := 56) rfl (by kernel_rfl) (by kernel_rfl) (by kernel_rfl) rfl (by decide) (fun c a a' w hd h => hQp c a a' w hd h) rfl (fun w' hC' => (rv_indexAddr Try.underlying22 ty_el_3 (hS.ev rfl) (hS.ev rfl) (hM.get 2 rfl) hi0 (map_len hi1))) hM.fr fun a hS => ?_
              refine an_take hS (i := 57) rfl (by kernel_rfl) (by kernel_rfl) (by kernel_rfl) rfl (by decide) (fun c a a' w hd h => hQp c a a' w hd h) rfl (fun w' hC' => (rv_load_el (hS.ev rfl) ty_ag_3 ((hB.fra hC').get 2 rfl) (mget hex39))) hM.fr fun a hS => ?_
              obtain ⟨r40, hr, hF⟩ := bind_some hF
              refine an_one hS (i := 58) rfl (by kernel_rfl) rfl ?_
              refine wp_call hS rfl rfl (by decide) fn_ok_60 rfl (c_spec_l2Edge F p0_g_Size p0_g_Rows x38 x39 p0_g_Rowsv hr _ (hM.get 1 rfl)) fun v w a hK hS => ?_
              obtain ⟨rfl, hN⟩ := hK
              have hM := hM.fra hN.fr
              refine ⟨hM.fr, ?_⟩
              refine an_take hS (i := 59) rfl (by kernel_rfl) (by kernel_rfl) (by kernel_rfl) rfl (by decide) (fun c a a' w hd h => hQp c a a' w hd h) rfl (fun w' hC' => (rv_not (hS.ev rfl))) hM.fr fun a hS => ?_
              refine an_take hS (i := 60) rfl (by kernel_rfl) (by kernel_rfl) (by kernel_rfl) rfl (by decide) (fun c a a' w hd h => hQp c a a' w hd h) rfl (fun w' hC' => (rv_pick_t (hS.ev rfl) (hS.ev rfl))) hM.fr fun a hS => ?_
              refine an_take hS (i := 61) rfl (by kernel_rfl) (by kernel_rfl) (by kernel_rfl) rfl (by decide) (fun c a a' w hd h => hQp c a a' w hd h) rfl (fun w' hC' => (rv_move (hS.ev rfl))) hM.fr fun a hS => ?_
              rcases ite_some hF with ⟨hc, hF⟩ | ⟨hc, hF⟩
              · have hS := hS.setb (t := 66) rfl hc
                refine an_take hS (i := 62) rfl (by kernel_rfl) (by kernel_rfl) (by kernel_rfl) rfl (by decide) (fun c a a' w hd h => hQp c a a' w hd h) rfl (fun w' hC' => (rv_load_agg (hS.ev rfl) ty_ag_27 ((hB.fra hC').get 0 rfl) ty_sz_27)) hM.fr fun a hS => ?_
                refine an_take hS (i := 63) rfl (by kernel_rfl) (by kernel_rfl) (by kernel_rfl) rfl (by decide) (fun c a a' w hd h => hQp c a a' w hd h) rfl (fun w' hC' => (rv_move (hS.ev rfl))) hM.fr fun a hS => ?_
                obtain ⟨x41, hx, hF⟩ := bind_some hF
                obtain ⟨hi0, hi1, hex41⟩ := idxL_some hx
                refine an_take hS (i := 64) rfl (by kernel_rfl) (by kernel_rfl) (by kernel_rfl) rfl (by decide) (fun c a a' w hd h => hQp c a a' w hd h) rfl (fun w' hC' => (rv_indexAddr Try.underlying22 ty_el_3 (hS.ev rfl) (hS.ev rfl) (hM.get 2 rfl) hi0 (map_len hi1))) hM.fr fun a hS => ?_
                refine an_take hS (i := 65) rfl (by kernel_rfl) (by kernel_rfl) (by kernel_rfl) rfl (by decide) (fun c a a' w hd h => hQp c a a' w hd h) rfl (fun w' hC' => (rv_load_el (hS.ev rfl) ty_ag_3 ((hB.fra hC').get 2 rfl) (mget hex41))) hM.fr fun a hS => ?_
                refine an_take hS (i := 66) rfl (by kernel_rfl) (by kernel_rfl) (by kernel_rfl) rfl (by decide) (fun c a a' w hd h => hQp c a a' w hd h) rfl (fun w' hC' => (rv_move (hS.ev rfl))) hM.fr fun a hS => ?_
                obtain ⟨x42, hx, hF⟩ := bind_some hF
                obtain ⟨hi0, hi1, hex42⟩ := idxL_some hx
                refine an_take hS (i := 67) rfl (by kernel_rfl) (by kernel_rfl) (by kernel_rfl) rfl (by decide) (fun c a a' w hd h => hQp c a a' w hd h) rfl (fun w' hC' => (rv_indexAddr Try.underlying22 ty_el_3 (hS.ev rfl) (hS.ev rfl) (hM.get 2 rfl) hi0 (map_len hi1))) hM.fr fun a hS => ?_
                refine an_take hS (i := 68) rfl (by kernel_rfl) (by kernel_rfl) (by kernel_rfl) rfl (by decide) (fun c a a' w hd h => hQp c a a' w hd h) rfl (fun w' hC' => (rv_load_el (hS.ev rfl) ty_ag_3 ((hB.fra hC').get 2 rfl) (mget hex42))) hM.fr fun a hS => ?_
                obtain ⟨r43, hr, hF⟩ := bind_some hF
                refine an_one hS (i := 69) rfl (by kernel_rfl) rfl ?_
                refine wp_call hS rfl rfl (by decide) fn_ok_60 rfl (c_spec_l2Edge F p0_g_Size p0_g_Rows x41 x42 p0_g_Rowsv hr _ (hM.get 1 rfl)) fun v w a hK hS => ?_
                obtain ⟨rfl, hN⟩ := hK
                have hM := hM.fra hN.fr
                refine ⟨hM.fr, ?_⟩
                refine an_take hS (i := 70) rfl (by kernel_rfl) (by kernel_rfl) (by kernel_rfl) rfl (by decide) (fun c a a' w hd h => hQp c a a' w hd h) rfl (fun w' hC' => (rv_not (hS.ev rfl))) hM.fr fun a hS => ?_
                refine an_take hS (i := 71) rfl (by kernel_rfl) (by kernel_rfl) (by kernel_rfl) rfl (by decide) (fun c a a' w hd h => hQp c a a' w hd h) rfl (fun w' hC' => (rv_pick_t (hS.ev rfl) (hS.ev rfl))) hM.fr fun a hS => ?_
                refine an_take hS (i := 72) rfl (by kernel_rfl) (by kernel_rfl) (by kernel_rfl) rfl (by decide) (fun c a a' w hd h => hQp c a a' w hd h) rfl (fun w' hC' => (rv_assign (hS.ev rfl))) hM.fr fun a hS => ?_
                refine an_done (by kernel_rfl) ?_
                have hN := hM.pick [] (by decide) rfl
                have hM := Mem.callo (A := []) (B := [(true, bx b3 27 [(Value.int IntKind.i64 p0_g_Size), p0_g_Rowsv]), (false, rd p0_g_Rowsv (List.map (Value.int IntKind.i64) p0_g_Rows)), (false, rd p1_lv (List.map (Value.int IntKind.i64) p1_l))]) hB rfl (hN.memS fun _ h => h.elim) rfl
                exact hJ1 (!r43) _ _ (hS.sub (sub_cons rfl sub_nil)) (hM.pick [] (by decide) rfl) hF
              · have hS := hS.setb (t := 66) rfl hc
                refine an_skip hS (i := 62) rfl (by kernel_rfl) (by kernel_rfl) (by kernel_rfl) rfl (by decide) (fun c a a' w hd h => hQp c a a' w hd h) rfl hM.fr fun a hS => ?_
                refine an_skip hS (i := 63) rfl (by kernel_rfl) (by kernel_rfl) (by kernel_rfl) rfl (by decide) (fun c a a' w hd h => hQp c a a' w hd h) rfl hM.fr fun a hS => ?_
                refine an_skip hS (i := 64) rfl (by kernel_rfl) (by kernel_rfl) (by kernel_rfl) rfl (by decide) (fun c a a' w hd h => hQp c a a' w hd h) rfl hM.fr fun a hS => ?_
                refine an_skip hS (i := 65) rfl (by kernel_rfl) (by kernel_rfl) (by kernel_rfl) rfl (by decide) (fun c a a' w hd h => hQp c a a' w hd h) rfl hM.fr fun a hS => ?_
                refine an_skip hS (i := 66) rfl (by kernel_rfl) (by kernel_rfl) (by kernel_rfl) rfl (by decide) (fun c a a' w hd h => hQp c a a' w hd h) rfl hM.fr fun a hS => ?_
                refine an_skip hS (i := 67) rfl (by kernel_rfl) (by kernel_rfl) (by kernel_rfl) rfl (by decide) (fun c a a' w hd h => hQp c a a' w hd h) rfl hM.fr fun a hS => ?_
                refine an_skip hS (i := 68) rfl (by kernel_rfl) (by kernel_rfl) (by kernel_rfl) rfl (by decide) (fun c a a' w hd h => hQp c a a' w hd h) rfl hM.fr fun a hS => ?_
                refine an_skip hS (i := 69) rfl (by kernel_rfl) (by kernel_rfl) (by kernel_rfl) rfl (by decide) (fun c a a' w hd h => hQp c a a' w hd h) rfl hM.fr fun a hS => ?_
                refine an_skip hS (i := 70) rfl (by kernel_rfl) (by kernel_rfl) (by kernel_rfl) rfl (by decide) (fun c a a' w hd h => hQp c a a' w hd h) rfl hM.fr fun a hS => ?_
                refine an_take hS (i := 71) rfl (by kernel_rfl) (by kernel_rfl) (by kernel_rfl) rfl (by decide) (fun c a a' w hd h => hQp c a a' w hd h) rfl (fun w' hC' => (rv_pick_f (hS.ev rfl) (hS.ev rfl))) hM.fr fun a hS => ?_
                refine an_take hS (i := 72) rfl (by kernel_rfl) (by kernel_rfl) (by kernel_rfl) rfl (by decide) (fun c a a' w hd h => hQp c a a' w hd h) rfl (fun w' hC' => (rv_assign (hS.ev rfl))) hM.fr fun a hS => ?_
                refine an_done (by kernel_rfl) ?_
                have hN := hM.pick [] (by decide) rfl
                have hM := Mem.callo (A := []) (B := [(true, bx b3 27 [(Value.int IntKind.i64 p0_g_Size), p0_g_Rowsv]), (false, rd p0_g_Rowsv (List.map (Value.int IntKind.i64) p0_g_Rows)), (false, rd p1_lv (List.map (Value.int IntKind.i64) p1_l))]) hB rfl (hN.memS fun _ h => h.elim) rfl
                exact hJ1 false _ _ (hS.sub (sub_cons rfl sub_nil)) (hM.pick [] (by decide) rfl) hF
            · have hS := hS.setb (t := 55) rfl hc
              refine an_skip hS (i := 51) rfl (by kernel_rfl) (by kernel_rfl) (by kernel_rfl) rfl (by decide) (fun c a a' w hd h => hQp c a a' w hd h) rfl hM.fr fun a hS => ?_
              refine an_skip hS (i := 52) rfl (by kernel_rfl) (by kernel_rfl) (by kernel_rfl) rfl (by decide) (fun c a a' w hd h => hQp c a a' w hd h) rfl hM.fr fun a hS => ?_
              refine an_skip hS (i := 53) rfl (by kernel_rfl) (by kernel_rfl) (by kernel_rfl) rfl (by decide) (fun c a a' w hd h => hQp c a a' w hd h) rfl hM.fr fun a hS => ?_
              refine an_skip hS (i := 54) rfl (by kernel_rfl) (by kernel_rfl) (by kernel_rfl) rfl (by decide) (fun c a a' w hd h => hQp c a a' w hd h) rfl hM.fr fun a hS => ?_
              refine an_skip hS (i := 55) rfl (by kernel_rfl) (by kernel_rfl) (by kernel_rfl) rfl (by decide) (fun c a a' w hd h => hQp c a a' w hd h) rfl hM.fr fun a hS => ?_
              refine an_skip hS (i := 56) rfl (by kernel_rfl) (by kernel_rfl) (by kernel_rfl) rfl (by decide) (fun c a a' w hd h => hQp c a a' w hd h) rfl hM.fr fun a hS => ?_
              refine an_skip hS (i := 57) rfl (by kernel_rfl) (by kernel_rfl) (by kernel_rfl) rfl (by decide) (fun c a a' w hd h => hQp c a a' w hd h) rfl hM.fr fun a hS => ?_
              refine an_skip hS (i := 58) rfl (by kernel_rfl) (by kernel_rfl) (by kernel_rfl) rfl (by decide) (fun c a a' w hd h => hQp c a a' w hd h) rfl hM.fr fun a hS => ?_
              refine an_skip hS (i := 59) rfl (by kernel_rfl) (by kernel_rfl) (by kernel_rfl) rfl (by decide) (fun c a a' w hd h => hQp c a a' w hd h) rfl hM.fr fun a hS => ?_
              refine an_take hS (i := 60) rfl (by kernel_rfl) (by kernel_rfl) (by kernel_rfl) rfl (by decide) (fun c a a' w hd h => hQp c a a' w hd h) rfl (fun w' hC' => (rv_pick_f (hS.ev rfl) (hS.ev rfl))) hM.fr fun a hS => ?_
              refine an_take hS (i := 61) rfl (by kernel_rfl) (by kernel_rfl) (by kernel_rfl) rfl (by decide) (fun c a a' w hd h => hQp c a a' w hd h) rfl (fun w' hC' => (rv_move (hS.ev rfl))) hM.fr fun a hS => ?_
              refine an_skip hS (i := 62) rfl (by kernel_rfl) (by kernel_rfl) (by kernel_rfl) rfl (by decide) (fun c a a' w hd h => hQp c a a' w hd h) rfl hM.fr fun a hS => ?_
              refine an_skip hS (i := 63) rfl (by kernel_rfl) (by kernel_rfl) (by kernel_rfl) rfl (by decide) (fun c a a' w hd h => hQp c a a' w hd h) rfl hM.fr fun a hS => ?_
              refine an_skip hS (i := 64) rfl (by kernel_rfl) (by kernel_rfl) (by kernel_rfl) rfl (by decide) (fun c a a' w hd h => hQp c a a' w hd h) rfl hM.fr fun a hS => ?_
              refine an_skip hS (i := 65) rfl (by kernel_rfl) (by kernel_rfl) (by kernel_rfl) rfl (by decide) (fun c a a' w hd h => hQp c a a' w hd h) rfl hM.fr fun a hS => ?_
              refine an_skip hS (i := 66) rfl (by kernel_rfl) (by kernel_rfl) (by kernel_rfl) rfl (by decide) (fun c a a' w hd h => hQp c a a' w hd h) rfl hM.fr fun a hS => ?_
              refine an_skip hS (i := 67) rfl (by kernel_rfl) (by kernel_rfl) (by kernel_rfl) rfl (by decide) (fun c a a' w hd h => hQp c a a' w hd h) rfl hM.fr fun a hS => ?_
              refine an_skip hS (i := 68) rfl (by kernel_rfl) (by kernel_rfl) (by kernel_rfl) rfl (by decide) (fun c a a' w hd h => hQp c a a' w hd h) rfl hM.fr fun a hS => ?_
              refine an_skip hS (i := 69) rfl (by kernel_rfl) (by kernel_rfl) (by kernel_rfl) rfl (by decide) (fun c a a' w hd h => hQp c a a' w hd h) rfl hM.fr fun a hS => ?_
              refine an_skip hS (i := 70) rfl (by kernel_rfl) (by kernel_rfl) (by kernel_rfl) rfl (by decide) (fun c a a' w hd h => hQp c a a' w hd h) rfl hM.fr fun a hS => ?_
              refine an_take hS (i := 71) rfl (by kernel_rfl) (by kernel_rfl) (by kernel_rfl) rfl (by decide) (fun c a a' w hd h => hQp c a a' w hd h) rfl (fun w' hC' => (rv_pick_f (hS.ev rfl) (hS.ev rfl))) hM.fr fun a hS => ?_
              refine an_take hS (i := 72) rfl (by kernel_rfl) (by kernel_rfl) (by kernel_rfl) rfl (by decide) (fun c a a' w hd h => hQp c a a' w hd h) rfl (fun w' hC' => (rv_assign (hS.ev rfl))) hM.fr fun a hS => ?_
              refine an_done (by kernel_rfl) ?_
              have hN := hM.pick [] (by decide) rfl
              have hM := Mem.callo (A := []) (B := [(true, bx b3 27 [(Value.int IntKind.i64 p0_g_Size), p0_g_Rowsv]), (false, rd p0_g_Rowsv (List.map (Value.int IntKind.i64) p0_g_Rows)), (false, rd p1_lv (List.map (Value.int IntKind.i64) p1_l))]) hB rfl (hN.memS fun _ h => h.elim) rfl
              exact hJ1 false _ _ (hS.sub (sub_cons rfl sub_nil)) (hM.pick [] (by decide) rfl) hF
          · have hS := hS.setb (t := 44) rfl hc
            refine an_skip hS (i := 40) rfl (by kernel_rfl) (by kernel_rfl) (by kernel_rfl) rfl (by decide) (fun c a a' w hd h => hQp c a a' w hd h) rfl hM.fr fun a hS => ?_
            refine an_skip hS (i := 41) rfl (by kernel_rfl) (by kernel_rfl) (by kernel_rfl) rfl (by decide) (fun c a a' w hd h => hQp c a a' w hd h) rfl hM.fr fun a hS => ?_
            refine an_skip hS (i := 42) rfl (by kernel_rfl) (by kernel_rfl) (by kernel_rfl) rfl (by decide) (fun c a a' w hd h => hQp c a a' w hd h) rfl hM.fr fun a hS => ?_
            refine an_skip hS (i := 43) rfl (by kernel_rfl) (by kernel_rfl) (by kernel_rfl) rfl (by decide) (fun c a a' w hd h => hQp c a a' w hd h) rfl hM.fr fun a hS => ?_
            refine an_skip hS (i := 44) rfl (by kernel_rfl) (by kernel_rfl) (by kernel_rfl) rfl (by decide) (fun c a a' w hd h => hQp c a a' w hd h) rfl hM.fr fun a hS => ?_
            refine an_skip hS (i := 45) rfl (by kernel_rfl) (by kernel_rfl) (by kernel_rfl) rfl (by decide) (fun c a a' w hd h => hQp c a a' w hd h) rfl hM.fr fun a hS => ?_
            refine an_skip hS (i := 46) rfl (by kernel_rfl) (by kernel_rfl) (by kernel_rfl) rfl (by decide) (fun c a a' w hd h => hQp c a a' w hd h) rfl hM.fr fun a hS => ?_
            refine an_skip hS (i := 47) rfl (by kernel_rfl) (by kernel_rfl) (by kernel_rfl) rfl (by decide) (fun c a a' w hd h => hQp c a a' w hd h) rfl hM.fr fun a hS => ?_
            refine an_skip hS (i := 48) rfl (by kernel_rfl) (by kernel_rfl) (by kernel_rfl) rfl (by decide) (fun c a a' w hd h => hQp c a a' w hd h) rfl hM.fr fun a hS => ?_
            refine an_take hS (i := 49) rfl (by kernel_rfl) (by kernel_rfl) (by kernel_rfl) rfl (by decide) (fun c a a' w hd h => hQp c a a' w hd h) rfl (fun w' hC' => (rv_pick_f (hS.ev rfl) (hS.ev rfl))) hM.fr fun a hS => ?_
            refine an_take hS (i := 50) rfl (by kernel_rfl) (by kernel_rfl) (by kernel_rfl) rfl (by decide) (fun c a a' w hd h => hQp c a a' w hd h) rfl (fun w' hC' => (rv_move (hS.ev rfl))) hM.fr fun a hS => ?_
            refine an_skip hS (i := 51) rfl (by kernel_rfl) (by kernel_rfl) (by kernel_rfl) rfl (by decide) (fun c a a' w hd h => hQp c a a' w hd h) rfl hM.fr fun a hS => ?_
            refine an_skip hS (i := 52) rfl (by kernel_rfl) (by kernel_rfl) (by kernel_rfl) rfl (by decide) (fun c a a' w hd h => hQp c a a' w hd h) rfl hM.fr fun a hS => ?_
            refine an_skip hS (i := 53) rfl (by kernel_rfl) (by kernel_rfl) (by kernel_rfl) rfl (by decide) (fun c a a' w hd h => hQp c a a' w hd h) rfl hM.fr fun a hS => ?_
            refine an_skip hS (i := 54) rfl (by kernel_rfl) (by kernel_rfl) (by kernel_rfl) rfl (by decide) (fun c a a' w hd h => hQp c a a' w hd h) rfl hM.fr fun a hS => ?_
            refine an_skip hS (i := 55) rfl (by kernel_rfl) (by kernel_rfl) (by kernel_rfl) rfl (by decide) (fun c a a' w hd h => hQp c a a' w hd h) rfl hM.fr fun a hS => ?_
            refine an_skip hS (i := 56) rfl (by kernel_rfl) (by kernel_rfl) (by kernel_rfl) rfl (by decide) (fun c a a' w hd h => hQp c a a' w hd h) rfl hM.fr fun a hS => ?_
            refine an_skip hS (i := 57) rfl (by kernel_rfl) (by kernel_rfl) (by kernel_rfl) rfl (by decide) (fun c a a' w hd h => hQp c a a' w hd h) rfl hM.fr fun a hS => ?_
            refine an_skip hS (i := 58) rfl (by kernel_rfl) (by kernel_rfl) (by kernel_rfl) rfl (by decide) (fun c a a' w hd h => hQp c a a' w hd h) rfl hM.fr fun a hS => ?_
            refine an_skip hS (i := 59) rfl (by kernel_rfl) (by kernel_rfl) (by kernel_rfl) rfl (by decide) (fun c a a' w hd h => hQp c a a' w hd h) rfl hM.fr fun a hS => ?_
            refine an_take hS (i := 60) rfl (by kernel_rfl) (by kernel_rfl) (by kernel_rfl) rfl (by decide) (fun c a a' w hd h => hQp c a a' w hd h) rfl (fun w' hC' => (rv_pick_f (hS.ev rfl) (hS.ev rfl))) hM.fr fun a hS => ?_
            refine an_take hS (i := 61) rfl (by kernel_rfl) (by kernel_rfl) (by kernel_rfl) rfl (by decide) (fun c a a' w hd h => hQp c a a' w hd h) rfl (fun w' hC' => (rv_move (hS.ev rfl))) hM.fr fun a hS => ?_
            refine an_skip hS (i := 62) rfl (by kernel_rfl) (by kernel_rfl) (by kernel_rfl) rfl (by decide) (fun c a a' w hd h => hQp c a a' w hd h) rfl hM.fr fun a hS => ?_
            refine an_skip hS (i := 63) rfl (by kernel_rfl) (by kernel_rfl) (by kernel_rfl) rfl (by decide) (fun c a a' w hd h => hQp c a a' w hd h) rfl hM.fr fun a hS => ?_
            refine an_skip hS (i := 64) rfl (by kernel_rfl) (by kernel_rfl) (by kernel_rfl) rfl (by decide) (fun c a a' w hd h => hQp c a a' w hd h) rfl hM.fr fun a hS => ?_
            refine an_skip hS (i := 65) rfl (by kernel_rfl) (by kernel_rfl) (by kernel_rfl) rfl (by decide) (fun c a a' w hd h => hQp c a a' w hd h) rfl hM.fr fun a hS => ?_
            refine an_skip hS (i := 66) rfl (by kernel_rfl) (by kernel_rfl) (by kernel_rfl) rfl (by decide) (fun c a a' w hd h => hQp c a a' w hd h) rfl hM.fr fun a hS => ?_
            refine an_skip hS (i := 67) rfl (by kernel_rfl) (by kernel_rfl) (by kernel_rfl) rfl (by decide) (fun c a a' w hd h => hQp c a a' w hd h) rfl hM.fr fun a hS => ?_
            refine an_skip hS (i := 68) rfl (by kernel_rfl) (by kernel_rfl) (by kernel_rfl) rfl (by decide) (fun c a a' w hd h => hQp c a a' w hd h) rfl hM.fr fun a hS => ?_
            refine an_skip hS (i := 69) rfl (by kernel_rfl) (by kernel_rfl) (by kernel_rfl) rfl (by decide) (fun c a a' w hd h => hQp c a a' w hd h) rfl hM.fr fun a hS => ?_
            refine an_skip hS (i := 70) rfl (by kernel_rfl) (by kernel_rfl) (by kernel_rfl) rfl (by decide) (fun c a a' w hd h => hQp c a a' w hd h) rfl hM.fr fun a hS => ?_
            refine an_take hS (i := 71) rfl (by kernel_rfl) (by kernel_rfl) (by kernel_rfl) rfl (by decide) (fun c a a' w hd h => hQp c a a' w hd h) rfl (fun w' hC' => (rv_pick_f (hS.ev rfl) (hS.ev rfl))) hM.fr fun a hS => ?_
            refine an_take hS (i := 72) rfl (by kernel_rfl) (by kernel_rfl) (by kernel_rfl) rfl (by decide) (fun c a a' w hd h => hQp c a a' w hd h) rfl (fun w' hC' => (rv_assign (hS.ev rfl))) hM.fr fun a hS => ?_
            refine an_done (by kernel_rfl) ?_
            have hN := hM.pick [] (by decide) rfl
            have hM := Mem.callo (A := []) (B := [(true, bx b3 27 [(Value.int IntKind.i64 p0_g_Size), p0_g_Rowsv]), (false, rd p0_g_Rowsv (List.map (Value.int IntKind.i64) p0_g_Rows)), (false, rd p1_lv (List.map (Value.int IntKind.i64) p1_l))]) hB rfl (hN.memS fun _ h => h.elim) rfl
            exact hJ1 false _ _ (hS.sub (sub_cons rfl sub_nil)) (hM.pick [] (by decide) rfl) hF
        · have hS := hS.setb (t := 33) rfl hc
          refine an_skip hS (i := 29) rfl (by kernel_rfl) (by kernel_rfl) (by kernel_rfl) rfl (by decide) (fun c a a' w hd h => hQp c a a' w hd h) rfl hM.fr fun a hS => ?_
          refine an_skip hS (i := 30) rfl (by kernel_rfl) (by kernel_rfl) (by kernel_rfl) rfl (by decide) (fun c a a' w hd h => hQp c a a' w hd h) rfl hM.fr fun a hS => ?_
          refine an_skip hS (i := 31) rfl (by kernel_rfl) (by kernel_rfl) (by kernel_rfl) rfl (by decide) (fun c a a' w hd h => hQp c a a' w hd h) rfl hM.fr fun a hS => ?_
          refine an_skip hS (i := 32) rfl (by kernel_rfl) (by kernel_rfl) (by kernel_rfl) rfl (by decide) (fun c a a' w hd h => hQp c a a' w hd h) rfl hM.fr fun a hS => ?_
          refine an_skip hS (i := 33) rfl (by kernel_rfl) (by kernel_rfl) (by kernel_rfl) rfl (by decide) (fun c a a' w hd h => hQp c a a' w hd h) rfl hM.fr fun a hS => ?_
          refine an_skip hS (i := 34) rfl (by kernel_rfl) (by kernel_rfl) (by kernel_rfl) rfl (by decide) (fun c a a' w hd h => hQp c a a' w hd h) rfl hM.fr fun a hS => ?_
          refine an_skip hS (i := 35) rfl (by kernel_rfl) (by kernel_rfl) (by kernel_rfl) rfl (by decide) (fun c a a' w hd h => hQp c a a' w hd h) rfl hM.fr fun a hS => ?_
          refine an_skip hS (i := 36) rfl (by kernel_rfl) (by kernel_rfl) (by kernel_rfl) rfl (by decide) (fun c a a' w hd h => hQp c a a' w hd h) rfl hM.fr fun a hS => ?_
          refine an_skip hS (i := 37) rfl (by kernel_rfl) (by kernel_rfl) (by kernel_rfl) rfl (by decide) (fun c a a' w hd h => hQp c a a' w hd h) rfl hM.fr fun a hS => ?_
          refine an_take hS (i := 38) rfl (by kernel_rfl) (by kernel_rfl) (by kernel_rfl) rfl (by decide) (fun c a a' w hd h => hQp c a a' w hd h) rfl (fun w' hC' => (rv_pick_f (hS.ev rfl) (hS.ev rfl))) hM.fr fun a hS => ?_
          refine an_take hS (i := 39) rfl (by kernel_rfl) (by kernel_rfl) (by kernel_rfl) rfl (by decide) (fun c a a' w hd h => hQp c a a' w hd h) rfl (fun w' hC' => (rv_move (hS.ev rfl))) hM.fr fun a hS => ?_
          refine an_skip hS (i := 40) rfl (by kernel_rfl) (by kernel_rfl) (by kernel_rfl) rfl (by decide) (fun c a a' w hd h => hQp c a a' w hd h) rfl hM.fr fun a hS => ?_
          refine an_skip hS (i := 41) rfl (by kernel_rfl) (by kernel_rfl) (by kernel_rfl) rfl (by decide) (fun c a a' w hd h => hQp c a a' w hd h) rfl hM.fr fun a hS => ?_
          refine an_skip hS (i := 42) rfl (by kernel_rfl) (by kernel_rfl) (by kernel_rfl) rfl (by decide) (fun c a a' w hd h => hQp c a a' w hd h) rfl hM.fr fun a hS => ?_
          refine an_skip hS (i := 43) rfl (by kernel_rfl) (by kernel_rfl) (by kernel_rfl) rfl (by decide) (fun c a a' w hd h => hQp c a a' w hd h) rfl hM.fr fun a hS => ?_
          refine an_skip hS (i := 44) rfl (by kernel_rfl) (by kernel_rfl) (by kernel_rfl) rfl (by decide) (fun c a a' w hd h => hQp c a a' w hd h) rfl hM.fr fun a hS => ?_
          refine an_skip hS (i := 45) rfl (by kernel_rfl) (by kernel_rfl) (by kernel_rfl) rfl (by decide) (fun c a a' w hd h => hQp c a a' w hd h) rfl hM.fr fun a hS => ?_
          refine an_skip hS (i := 46) rfl (by kernel_rfl) (by kernel_rfl) (by kernel_rfl) rfl (by decide) (fun c a a' w hd h => hQp c a a' w hd h) rfl hM.fr fun a hS => ?_
          refine an_skip hS (i := 47) rfl (by kernel_rfl) (by kernel_rfl) (by kernel_rfl) rfl (by decide) (fun c a a' w hd h => hQp c a a' w hd h) rfl hM.fr fun a hS => ?_
          refine an_skip hS (i := 48) rfl (by kernel_rfl) (by kernel_rfl) (by kernel_rfl) rfl (by decide) (fun c a a' w hd h => hQp c a a' w hd h) rfl hM.fr fun a hS => ?_
          refine an_take hS (i := 49) rfl (by kernel_rfl) (by kernel_rfl) (by kernel_rfl) rfl (by decide) (fun c a a' w hd h => hQp c a a' w hd h) rfl (fun w' hC' => (rv_pick_f (hS.ev rfl) (hS.ev rfl))) hM.fr fun a hS => ?_
          refine an_take hS (i := 50) rfl (by kernel_rfl) (by kernel_rfl) (by kernel_rfl) rfl (by decide) (fun c a a' w hd h => hQp c a a' w hd h) rfl (fun w' hC' => (rv_move (hS.ev rfl))) hM.fr fun a hS => ?_
          refine an_skip hS (i := 51) rfl (by kernel_rfl) (by kernel_rfl) (by kernel_rfl) rfl (by decide) (fun c a a' w hd h => hQp c a a' w hd h) rfl hM.fr fun a hS => ?_
          refine an_skip hS (i := 52) rfl (by kernel_rfl) (by kernel_rfl) (by kernel_rfl) rfl (by decide) (fun c a a' w hd h => hQp c a a' w hd h) rfl hM.fr fun a hS => ?_
          refine an_skip hS (i := 53) rfl (by kernel_rfl) (by kernel_rfl) (by kernel_rfl) rfl (by decide) (fun c a a' w hd h => hQp c a a' w hd h) rfl hM.fr fun a hS => ?_
          refine an_skip hS (i := 54) rfl (by kernel_rfl) (by kernel_rfl) (by kernel_rfl) rfl (by decide) (fun c a a' w hd h => hQp c a a' w hd h) rfl hM.fr fun a hS => ?_
          refine an_skip hS (i := 55) rfl (by kernel_rfl) (by kernel_rfl) (by kernel_rfl) rfl (by decide) (fun c a a' w hd h => hQp c a a' w hd h) rfl hM.fr fun a hS => ?_
          refine an_skip hS (i := 56) rfl (by kernel_rfl) (by kernel_rfl) (by kernel_rfl) rfl (by decide) (fun c a a' w hd h => hQp c a a' w hd h) rfl hM.fr fun a hS => ?_
          refine an_skip hS (i := 57) rfl (by kernel_rfl) (by kernel_rfl) (by kernel_rfl) rfl (by decide) (fun c a a' w hd h => hQp c a a' w hd h) rfl hM.fr fun a hS => ?_
          refine an_skip hS (i := 58) rfl (by kernel_rfl) (by kernel_rfl) (by kernel_rfl) rfl (by decide) (fun c a a' w hd h => hQp c a a' w hd h) rfl hM.fr fun a hS => ?_
          refine an_skip hS (i := 59) rfl (by kernel_rfl) (by kernel_rfl) (by kernel_rfl) rfl (by decide) (fun c a a' w hd h => hQp c a a' w hd h) rfl hM.fr fun a hS => ?_
          refine an_take hS (i := 60) rfl (by kernel_rfl) (by kernel_rfl) (by kernel_rfl) rfl (by decide) (fun c a a' w hd h => hQp c a a' w hd h) rfl (fun w' hC' => (rv_pick_f (hS.ev rfl) (hS.ev rfl))) hM.fr fun a hS => ?_
          refine an_take hS (i := 61) rfl (by kernel_rfl) (by kernel_rfl) (by kernel_rfl) rfl (by decide) (fun c a a' w hd h => hQp c a a' w hd h) rfl (fun w' hC' => (rv_move (hS.ev rfl))) hM.fr fun a hS => ?_
          refine an_skip hS (i := 62) rfl (by kernel_rfl) (by kernel_rfl) (by kernel_rfl) rfl (by decide) (fun c a a' w hd h => hQp c a a' w hd h) rfl hM.fr fun a hS => ?_
          refine an_skip hS (i := 63) rfl (by kernel_rfl) (by kernel_rfl) (by kernel_rfl) rfl (by decide) (fun c a a' w hd h => hQp c a a' w hd h) rfl hM.fr fun a hS => ?_
          refine an_skip hS (i := 64) rfl (by kernel_rfl) (by kernel_rfl) (by kernel_rfl) rfl (by decide) (fun c a a' w hd h => hQp c a a' w hd h) rfl hM.fr fun a hS => ?_
          refine an_skip hS (i := 65) rfl (by kernel_rfl) (by kernel_rfl) (by kernel_rfl) rfl (by decide) (fun c a a' w hd h => hQp c a a' w hd h) rfl hM.fr fun a hS => ?_
          refine an_skip hS (i := 66) rfl (by kernel_rfl) (by kernel_rfl) (by kernel_rfl) rfl (by decide) (fun c a a' w hd h => hQp c a a' w hd h) rfl hM.fr fun a hS => ?_
          refine an_skip hS (i := 67) rfl (by kernel_rfl) (by kernel_rfl) (by kernel_rfl) rfl (by decide) (fun c a a' w hd h => hQp c a a' w hd h) rfl hM.fr fun a hS => ?_
          refine an_skip hS (i := 68) rfl (by kernel_rfl) (by kernel_rfl) (by kernel_rfl) rfl (by decide) (fun c a a' w hd h => hQp c a a' w hd h) rfl hM.fr fun a hS => ?_
          refine an_skip hS (i := 69) rfl (by kernel_rfl) (by kernel_rfl) (by kernel_rfl) rfl (by decide) (fun c a a' w hd h => hQp c a a' w hd h) rfl hM.fr fun a hS => ?_
          refine an_skip hS (i := 70) rfl (by kernel_rfl) (by kernel_rfl) (by kernel_rfl) rfl (by decide) (fun c a a' w hd h => hQp c a a' w hd h) rfl hM.fr fun a hS => ?_
          refine an_take hS (i := 71) rfl (by kernel_rfl) (by kernel_rfl) (by kernel_rfl) rfl (by decide) (fun c a a' w hd h => hQp c a a' w hd h) rfl (fun w' hC' => (rv_pick_f (hS.ev rfl) (hS.ev rfl))) hM.fr fun a hS => ?_
          refine an_take hS (i := 72) rfl (by kernel_rfl) (by kernel_rfl) (by kernel_rfl) rfl (by decide) (fun c a a' w hd h => hQp c a a' w hd h) rfl (fun w' hC' => (rv_assign (hS.ev rfl))) hM.fr fun a hS => ?_
          refine an_done (by kernel_rfl) ?_
          have hN := hM.pick [] (by decide) rfl
          have hM := Mem.callo (A := []) (B := [(true, bx b3 27 [(Value.int IntKind.i64 p0_g_Size), p0_g_Rowsv]), (false, rd p0_g_Rowsv (List.map (Value.int IntKind.i64) p0_g_Rows)), (false, rd p1_lv (List.map (Value.int IntKind.i64) p1_l))]) hB rfl (hN.memS fun _ h => h.elim) rfl
          exact hJ1 false _ _ (hS.sub (sub_cons rfl sub_nil)) (hM.pick [] (by decide) rfl) hF
      · have hS := hS.setb (t := 23) rfl hc
        refine an_skip hS (i := 19) rfl (by kernel_rfl) (by kernel_rfl) (by kernel_rfl) rfl (by decide) (fun c a a' w hd h => hQp c a a' w hd h) rfl hM.fr fun a hS => ?_
        refine an_skip hS (i := 20) rfl (by kernel_rfl) (by kernel_rfl) (by kernel_rfl) rfl (by decide) (fun c a a' w hd h => hQp c a a' w hd h) rfl hM.fr fun a hS => ?_
        refine an_skip hS (i := 21) rfl (by kernel_rfl) (by kernel_rfl) (by kernel_rfl) rfl (by decide) (fun c a a' w hd h => hQp c a a' w hd h) rfl hM.fr fun a hS => ?_
        refine an_skip hS (i := 22) rfl (by kernel_rfl) (by kernel_rfl) (by kernel_rfl) rfl (by decide) (fun c a a' w hd h => hQp c a a' w hd h) rfl hM.fr fun a hS => ?_
        refine an_skip hS (i := 23) rfl (by kernel_rfl) (by kernel_rfl) (by kernel_rfl) rfl (by decide) (fun c a a' w hd h => hQp c a a' w hd h) rfl hM.fr fun a hS => ?_
        refine an_skip hS (i := 24) rfl (by kernel_rfl) (by kernel_rfl) (by kernel_rfl) rfl (by decide) (fun c a a' w hd h => hQp c a a' w hd h) rfl hM.fr fun a hS => ?_
        refine an_skip hS (i := 25) rfl (by kernel_rfl) (by kernel_rfl) (by kernel_rfl) rfl (by decide) (fun c a a' w hd h => hQp c a a' w hd h) rfl hM.fr fun a hS => ?_
        refine an_skip hS (i := 26) rfl (by kernel_rfl) (by kernel_rfl) (by kernel_rfl) rfl (by decide) (fun c a a' w hd h => hQp c a a' w hd h) rfl hM.fr fun a hS => ?_
        refine an_take hS (i := 27) rfl (by kernel_rfl) (by kernel_rfl) (by kernel_rfl) rfl (by decide) (fun c a a' w hd h => hQp c a a' w hd h) rfl (fun w' hC' => (rv_pick_f (hS.ev rfl) (hS.ev rfl))) hM.fr fun a hS => ?_
        refine an_take hS (i := 28) rfl (by kernel_rfl) (by kernel_rfl) (by kernel_rfl) rfl (by decide) (fun c a a' w hd h => hQp c a a' w hd h) rfl (fun w' hC' => (rv_move (hS.ev rfl))) hM.fr fun a hS => ?_
        refine an_skip hS (i := 29) rfl (by kernel_rfl) (by kernel_rfl) (by kernel_rfl) rfl (by decide) (fun c a a' w hd h => hQp c a a' w hd h) rfl hM.fr fun a hS => ?_
        refine an_skip hS (i := 30) rfl (by kernel_rfl) (by kernel_rfl) (by kernel_rfl) rfl (by decide) (fun c a a' w hd h => hQp c a a' w hd h) rfl hM.fr fun a hS => ?_
        refine an_skip hS (i := 31) rfl (by kernel_rfl) (by kernel_rfl) (by kernel_rfl) rfl (by decide) (fun c a a' w hd h => hQp c a a' w hd h) rfl hM.fr fun a hS => ?_
        refine an_skip hS (i := 32) rfl (by kernel_rfl) (by kernel_rfl) (by kernel_rfl) rfl (by decide) (fun c a a' w hd h => hQp c a a' w hd h) rfl hM.fr fun a hS => ?_
        refine an_skip hS (i := 33) rfl (by kernel_rfl) (by kernel_rfl) (by kernel_rfl) rfl (by decide) (fun c a a' w hd h => hQp c a a' w hd h) rfl hM.fr fun a hS => ?_
        refine an_skip hS (i := 34) rfl (by kernel_rfl) (by kernel_rfl) (by kernel_rfl) rfl (by decide) (fun c a a' w hd h => hQp c a a' w hd h) rfl hM.fr fun a hS => ?_
        refine an_skip hS (i := 35) rfl (by kernel_rfl) (by kernel_rfl) (by kernel_rfl) rfl (by decide) (fun c a a' w hd h => hQp c a a' w hd h) rfl hM.fr fun a hS => ?_
        refine an_skip hS (i := 36) rfl (by kernel_rfl) (by kernel_rfl) (by kernel_rfl) rfl (by decide) (fun c a a' w hd h => hQp c a a' w hd h) rfl hM.fr fun a hS => ?_
        refine an_skip hS (i := 37) rfl (by kernel_rfl) (by kernel_rfl) (by kernel_rfl) rfl (by decide) (fun c a a' w hd h => hQp c a a' w hd h) rfl hM.fr fun a hS => ?_
        refine an_take hS (i := 38) rfl (by kernel_rfl) (by kernel_rfl) (by kernel_rfl) rfl (by decide) (fun c a a' w hd h => hQp c a a' w hd h) rfl (fun w' hC' => (rv_pick_f (hS.ev rfl) (hS.ev rfl))) hM.fr fun a hS => ?_
        refine an_take hS (i := 39) rfl (by kernel_rfl) (by kernel_rfl) (by kernel_rfl) rfl (by decide) (fun c a a' w hd h => hQp c a a' w hd h) rfl (fun w' hC' => (rv_move (hS.ev rfl))) hM.fr fun a hS => ?_
        refine an_skip hS (i := 40) rfl (by kernel_rfl) (by kernel_rfl) (by kernel_rfl) rfl (by decide) (fun c a a' w hd h => hQp c a a' w hd h) rfl hM.fr fun a hS => ?_
        refine an_skip hS (i := 41) rfl (by kernel_rfl) (by kernel_rfl) (by kernel_rfl) rfl (by decide) (fun c a a' w hd h => hQp c a a' w hd h) rfl hM.fr fun a hS => ?_
        refine an_skip hS (i := 42) rfl (by kernel_rfl) (by kernel_rfl) (by kernel_rfl) rfl (by decide) (fun c a a' w hd h => hQp c a a' w hd h) rfl hM.fr fun a hS => ?_
        refine an_skip hS (i := 43) rfl (by kernel_rfl) (by kernel_rfl) (by kernel_rfl) rfl (by decide) (fun c a a' w hd h => hQp c a a' w hd h) rfl hM.fr fun a hS => ?_
        refine an_skip hS (i := 44) rfl (by kernel_rfl) (by kernel_rfl) (by kernel_rfl) rfl (by decide) (fun c a a' w hd h => hQp c a a' w hd h) rfl hM.fr fun a hS => ?_
        refine an_skip hS (i := 45) rfl (by kernel_rfl) (by kernel_rfl) (by kernel_rfl) rfl (by decide) (fun c a a' w hd h => hQp c a a' w hd h) rfl hM.fr fun a hS => ?_
        refine an_skip hS (i := 46) rfl (by kernel_rfl) (by kernel_rfl) (by kernel_rfl) rfl (by decide) (fun c a a' w hd h => hQp c a a' w hd h) rfl hM.fr fun a hS => ?_
        refine an_skip hS (i := 47) rfl (by kernel_rfl) (by kernel_rfl) (by kernel_rfl) rfl (by decide) (fun c a a' w hd h => hQp c a a' w hd h) rfl hM.fr fun a hS => ?_
        refine an_skip hS (i := 48) rfl (by kernel_rfl) (by kernel_rfl) (by kernel_rfl) rfl (by decide) (fun c a a' w hd h => hQp c a a' w hd h) rfl hM.fr fun a hS => ?_
        refine an_take hS (i := 49) rfl (by kernel_rfl) (by kernel_rfl) (by kernel_rfl) rfl (by decide) (fun c a a' w hd h => hQp c a a' w hd h) rfl (fun w' hC' => (rv_pick_f (hS.ev rfl) (hS.ev rfl))) hM.fr fun a hS => ?_
        refine an_take hS (i := 50) rfl (by kernel_rfl) (by kernel_rfl) (by kernel_rfl) rfl (by decide) (fun c a a' w hd h => hQp c a a' w hd h) rfl (fun w' hC' => (rv_move (hS.ev rfl))) hM.fr fun a hS => ?_
        refine an_skip hS (i := 51) rfl (by kernel_rfl) (by kernel_rfl) (by kernel_rfl) rfl (by decide) (fun c a a' w hd h => hQp c a a' w hd h) rfl hM.fr fun a hS => ?_
        refine an_skip hS (i := 52) rfl (by kernel_rfl) (by kernel_rfl) (by kernel_rfl) rfl (by decide) (fun c a a' w hd h => hQp c a a' w hd h) rfl hM.fr fun a hS => ?_
        refine an_skip hS (i := 53) rfl (by kernel_rfl) (by kernel_rfl) (by kernel_rfl) rfl (by decide) (fun c a a' w hd h => hQp c a a' w hd h) rfl hM.fr fun a hS => ?_
        refine an_skip hS (i := 54) rfl (by kernel_rfl) (by kernel_rfl) (by kernel_rfl) rfl (by decide) (fun c a a' w hd h => hQp c a a' w hd h) rfl hM.fr fun a hS => ?_
        refine an_skip hS (i := 55) rfl (by kernel_rfl) (by kernel_rfl) (by kernel_rfl) rfl (by decide) (fun c a a' w hd h => hQp c a a' w hd h) rfl hM.fr fun a hS => ?_
        refine an_skip hS (i := 56) rfl (by kernel_rfl) (by kernel_rfl) (by kernel_rfl) rfl (by decide) (fun c a a' w hd h => hQp c a a' w hd h) rfl hM.fr fun a hS => ?_
        refine an_skip hS (i := 57) rfl (by kernel_rfl) (by kernel_rfl) (by kernel_rfl) rfl (by decide) (fun c a a' w hd h => hQp c a a' w hd h) rfl hM.fr fun a hS => ?_
        refine an_skip hS (i := 58) rfl (by kernel_rfl) (by kernel_rfl) (by kernel_rfl) rfl (by decide) (fun c a a' w hd h => hQp c a a' w hd h) rfl hM.fr fun a hS => ?_
        refine an_skip hS (i := 59) rfl (by kernel_rfl) (by kernel_rfl) (by kernel_rfl) rfl (by decide) (fun c a a' w hd h => hQp c a a' w hd h) rfl hM.fr fun a hS => ?_
        refine an_take hS (i := 60) rfl (by kernel_rfl) (by kernel_rfl) (by kernel_rfl) rfl (by decide) (fun c a a' w hd h => hQp c a a' w hd h) rfl (fun w' hC' => (rv_pick_f (hS.ev rfl) (hS.ev rfl))) hM.fr fun a hS => ?_
        refine an_take hS (i := 61) rfl (by kernel_rfl) (by kernel_rfl) (by kernel_rfl) rfl (by decide) (fun c a a' w hd h => hQp c a a' w hd h) rfl (fun w' hC' => (rv_move (hS.ev rfl))) hM.fr fun a hS => ?_
        refine an_skip hS (i := 62) rfl (by kernel_rfl) (by kernel_rfl) (by kernel_rfl) rfl (by decide) (fun c a a' w hd h => hQp c a a' w hd h) rfl hM.fr fun a hS => ?_
        refine an_skip hS (i := 63) rfl (by kernel_rfl) (by kernel_rfl) (by kernel_rfl) rfl (by decide) (fun c a a' w hd h => hQp c a a' w hd h) rfl hM.fr fun a hS => ?_
        refine an_skip hS (i := 64) rfl (by kernel_rfl) (by kernel_rfl) (by kernel_rfl) rfl (by decide) (fun c a a' w hd h => hQp c a a' w hd h) rfl hM.fr fun a hS => ?_
        refine an_skip hS (i := 65) rfl (by kernel_rfl) (by kernel_rfl) (by kernel_rfl) rfl (by decide) (fun c a a' w hd h => hQp c a a' w hd h) rfl hM.fr fun a hS => ?_
        refine an_skip hS (i := 66) rfl (by kernel_rfl) (by kernel_rfl) (by kernel_rfl) rfl (by decide) (fun c a a' w hd h => hQp c a a' w hd h) rfl hM.fr fun a hS => ?_
        refine an_skip hS (i := 67) rfl (by kernel_rfl) (by kernel_rfl) (by kernel_rfl) rfl (by decide) (fun c a a' w hd h => hQp c a a' w hd h) rfl hM.fr fun a hS => ?_
        refine an_skip hS (i := 68) rfl (by kernel_rfl) (by kernel_rfl) (by kernel_rfl) rfl (by decide) (fun c a a' w hd h => hQp c a a' w hd h) rfl hM.fr fun a hS => ?_
        refine an_skip hS (i := 69) rfl (by kernel_rfl) (by kernel_rfl) (by kernel_rfl) rfl (by decide) (fun c a a' w hd h => hQp c a a' w hd h) rfl hM.fr fun a hS => ?_
        refine an_skip hS (i := 70) rfl (by kernel_rfl) (by kernel_rfl) (by kernel_rfl) rfl (by decide) (fun c a a' w hd h => hQp c a a' w hd h) rfl hM.fr fun a hS => ?_
        refine an_take hS (i := 71) rfl (by kernel_rfl) (by kernel_rfl) (by kernel_rfl) rfl (by decide) (fun c a a' w hd h => hQp c a a' w hd h) rfl (fun w' hC' => (rv_pick_f (hS.ev rfl) (hS.ev rfl))) hM.fr fun a hS => ?_
        refine an_take hS (i := 72) rfl (by kernel_rfl) (by kernel_rfl) (by kernel_rfl) rfl (by decide) (fun c a a' w hd h => hQp c a a' w hd h) rfl (fun w' hC' => (rv_assign (hS.ev rfl))) hM.fr fun a hS => ?_
        refine an_done (by kernel_rfl) ?_
        have hN := hM.pick [] (by decide) rfl
        have hM := Mem.callo (A := []) (B := [(true, bx b3 27 [(Value.int IntKind.i64 p0_g_Size), p0_g_Rowsv]), (false, rd p0_g_Rowsv (List.map (Value.int IntKind.i64) p0_g_Rows)), (false, rd p1_lv (List.map (Value.int IntKind.i64) p1_l))]) hB rfl (hN.memS fun _ h => h.elim) rfl
        exact hJ1 false _ _ (hS.sub (sub_cons rfl sub_nil)) (hM.pick [] (by decide) rfl) hF
    · have hS := hS.setb (t := 13) rfl hc
      refine an_skip hS (i := 9) rfl (by kernel_rfl) (by kernel_rfl) (by kernel_rfl) rfl (by decide) (fun c a a' w hd h => hQp c a a' w hd h) rfl hM.fr fun a hS => ?_
      refine an_skip hS (i := 10) rfl (by kernel_rfl) (by kernel_rfl) (by kernel_rfl) rfl (by decide) (fun c a a' w hd h => hQp c a a' w hd h) rfl hM.fr fun a hS => ?_
      refine an_skip hS (i := 11) rfl (by kernel_rfl) (by kernel_rfl) (by kernel_rfl) rfl (by decide) (fun c a a' w hd h => hQp c a a' w hd h) rfl hM.fr fun a hS => ?_
      refine an_skip hS (i := 12) rfl (by kernel_rfl) (by kernel_rfl) (by kernel_rfl) rfl (by decide) (fun c a a' w hd h => hQp c a a' w hd h) rfl hM.fr fun a hS => ?_
      refine an_skip hS (i := 13) rfl (by kernel_rfl) (by kernel_rfl) (by kernel_rfl) rfl (by decide) (fun c a a' w hd h => hQp c a a' w hd h) rfl hM.fr fun a hS => ?_
      refine an_skip hS (i := 14) rfl (by kernel_rfl) (by kernel_rfl) (by kernel_rfl) rfl (by decide) (fun c a a' w hd h => hQp c a a' w hd h) rfl hM.fr fun a hS => ?_
      refine an_skip hS (i := 15) rfl (by kernel_rfl) (by kernel_rfl) (by kernel_rfl) rfl (by decide) (fun c a a' w hd h => hQp c a a' w hd h) rfl hM.fr fun a hS => ?_
      refine an_skip hS (i := 16) rfl (by kernel_rfl) (by kernel_rfl) (by kernel_rfl) rfl (by decide) (fun c a a' w hd h => hQp c a a' w hd h) rfl hM.fr fun a hS => ?_
      refine an_take hS (i := 17) rfl (by kernel_rfl) (by kernel_rfl) (by kernel_rfl) rfl (by decide) (fun c a a' w hd h => hQp c a a' w hd h) rfl (fun w' hC' => (rv_pick_f (hS.ev rfl) (hS.ev rfl))) hM.fr fun a hS => ?_
      refine an_take hS (i := 18) rfl (by kernel_rfl) (by kernel_rfl) (by kernel_rfl) rfl (by decide) (fun c a a' w hd h => hQp c a a' w hd h) rfl (fun w' hC' => (rv_move (hS.ev rfl))) hM.fr fun a hS => ?_
      refine an_skip hS (i := 19) rfl (by kernel_rfl) (by kernel_rfl) (by kernel_rfl) rfl (by decide) (fun c a a' w hd h => hQp c a a' w hd h) rfl hM.fr fun a hS => ?_
      refine an_skip hS (i := 20) rfl (by kernel_rfl) (by kernel_rfl) (by kernel_rfl) rfl (by decide) (fun c a a' w hd h => hQp c a a' w hd h) rfl hM.fr fun a hS => ?_
      refine an_skip hS (i := 21) rfl (by kernel_rfl) (by kernel_rfl) (by kernel_rfl) rfl (by decide) (fun c a a' w hd h => hQp c a a' w hd h) rfl hM.fr fun a hS => ?_
      refine an_skip hS (i := 22) rfl (by kernel_rfl) (by kernel_rfl) (by kernel_rfl) rfl (by decide) (fun c a a' w hd h => hQp c a a' w hd h) rfl hM.fr fun a hS => ?_
      refine an_skip hS (i := 23) rfl (by kernel_rfl) (by kernel_rfl) (by kernel_rfl) rfl (by decide) (fun c a a' w hd h => hQp c a a' w hd h) rfl hM.fr fun a hS => ?_
      refine an_skip hS (i := 24) rfl (by kernel_rfl) (by kernel_rfl) (by kernel_rfl) rfl (by decide) (fun c a a' w hd h => hQp c a a' w hd h) rfl hM.fr fun a hS => ?_
      refine an_skip hS (i := 25) rfl (by kernel_rfl) (by kernel_rfl) (by kernel_rfl) rfl (by decide) (fun c a a' w hd h => hQp c a a' w hd h) rfl hM.fr fun a hS => ?_
      refine an_skip hS (i := 26) rfl (by kernel_rfl) (by kernel_rfl) (by kernel_rfl) rfl (by decide) (fun c a a' w hd h => hQp c a a' w hd h) rfl hM.fr fun a hS => ?_
      refine an_take hS (i := 27) rfl (by kernel_rfl) (by kernel_rfl) (by kernel_rfl) rfl (by decide) (fun c a a' w hd h => hQp c a a' w hd h) rfl (fun w' hC' => (rv_pick_f (hS.ev rfl) (hS.ev rfl))) hM.fr fun a hS => ?_
      refine an_take hS (i := 28) rfl (by kernel_rfl) (by kernel_rfl) (by kernel_rfl) rfl (by decide) (fun c a a' w hd h => hQp c a a' w hd h) rfl (fun w' hC' => (rv_move (hS.ev rfl))) hM.fr fun a hS => ?_
      refine an_skip hS (i := 29) rfl (by kernel_rfl) (by kernel_rfl) (by kernel_rfl) rfl (by decide) (fun c a a' w hd h => hQp c a a' w hd h) rfl hM.fr fun a hS => ?_
      refine an_skip hS (i := 30) rfl (by kernel_rfl) (by kernel_rfl) (by kernel_rfl) rfl (by decide) (fun c a a' w hd h => hQp c a a' w hd h) rfl hM.fr fun a hS => ?_
      refine an_skip hS (i := 31) rfl (by kernel_rfl) (by kernel_rfl) (by kernel_rfl) rfl (by decide) (fun c a a' w hd h => hQp c a a' w hd h) rfl hM.fr fun a hS => ?_
      refine an_skip hS (i := 32) rfl (by kernel_rfl) (by kernel_rfl) (by kernel_rfl) rfl (by decide) (fun c a a' w hd h => hQp c a a' w hd h) rfl hM.fr fun a hS => ?_
      refine an_skip hS (i := 33) rfl (by kernel_rfl) (by kernel_rfl) (by kernel_rfl) rfl (by decide) (fun c a a' w hd h => hQp c a a' w hd h) rfl hM.fr fun a hS => ?_
      refine an_skip hS (i := 34) rfl (by kernel_rfl) (by kernel_rfl) (by kernel_rfl) rfl (by decide) (fun c a a' w hd h => hQp c a a' w hd h) rfl hM.fr fun a hS => ?_
      refine an_skip hS (i := 35) rfl (by kernel_rfl) (by kernel_rfl) (by kernel_rfl) rfl (by decide) (fun c a a' w hd h => hQp c a a' w hd h) rfl hM.fr fun a hS => ?_
      refine an_skip hS (i := 36) rfl (by kernel_rfl) (by kernel_rfl) (by kernel_rfl) rfl (by decide) (fun c a a' w hd h => hQp c a a' w hd h) rfl hM.fr fun a hS => ?_
      refine an_skip hS (i := 37) rfl (by kernel_rfl) (by kernel_rfl) (by kernel_rfl) rfl (by decide) (fun c a a' w hd h => hQp c a a' w hd h) rfl hM.fr fun a hS => ?_
      refine an_take hS (i := 38) rfl (by kernel_rfl) (by kernel_rfl) (by kernel_rfl) rfl (by decide) (fun c a a' w hd h => hQp c a a' w hd h) rfl (fun w' hC' => (rv_pick_f (hS.ev rfl) (hS.ev rfl))) hM.fr fun a hS => ?_
      refine an_take hS (i := 39) rfl (by kernel_rfl) (by kernel_rfl) (by kernel_rfl) rfl (by decide) (fun c a a' w hd h => hQp c a a' w hd h) rfl (fun w' hC' => (rv_move (hS.ev rfl))) hM.fr fun a hS => ?_
      refine an_skip hS (i := 40) rfl (by kernel_rfl) (by kernel_rfl) (by kernel_rfl) rfl (by decide) (fun c a a' w hd h => hQp c a a' w hd h) rfl hM.fr fun a hS => ?_
      refine an_skip hS (i := 41) rfl (by kernel_rfl) (by kernel_rfl) (by kernel_rfl) rfl (by decide) (fun c a a' w hd h => hQp c a a' w hd h) rfl hM.fr fun a hS => ?_
      refine an_skip hS (i := 42) rfl (by kernel_rfl) (by kernel_rfl) (by kernel_rfl) rfl (by decide) (fun c a a' w hd h => hQp c a a' w hd h) rfl hM.fr fun a hS => ?_
      refine an_skip hS (i := 43) rfl (by kernel_rfl) (by kernel_rfl) (by kernel_rfl) rfl (by decide) (fun c a a' w hd h => hQp c a a' w hd h) rfl hM.fr fun a hS => ?_
      refine an_skip hS (i := 44) rfl (by kernel_rfl) (by kernel_rfl) (by kernel_rfl) rfl (by decide) (fun c a a' w hd h => hQp c a a' w hd h) rfl hM.fr fun a hS => ?_
      refine an_skip hS (i := 45) rfl (by kernel_rfl) (by kernel_rfl) (by kernel_rfl) rfl (by decide) (fun c a a' w hd h => hQp c a a' w hd h) rfl hM.fr fun a hS => ?_
      refine an_skip hS (i := 46) rfl (by kernel_rfl) (by kernel_rfl) (by kernel_rfl) rfl (by decide) (fun c a a' w hd h => hQp c a a' w hd h) rfl hM.fr fun a hS => ?_
      refine an_skip hS (i := 47) rfl (by kernel_rfl) (by kernel_rfl) (by kernel_rfl) rfl (by decide) (fun c a a' w hd h => hQp c a a' w hd h) rfl hM.fr fun a hS => ?_
      refine an_skip hS (i := 48) rfl (by kernel_rfl) (by kernel_rfl) (by kernel_rfl) rfl (by decide) (fun c a a' w hd h => hQp c a a' w hd h) rfl hM.fr fun a hS => ?_
      refine an_take hS (i := 49) rfl (by kernel_rfl) (by kernel_rfl) (by kernel_rfl) rfl (by decide) (fun c a a' w hd h => hQp c a a' w hd h) rfl (fun w' hC' => (rv_pick_f (hS.ev rfl) (hS.ev rfl))) hM.fr fun a hS => ?_
      refine an_take hS (i := 50) rfl (by kernel_rfl) (by kernel_rfl) (by kernel_rfl) rfl (by decide) (fun c a a' w hd h => hQp c a a' w hd h) rfl (fun w' hC' => (rv_move (hS.ev rfl))) hM.fr fun a hS => ?_
      refine an_skip hS (i := 51) rfl (by kernel_rfl) (by kernel_rfl) (by kernel_rfl) rfl (by decide) (fun c a a' w hd h => hQp c a a' w hd h) rfl hM.fr fun a hS => ?_
      refine an_skip hS (i := 52) rfl (by kernel_rfl) (by kernel_rfl) (by kernel_rfl) rfl (by decide) (fun c a a' w hd h => hQp c a a' w hd h) rfl hM.fr fun a hS => ?_
      refine an_skip hS (i := 53) rfl (by kernel_rfl) (by kernel_rfl) (by kernel_rfl) rfl (by decide) (fun c a a' w hd h => hQp c a a' w hd h) rfl hM.fr fun a hS => ?_
      refine an_skip hS (i := 54) rfl (by kernel_rfl) (by kernel_rfl) (by kernel_rfl) rfl (by decide) (fun c a a' w hd h => hQp c a a' w hd h) rfl hM.fr fun a hS => ?_
      refine an_skip hS (i := 55) rfl (by kernel_rfl) (by kernel_rfl) (by kernel_rfl) rfl (by decide) (fun c a a' w hd h => hQp c a a' w hd h) rfl hM.fr fun a hS => ?_
      refine an_skip hS (i := 56) rfl (by kernel_rfl) (by kernel_rfl) (by kernel_rfl) rfl (by decide) (fun c a a' w hd h => hQp c a a' w hd h) rfl hM.fr fun a hS => ?_
      refine an_skip hS (i := 57) rfl (by kernel_rfl) (by kernel_rfl) (by kernel_rfl) rfl (by decide) (fun c a a' w hd h => hQp c a a' w hd h) rfl hM.fr fun a hS => ?_
      refine an_skip hS (i := 58) rfl (by kernel_rfl) (by kernel_rfl) (by kernel_rfl) rfl (by decide) (fun c a a' w hd h => hQp c a a' w hd h) rfl hM.fr fun a hS => ?_
      refine an_skip hS (i := 59) rfl (by kernel_rfl) (by kernel_rfl) (by kernel_rfl) rfl (by decide) (fun c a a' w hd h => hQp c a a' w hd h) rfl hM.fr fun a hS => ?_
      refine an_take hS (i := 60) rfl (by kernel_rfl) (by kernel_rfl) (by kernel_rfl) rfl (by decide) (fun c a a' w hd h => hQp c a a' w hd h) rfl (fun w' hC' => (rv_pick_f (hS.ev rfl) (hS.ev rfl))) hM.fr fun a hS => ?_
      refine an_take hS (i := 61) rfl (by kernel_rfl) (by kernel_rfl) (by kernel_rfl) rfl (by decide) (fun c a a' w hd h => hQp c a a' w hd h) rfl (fun w' hC' => (rv_move (hS.ev rfl))) hM.fr fun a hS => ?_
      refine an_skip hS (i := 62) rfl (by kernel_rfl) (by kernel_rfl) (by kernel_rfl) rfl (by decide) (fun c a a' w hd h => hQp c a a' w hd h) rfl hM.fr fun a hS => ?_
      refine an_skip hS (i := 63) rfl (by kernel_rfl) (by kernel_rfl) (by kernel_rfl) rfl (by decide) (fun c a a' w hd h => hQp c a a' w hd h) rfl hM.fr fun a hS => ?_
      refine an_skip hS (i := 64) rfl (by kernel_rfl) (by kernel_rfl) (by kernel_rfl) rfl (by decide) (fun c a a' w hd h => hQp c a a' w hd h) rfl hM.fr fun a hS => ?_
      refine an_skip hS (i := 65) rfl (by kernel_rfl) (by kernel_rfl) (by kernel_rfl) rfl (by decide) (fun c a a' w hd h => hQp c a a' w hd h) rfl hM.fr fun a hS => ?_
      refine an_skip hS (i := 66) rfl (by kernel_rfl) (by kernel_rfl) (by kernel_rfl) rfl (by decide) (fun c a a' w hd h => hQp c a a' w hd h) rfl hM.fr fun a hS => ?_
      refine an_skip hS (i := 67) rfl (by kernel_rfl) (by kernel_rfl) (by kernel_rfl) rfl (by decide) (fun c a a' w hd h => hQp c a a' w hd h) rfl hM.fr fun a hS => ?_
      refine an_skip hS (i := 68) rfl (by kernel_rfl) (by kernel_rfl) (by kernel_rfl) rfl (by decide) (fun c a a' w hd h => hQp c a a' w hd h) rfl hM.fr fun a hS => ?_
      refine an_skip hS (i := 69) rfl (by kernel_rfl) (by kernel_rfl) (by kernel_rfl) rfl (by decide) (fun c a a' w hd h => hQp c a a' w hd h) rfl hM.fr fun a hS => ?_
      refine an_skip hS (i := 70) rfl (by kernel_rfl) (by kernel_rfl) (by kernel_rfl) rfl (by decide) (fun c a a' w hd h => hQp c a a' w hd h) rfl hM.fr fun a hS => ?_
      refine an_take hS (i := 71) rfl (by kernel_rfl) (by kernel_rfl) (by kernel_rfl) rfl (by decide) (fun c a a' w hd h => hQp c a a' w hd h) rfl (fun w' hC' => (rv_pick_f (hS.ev rfl) (hS.ev rfl))) hM.fr fun a hS => ?_
      refine an_take hS (i := 72) rfl (by kernel_rfl) (by kernel_rfl) (by kernel_rfl) rfl (by decide) (fun c a a' w hd h => hQp c a a' w hd h) rfl (fun w' hC' => (rv_assign (hS.ev rfl))) hM.fr fun a hS => ?_
      refine an_done (by kernel_rfl) ?_
      have hN := hM.pick [] (by decide) rfl
      have hM := Mem.callo (A := []) (B := [(true, bx b3 27 [(Value.int IntKind.i64 p0_g_Size), p0_g_Rowsv]), (false, rd p0_g_Rowsv (List.map (Value.int IntKind.i64) p0_g_Rows)), (false, rd p1_lv (List.map (Value.int IntKind.i64) p1_l))]) hB rfl (hN.memS fun _ h => h.elim) rfl
      exact hJ1 false _ _ (hS.sub (sub_cons rfl sub_nil)) (hM.pick [] (by decide) rfl) hF
  · have hS := hS.setb (t := 8) rfl hc
    refine an_skip hS (i := 4) rfl (by kernel_rfl) (by kernel_rfl) (by kernel_rfl) rfl (by decide) (fun c a a' w hd h => hQp c a a' w hd h) rfl hM.fr fun a hS => ?_
    refine an_skip hS (i := 5) rfl (by kernel_rfl) (by kernel_rfl) (by kernel_rfl) rfl (by decide) (fun c a a' w hd h => hQp c a a' w hd h) rfl hM.fr fun a hS => ?_
    refine an_skip hS (i := 6) rfl (by kernel_rfl) (by kernel_rfl) (by kernel_rfl) rfl (by decide) (fun c a a' w hd h => hQp c a a' w hd h) rfl hM.fr fun a hS => ?_
    refine an_take hS (i := 7) rfl (by kernel_rfl) (by kernel_rfl) (by kernel_rfl) rfl (by decide) (fun c a a' w hd h => hQp c a a' w hd h) rfl (fun w' hC' => (rv_pick_f (hS.ev rfl) (hS.ev rfl))) hM.fr fun a hS => ?_
    refine an_take hS (i := 8) rfl (by kernel_rfl) (by kernel_rfl) (by kernel_rfl) rfl (by decide) (fun c a a' w hd h => hQp c a a' w hd h) rfl (fun w' hC' => (rv_move (hS.ev rfl))) hM.fr fun a hS => ?_
    refine an_skip hS (i := 9) rfl (by kernel_rfl) (by kernel_rfl) (by kernel_rfl) rfl (by decide) (fun c a a' w hd h => hQp c a a' w hd h) rfl hM.fr fun a hS => ?_
    refine an_skip hS (i := 10) rfl (by kernel_rfl) (by kernel_rfl) (by kernel_rfl) rfl (by decide) (fun c a a' w hd h => hQp c a a' w hd h) rfl hM.fr fun a hS => ?_
    refine an_skip hS (i := 11) rfl (by kernel_rfl) (by kernel_rfl) (by kernel_rfl) rfl (by decide) (fun c a a' w hd h => hQp c a a' w hd h) rfl hM.fr fun a hS => ?_
    refine an_skip hS (i := 12) rfl (by kernel_rfl) (by kernel_rfl) (by kernel_rfl) rfl (by decide) (fun c a a' w hd h => hQp c a a' w hd h) rfl hM.fr fun a hS => ?_
    refine an_skip hS (i := 13) rfl (by kernel_rfl) (by kernel_rfl) (by kernel_rfl) rfl (by decide) (fun c a a' w hd h => hQp c a a' w hd h) rfl hM.fr fun a hS => ?_
    refine an_skip hS (i := 14) rfl (by kernel_rfl) (by kernel_rfl) (by kernel_rfl) rfl (by decide) (fun c a a' w hd h => hQp c a a' w hd h) rfl hM.fr fun a hS => ?_
    refine an_skip hS (i := 15) rfl (by kernel_rfl) (by kernel_rfl) (by kernel_rfl) rfl (by decide) (fun c a a' w hd h => hQp c a a' w hd h) rfl hM.fr fun a hS => ?_
    refine an_skip hS (i := 16) rfl (by kernel_rfl) (by kernel_rfl) (by kernel_rfl) rfl (by decide) (fun c a a' w hd h => hQp c a a' w hd h) rfl hM.fr fun a hS => ?_
    refine an_take hS (i := 17) rfl (by kernel_rfl) (by kernel_rfl) (by kernel_rfl) rfl (by decide) (fun c a a' w hd h => hQp c a a' w hd h) rfl (fun w' hC' => (rv_pick_f (hS.ev rfl) (hS.ev rfl))) hM.fr fun a hS => ?_
    refine an_take hS (i := 18) rfl (by kernel_rfl) (by kernel_rfl) (by kernel_rfl) rfl (by decide) (fun c a a' w hd h => hQp c a a' w hd h) rfl (fun w' hC' => (rv_move (hS.ev rfl))) hM.fr fun a hS => ?_
    refine an_skip hS (i := 19) rfl (by kernel_rfl) (by kernel_rfl) (by kernel_rfl) rfl (by decide) (fun c a a' w hd h => hQp c a a' w hd h) rfl hM.fr fun a hS => ?_
    refine an_skip hS (i := 20) rfl (by kernel_rfl) (by kernel_rfl) (by kernel_rfl) rfl (by decide) (fun c a a' w hd h => hQp c a a' w hd h) rfl hM.fr fun a hS => ?_
    refine an_skip hS (i := 21) rfl (by kernel_rfl) (by kernel_rfl) (by kernel_rfl) rfl (by decide) (fun c a a' w hd h => hQp c a a' w hd h) rfl hM.fr fun a hS => ?_
    refine an_skip hS (i := 22) rfl (by kernel_rfl) (by kernel_rfl) (by kernel_rfl) rfl (by decide) (fun c a a' w hd h => hQp c a a' w hd h) rfl hM.fr fun a hS => ?_
    refine an_skip hS (i := 23) rfl (by kernel_rfl) (by kernel_rfl) (by kernel_rfl) rfl (by decide) (fun c a a' w hd h => hQp c a a' w hd h) rfl hM.fr fun a hS => ?_
    refine an_skip hS (i := 24) rfl (by kernel_rfl) (by kernel_rfl) (by kernel_rfl) rfl (by decide) (fun c a a' w hd h => hQp c a a' w hd h) rfl hM.fr fun a hS => ?_
    refine an_skip hS (i := 25) rfl (by kernel_rfl) (by kernel_rfl) (by kernel_rfl) rfl (by decide) (fun c a a' w hd h => hQp c a a' w hd h) rfl hM.fr fun a hS => ?_
    refine an_skip hS (i := 26) rfl (by kernel_rfl) (by kernel_rfl) (by kernel_rfl) rfl (by decide) (fun c a a' w hd h => hQp c a a' w hd h) rfl hM.fr fun a hS => ?_
    refine an_take hS (i := 27) rfl (by kernel_rfl) (by kernel_rfl) (by kernel_rfl) rfl (by decide) (fun c a a' w hd h => hQp c a a' w hd h) rfl (fun w' hC' => (rv_pick_f (hS.ev rfl) (hS.ev rfl))) hM.fr fun a hS => ?_
    refine an_take hS (i := 28) rfl (by kernel_rfl) (by kernel_rfl) (by kernel_rfl) rfl (by decide) (fun c a a' w hd h => hQp c a a' w hd h) rfl (fun w' hC' => (rv_move (hS.ev rfl))) hM.fr fun a hS => ?_
    refine an_skip hS (i := 29) rfl (by kernel_rfl) (by kernel_rfl) (by kernel_rfl) rfl (by decide) (fun c a a' w hd h => hQp c a a' w hd h) rfl hM.fr fun a hS => ?_
    refine an_skip hS (i := 30) rfl (by kernel_rfl) (by kernel_rfl) (by kernel_rfl) rfl (by decide) (fun c a a' w hd h => hQp c a a' w hd h) rfl hM.fr fun a hS => ?_
    refine an_skip hS (i := 31) rfl (by kernel_rfl) (by kernel_rfl) (by kernel_rfl) rfl (by decide) (fun c a a' w hd h => hQp c a a' w hd h) rfl hM.fr fun a hS => ?_
    refine an_skip hS (i := 32) rfl (by kernel_rfl) (by kernel_rfl) (by kernel_rfl) rfl (by decide) (fun c a a' w hd h => hQp c a a' w hd h) rfl hM.fr fun a hS => ?_
    refine an_skip hS (i := 33) rfl (by kernel_rfl) (by kernel_rfl) (by kernel_rfl) rfl (by decide) (fun c a a' w hd h => hQp c a a' w hd h) rfl hM.fr fun a hS => ?_
    refine an_skip hS (i := 34) rfl (by kernel_rfl) (by kernel_rfl) (by kernel_rfl) rfl (by decide) (fun c a a' w hd h => hQp c a a' w hd h) rfl hM.fr fun a hS => ?_
    refine an_skip hS (i := 35) rfl (by kernel_rfl) (by kernel_rfl) (by kernel_rfl) rfl (by decide) (fun c a a' w hd h => hQp c a a' w hd h) rfl hM.fr fun a hS => ?_
    refine an_skip hS (i := 36) rfl (by kernel_rfl) (by kernel_rfl) (by kernel_rfl) rfl (by decide) (fun c a a' w hd h => hQp c a a' w hd h) rfl hM.fr fun a hS => ?_
    refine an_skip hS (i := 37) rfl (by kernel_rfl) (by kernel_rfl) (by kernel_rfl) rfl (by decide) (fun c a a' w hd h => hQp c a a' w hd h) rfl hM.fr fun a hS => ?_
    refine an_take hS (i := 38) rfl (by kernel_rfl) (by kernel_rfl) (by kernel_rfl) rfl (by decide) (fun c a a' w hd h => hQp c a a' w hd h) rfl (fun w' hC' => (rv_pick_f (hS.ev rfl) (hS.ev rfl))) hM.fr fun a hS => ?_
    refine an_take hS (i := 39) rfl (by kernel_rfl) (by kernel_rfl) (by kernel_rfl) rfl (by decide) (fun c a a' w hd h => hQp c a a' w hd h) rfl (fun w' hC' => (rv_move (hS.ev rfl))) hM.fr fun a hS => ?_
    refine an_skip hS (i := 40) rfl (by kernel_rfl) (by kernel_rfl) (by kernel_rfl) rfl (by decide) (fun c a a' w hd h => hQp c a a' w hd h) rfl hM.fr fun a hS => ?_
    refine an_skip hS (i := 41) rfl (by kernel_rfl) (by kernel_rfl) (by kernel_rfl) rfl (by decide) (fun c a a' w hd h => hQp c a a' w hd h) rfl hM.fr fun a hS => ?_
    refine an_skip hS (i := 42) rfl (by kernel_rfl) (by kernel_rfl) (by kernel_rfl) rfl (by decide) (fun c a a' w hd h => hQp c a a' w hd h) rfl hM.fr fun a hS => ?_
    refine an_skip hS (i := 43) rfl (by kernel_rfl) (by kernel_rfl) (by kernel_rfl) rfl (by decide) (fun c a a' w hd h => hQp c a a' w hd h) rfl hM.fr fun a hS => ?_
    refine an_skip hS (i := 44) rfl (by kernel_rfl) (by kernel_rfl) (by kernel_rfl) rfl (by decide) (fun c a a' w hd h => hQp c a a' w hd h) rfl hM.fr fun a hS => ?_
    refine an_skip hS (i := 45) rfl (by kernel_rfl) (by kernel_rfl) (by kernel_rfl) rfl (by decide) (fun c a a' w hd h => hQp c a a' w hd h) rfl hM.fr fun a hS => ?_
    refine an_skip hS (i := 46) rfl (by kernel_rfl) (by kernel_rfl) (by kernel_rfl) rfl (by decide) (fun c a a' w hd h => hQp c a a' w hd h) rfl hM.fr fun a hS => ?_
    refine an_skip hS (i := 47) rfl (by kernel_rfl) (by kernel_rfl) (by kernel_rfl) rfl (by decide) (fun c a a' w hd h => hQp c a a' w hd h) rfl hM.fr fun a hS => ?_
    refine an_skip hS (i := 48) rfl (by kernel_rfl) (by kernel_rfl) (by kernel_rfl) rfl (by decide) (fun c a a' w hd h => hQp c a a' w hd h) rfl hM.fr fun a hS => ?_
    refine an_take hS (i := 49) rfl (by kernel_rfl) (by kernel_rfl) (by kernel_rfl) rfl (by decide) (fun c a a' w hd h => hQp c a a' w hd h) rfl (fun w' hC' => (rv_pick_f (hS.ev rfl) (hS.ev rfl))) hM.fr fun a hS => ?_
    refine an_take hS (i := 50) rfl (by kernel_rfl) (by kernel_rfl) (by kernel_rfl) rfl (by decide) (fun c a a' w hd h => hQp c a a' w hd h) rfl (fun w' hC' => (rv_move (hS.ev rfl))) hM.fr fun a hS => ?_
    refine an_skip hS (i := 51) rfl (by kernel_rfl) (by kernel_rfl) (by kernel_rfl) rfl (by decide) (fun c a a' w hd h => hQp c a a' w hd h) rfl hM.fr fun a hS => ?_
    refine an_skip hS (i := 52) rfl (by kernel_rfl) (by kernel_rfl) (by kernel_rfl) rfl (by decide) (fun c a a' w hd h => hQp c a a' w hd h) rfl hM.fr fun a hS => ?_
    refine an_skip hS (i := 53) rfl (by kernel_rfl) (by kernel_rfl) (by kernel_rfl) rfl (by decide) (fun c a a' w hd h => hQp c a a' w hd h) rfl hM.fr fun a hS => ?_
    refine an_skip hS (i := 54) rfl (by kernel_rfl) (by kernel_rfl) (by kernel_rfl) rfl (by decide) (fun c a a' w hd h => hQp c a a' w hd h) rfl hM.fr fun a hS => ?_
    refine an_skip hS (i := 55) rfl (by kernel_rfl) (by kernel_rfl) (by kernel_rfl) rfl (by decide) (fun c a a' w hd h => hQp c a a' w hd h) rfl hM.fr fun a hS => ?_
    refine an_skip hS (i := 56) rfl (by kernel_rfl) (by kernel_rfl) (by kernel_rfl) rfl (by decide) (fun c a a' w hd h => hQp c a a' w hd h) rfl hM.fr fun a hS => ?_
    refine an_skip hS (i := 57) rfl (by kernel_rfl) (by kernel_rfl) (by kernel_rfl) rfl (by decide) (fun c a a' w hd h => hQp c a a' w hd h) rfl hM.fr fun a hS => ?_
    refine an_skip hS (i := 58) rfl (by kernel_rfl) (by kernel_rfl) (by kernel_rfl) rfl (by decide) (fun c a a' w hd h => hQp c a a' w hd h) rfl hM.fr fun a hS => ?_
    refine an_skip hS (i := 59) rfl (by kernel_rfl) (by kernel_rfl) (by kernel_rfl) rfl (by decide) (fun c a a' w hd h => hQp c a a' w hd h) rfl hM.fr fun a hS => ?_
    refine an_take hS (i := 60) rfl (by kernel_rfl) (by kernel_rfl) (by kernel_rfl) rfl (by decide) (fun c a a' w hd h => hQp c a a' w hd h) rfl (fun w' hC' => (rv_pick_f (hS.ev rfl) (hS.ev rfl))) hM.fr fun a hS => ?_
    refine an_take hS (i := 61) rfl (by kernel_rfl) (by kernel_rfl) (by kernel_rfl) rfl (by decide) (fun c a a' w hd h => hQp c a a' w hd h) rfl (fun w' hC' => (rv_move (hS.ev rfl))) hM.fr fun a hS => ?_
    refine an_skip hS (i := 62) rfl (by kernel_rfl) (by kernel_rfl) (by kernel_rfl) rfl (by decide) (fun c a a' w hd h => hQp c a a' w hd h) rfl hM.fr fun a hS => ?_
    refine an_skip hS (i := 63) rfl (by kernel_rfl) (by kernel_rfl) (by kernel_rfl) rfl (by decide) (fun c a a' w hd h => hQp c a a' w hd h) rfl hM.fr fun a hS => ?_
    refine an_skip hS (i := 64) rfl (by kernel_rfl) (by kernel_rfl) (by kernel_rfl) rfl (by decide) (fun c a a' w hd h => hQp c a a' w hd h) rfl hM.fr fun a hS => ?_
    refine an_skip hS (i := 65) rfl (by kernel_rfl) (by kernel_rfl) (by kernel_rfl) rfl (by decide) (fun c a a' w hd h => hQp c a a' w hd h) rfl hM.fr fun a hS => ?_
    refine an_skip hS (i := 66) rfl (by kernel_rfl) (by kernel_rfl) (by kernel_rfl) rfl (by decide) (fun c a a' w hd h => hQp c a a' w hd h) rfl hM.fr fun a hS => ?_
    refine an_skip hS (i := 67) rfl (by kernel_rfl) (by kernel_rfl) (by kernel_rfl) rfl (by decide) (fun c a a' w hd h => hQp c a a' w hd h) rfl hM.fr fun a hS => ?_
    refine an_skip hS (i := 68) rfl (by kernel_rfl) (by kernel_rfl) (by kernel_rfl) rfl (by decide) (fun c a a' w hd h => hQp c a a' w hd h) rfl hM.fr fun a hS => ?_
    refine an_skip hS (i := 69) rfl (by kernel_rfl) (by kernel_rfl) (by kernel_rfl) rfl (by decide) (fun c a a' w hd h => hQp c a a' w hd h) rfl hM.fr fun a hS => ?_
    refine an_skip hS (i := 70) rfl (by kernel_rfl) (by kernel_rfl) (by kernel_rfl) rfl (by decide) (fun c a a' w hd h => hQp c a a' w hd h) rfl hM.fr fun a hS => ?_
    refine an_take hS (i := 71) rfl (by kernel_rfl) (by kernel_rfl) (by kernel_rfl) rfl (by decide) (fun c a a' w hd h => hQp c a a' w hd h) rfl (fun w' hC' => (rv_pick_f (hS.ev rfl) (hS.ev rfl))) hM.fr fun a hS => ?_
    refine an_take hS (i := 72) rfl (by kernel_rfl) (by kernel_rfl) (by kernel_rfl) rfl (by decide) (fun c a a' w hd h => hQp c a a' w hd h) rfl (fun w' hC' => (rv_assign (hS.ev rfl))) hM.fr fun a hS => ?_
    refine an_done (by kernel_rfl) ?_
    have hN := hM.pick [] (by decide) rfl
    have hM := Mem.callo (A := []) (B := [(true, bx b3 27 [(Value.int IntKind.i64 p0_g_Size), p0_g_Rowsv]), (false, rd p0_g_Rowsv (List.map (Value.int IntKind.i64) p0_g_Rows)), (false, rd p1_lv (List.map (Value.int IntKind.i64) p1_l))]) hB rfl (hN.memS fun _ h => h.elim) rfl
    exact hJ1 false _ _ (hS.sub (sub_cons rfl sub_nil)) (hM.pick [] (by decide) rfl) hF


theorem c_impl_IsTwoEdges_c1 (F : Nat) (p0_i : Int) (p1_k : Int) {r : Bool} (hF : S_impl_IsTwoEdges_c1 F p0_i p1_k = some r) (w0 : World) :
    Calls Try.prog 63 [(Value.int IntKind.i64 p0_i), (Value.int IntKind.i64 p1_k)].toArray w0 (retPost fun v w' => v = (Value.bool r) ∧ Mem Nob w0 w' []) := by
  have hM : Mem Nob w0 w0 [] := (Mem.nil w0)
  refine enter2 Try.func63 rfl rfl rfl fun Q a hQr hQn hQp hS => ?_
  have hS : Sl 19 [(0, (Value.int IntKind.i64 p0_i)), (1, (Value.int IntKind.i64 p1_k))] a := hS
  unfold S_impl_IsTwoEdges_c1 at hF
  refine wp_seq_k fun K1 hK1 => ?_
  refine wp_region_lit ?_
  refine st_val hS rfl rfl (by decide) (rv_assign (hS.ev rfl)) fun a hS => ?_
  refine wpList_nil ?_
  refine hK1 _ _ ?_
  refine wp_seq_k fun K2 hK2 => ?_
  have hJ1 : ∀ (p3 : Bool) (a : Act) (w : World), Sl 19 [(4, (Value.bool p3))] a → Mem Nob w0 w [] → S_impl_IsTwoEdges_c1_j1 F p3 = some r → K2 a w := by
    intro p3 a w hS hM hF
    unfold S_impl_IsTwoEdges_c1_j1 at hF
    refine hK2 _ _ ?_
    refine wp_ret ?_
    cases hF
    exact hQr _ _ (r_1 hS rfl rfl ⟨rfl, hM.pick [] (by decide) rfl⟩)
  refine wp_region_lit ?_
  refine st_val hS rfl rfl (by decide) (rv_move (hS.ev rfl)) fun a hS => ?_
  refine st_val hS rfl rfl (by decide) (rv_eql (hS.ev rfl) (hS.ev rfl)) fun a hS => ?_
  refine st_val hS rfl rfl (by decide) (rv_move (hS.ev rfl)) fun a hS => ?_
  rcases ite_some hF with ⟨hc, hF⟩ | ⟨hc, hF⟩
  · have hS := hS.setb (t := 7) rfl hc
    refine st_val hS rfl rfl (by decide) (rv_move (hS.ev rfl)) fun a hS => ?_
    refine st_val hS rfl rfl (by decide) (rv_eql (hS.ev rfl) (hS.ev rfl)) fun a hS => ?_
    refine st_val hS rfl rfl (by decide) (rv_pick_t (hS.ev rfl) (hS.ev rfl)) fun a hS => ?_
    refine st_val hS rfl rfl (by decide) (rv_move (hS.ev rfl)) fun a hS => ?_
    rcases ite_some hF with ⟨hc, hF⟩ | ⟨hc, hF⟩
    · have hS := hS.setb (t := 11) rfl hc
      refine st_skip hS rfl rfl (by decide) fun a hS => ?_
      refine st_skip hS rfl rfl (by decide) fun a hS => ?_
      refine st_skip hS rfl rfl (by decide) fun a hS => ?_
      refine st_skip hS rfl rfl (by decide) fun a hS => ?_
      refine st_skip hS rfl rfl (by decide) fun a hS => ?_
      refine st_skip hS rfl rfl (by decide) fun a hS => ?_
      refine st_val hS rfl rfl (by decide) (rv_pick_t (hS.ev rfl) (hS.ev rfl)) fun a hS => ?_
      refine st_val hS rfl rfl (by decide) (rv_assign (hS.ev rfl)) fun a hS => ?_
      refine wpList_nil ?_
      exact hJ1 true _ _ (hS.sub (sub_cons rfl sub_nil)) (hM.pick [] (by decide) rfl) hF
    · have hS := hS.setb (t := 11) rfl hc
      refine st_val hS rfl rfl (by decide) (rv_move (hS.ev rfl)) fun a hS => ?_
      refine st_val hS rfl rfl (by decide) (rv_eql (hS.ev rfl) (hS.ev rfl)) fun a hS => ?_
      refine st_val hS rfl rfl (by decide) (rv_move (hS.ev rfl)) fun a hS => ?_
      rcases ite_some hF with ⟨hc, hF⟩ | ⟨hc, hF⟩
      · have hS := hS.setb (t := 14) rfl hc
        refine st_val hS rfl rfl (by decide) (rv_move (hS.ev rfl)) fun a hS => ?_
        refine st_val hS rfl rfl (by decide) (rv_eql (hS.ev rfl) (hS.ev rfl)) fun a hS => ?_
        refine st_val hS rfl rfl (by decide) (rv_pick_t (hS.ev rfl) (hS.ev rfl)) fun a hS => ?_
        refine st_val hS rfl rfl (by decide) (rv_pick_f (hS.ev rfl) (hS.ev rfl)) fun a hS => ?_
        refine st_val hS rfl rfl (by decide) (rv_assign (hS.ev rfl)) fun a hS => ?_
        refine wpList_nil ?_
        exact hJ1 (p1_k == 3) _ _ (hS.sub (sub_cons rfl sub_nil)) (hM.pick [] (by decide) rfl) hF
      · have hS := hS.setb (t := 14) rfl hc
        refine st_skip hS rfl rfl (by decide) fun a hS => ?_
        refine st_skip hS rfl rfl (by decide) fun a hS => ?_
        refine st_val hS rfl rfl (by decide) (rv_pick_f (hS.ev rfl) (hS.ev rfl)) fun a hS => ?_
        refine st_val hS rfl rfl (by decide) (rv_pick_f (hS.ev rfl) (hS.ev rfl)) fun a hS => ?_
        refine st_val hS rfl rfl (by decide) (rv_assign (hS.ev rfl)) fun a hS => ?_
        refine wpList_nil ?_
        exact hJ1 false _ _ (hS.sub (sub_cons rfl sub_nil)) (hM.pick [] (by decide) rfl) hF
  · have hS := hS.setb (t := 7) rfl hc
    refine st_skip hS rfl rfl (by decide) fun a hS => ?_
    refine st_skip hS rfl rfl (by decide) fun a hS => ?_
    refine st_val hS rfl rfl (by decide) (rv_pick_f (hS.ev rfl) (hS.ev rfl)) fun a hS => ?_
    refine st_val hS rfl rfl (by decide) (rv_move (hS.ev rfl)) fun a hS => ?_
    refine st_val hS rfl rfl (by decide) (rv_move (hS.ev rfl)) fun a hS => ?_
    refine st_val hS rfl rfl (by decide) (rv_eql (hS.ev rfl) (hS.ev rfl)) fun a hS => ?_
    refine st_val hS rfl rfl (by decide) (rv_move (hS.ev rfl)) fun a hS => ?_
    rcases ite_some hF with ⟨hc, hF⟩ | ⟨hc, hF⟩
    · have hS := hS.setb (t := 14) rfl hc
      refine st_val hS rfl rfl (by decide) (rv_move (hS.ev rfl)) fun a hS => ?_
      refine st_val hS rfl rfl (by decide) (rv_eql (hS.ev rfl) (hS.ev rfl)) fun a hS => ?_
      refine st_val hS rfl rfl (by decide) (rv_pick_t (hS.ev rfl) (hS.ev rfl)) fun a hS => ?_
      refine st_val hS rfl rfl (by decide) (rv_pick_f (hS.ev rfl) (hS.ev rfl)) fun a hS => ?_
      refine st_val hS rfl rfl (by decide) (rv_assign (hS.ev rfl)) fun a hS => ?_
      refine wpList_nil ?_
      exact hJ1 (p1_k == 3) _ _ (hS.sub (sub_cons rfl sub_nil)) (hM.pick [] (by decide) rfl) hF
    · have hS := hS.setb (t := 14) rfl hc
      refine st_skip hS rfl rfl (by decide) fun a hS => ?_
      refine st_skip hS rfl rfl (by decide) fun a hS => ?_
      refine st_val hS rfl rfl (by decide) (rv_pick_f (hS.ev rfl) (hS.ev rfl)) fun a hS => ?_
      refine st_val hS rfl rfl (by decide) (rv_pick_f (hS.ev rfl) (hS.ev rfl)) fun a hS => ?_
      refine st_val hS rfl rfl (by decide) (rv_assign (hS.ev rfl)) fun a hS => ?_
      refine wpList_nil ?_
      exact hJ1 false _ _ (hS.sub (sub_cons rfl sub_nil)) (hM.pick [] (by decide) rfl) hF


end Go.Proofs.Ytfhjmoikggiblaa
