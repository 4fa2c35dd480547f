/- Proved here: that each Go function does what its shallow function says -/
import Derived.Test.YtfhjmoikggiblaaSh
import Derived.Test.YtfhjmoikggiblaaTy
import Derived.Test.YtfhjmoikggiblaaK9
import Derived.Test.YtfhjmoikggiblaaW0
import Derived.Test.YtfhjmoikggiblaaW1
import Derived.Test.YtfhjmoikggiblaaW2
import Derived.Test.YtfhjmoikggiblaaW3
namespace Go.Proofs.Ytfhjmoikggiblaa
open Go Go.RowKit
set_option linter.unusedVariables false
set_option linter.unusedSimpArgs false
set_option maxRecDepth 100000
set_option maxHeartbeats 4000000

theorem c_impl_areJoined__IsTwoEdgesc1 (F : Nat) (p0_g_Size : Int) (p0_g_Rows : List Int) (p1_l : List Int) (p0_g_Rowsv : Value) (p1_lv : Value) {r : Bool} (hF : S_impl_areJoined__IsTwoEdgesc1 F p0_g_Size p0_g_Rows p1_l = some r) (w0 : World) (h0 : RdRow w0 p0_g_Rowsv (List.map (Value.int IntKind.i64) p0_g_Rows)) (h1 : RdRow w0 p1_lv (List.map (Value.int IntKind.i64) p1_l)) :
    Calls Try.prog 61 [(Value.agg #[(Value.int IntKind.i64 p0_g_Size), p0_g_Rowsv]), p1_lv, (Value.func (Fn.func 63) #[] #[])].toArray w0 (retPost fun v w' => v = (Value.bool r) ∧ Mem Nob w0 w' []) := by
  have hM : Mem Nob w0 w0 [(false, rd p0_g_Rowsv (List.map (Value.int IntKind.i64) p0_g_Rows)), (false, rd p1_lv (List.map (Value.int IntKind.i64) p1_l))] := (Mem.rcons (Mem.rcons (Mem.nil w0) h1 (by simp)) h0 (by simp))
  refine enter2 Try.func61 rfl rfl rfl fun Q a hQr hQn hQp hS => ?_
  have hS : Sl 42 [(0, (Value.agg #[(Value.int IntKind.i64 p0_g_Size), p0_g_Rowsv])), (1, p1_lv), (2, (Value.func (Fn.func 63) #[] #[]))] a := hS
  unfold S_impl_areJoined__IsTwoEdgesc1 at hF
  refine wp_seq_k fun K1 hK1 => ?_
  refine wp_region_lit ?_
  obtain ⟨b3, w, hr, hM⟩ := hM.boxE (ρ := a.eval) (dst := some 3) (ty := _) (pos := _) (af := _) (gd := _) (x := .tmp 0) (T := 27) [(Value.int IntKind.i64 p0_g_Size), p0_g_Rowsv] (hS.ev rfl) rfl
  refine st_val hS rfl rfl (by decide) hr fun a hS => ?_
  refine st_val hS rfl rfl (by decide) (rv_assign (hS.ev rfl)) fun a hS => ?_
  refine wpList_nil ?_
  refine hK1 _ _ ?_
  refine wp_seq_k fun K4 hK4 => ?_
  refine wp_seq_k fun K9 hK9 => ?_
  refine wp_region_lit ?_
  refine st_val hS rfl rfl (by decide) (rv_load_agg (hS.ev rfl) ty_ag_27 (hM.get 0 rfl) ty_sz_27) fun a hS => ?_
  refine st_val hS rfl rfl (by decide) (rv_move (hS.ev rfl)) fun a hS => ?_
  obtain ⟨r11, hr, hF⟩ := bind_some hF
  refine st_wp hS rfl (wp_call hS rfl rfl (by decide) fn_ok_82 rfl (c_impl_areVertices F p0_g_Size p0_g_Rows p1_l p0_g_Rowsv p1_lv hr _ (hM.get 1 rfl) (hM.get 2 rfl)) fun v w a hK hS => ?_)
  obtain ⟨rfl, hN⟩ := hK
  have hM := hM.fra hN.fr
  refine st_val hS rfl rfl (by decide) (rv_not (hS.ev rfl)) fun a hS => ?_
  refine wpList_nil ?_
  refine hK9 _ _ ?_
  rcases ite_some hF with ⟨hc, hF⟩ | ⟨hc, hF⟩
  · refine cond_t hS rfl hc ?_
    refine wp_seq_k fun K12 hK12 => ?_
    refine wp_region_lit ?_
    refine st_val hS rfl rfl (by decide) (rv_assign (hS.ev rfl)) fun a hS => ?_
    refine wpList_nil ?_
    refine hK12 _ _ ?_
    refine wp_ret ?_
    cases hF
    exact hQr _ _ (r_1 hS rfl rfl ⟨rfl, hM.pick [] (by decide) rfl⟩)
  · refine cond_f hS rfl hc ?_
    refine wp_skip ?_
    refine hK4 _ _ ?_
    refine wp_seq_k fun K13 hK13 => ?_
    have hJ1 : ∀ (a : Act) (w : World), Sl 42 [] a → Mem Nob w0 w [] → S_impl_areJoined__IsTwoEdgesc1_j1 F = some r → K13 a w := by
      intro a w hS hM hF
      unfold S_impl_areJoined__IsTwoEdgesc1_j1 at hF
      refine hK13 _ _ ?_
      refine wp_seq_k fun K266 hK266 => ?_
      refine wp_region_lit ?_
      refine st_val hS rfl rfl (by decide) (rv_assign (hS.ev rfl)) fun a hS => ?_
      refine wpList_nil ?_
      refine hK266 _ _ ?_
      refine wp_ret ?_
      cases hF
      exact hQr _ _ (r_1 hS rfl rfl ⟨rfl, hM.pick [] (by decide) rfl⟩)
    refine wp_seq_k fun K267 hK267 => ?_
    refine wp_region_lit ?_
    refine st_val hS rfl rfl (by decide) (rv_move (hS.ev rfl)) fun a hS => ?_
    refine st_val hS rfl rfl (by decide) (rv_len_rowM Try.underlying22 (hS.ev rfl) (hM.get 2 rfl)) fun a hS => ?_
    refine st_val hS rfl rfl (by decide) (rv_move (hS.ev rfl)) fun a hS => ?_
    refine wpList_nil ?_
    refine hK267 _ _ ?_
    refine wp_block ?_
    obtain ⟨lb2, hl2, hF2⟩ := bind_some hF
    refine wp_loop_sh (fun s => S_impl_areJoined__IsTwoEdgesc1_l2 F p0_g_Rows p1_l s) (fun s a w => Sl 42 [(1, p1_lv), (2, (Value.func (Fn.func 63) #[] #[])), (3, (fdp b3 0)), (14, (Value.int IntKind.i64 (p1_l.length : Int))), (15, (Value.int IntKind.i64 s))] a ∧ Mem Nob w0 w [(false, rd p1_lv (List.map (Value.int IntKind.i64) p1_l)), (true, bx b3 27 [(Value.int IntKind.i64 p0_g_Size), p0_g_Rowsv]), (false, rd p0_g_Rowsv (List.map (Value.int IntKind.i64) p0_g_Rows))]) hl2 ⟨(hS.sub (sub_cons rfl (sub_cons rfl (sub_cons rfl (sub_cons rfl (sub_cons rfl sub_nil)))))), (hM.pick [2, 0, 1] (by decide) rfl)⟩ ?_
    rintro K2 x268 a w res2 ⟨hS, hM⟩ hF hN2 hX2
    have hF : S_impl_areJoined__IsTwoEdgesc1_l2 F p0_g_Rows p1_l x268 = some res2 := hF
    have hS : Sl 42 [(1, p1_lv), (2, (Value.func (Fn.func 63) #[] #[])), (3, (fdp b3 0)), (14, (Value.int IntKind.i64 (p1_l.length : Int))), (15, (Value.int IntKind.i64 x268))] a := hS
    have hM : Mem Nob w0 w [(false, rd p1_lv (List.map (Value.int IntKind.i64) p1_l)), (true, bx b3 27 [(Value.int IntKind.i64 p0_g_Size), p0_g_Rowsv]), (false, rd p0_g_Rowsv (List.map (Value.int IntKind.i64) p0_g_Rows))] := hM
    unfold S_impl_areJoined__IsTwoEdgesc1_l2 at hF
    refine wp_seq_k fun K394 hK394 => ?_
    refine wp_region_lit ?_
    refine st_val hS rfl rfl (by decide) (rv_lss (hS.ev rfl) (hS.ev rfl)) fun a hS => ?_
    refine wpList_nil ?_
    refine hK394 _ _ ?_
    refine wp_seq_k fun K395 hK395 => ?_
    rcases ite_some hF with ⟨hc, hF⟩ | ⟨hc, hF⟩
    · refine cond_t hS rfl hc ?_
      refine wp_skip ?_
      refine hK395 _ _ ?_
      refine wp_seq_k fun K396 hK396 => ?_
      have hJ3 : ∀ (a : Act) (w : World), Sl 42 [(1, p1_lv), (2, (Value.func (Fn.func 63) #[] #[])), (3, (fdp b3 0)), (14, (Value.int IntKind.i64 (p1_l.length : Int))), (15, (Value.int IntKind.i64 x268))] a → Mem Nob w0 w [(false, rd p1_lv (List.map (Value.int IntKind.i64) p1_l)), (true, bx b3 27 [(Value.int IntKind.i64 p0_g_Size), p0_g_Rowsv]), (false, rd p0_g_Rowsv (List.map (Value.int IntKind.i64) p0_g_Rows))] → S_impl_areJoined__IsTwoEdgesc1_j3 F x268 = some res2 → K396 a w := by
        intro a w hS hM hF
        unfold S_impl_areJoined__IsTwoEdgesc1_j3 at hF
        refine hK396 _ _ ?_
        refine wp_region_lit ?_
        refine st_val hS rfl rfl (by decide) (rv_add (hS.ev rfl) (hS.ev rfl)) fun a hS => ?_
        refine st_val hS rfl rfl (by decide) (rv_move (hS.ev rfl)) fun a hS => ?_
        refine wpList_nil ?_
        cases hF
        exact hN2 _ _ _ rfl ⟨(hS.sub (sub_cons rfl (sub_cons rfl (sub_cons rfl (sub_cons rfl (sub_cons rfl sub_nil)))))), (hM.pick [0, 1, 2] (by decide) rfl)⟩
      refine wp_block ?_
      refine wp_seq_k fun K458 hK458 => ?_
      refine wp_region_lit ?_
      refine st_val hS rfl rfl (by decide) (rv_move (hS.ev rfl)) fun a hS => ?_
      refine st_val hS rfl rfl (by decide) (rv_assign (hS.ev rfl)) fun a hS => ?_
      refine wpList_nil ?_
      refine hK458 _ _ ?_
      refine wp_seq_k fun K459 hK459 => ?_
      refine wp_region_lit ?_
      refine st_val hS rfl rfl (by decide) (rv_move (hS.ev rfl)) fun a hS => ?_
      refine st_val hS rfl rfl (by decide) (rv_move (hS.ev rfl)) fun a hS => ?_
      refine wpList_nil ?_
      refine hK459 _ _ ?_
      refine wp_block ?_
      obtain ⟨lb4, hl4, hF4⟩ := bind_some hF
      refine wp_loop_sh (fun s => S_impl_areJoined__IsTwoEdgesc1_l4 F p0_g_Rows p1_l x268 s) (fun s a w => Sl 42 [(1, p1_lv), (2, (Value.func (Fn.func 63) #[] #[])), (3, (fdp b3 0)), (7, (Value.int IntKind.i64 x268)), (14, (Value.int IntKind.i64 (p1_l.length : Int))), (15, (Value.int IntKind.i64 x268)), (18, (Value.int IntKind.i64 x268)), (19, (Value.int IntKind.i64 s))] a ∧ Mem Nob w0 w [(false, rd p1_lv (List.map (Value.int IntKind.i64) p1_l)), (true, bx b3 27 [(Value.int IntKind.i64 p0_g_Size), p0_g_Rowsv]), (false, rd p0_g_Rowsv (List.map (Value.int IntKind.i64) p0_g_Rows))]) hl4 ⟨(hS.sub (sub_cons rfl (sub_cons rfl (sub_cons rfl (sub_cons rfl (sub_cons rfl (sub_cons rfl (sub_cons rfl (sub_cons rfl sub_nil))))))))), (hM.pick [0, 1, 2] (by decide) rfl)⟩ ?_
      rintro K4 x460 a w res4 ⟨hS, hM⟩ hF hN4 hX4
      have hF : S_impl_areJoined__IsTwoEdgesc1_l4 F p0_g_Rows p1_l x268 x460 = some res4 := hF
      have hS : Sl 42 [(1, p1_lv), (2, (Value.func (Fn.func 63) #[] #[])), (3, (fdp b3 0)), (7, (Value.int IntKind.i64 x268)), (14, (Value.int IntKind.i64 (p1_l.length : Int))), (15, (Value.int IntKind.i64 x268)), (18, (Value.int IntKind.i64 x268)), (19, (Value.int IntKind.i64 x460))] a := hS
      have hM : Mem Nob w0 w [(false, rd p1_lv (List.map (Value.int IntKind.i64) p1_l)), (true, bx b3 27 [(Value.int IntKind.i64 p0_g_Size), p0_g_Rowsv]), (false, rd p0_g_Rowsv (List.map (Value.int IntKind.i64) p0_g_Rows))] := hM
      unfold S_impl_areJoined__IsTwoEdgesc1_l4 at hF
      refine wp_seq_k fun K490 hK490 => ?_
      refine wp_region_lit ?_
      refine st_val hS rfl rfl (by decide) (rv_lss (hS.ev rfl) (hS.ev rfl)) fun a hS => ?_
      refine wpList_nil ?_
      refine hK490 _ _ ?_
      refine wp_seq_k fun K491 hK491 => ?_
      rcases ite_some hF with ⟨hc, hF⟩ | ⟨hc, hF⟩
      · refine cond_t hS rfl hc ?_
        refine wp_skip ?_
        refine hK491 _ _ ?_
        refine wp_seq_k fun K492 hK492 => ?_
        refine wp_block ?_
        refine wp_seq_k fun K506 hK506 => ?_
        refine wp_region_lit ?_
        refine st_val hS rfl rfl (by decide) (rv_move (hS.ev rfl)) fun a hS => ?_
        refine st_val hS rfl rfl (by decide) (rv_assign (hS.ev rfl)) fun a hS => ?_
        refine wpList_nil ?_
        refine hK506 _ _ ?_
        refine wp_seq_k fun K507 hK507 => ?_
        refine an_start Nob ty_mixed fun w hf => ?_
        have hM := hM.fra hf
        have hB := hM
        have hM := hB.reg0
        refine an_take hS (i := 0) rfl (by kernel_rfl) (by kernel_rfl) (by kernel_rfl) rfl (by decide) (fun c a a' w hd h => hQp c a a' w hd h) rfl (fun w' hC' => (rv_fieldAddr ty_fd_27_1 (hS.ev rfl))) hM.fr fun a hS => ?_
        refine an_take hS (i := 1) rfl (by kernel_rfl) (by kernel_rfl) (by kernel_rfl) rfl (by decide) (fun c a a' w hd h => hQp c a a' w hd h) rfl (fun w' hC' => (rv_load_bx (hS.ev rfl) ty_ag_22 ((hB.fra hC').get 1 rfl) rfl)) hM.fr fun a hS => ?_
        refine an_take hS (i := 2) rfl (by kernel_rfl) (by kernel_rfl) (by kernel_rfl) rfl (by decide) (fun c a a' w hd h => hQp c a a' w hd h) rfl (fun w' hC' => (rv_move (hS.ev rfl))) hM.fr fun a hS => ?_
        refine an_take hS (i := 3) rfl (by kernel_rfl) (by kernel_rfl) (by kernel_rfl) rfl (by decide) (fun c a a' w hd h => hQp c a a' w hd h) rfl (fun w' hC' => (rv_move (hS.ev rfl))) hM.fr fun a hS => ?_
        obtain ⟨x513, hx, hF⟩ := bind_some hF
        obtain ⟨hi0, hi1, hex513⟩ := idxL_some hx
        refine an_take hS (i := 4) rfl (by kernel_rfl) (by kernel_rfl) (by kernel_rfl) rfl (by decide) (fun c a a' w hd h => hQp c a a' w hd h) rfl (fun w' hC' => (rv_indexAddr Try.underlying22 ty_el_3 (hS.ev rfl) (hS.ev rfl) (hM.get 0 rfl) hi0 (map_len hi1))) hM.fr fun a hS => ?_
        refine an_take hS (i := 5) rfl (by kernel_rfl) (by kernel_rfl) (by kernel_rfl) rfl (by decide) (fun c a a' w hd h => hQp c a a' w hd h) rfl (fun w' hC' => (rv_load_el (hS.ev rfl) ty_ag_3 ((hB.fra hC').get 0 rfl) (mget hex513))) hM.fr fun a hS => ?_
        obtain ⟨x514, hx, hF⟩ := bind_some hF
        obtain ⟨hi0, hi1, hex514⟩ := idxL_some hx
        refine an_take hS (i := 6) rfl (by kernel_rfl) (by kernel_rfl) (by kernel_rfl) rfl (by decide) (fun c a a' w hd h => hQp c a a' w hd h) rfl (fun w' hC' => (rv_indexAddr Try.underlying22 ty_el_3 (hS.ev rfl) (hS.ev rfl) (hM.get 2 rfl) hi0 (map_len hi1))) hM.fr fun a hS => ?_
        refine an_take hS (i := 7) rfl (by kernel_rfl) (by kernel_rfl) (by kernel_rfl) rfl (by decide) (fun c a a' w hd h => hQp c a a' w hd h) rfl (fun w' hC' => (rv_load_el (hS.ev rfl) ty_ag_3 ((hB.fra hC').get 2 rfl) (mget hex514))) hM.fr fun a hS => ?_
        refine an_take hS (i := 8) rfl (by kernel_rfl) (by kernel_rfl) (by kernel_rfl) rfl (by decide) (fun c a a' w hd h => hQp c a a' w hd h) rfl (fun w' hC' => (rv_move (hS.ev rfl))) hM.fr fun a hS => ?_
        refine an_take hS (i := 9) rfl (by kernel_rfl) (by kernel_rfl) (by kernel_rfl) rfl (by decide) (fun c a a' w hd h => hQp c a a' w hd h) rfl (fun w' hC' => (rv_move (hS.ev rfl))) hM.fr fun a hS => ?_
        obtain ⟨x515, hx, hF⟩ := bind_some hF
        obtain ⟨hi0, hi1, hex515⟩ := idxL_some hx
        refine an_take hS (i := 10) rfl (by kernel_rfl) (by kernel_rfl) (by kernel_rfl) rfl (by decide) (fun c a a' w hd h => hQp c a a' w hd h) rfl (fun w' hC' => (rv_indexAddr Try.underlying22 ty_el_3 (hS.ev rfl) (hS.ev rfl) (hM.get 0 rfl) hi0 (map_len hi1))) hM.fr fun a hS => ?_
        refine an_take hS (i := 11) rfl (by kernel_rfl) (by kernel_rfl) (by kernel_rfl) rfl (by decide) (fun c a a' w hd h => hQp c a a' w hd h) rfl (fun w' hC' => (rv_load_el (hS.ev rfl) ty_ag_3 ((hB.fra hC').get 0 rfl) (mget hex515))) hM.fr fun a hS => ?_
        refine an_take hS (i := 13) rfl (by kernel_rfl) (by kernel_rfl) (by kernel_rfl) rfl (by decide) (fun c a a' w hd h => hQp c a a' w hd h) rfl (fun w' hC' => (rv_move (hS.ev rfl))) hM.fr fun a hS => ?_
        refine an_take hS (i := 14) rfl (by kernel_rfl) (by kernel_rfl) (by kernel_rfl) rfl (by decide) (fun c a a' w hd h => hQp c a a' w hd h) rfl (fun w' hC' => (rv_move (hS.ev rfl))) hM.fr fun a hS => ?_
        refine an_take hS (i := 15) rfl (by kernel_rfl) (by kernel_rfl) (by kernel_rfl) rfl (by decide) (fun c a a' w hd h => hQp c a a' w hd h) rfl (fun w' hC' => (rv_move (hS.ev rfl))) hM.fr fun a hS => ?_
        obtain ⟨r516, hr, hF⟩ := bind_some hF
        refine an_one hS (i := 12) rfl (by kernel_rfl) rfl ?_
        refine wp_call hS rfl rfl (by decide) fn_ok_74 rfl (c_impl_has F x514 x515 hr _) fun v w a hK hS => ?_
        obtain ⟨rfl, hN⟩ := hK
        have hM := hM.fra hN.fr
        refine ⟨hM.fr, ?_⟩
        obtain ⟨r517, hr, hF⟩ := bind_some hF
        refine an_one hS (i := 16) rfl (by kernel_rfl) rfl ?_
        refine wp_callv (vs := [(Value.int IntKind.i64 x460), (Value.int IntKind.i64 x268)]) (cap := []) hS rfl rfl rfl (by decide) fn_ok_63 rfl (c_impl_IsTwoEdges_c1 F x460 x268 hr _) fun v w a hK hS => ?_
        obtain ⟨rfl, hN⟩ := hK
        have hM := hM.fra hN.fr
        refine ⟨hM.fr, ?_⟩
        refine an_take hS (i := 17) rfl (by kernel_rfl) (by kernel_rfl) (by kernel_rfl) rfl (by decide) (fun c a a' w hd h => hQp c a a' w hd h) rfl (fun w' hC' => (rv_bneq Try.underlying4 (hS.ev rfl) (hS.ev rfl))) hM.fr fun a hS => ?_
        refine an_done (by kernel_rfl) ?_
        have hN := hM.pick [] (by decide) rfl
        have hM := Mem.callo (A := []) (B := [(false, rd p1_lv (List.map (Value.int IntKind.i64) p1_l)), (true, bx b3 27 [(Value.int IntKind.i64 p0_g_Size), p0_g_Rowsv]), (false, rd p0_g_Rowsv (List.map (Value.int IntKind.i64) p0_g_Rows))]) hB rfl (hN.memS fun _ h => h.elim) rfl
        refine hK507 _ _ ?_
        rcases ite_some hF with ⟨hc, hF⟩ | ⟨hc, hF⟩
        · refine cond_t hS rfl hc ?_
          refine wp_seq_k fun K518 hK518 => ?_
          refine wp_region_lit ?_
          refine st_val hS rfl rfl (by decide) (rv_assign (hS.ev rfl)) fun a hS => ?_
          refine wpList_nil ?_
          refine hK518 _ _ ?_
          refine wp_ret ?_
          cases hF
          have e := hX4 _ rfl
          subst e
          have hF := hF4
          cases hF
          have e := hX2 _ rfl
          subst e
          have hF := hF2
          cases hF
          exact hQr _ _ (r_1 hS rfl rfl ⟨rfl, hM.pick [] (by decide) rfl⟩)
        · refine cond_f hS rfl hc ?_
          refine wp_skip ?_
          refine hK492 _ _ ?_
          refine wp_region_lit ?_
          refine st_val hS rfl rfl (by decide) (rv_add (hS.ev rfl) (hS.ev rfl)) fun a hS => ?_
          refine st_val hS rfl rfl (by decide) (rv_move (hS.ev rfl)) fun a hS => ?_
          refine wpList_nil ?_
          cases hF
          exact hN4 _ _ _ rfl ⟨(hS.sub (sub_cons rfl (sub_cons rfl (sub_cons rfl (sub_cons rfl (sub_cons rfl (sub_cons rfl (sub_cons rfl (sub_cons rfl sub_nil))))))))), (hM.pick [0, 1, 2] (by decide) rfl)⟩
      · refine cond_f hS rfl hc ?_
        refine wp_exit ?_
        cases hF
        exact hJ3 _ _ (hS.sub (sub_cons rfl (sub_cons rfl (sub_cons rfl (sub_cons rfl (sub_cons rfl sub_nil)))))) (hM.pick [0, 1, 2] (by decide) rfl) (by have e := hX4 _ rfl; subst e; exact hF4)
    · refine cond_f hS rfl hc ?_
      refine wp_exit ?_
      cases hF
      exact hJ1 _ _ (hS.sub sub_nil) (hM.pick [] (by decide) rfl) (by have e := hX2 _ rfl; subst e; exact hF2)


theorem c_impl_IsTwoEdges (F : Nat) (p0_g_Size : Int) (p0_g_Rows : List Int) (p1_l : List Int) (p0_g_Rowsv : Value) (p1_lv : Value) {r : Bool} (hF : S_impl_IsTwoEdges F p0_g_Size p0_g_Rows p1_l = some r) (w0 : World) (h0 : RdRow w0 p0_g_Rowsv (List.map (Value.int IntKind.i64) p0_g_Rows)) (h1 : RdRow w0 p1_lv (List.map (Value.int IntKind.i64) p1_l)) :
    Calls Try.prog 29 [(Value.agg #[(Value.int IntKind.i64 p0_g_Size), p0_g_Rowsv]), p1_lv].toArray w0 (retPost fun v w' => v = (Value.bool r) ∧ Mem Nob w0 w' []) := by
  have hM : Mem Nob w0 w0 [(false, rd p0_g_Rowsv (List.map (Value.int IntKind.i64) p0_g_Rows)), (false, rd p1_lv (List.map (Value.int IntKind.i64) p1_l))] := (Mem.rcons (Mem.rcons (Mem.nil w0) h1 (by simp)) h0 (by simp))
  refine enter2 Try.func29 rfl rfl rfl fun Q a hQr hQn hQp hS => ?_
  have hS : Sl 13 [(0, (Value.agg #[(Value.int IntKind.i64 p0_g_Size), p0_g_Rowsv])), (1, p1_lv)] a := hS
  unfold S_impl_IsTwoEdges at hF
  refine wp_seq_k fun K1 hK1 => ?_
  refine wp_region_lit ?_
  obtain ⟨b3, w, hr, hM⟩ := hM.boxE (ρ := a.eval) (dst := some 2) (ty := _) (pos := _) (af := _) (gd := _) (x := .tmp 0) (T := 27) [(Value.int IntKind.i64 p0_g_Size), p0_g_Rowsv] (hS.ev rfl) rfl
  refine st_val hS rfl rfl (by decide) hr fun a hS => ?_
  refine st_val hS rfl rfl (by decide) (rv_assign (hS.ev rfl)) fun a hS => ?_
  refine wpList_nil ?_
  refine hK1 _ _ ?_
  refine wp_seq_k fun K4 hK4 => ?_
  have hJ1 : ∀ (p6 : Bool) (a : Act) (w : World), Sl 13 [(4, (Value.bool p6))] a → Mem Nob w0 w [] → S_impl_IsTwoEdges_j1 F p6 = some r → K4 a w := by
    intro p6 a w hS hM hF
    unfold S_impl_IsTwoEdges_j1 at hF
    refine hK4 _ _ ?_
    refine wp_ret ?_
    cases hF
    exact hQr _ _ (r_1 hS rfl rfl ⟨rfl, hM.pick [] (by decide) rfl⟩)
  refine wp_region_lit ?_
  refine st_val hS rfl rfl (by decide) (rv_move (hS.ev rfl)) fun a hS => ?_
  refine st_val hS rfl rfl (by decide) (rv_len_rowM Try.underlying22 (hS.ev rfl) (hM.get 2 rfl)) fun a hS => ?_
  refine st_val hS rfl rfl (by decide) (rv_eql (hS.ev rfl) (hS.ev rfl)) fun a hS => ?_
  refine st_val hS rfl rfl (by decide) (rv_move (hS.ev rfl)) fun a hS => ?_
  rcases ite_some hF with ⟨hc, hF⟩ | ⟨hc, hF⟩
  · have hS := hS.setb (t := 8) rfl hc
    refine st_val hS rfl rfl (by decide) (rv_load_agg (hS.ev rfl) ty_ag_27 (hM.get 0 rfl) ty_sz_27) fun a hS => ?_
    refine st_val hS rfl rfl (by decide) (rv_move (hS.ev rfl)) fun a hS => ?_
    obtain ⟨r7, hr, hF⟩ := bind_some hF
    refine st_wp hS rfl (wp_call hS rfl rfl (by decide) fn_ok_61 rfl (c_impl_areJoined__IsTwoEdgesc1 F p0_g_Size p0_g_Rows p1_l p0_g_Rowsv p1_lv hr _ (hM.get 1 rfl) (hM.get 2 rfl)) fun v w a hK hS => ?_)
    obtain ⟨rfl, hN⟩ := hK
    have hM := hM.fra hN.fr
    refine st_val hS rfl rfl (by decide) (rv_pick_t (hS.ev rfl) (hS.ev rfl)) fun a hS => ?_
    refine st_val hS rfl rfl (by decide) (rv_assign (hS.ev rfl)) fun a hS => ?_
    refine wpList_nil ?_
    exact hJ1 r7 _ _ (hS.sub (sub_cons rfl sub_nil)) (hM.pick [] (by decide) rfl) hF
  · have hS := hS.setb (t := 8) rfl hc
    refine st_skip hS rfl rfl (by decide) fun a hS => ?_
    refine st_skip hS rfl rfl (by decide) fun a hS => ?_
    refine st_skip hS rfl rfl (by decide) fun a hS => ?_
    refine st_val hS rfl rfl (by decide) (rv_pick_f (hS.ev rfl) (hS.ev rfl)) fun a hS => ?_
    refine st_val hS rfl rfl (by decide) (rv_assign (hS.ev rfl)) fun a hS => ?_
    refine wpList_nil ?_
    exact hJ1 false _ _ (hS.sub (sub_cons rfl sub_nil)) (hM.pick [] (by decide) rfl) hF


theorem c_laws_FnExactIsTwoEdges (F : Nat) (p0_aG_Size : Int) (p0_aG_Rows : List Int) (p1_aL : List Int) (p0_aG_Rowsv : Value) (p1_aLv : Value) {r : Bool} (hF : S_laws_FnExactIsTwoEdges F p0_aG_Size p0_aG_Rows p1_aL = some r) (w0 : World) (h0 : RdRow w0 p0_aG_Rowsv (List.map (Value.int IntKind.i64) p0_aG_Rows)) (h1 : RdRow w0 p1_aLv (List.map (Value.int IntKind.i64) p1_aL)) :
    Calls Try.prog 6 [(Value.agg #[(Value.int IntKind.i64 p0_aG_Size), p0_aG_Rowsv]), p1_aLv].toArray w0 (retPost fun v w' => v = (Value.bool r) ∧ Mem Nob w0 w' []) := by
  have hM : Mem Nob w0 w0 [(false, rd p0_aG_Rowsv (List.map (Value.int IntKind.i64) p0_aG_Rows)), (false, rd p1_aLv (List.map (Value.int IntKind.i64) p1_aL))] := (Mem.rcons (Mem.rcons (Mem.nil w0) h1 (by simp)) h0 (by simp))
  refine enter2 Try.func6 rfl rfl rfl fun Q a hQr hQn hQp hS => ?_
  have hS : Sl 43 [(0, (Value.agg #[(Value.int IntKind.i64 p0_aG_Size), p0_aG_Rowsv])), (1, p1_aLv)] a := hS
  unfold S_laws_FnExactIsTwoEdges at hF
  refine wp_seq_k fun K1 hK1 => ?_
  refine wp_region_lit ?_
  obtain ⟨b3, w, hr, hM⟩ := hM.boxE (ρ := a.eval) (dst := some 2) (ty := _) (pos := _) (af := _) (gd := _) (x := .tmp 0) (T := 24) [(Value.int IntKind.i64 p0_aG_Size), p0_aG_Rowsv] (hS.ev rfl) rfl
  refine st_val hS rfl rfl (by decide) hr fun a hS => ?_
  refine st_val hS rfl rfl (by decide) (rv_assign (hS.ev rfl)) fun a hS => ?_
  refine wpList_nil ?_
  refine hK1 _ _ ?_
  refine wp_seq_k fun K4 hK4 => ?_
  refine wp_seq_k fun K7 hK7 => ?_
  refine wp_region_lit ?_
  refine st_val hS rfl rfl (by decide) (rv_move (hS.ev rfl)) fun a hS => ?_
  refine st_val hS rfl rfl (by decide) (rv_len_rowM Try.underlying22 (hS.ev rfl) (hM.get 2 rfl)) fun a hS => ?_
  refine st_val hS rfl rfl (by decide) (rv_gtr (hS.ev rfl) (hS.ev rfl)) fun a hS => ?_
  refine wpList_nil ?_
  refine hK7 _ _ ?_
  rcases ite_some hF with ⟨hc, hF⟩ | ⟨hc, hF⟩
  · refine cond_t hS rfl hc ?_
    refine wp_seq_k fun K8 hK8 => ?_
    refine wp_region_lit ?_
    refine st_val hS rfl rfl (by decide) (rv_assign (hS.ev rfl)) fun a hS => ?_
    refine wpList_nil ?_
    refine hK8 _ _ ?_
    refine wp_ret ?_
    cases hF
    exact hQr _ _ (r_1 hS rfl rfl ⟨rfl, hM.pick [] (by decide) rfl⟩)
  · refine cond_f hS rfl hc ?_
    refine wp_skip ?_
    refine hK4 _ _ ?_
    refine wp_seq_k fun K9 hK9 => ?_
    refine wp_region_lit ?_
    refine st_val hS rfl rfl (by decide) (rv_assign (hS.ev rfl)) fun a hS => ?_
    refine wpList_nil ?_
    refine hK9 _ _ ?_
    refine wp_seq_k fun K10 hK10 => ?_
    refine wp_region_lit ?_
    refine st_val hS rfl rfl (by decide) (rv_load_agg (hS.ev rfl) ty_ag_24 (hM.get 0 rfl) ty_sz_24) fun a hS => ?_
    refine st_val hS rfl rfl (by decide) (rv_move (hS.ev rfl)) fun a hS => ?_
    obtain ⟨r12, hr, hF⟩ := bind_some hF
    refine st_wp hS rfl (wp_call hS rfl rfl (by decide) fn_ok_15 rfl (c_laws_szGraph F p0_aG_Size p0_aG_Rows 1048576 p0_aG_Rowsv hr _ (hM.get 1 rfl)) fun v w a hK hS => ?_)
    obtain ⟨rfl, hN⟩ := hK
    have hM := hM.fra hN.fr
    refine st_val hS rfl rfl (by decide) (rv_assign (hS.ev rfl)) fun a hS => ?_
    refine wpList_nil ?_
    refine hK10 _ _ ?_
    refine wp_seq_k fun K13 hK13 => ?_
    refine wp_seq_k fun K16 hK16 => ?_
    refine wp_region_lit ?_
    refine st_val hS rfl rfl (by decide) (rv_move (hS.ev rfl)) fun a hS => ?_
    refine st_val hS rfl rfl (by decide) (rv_lss (hS.ev rfl) (hS.ev rfl)) fun a hS => ?_
    refine wpList_nil ?_
    refine hK16 _ _ ?_
    rcases ite_some hF with ⟨hc, hF⟩ | ⟨hc, hF⟩
    · refine cond_t hS rfl hc ?_
      refine wp_seq_k fun K17 hK17 => ?_
      refine wp_region_lit ?_
      refine st_val hS rfl rfl (by decide) (rv_assign (hS.ev rfl)) fun a hS => ?_
      refine wpList_nil ?_
      refine hK17 _ _ ?_
      refine wp_ret ?_
      cases hF
      exact hQr _ _ (r_1 hS rfl rfl ⟨rfl, hM.pick [] (by decide) rfl⟩)
    · refine cond_f hS rfl hc ?_
      refine wp_skip ?_
      refine hK13 _ _ ?_
      refine wp_seq_k fun K18 hK18 => ?_
      refine wp_region_lit ?_
      refine st_val hS rfl rfl (by decide) (rv_load_agg (hS.ev rfl) ty_ag_24 (hM.get 0 rfl) ty_sz_24) fun a hS => ?_
      obtain ⟨r24, hr, hF⟩ := bind_some hF
      refine st_wp hS rfl (wp_call hS rfl rfl (by decide) fn_ok_17 rfl (c_laws_toGraph F p0_aG_Size p0_aG_Rows p0_aG_Rowsv hr _ (hM.get 1 rfl)) fun v w a hK hS => ?_)
      obtain ⟨v25, rfl, hN⟩ := hK
      have hM := hM.add hN rfl
      refine st_val hS rfl rfl (by decide) (rv_move (hS.ev rfl)) fun a hS => ?_
      obtain ⟨r26, hr, hF⟩ := bind_some hF
      refine st_wp hS rfl (wp_call hS rfl rfl (by decide) fn_ok_25 rfl (c_laws_toIntS F p1_aL p1_aLv hr _ (hM.get 3 rfl)) fun v27 w a hK hS => ?_)
      have hN := hK
      have hM := hM.add hN rfl
      obtain ⟨r28, hr, hF⟩ := bind_some hF
      refine st_wp hS rfl (wp_call hS rfl rfl (by decide) fn_ok_28 rfl (c_spec_IsTwoEdges F r24.1 r24.2 r26 v25 v27 hr _ (rd_of_ow (hM.get 1 rfl)) (rd_of_ow (hM.get 0 rfl))) fun v w a hK hS => ?_)
      obtain ⟨rfl, hN⟩ := hK
      have hM := hM.fra hN.fr
      refine st_val hS rfl rfl (by decide) (rv_assign (hS.ev rfl)) fun a hS => ?_
      refine wpList_nil ?_
      refine hK18 _ _ ?_
      refine wp_seq_k fun K29 hK29 => ?_
      refine wp_region_lit ?_
      refine st_val hS rfl rfl (by decide) (rv_load_agg (hS.ev rfl) ty_ag_24 (hM.get 2 rfl) ty_sz_24) fun a hS => ?_
      obtain ⟨r33, hr, hF⟩ := bind_some hF
      refine st_wp hS rfl (wp_call hS rfl rfl (by decide) fn_ok_17 rfl (c_laws_toGraph F p0_aG_Size p0_aG_Rows p0_aG_Rowsv hr _ (hM.get 3 rfl)) fun v w a hK hS => ?_)
      obtain ⟨v34, rfl, hN⟩ := hK
      have hM := hM.add hN rfl
      obtain ⟨b35, w, hr, hM⟩ := hM.allocE (ρ := a.eval) (dst := some 7) (ty := _) (pos := _) (af := _) (gd := _) (T := 27) (P := Try.prog) [(Value.int IntKind.i64 0), (Value.slice none 0 0)] ty_zr_27 rfl
      refine st_val hS rfl rfl (by decide) hr fun a hS => ?_
      have hM := hM.addNil 3
      have hM := hM.pick [1, 0, 2, 3, 4, 5, 6, 7] (by decide) rfl
      obtain ⟨w, hr, hM⟩ := hM.st_agg (us := [(Value.int IntKind.i64 r33.1), v34]) (ρ := a.eval) (dst := none) (ty := _) (pos := _) (af := _) (gd := _) (x := .tmp 7) (y := .tmp 24) (hS.ev rfl) (hS.ev rfl) ty_sz_27 (all1_cons rfl (all1_cons (rd_one (rd_of_ow (hM.get 2 rfl))) all1_nil)) rfl
      refine st_unit hS rfl rfl hr ?_
      refine wpList_nil ?_
      refine hK29 _ _ ?_
      refine wp_seq_k fun K36 hK36 => ?_
      refine wp_region_lit ?_
      refine st_val hS rfl rfl (by decide) (rv_move (hS.ev rfl)) fun a hS => ?_
      obtain ⟨r39, hr, hF⟩ := bind_some hF
      refine st_wp hS rfl (wp_call hS rfl rfl (by decide) fn_ok_25 rfl (c_laws_toIntS F p1_aL p1_aLv hr _ (hM.get 7 rfl)) fun v40 w a hK hS => ?_)
      have hN := hK
      have hM := hM.add hN rfl
      refine st_val hS rfl rfl (by decide) (rv_assign (hS.ev rfl)) fun a hS => ?_
      refine wpList_nil ?_
      refine hK36 _ _ ?_
      refine wp_seq_k fun K41 hK41 => ?_
      refine wp_region_lit ?_
      refine st_val hS rfl rfl (by decide) (rv_load_agg (hS.ev rfl) ty_ag_27 (hM.get 1 rfl) ty_sz_27) fun a hS => ?_
      refine st_val hS rfl rfl (by decide) (rv_move (hS.ev rfl)) fun a hS => ?_
      obtain ⟨r43, hr, hF⟩ := bind_some hF
      refine st_wp hS rfl (wp_call hS rfl rfl (by decide) fn_ok_29 rfl (c_impl_IsTwoEdges F r33.1 r33.2 r39 v34 v40 hr _ (rd_of_ow (hM.get 3 rfl)) (rd_of_ow (hM.get 0 rfl))) fun v w a hK hS => ?_)
      obtain ⟨rfl, hN⟩ := hK
      have hM := hM.fra hN.fr
      refine st_val hS rfl rfl (by decide) (rv_assign (hS.ev rfl)) fun a hS => ?_
      refine wpList_nil ?_
      refine hK41 _ _ ?_
      refine wp_seq_k fun K44 hK44 => ?_
      refine wp_seq_k fun K47 hK47 => ?_
      refine wp_region_lit ?_
      refine st_val hS rfl rfl (by decide) (rv_move (hS.ev rfl)) fun a hS => ?_
      refine st_val hS rfl rfl (by decide) (rv_move (hS.ev rfl)) fun a hS => ?_
      refine st_val hS rfl rfl (by decide) (rv_bneq Try.underlying4 (hS.ev rfl) (hS.ev rfl)) fun a hS => ?_
      refine wpList_nil ?_
      refine hK47 _ _ ?_
      rcases ite_some hF with ⟨hc, hF⟩ | ⟨hc, hF⟩
      · refine cond_t hS rfl hc ?_
        refine wp_seq_k fun K48 hK48 => ?_
        refine wp_region_lit ?_
        refine st_val hS rfl rfl (by decide) (rv_assign (hS.ev rfl)) fun a hS => ?_
        refine wpList_nil ?_
        refine hK48 _ _ ?_
        refine wp_ret ?_
        cases hF
        exact hQr _ _ (r_1 hS rfl rfl ⟨rfl, hM.pick [] (by decide) rfl⟩)
      · refine cond_f hS rfl hc ?_
        refine wp_skip ?_
        refine hK44 _ _ ?_
        refine wp_seq_k fun K49 hK49 => ?_
        refine wp_seq_k fun K58 hK58 => ?_
        refine an_start Nob ty_mixed fun w hf => ?_
        have hM := hM.fra hf
        have hB := hM
        have hM := hB.reg0
        refine an_take hS (i := 0) rfl (by kernel_rfl) (by kernel_rfl) (by kernel_rfl) rfl (by decide) (fun c a a' w hd h => hQp c a a' w hd h) rfl (fun w' hC' => (rv_load_agg (hS.ev rfl) ty_ag_27 ((hB.fra hC').get 1 rfl) ty_sz_27)) hM.fr fun a hS => ?_
        refine an_take hS (i := 1) rfl (by kernel_rfl) (by kernel_rfl) (by kernel_rfl) rfl (by decide) (fun c a a' w hd h => hQp c a a' w hd h) rfl (fun w' hC' => (rv_load_agg (hS.ev rfl) ty_ag_24 ((hB.fra hC').get 6 rfl) ty_sz_24)) hM.fr fun a hS => ?_
        obtain ⟨r62, hr, hF⟩ := bind_some hF
        refine an_one hS (i := 2) rfl (by kernel_rfl) rfl ?_
        refine wp_call hS rfl rfl (by decide) fn_ok_17 rfl (c_laws_toGraph F p0_aG_Size p0_aG_Rows p0_aG_Rowsv hr _ (hM.get 7 rfl)) fun v w a hK hS => ?_
        obtain ⟨v63, rfl, hN⟩ := hK
        have hM := hM.add hN rfl
        refine ⟨hM.fr, ?_⟩
        obtain ⟨r64, hr, hF⟩ := bind_some hF
        refine an_one hS (i := 3) rfl (by kernel_rfl) rfl ?_
        refine wp_call hS rfl rfl (by decide) fn_ok_19 rfl (c_laws_eqGraph F r33.1 r33.2 r62.1 r62.2 v34 v63 hr _ (rd_of_ow (hM.get 4 rfl)) (rd_of_ow (hM.get 0 rfl))) fun v w a hK hS => ?_
        obtain ⟨rfl, hN⟩ := hK
        have hM := hM.fra hN.fr
        refine ⟨hM.fr, ?_⟩
        refine an_take hS (i := 4) rfl (by kernel_rfl) (by kernel_rfl) (by kernel_rfl) rfl (by decide) (fun c a a' w hd h => hQp c a a' w hd h) rfl (fun w' hC' => (rv_not (hS.ev rfl))) hM.fr fun a hS => ?_
        refine an_done (by kernel_rfl) ?_
        have hN := hM.pick [0] (by decide) rfl
        have hM := Mem.callo (A := []) (B := [(true, ow 3 v40 (List.map (Value.int IntKind.i64) r39)), (true, bx b35 27 [(Value.int IntKind.i64 r33.1), v34]), (true, ow 3 (Value.slice none 0 0) (List.map (Value.int IntKind.i64) ([] : List (Int)))), (true, ow 3 v34 (List.map (Value.int IntKind.i64) r33.2)), (true, ow 3 v27 (List.map (Value.int IntKind.i64) r26)), (true, ow 3 v25 (List.map (Value.int IntKind.i64) r24.2)), (true, bx b3 24 [(Value.int IntKind.i64 p0_aG_Size), p0_aG_Rowsv]), (false, rd p0_aG_Rowsv (List.map (Value.int IntKind.i64) p0_aG_Rows)), (false, rd p1_aLv (List.map (Value.int IntKind.i64) p1_aL))]) hB rfl (hN.memS fun _ h => h.elim) rfl
        refine hK58 _ _ ?_
        rcases ite_some hF with ⟨hc, hF⟩ | ⟨hc, hF⟩
        · refine cond_t hS rfl hc ?_
          refine wp_seq_k fun K65 hK65 => ?_
          refine wp_region_lit ?_
          refine st_val hS rfl rfl (by decide) (rv_assign (hS.ev rfl)) fun a hS => ?_
          refine wpList_nil ?_
          refine hK65 _ _ ?_
          refine wp_ret ?_
          cases hF
          exact hQr _ _ (r_1 hS rfl rfl ⟨rfl, hM.pick [] (by decide) rfl⟩)
        · refine cond_f hS rfl hc ?_
          refine wp_skip ?_
          refine hK49 _ _ ?_
          refine wp_seq_k fun K66 hK66 => ?_
          refine wp_seq_k fun K75 hK75 => ?_
          refine wp_region_lit ?_
          refine st_val hS rfl rfl (by decide) (rv_move (hS.ev rfl)) fun a hS => ?_
          refine st_val hS rfl rfl (by decide) (rv_move (hS.ev rfl)) fun a hS => ?_
          obtain ⟨r79, hr, hF⟩ := bind_some hF
          refine st_wp hS rfl (wp_call hS rfl rfl (by decide) fn_ok_25 rfl (c_laws_toIntS F p1_aL p1_aLv hr _ (hM.get 9 rfl)) fun v80 w a hK hS => ?_)
          have hN := hK
          have hM := hM.add hN rfl
          obtain ⟨r81, hr, hF⟩ := bind_some hF
          refine st_wp hS rfl (wp_call hS rfl rfl (by decide) fn_ok_27 rfl (c_laws_eqIntS F r39 r79 v40 v80 hr _ (rd_of_ow (hM.get 2 rfl)) (rd_of_ow (hM.get 0 rfl))) fun v w a hK hS => ?_)
          obtain ⟨rfl, hN⟩ := hK
          have hM := hM.fra hN.fr
          refine st_val hS rfl rfl (by decide) (rv_not (hS.ev rfl)) fun a hS => ?_
          refine wpList_nil ?_
          refine hK75 _ _ ?_
          rcases ite_some hF with ⟨hc, hF⟩ | ⟨hc, hF⟩
          · refine cond_t hS rfl hc ?_
            refine wp_seq_k fun K82 hK82 => ?_
            refine wp_region_lit ?_
            refine st_val hS rfl rfl (by decide) (rv_assign (hS.ev rfl)) fun a hS => ?_
            refine wpList_nil ?_
            refine hK82 _ _ ?_
            refine wp_ret ?_
            cases hF
            exact hQr _ _ (r_1 hS rfl rfl ⟨rfl, hM.pick [] (by decide) rfl⟩)
          · refine cond_f hS rfl hc ?_
            refine wp_skip ?_
            refine hK66 _ _ ?_
            refine wp_seq_k fun K83 hK83 => ?_
            refine wp_region_lit ?_
            refine st_val hS rfl rfl (by decide) (rv_assign (hS.ev rfl)) fun a hS => ?_
            refine wpList_nil ?_
            refine hK83 _ _ ?_
            refine wp_ret ?_
            cases hF
            exact hQr _ _ (r_1 hS rfl rfl ⟨rfl, hM.pick [] (by decide) rfl⟩)


theorem c_spec_IsOrder (F : Nat) (p0_g_Size : Int) (p0_g_Rows : List Int) (p1_l : List Int) (p0_g_Rowsv : Value) (p1_lv : Value) {r : Bool} (hF : S_spec_IsOrder F p0_g_Size p0_g_Rows p1_l = some r) (w0 : World) (h0 : RdRow w0 p0_g_Rowsv (List.map (Value.int IntKind.i64) p0_g_Rows)) (h1 : RdRow w0 p1_lv (List.map (Value.int IntKind.i64) p1_l)) :
    Calls Try.prog 64 [(Value.agg #[(Value.int IntKind.i64 p0_g_Size), p0_g_Rowsv]), p1_lv].toArray w0 (retPost fun v w' => v = (Value.bool r) ∧ Mem Nob w0 w' []) := by
  have hM : Mem Nob w0 w0 [(false, rd p0_g_Rowsv (List.map (Value.int IntKind.i64) p0_g_Rows)), (false, rd p1_lv (List.map (Value.int IntKind.i64) p1_l))] := (Mem.rcons (Mem.rcons (Mem.nil w0) h1 (by simp)) h0 (by simp))
  refine enter2 Try.func64 rfl rfl rfl fun Q a hQr hQn hQp hS => ?_
  have hS : Sl 15 [(0, (Value.agg #[(Value.int IntKind.i64 p0_g_Size), p0_g_Rowsv])), (1, p1_lv)] a := hS
  unfold S_spec_IsOrder at hF
  refine wp_seq_k fun K1 hK1 => ?_
  refine wp_region_lit ?_
  obtain ⟨b3, w, hr, hM⟩ := hM.boxE (ρ := a.eval) (dst := some 2) (ty := _) (pos := _) (af := _) (gd := _) (x := .tmp 0) (T := 27) [(Value.int IntKind.i64 p0_g_Size), p0_g_Rowsv] (hS.ev rfl) rfl
  refine st_val hS rfl rfl (by decide) hr fun a hS => ?_
  refine st_val hS rfl rfl (by decide) (rv_assign (hS.ev rfl)) fun a hS => ?_
  refine wpList_nil ?_
  refine hK1 _ _ ?_
  refine wp_seq_k fun K4 hK4 => ?_
  have hJ1 : ∀ (p6 : Bool) (a : Act) (w : World), Sl 15 [(4, (Value.bool p6))] a → Mem Nob w0 w [] → S_spec_IsOrder_j1 F p6 = some r → K4 a w := by
    intro p6 a w hS hM hF
    unfold S_spec_IsOrder_j1 at hF
    refine hK4 _ _ ?_
    refine wp_ret ?_
    cases hF
    exact hQr _ _ (r_1 hS rfl rfl ⟨rfl, hM.pick [] (by decide) rfl⟩)
  refine wp_region_lit ?_
  refine st_val hS rfl rfl (by decide) (rv_load_agg (hS.ev rfl) ty_ag_27 (hM.get 0 rfl) ty_sz_27) fun a hS => ?_
  refine st_val hS rfl rfl (by decide) (rv_move (hS.ev rfl)) fun a hS => ?_
  obtain ⟨r7, hr, hF⟩ := bind_some hF
  refine st_wp hS rfl (wp_call hS rfl rfl (by decide) fn_ok_59 rfl (c_spec_l4Distinct F p0_g_Size p0_g_Rows p1_l p0_g_Rowsv p1_lv hr _ (hM.get 1 rfl) (hM.get 2 rfl)) fun v w a hK hS => ?_)
  obtain ⟨rfl, hN⟩ := hK
  have hM := hM.fra hN.fr
  refine st_val hS rfl rfl (by decide) (rv_move (hS.ev rfl)) fun a hS => ?_
  rcases ite_some hF with ⟨hc, hF⟩ | ⟨hc, hF⟩
  · have hS := hS.setb (t := 8) rfl hc
    refine st_val hS rfl rfl (by decide) (rv_move (hS.ev rfl)) fun a hS => ?_
    refine st_val hS rfl rfl (by decide) (rv_len_rowM Try.underlying22 (hS.ev rfl) (hM.get 2 rfl)) fun a hS => ?_
    refine st_val hS rfl rfl (by decide) (rv_fieldAddr ty_fd_27_0 (hS.ev rfl)) fun a hS => ?_
    refine st_val hS rfl rfl (by decide) (rv_load_bx (hS.ev rfl) ty_ag_3 (hM.get 0 rfl) rfl) fun a hS => ?_
    refine st_val hS rfl rfl (by decide) (rv_eql (hS.ev rfl) (hS.ev rfl)) fun a hS => ?_
    refine st_val hS rfl rfl (by decide) (rv_pick_t (hS.ev rfl) (hS.ev rfl)) fun a hS => ?_
    refine st_val hS rfl rfl (by decide) (rv_assign (hS.ev rfl)) fun a hS => ?_
    refine wpList_nil ?_
    exact hJ1 ((p1_l.length : Int) == p0_g_Size) _ _ (hS.sub (sub_cons rfl sub_nil)) (hM.pick [] (by decide) rfl) hF
  · have hS := hS.setb (t := 8) rfl hc
    refine st_skip hS rfl rfl (by decide) fun a hS => ?_
    refine st_skip hS rfl rfl (by decide) fun a hS => ?_
    refine st_skip hS rfl rfl (by decide) fun a hS => ?_
    refine st_skip hS rfl rfl (by decide) fun a hS => ?_
    refine st_skip hS rfl rfl (by decide) fun a hS => ?_
    refine st_val hS rfl rfl (by decide) (rv_pick_f (hS.ev rfl) (hS.ev rfl)) fun a hS => ?_
    refine st_val hS rfl rfl (by decide) (rv_assign (hS.ev rfl)) fun a hS => ?_
    refine wpList_nil ?_
    exact hJ1 false _ _ (hS.sub (sub_cons rfl sub_nil)) (hM.pick [] (by decide) rfl) hF


theorem c_spec_LaterNeighbours (F : Nat) (p0_g_Size : Int) (p0_g_Rows : List Int) (p1_order : List Int) (p2_v : Int) (p0_g_Rowsv : Value) (p1_orderv : Value) {r : Int} (hF : S_spec_LaterNeighbours F p0_g_Size p0_g_Rows p1_order p2_v = some r) (w0 : World) (h0 : RdRow w0 p0_g_Rowsv (List.map (Value.int IntKind.i64) p0_g_Rows)) (h1 : RdRow w0 p1_orderv (List.map (Value.int IntKind.i64) p1_order)) :
    Calls Try.prog 30 [(Value.agg #[(Value.int IntKind.i64 p0_g_Size), p0_g_Rowsv]), p1_orderv, (Value.int IntKind.i64 p2_v)].toArray w0 (retPost fun v w' => v = (Value.int IntKind.i64 r) ∧ Mem Nob w0 w' []) := by
  have hM : Mem Nob w0 w0 [(false, rd p0_g_Rowsv (List.map (Value.int IntKind.i64) p0_g_Rows)), (false, rd p1_orderv (List.map (Value.int IntKind.i64) p1_order))] := (Mem.rcons (Mem.rcons (Mem.nil w0) h1 (by simp)) h0 (by simp))
  refine enter2 Try.func30 rfl rfl rfl fun Q a hQr hQn hQp hS => ?_
  have hS : Sl 55 [(0, (Value.agg #[(Value.int IntKind.i64 p0_g_Size), p0_g_Rowsv])), (1, p1_orderv), (2, (Value.int IntKind.i64 p2_v))] a := hS
  unfold S_spec_LaterNeighbours at hF
  refine wp_seq_k fun K1 hK1 => ?_
  refine wp_region_lit ?_
  obtain ⟨b3, w, hr, hM⟩ := hM.boxE (ρ := a.eval) (dst := some 3) (ty := _) (pos := _) (af := _) (gd := _) (x := .tmp 0) (T := 27) [(Value.int IntKind.i64 p0_g_Size), p0_g_Rowsv] (hS.ev rfl) rfl
  refine st_val hS rfl rfl (by decide) hr fun a hS => ?_
  refine st_val hS rfl rfl (by decide) (rv_assign (hS.ev rfl)) fun a hS => ?_
  refine wpList_nil ?_
  refine hK1 _ _ ?_
  refine wp_seq_k fun K4 hK4 => ?_
  refine wp_seq_k fun K10 hK10 => ?_
  have hJ1 : ∀ (p12 : Bool) (a : Act) (w : World), Sl 55 [(1, p1_orderv), (2, (Value.int IntKind.i64 p2_v)), (3, (fdp b3 0)), (22, (Value.bool p12))] a → Mem Nob w0 w [(false, rd p1_orderv (List.map (Value.int IntKind.i64) p1_order)), (true, bx b3 27 [(Value.int IntKind.i64 p0_g_Size), p0_g_Rowsv]), (false, rd p0_g_Rowsv (List.map (Value.int IntKind.i64) p0_g_Rows))] → S_spec_LaterNeighbours_j1 F p0_g_Size p0_g_Rows p1_order p2_v p12 = some r → K10 a w := by
    intro p12 a w hS hM hF
    unfold S_spec_LaterNeighbours_j1 at hF
    refine hK10 _ _ ?_
    rcases ite_some hF with ⟨hc, hF⟩ | ⟨hc, hF⟩
    · refine cond_t hS rfl hc ?_
      refine wp_seq_k fun K13 hK13 => ?_
      refine wp_region_lit ?_
      refine st_val hS rfl rfl (by decide) (rv_assign (hS.ev rfl)) fun a hS => ?_
      refine wpList_nil ?_
      refine hK13 _ _ ?_
      refine wp_ret ?_
      cases hF
      exact hQr _ _ (r_1 hS rfl rfl ⟨rfl, hM.pick [] (by decide) rfl⟩)
    · refine cond_f hS rfl hc ?_
      refine wp_skip ?_
      refine hK4 _ _ ?_
      refine wp_seq_k fun K14 hK14 => ?_
      refine wp_region_lit ?_
      refine st_val hS rfl rfl (by decide) (rv_fieldAddr ty_fd_27_0 (hS.ev rfl)) fun a hS => ?_
      refine st_val hS rfl rfl (by decide) (rv_load_bx (hS.ev rfl) ty_ag_3 (hM.get 1 rfl) rfl) fun a hS => ?_
      obtain ⟨_, hx, hF⟩ := bind_some hF
      have hi0 := nnO_some hx
      refine st_val hS rfl rfl (by decide) (rv_shl (hS.ev rfl) (hS.ev rfl) hi0) fun a hS => ?_
      refine st_val hS rfl rfl (by decide) (rv_sub (hS.ev rfl) (hS.ev rfl)) fun a hS => ?_
      refine st_val hS rfl rfl (by decide) (rv_assign (hS.ev rfl)) fun a hS => ?_
      refine wpList_nil ?_
      refine hK14 _ _ ?_
      refine wp_seq_k fun K15 hK15 => ?_
      have hJ2 : ∀ (x43 : Int) (a : Act) (w : World), Sl 55 [(2, (Value.int IntKind.i64 p2_v)), (3, (fdp b3 0)), (7, (Value.int IntKind.i64 x43))] a → Mem Nob w0 w [(true, bx b3 27 [(Value.int IntKind.i64 p0_g_Size), p0_g_Rowsv]), (false, rd p0_g_Rowsv (List.map (Value.int IntKind.i64) p0_g_Rows))] → S_spec_LaterNeighbours_j2 F p0_g_Rows p2_v x43 = some r → K15 a w := by
        intro x43 a w hS hM hF
        unfold S_spec_LaterNeighbours_j2 at hF
        refine hK15 _ _ ?_
        refine wp_seq_k fun K44 hK44 => ?_
        refine wp_region_lit ?_
        refine st_val hS rfl rfl (by decide) (rv_fieldAddr ty_fd_27_1 (hS.ev rfl)) fun a hS => ?_
        refine st_val hS rfl rfl (by decide) (rv_load_bx (hS.ev rfl) ty_ag_22 (hM.get 0 rfl) rfl) fun a hS => ?_
        refine st_val hS rfl rfl (by decide) (rv_move (hS.ev rfl)) fun a hS => ?_
        obtain ⟨x46, hx, hF⟩ := bind_some hF
        obtain ⟨hi0, hi1, hex46⟩ := idxL_some hx
        refine st_val hS rfl rfl (by decide) (rv_indexAddr Try.underlying22 ty_el_3 (hS.ev rfl) (hS.ev rfl) (hM.get 1 rfl) hi0 (map_len hi1)) fun a hS => ?_
        refine st_val hS rfl rfl (by decide) (rv_load_el (hS.ev rfl) ty_ag_3 (hM.get 1 rfl) (mget hex46)) fun a hS => ?_
        refine st_val hS rfl rfl (by decide) (rv_move (hS.ev rfl)) fun a hS => ?_
        refine st_val hS rfl rfl (by decide) (rv_and (hS.ev rfl) (hS.ev rfl)) fun a hS => ?_
        refine st_val hS rfl rfl (by decide) (rv_assign (hS.ev rfl)) fun a hS => ?_
        refine wpList_nil ?_
        refine hK44 _ _ ?_
        refine wp_ret ?_
        cases hF
        exact hQr _ _ (r_1 hS rfl rfl ⟨rfl, hM.pick [] (by decide) rfl⟩)
      refine wp_seq_k fun K47 hK47 => ?_
      refine wp_region_lit ?_
      refine st_val hS rfl rfl (by decide) (rv_assign (hS.ev rfl)) fun a hS => ?_
      refine wpList_nil ?_
      refine hK47 _ _ ?_
      refine wp_block ?_
      obtain ⟨lb3, hl3, hF3⟩ := bind_some hF
      refine wp_loop_sh (fun s => S_spec_LaterNeighbours_l3 F p1_order p2_v s.1 s.2) (fun s a w => Sl 55 [(1, p1_orderv), (2, (Value.int IntKind.i64 p2_v)), (3, (fdp b3 0)), (7, (Value.int IntKind.i64 s.1)), (8, (Value.int IntKind.i64 s.2))] a ∧ Mem Nob w0 w [(false, rd p1_orderv (List.map (Value.int IntKind.i64) p1_order)), (true, bx b3 27 [(Value.int IntKind.i64 p0_g_Size), p0_g_Rowsv]), (false, rd p0_g_Rowsv (List.map (Value.int IntKind.i64) p0_g_Rows))]) hl3 ⟨(hS.sub (sub_cons rfl (sub_cons rfl (sub_cons rfl (sub_cons rfl (sub_cons rfl sub_nil)))))), (hM.pick [0, 1, 2] (by decide) rfl)⟩ ?_
      rintro K3 ⟨x48, x49⟩ a w res3 ⟨hS, hM⟩ hF hN3 hX3
      have hF : S_spec_LaterNeighbours_l3 F p1_order p2_v x48 x49 = some res3 := hF
      have hS : Sl 55 [(1, p1_orderv), (2, (Value.int IntKind.i64 p2_v)), (3, (fdp b3 0)), (7, (Value.int IntKind.i64 x48)), (8, (Value.int IntKind.i64 x49))] a := hS
      have hM : Mem Nob w0 w [(false, rd p1_orderv (List.map (Value.int IntKind.i64) p1_order)), (true, bx b3 27 [(Value.int IntKind.i64 p0_g_Size), p0_g_Rowsv]), (false, rd p0_g_Rowsv (List.map (Value.int IntKind.i64) p0_g_Rows))] := hM
      unfold S_spec_LaterNeighbours_l3 at hF
      refine wp_seq_k fun K62 hK62 => ?_
      refine wp_seq_k fun K67 hK67 => ?_
      have hJ4 : ∀ (p69 : Bool) (a : Act) (w : World), Sl 55 [(1, p1_orderv), (2, (Value.int IntKind.i64 p2_v)), (3, (fdp b3 0)), (7, (Value.int IntKind.i64 x48)), (8, (Value.int IntKind.i64 x49)), (38, (Value.bool p69))] a → Mem Nob w0 w [(false, rd p1_orderv (List.map (Value.int IntKind.i64) p1_order)), (true, bx b3 27 [(Value.int IntKind.i64 p0_g_Size), p0_g_Rowsv]), (false, rd p0_g_Rowsv (List.map (Value.int IntKind.i64) p0_g_Rows))] → S_spec_LaterNeighbours_j4 F p1_order x48 x49 p69 = some res3 → K67 a w := by
        intro p69 a w hS hM hF
        unfold S_spec_LaterNeighbours_j4 at hF
        refine hK67 _ _ ?_
        rcases ite_some hF with ⟨hc, hF⟩ | ⟨hc, hF⟩
        · refine cond_t hS rfl hc ?_
          refine wp_skip ?_
          refine hK62 _ _ ?_
          refine wp_seq_k fun K70 hK70 => ?_
          refine wp_block ?_
          refine wp_region_lit ?_
          refine st_val hS rfl rfl (by decide) (rv_move (hS.ev rfl)) fun a hS => ?_
          refine st_val hS rfl rfl (by decide) (rv_move (hS.ev rfl)) fun a hS => ?_
          refine st_val hS rfl rfl (by decide) (rv_move (hS.ev rfl)) fun a hS => ?_
          obtain ⟨x72, hx, hF⟩ := bind_some hF
          obtain ⟨hi0, hi1, hex72⟩ := idxL_some hx
          refine st_val hS rfl rfl (by decide) (rv_indexAddr Try.underlying22 ty_el_3 (hS.ev rfl) (hS.ev rfl) (hM.get 0 rfl) hi0 (map_len hi1)) fun a hS => ?_
          refine st_val hS rfl rfl (by decide) (rv_load_el (hS.ev rfl) ty_ag_3 (hM.get 0 rfl) (mget hex72)) fun a hS => ?_
          obtain ⟨_, hx, hF⟩ := bind_some hF
          have hi0 := nnO_some hx
          refine st_val hS rfl rfl (by decide) (rv_shl (hS.ev rfl) (hS.ev rfl) hi0) fun a hS => ?_
          refine st_val hS rfl rfl (by decide) (rv_sub (hS.ev rfl) (hS.ev rfl)) fun a hS => ?_
          refine st_val hS rfl rfl (by decide) (rv_assign (hS.ev rfl)) fun a hS => ?_
          refine wpList_nil ?_
          refine hK70 _ _ ?_
          refine wp_region_lit ?_
          refine st_val hS rfl rfl (by decide) (rv_move (hS.ev rfl)) fun a hS => ?_
          refine st_val hS rfl rfl (by decide) (rv_add (hS.ev rfl) (hS.ev rfl)) fun a hS => ?_
          refine st_val hS rfl rfl (by decide) (rv_assign (hS.ev rfl)) fun a hS => ?_
          refine wpList_nil ?_
          cases hF
          exact hN3 _ _ _ rfl ⟨(hS.sub (sub_cons rfl (sub_cons rfl (sub_cons rfl (sub_cons rfl (sub_cons rfl sub_nil)))))), (hM.pick [0, 1, 2] (by decide) rfl)⟩
        · refine cond_f hS rfl hc ?_
          refine wp_exit ?_
          cases hF
          exact hJ2 x48 _ _ (hS.sub (sub_cons rfl (sub_cons rfl (sub_cons rfl sub_nil)))) (hM.pick [1, 2] (by decide) rfl) (by have e := hX3 _ rfl; subst e; exact hF3)
      refine wp_region_lit ?_
      refine st_val hS rfl rfl (by decide) (rv_move (hS.ev rfl)) fun a hS => ?_
      refine st_val hS rfl rfl (by decide) (rv_move (hS.ev rfl)) fun a hS => ?_
      refine st_val hS rfl rfl (by decide) (rv_len_rowM Try.underlying22 (hS.ev rfl) (hM.get 0 rfl)) fun a hS => ?_
      refine st_val hS rfl rfl (by decide) (rv_lss (hS.ev rfl) (hS.ev rfl)) fun a hS => ?_
      refine st_val hS rfl rfl (by decide) (rv_move (hS.ev rfl)) fun a hS => ?_
      rcases ite_some hF with ⟨hc, hF⟩ | ⟨hc, hF⟩
      · have hS := hS.setb (t := 31) rfl hc
        refine st_val hS rfl rfl (by decide) (rv_move (hS.ev rfl)) fun a hS => ?_
        refine st_val hS rfl rfl (by decide) (rv_move (hS.ev rfl)) fun a hS => ?_
        obtain ⟨x73, hx, hF⟩ := bind_some hF
        obtain ⟨hi0, hi1, hex73⟩ := idxL_some hx
        refine st_val hS rfl rfl (by decide) (rv_indexAddr Try.underlying22 ty_el_3 (hS.ev rfl) (hS.ev rfl) (hM.get 0 rfl) hi0 (map_len hi1)) fun a hS => ?_
        refine st_val hS rfl rfl (by decide) (rv_load_el (hS.ev rfl) ty_ag_3 (hM.get 0 rfl) (mget hex73)) fun a hS => ?_
        refine st_val hS rfl rfl (by decide) (rv_move (hS.ev rfl)) fun a hS => ?_
        refine st_val hS rfl rfl (by decide) (rv_neq (hS.ev rfl) (hS.ev rfl)) fun a hS => ?_
        refine st_val hS rfl rfl (by decide) (rv_pick_t (hS.ev rfl) (hS.ev rfl)) fun a hS => ?_
        refine wpList_nil ?_
        exact hJ4 (x73 != p2_v) _ _ (hS.sub (sub_cons rfl (sub_cons rfl (sub_cons rfl (sub_cons rfl (sub_cons rfl (sub_cons rfl sub_nil))))))) (hM.pick [0, 1, 2] (by decide) rfl) hF
      · have hS := hS.setb (t := 31) rfl hc
        refine st_skip hS rfl rfl (by decide) fun a hS => ?_
        refine st_skip hS rfl rfl (by decide) fun a hS => ?_
        refine st_skip hS rfl rfl (by decide) fun a hS => ?_
        refine st_skip hS rfl rfl (by decide) fun a hS => ?_
        refine st_skip hS rfl rfl (by decide) fun a hS => ?_
        refine st_skip hS rfl rfl (by decide) fun a hS => ?_
        refine st_val hS rfl rfl (by decide) (rv_pick_f (hS.ev rfl) (hS.ev rfl)) fun a hS => ?_
        refine wpList_nil ?_
        exact hJ4 false _ _ (hS.sub (sub_cons rfl (sub_cons rfl (sub_cons rfl (sub_cons rfl (sub_cons rfl (sub_cons rfl sub_nil))))))) (hM.pick [0, 1, 2] (by decide) rfl) hF
  refine wp_region_lit ?_
  refine st_val hS rfl rfl (by decide) (rv_load_agg (hS.ev rfl) ty_ag_27 (hM.get 0 rfl) ty_sz_27) fun a hS => ?_
  refine st_val hS rfl rfl (by decide) (rv_move (hS.ev rfl)) fun a hS => ?_
  obtain ⟨r74, hr, hF⟩ := bind_some hF
  refine st_wp hS rfl (wp_call hS rfl rfl (by decide) fn_ok_64 rfl (c_spec_IsOrder F p0_g_Size p0_g_Rows p1_order p0_g_Rowsv p1_orderv hr _ (hM.get 1 rfl) (hM.get 2 rfl)) fun v w a hK hS => ?_)
  obtain ⟨rfl, hN⟩ := hK
  have hM := hM.fra hN.fr
  refine st_val hS rfl rfl (by decide) (rv_not (hS.ev rfl)) fun a hS => ?_
  refine st_val hS rfl rfl (by decide) (rv_move (hS.ev rfl)) fun a hS => ?_
  rcases ite_some hF with ⟨hc, hF⟩ | ⟨hc, hF⟩
  · have hS := hS.setb (t := 13) rfl hc
    refine st_skip hS rfl rfl (by decide) fun a hS => ?_
    refine st_skip hS rfl rfl (by decide) fun a hS => ?_
    refine st_val hS rfl rfl (by decide) (rv_pick_t (hS.ev rfl) (hS.ev rfl)) fun a hS => ?_
    refine st_val hS rfl rfl (by decide) (rv_move (hS.ev rfl)) fun a hS => ?_
    refine st_skip hS rfl rfl (by decide) fun a hS => ?_
    refine st_skip hS rfl rfl (by decide) fun a hS => ?_
    refine st_skip hS rfl rfl (by decide) fun a hS => ?_
    refine st_skip hS rfl rfl (by decide) fun a hS => ?_
    refine st_val hS rfl rfl (by decide) (rv_pick_t (hS.ev rfl) (hS.ev rfl)) fun a hS => ?_
    refine wpList_nil ?_
    exact hJ1 true _ _ (hS.sub (sub_cons rfl (sub_cons rfl (sub_cons rfl (sub_cons rfl sub_nil))))) (hM.pick [2, 0, 1] (by decide) rfl) hF
  · have hS := hS.setb (t := 13) rfl hc
    refine st_val hS rfl rfl (by decide) (rv_move (hS.ev rfl)) fun a hS => ?_
    refine st_val hS rfl rfl (by decide) (rv_lss (hS.ev rfl) (hS.ev rfl)) fun a hS => ?_
    refine st_val hS rfl rfl (by decide) (rv_pick_f (hS.ev rfl) (hS.ev rfl)) fun a hS => ?_
    refine st_val hS rfl rfl (by decide) (rv_move (hS.ev rfl)) fun a hS => ?_
    rcases ite_some hF with ⟨hc, hF⟩ | ⟨hc, hF⟩
    · have hS := hS.setb (t := 17) rfl hc
      refine st_skip hS rfl rfl (by decide) fun a hS => ?_
      refine st_skip hS rfl rfl (by decide) fun a hS => ?_
      refine st_skip hS rfl rfl (by decide) fun a hS => ?_
      refine st_skip hS rfl rfl (by decide) fun a hS => ?_
      refine st_val hS rfl rfl (by decide) (rv_pick_t (hS.ev rfl) (hS.ev rfl)) fun a hS => ?_
      refine wpList_nil ?_
      exact hJ1 true _ _ (hS.sub (sub_cons rfl (sub_cons rfl (sub_cons rfl (sub_cons rfl sub_nil))))) (hM.pick [2, 0, 1] (by decide) rfl) hF
    · have hS := hS.setb (t := 17) rfl hc
      refine st_val hS rfl rfl (by decide) (rv_move (hS.ev rfl)) fun a hS => ?_
      refine st_val hS rfl rfl (by decide) (rv_fieldAddr ty_fd_27_0 (hS.ev rfl)) fun a hS => ?_
      refine st_val hS rfl rfl (by decide) (rv_load_bx (hS.ev rfl) ty_ag_3 (hM.get 0 rfl) rfl) fun a hS => ?_
      refine st_val hS rfl rfl (by decide) (rv_geq (hS.ev rfl) (hS.ev rfl)) fun a hS => ?_
      refine st_val hS rfl rfl (by decide) (rv_pick_f (hS.ev rfl) (hS.ev rfl)) fun a hS => ?_
      refine wpList_nil ?_
      exact hJ1 (decide (p0_g_Size ≤ p2_v)) _ _ (hS.sub (sub_cons rfl (sub_cons rfl (sub_cons rfl (sub_cons rfl sub_nil))))) (hM.pick [2, 0, 1] (by decide) rfl) hF


theorem c_impl_IsOrder (F : Nat) (p0_g_Size : Int) (p0_g_Rows : List Int) (p1_l : List Int) (p0_g_Rowsv : Value) (p1_lv : Value) {r : Bool} (hF : S_impl_IsOrder F p0_g_Size p0_g_Rows p1_l = some r) (w0 : World) (h0 : RdRow w0 p0_g_Rowsv (List.map (Value.int IntKind.i64) p0_g_Rows)) (h1 : RdRow w0 p1_lv (List.map (Value.int IntKind.i64) p1_l)) :
    Calls Try.prog 65 [(Value.agg #[(Value.int IntKind.i64 p0_g_Size), p0_g_Rowsv]), p1_lv].toArray w0 (retPost fun v w' => v = (Value.bool r) ∧ Mem Nob w0 w' []) := by
  have hM : Mem Nob w0 w0 [(false, rd p0_g_Rowsv (List.map (Value.int IntKind.i64) p0_g_Rows)), (false, rd p1_lv (List.map (Value.int IntKind.i64) p1_l))] := (Mem.rcons (Mem.rcons (Mem.nil w0) h1 (by simp)) h0 (by simp))
  refine enter2 Try.func65 rfl rfl rfl fun Q a hQr hQn hQp hS => ?_
  have hS : Sl 15 [(0, (Value.agg #[(Value.int IntKind.i64 p0_g_Size), p0_g_Rowsv])), (1, p1_lv)] a := hS
  unfold S_impl_IsOrder at hF
  refine wp_seq_k fun K1 hK1 => ?_
  refine wp_region_lit ?_
  obtain ⟨b3, w, hr, hM⟩ := hM.boxE (ρ := a.eval) (dst := some 2) (ty := _) (pos := _) (af := _) (gd := _) (x := .tmp 0) (T := 27) [(Value.int IntKind.i64 p0_g_Size), p0_g_Rowsv] (hS.ev rfl) rfl
  refine st_val hS rfl rfl (by decide) hr fun a hS => ?_
  refine st_val hS rfl rfl (by decide) (rv_assign (hS.ev rfl)) fun a hS => ?_
  refine wpList_nil ?_
  refine hK1 _ _ ?_
  refine wp_seq_k fun K4 hK4 => ?_
  have hJ1 : ∀ (p6 : Bool) (a : Act) (w : World), Sl 15 [(4, (Value.bool p6))] a → Mem Nob w0 w [] → S_impl_IsOrder_j1 F p6 = some r → K4 a w := by
    intro p6 a w hS hM hF
    unfold S_impl_IsOrder_j1 at hF
    refine hK4 _ _ ?_
    refine wp_ret ?_
    cases hF
    exact hQr _ _ (r_1 hS rfl rfl ⟨rfl, hM.pick [] (by decide) rfl⟩)
  refine wp_region_lit ?_
  refine st_val hS rfl rfl (by decide) (rv_load_agg (hS.ev rfl) ty_ag_27 (hM.get 0 rfl) ty_sz_27) fun a hS => ?_
  refine st_val hS rfl rfl (by decide) (rv_move (hS.ev rfl)) fun a hS => ?_
  obtain ⟨r7, hr, hF⟩ := bind_some hF
  refine st_wp hS rfl (wp_call hS rfl rfl (by decide) fn_ok_82 rfl (c_impl_areVertices F p0_g_Size p0_g_Rows p1_l p0_g_Rowsv p1_lv hr _ (hM.get 1 rfl) (hM.get 2 rfl)) fun v w a hK hS => ?_)
  obtain ⟨rfl, hN⟩ := hK
  have hM := hM.fra hN.fr
  refine st_val hS rfl rfl (by decide) (rv_move (hS.ev rfl)) fun a hS => ?_
  rcases ite_some hF with ⟨hc, hF⟩ | ⟨hc, hF⟩
  · have hS := hS.setb (t := 8) rfl hc
    refine st_val hS rfl rfl (by decide) (rv_move (hS.ev rfl)) fun a hS => ?_
    refine st_val hS rfl rfl (by decide) (rv_len_rowM Try.underlying22 (hS.ev rfl) (hM.get 2 rfl)) fun a hS => ?_
    refine st_val hS rfl rfl (by decide) (rv_fieldAddr ty_fd_27_0 (hS.ev rfl)) fun a hS => ?_
    refine st_val hS rfl rfl (by decide) (rv_load_bx (hS.ev rfl) ty_ag_3 (hM.get 0 rfl) rfl) fun a hS => ?_
    refine st_val hS rfl rfl (by decide) (rv_eql (hS.ev rfl) (hS.ev rfl)) fun a hS => ?_
    refine st_val hS rfl rfl (by decide) (rv_pick_t (hS.ev rfl) (hS.ev rfl)) fun a hS => ?_
    refine st_val hS rfl rfl (by decide) (rv_assign (hS.ev rfl)) fun a hS => ?_
    refine wpList_nil ?_
    exact hJ1 ((p1_l.length : Int) == p0_g_Size) _ _ (hS.sub (sub_cons rfl sub_nil)) (hM.pick [] (by decide) rfl) hF
  · have hS := hS.setb (t := 8) rfl hc
    refine st_skip hS rfl rfl (by decide) fun a hS => ?_
    refine st_skip hS rfl rfl (by decide) fun a hS => ?_
    refine st_skip hS rfl rfl (by decide) fun a hS => ?_
    refine st_skip hS rfl rfl (by decide) fun a hS => ?_
    refine st_skip hS rfl rfl (by decide) fun a hS => ?_
    refine st_val hS rfl rfl (by decide) (rv_pick_f (hS.ev rfl) (hS.ev rfl)) fun a hS => ?_
    refine st_val hS rfl rfl (by decide) (rv_assign (hS.ev rfl)) fun a hS => ?_
    refine wpList_nil ?_
    exact hJ1 false _ _ (hS.sub (sub_cons rfl sub_nil)) (hM.pick [] (by decide) rfl) hF


theorem c_impl_SetOf (F : Nat) (p0_l : List Int) (p0_lv : Value) {r : Int × Bool} (hF : S_impl_SetOf F p0_l = some r) (w0 : World) (h0 : RdRow w0 p0_lv (List.map (Value.int IntKind.i64) p0_l)) :
    Calls Try.prog 67 [p0_lv].toArray w0 (retPost fun v w' => v = (Value.tuple #[(Value.int IntKind.i64 r.1), (Value.bool r.2)]) ∧ Mem Nob w0 w' []) := by
  have hM : Mem Nob w0 w0 [(false, rd p0_lv (List.map (Value.int IntKind.i64) p0_l))] := (Mem.rcons (Mem.nil w0) h0 (by simp))
  refine enter2 Try.func67 rfl rfl rfl fun Q a hQr hQn hQp hS => ?_
  have hS : Sl 27 [(0, p0_lv)] a := hS
  unfold S_impl_SetOf at hF
  refine wp_seq_k fun K1 hK1 => ?_
  refine wp_region_lit ?_
  refine st_val hS rfl rfl (by decide) (rv_assign (hS.ev rfl)) fun a hS => ?_
  refine st_val hS rfl rfl (by decide) (rv_assign (hS.ev rfl)) fun a hS => ?_
  refine wpList_nil ?_
  refine hK1 _ _ ?_
  refine wp_seq_k fun K2 hK2 => ?_
  refine wp_region_lit ?_
  refine st_val hS rfl rfl (by decide) (rv_assign (hS.ev rfl)) fun a hS => ?_
  refine wpList_nil ?_
  refine hK2 _ _ ?_
  refine wp_seq_k fun K3 hK3 => ?_
  have hJ1 : ∀ (x85 : Int) (a : Act) (w : World), Sl 27 [(4, (Value.int IntKind.i64 x85))] a → Mem Nob w0 w [] → S_impl_SetOf_j1 F x85 = some r → K3 a w := by
    intro x85 a w hS hM hF
    unfold S_impl_SetOf_j1 at hF
    refine hK3 _ _ ?_
    refine wp_seq_k fun K86 hK86 => ?_
    refine wp_region_lit ?_
    refine st_val hS rfl rfl (by decide) (rv_move (hS.ev rfl)) fun a hS => ?_
    refine st_val hS rfl rfl (by decide) (rv_assign (hS.ev rfl)) fun a hS => ?_
    refine st_val hS rfl rfl (by decide) (rv_assign (hS.ev rfl)) fun a hS => ?_
    refine wpList_nil ?_
    refine hK86 _ _ ?_
    refine wp_ret ?_
    cases hF
    exact hQr _ _ (r_2 hS rfl rfl rfl ⟨rfl, hM.pick [] (by decide) rfl⟩)
  refine wp_seq_k fun K87 hK87 => ?_
  refine wp_region_lit ?_
  refine st_val hS rfl rfl (by decide) (rv_move (hS.ev rfl)) fun a hS => ?_
  refine st_val hS rfl rfl (by decide) (rv_len_rowM Try.underlying22 (hS.ev rfl) (hM.get 0 rfl)) fun a hS => ?_
  refine st_val hS rfl rfl (by decide) (rv_move (hS.ev rfl)) fun a hS => ?_
  refine wpList_nil ?_
  refine hK87 _ _ ?_
  refine wp_block ?_
  obtain ⟨lb2, hl2, hF2⟩ := bind_some hF
  refine wp_loop_sh (fun s => S_impl_SetOf_l2 F p0_l s.1 s.2) (fun s a w => Sl 27 [(4, (Value.int IntKind.i64 s.1)), (7, p0_lv), (8, (Value.int IntKind.i64 (p0_l.length : Int))), (9, (Value.int IntKind.i64 s.2))] a ∧ Mem Nob w0 w [(false, rd p0_lv (List.map (Value.int IntKind.i64) p0_l))]) hl2 ⟨(hS.sub (sub_cons rfl (sub_cons rfl (sub_cons rfl (sub_cons rfl sub_nil))))), (hM.pick [0] (by decide) rfl)⟩ ?_
  rintro K2 ⟨x88, x89⟩ a w res2 ⟨hS, hM⟩ hF hN2 hX2
  have hF : S_impl_SetOf_l2 F p0_l x88 x89 = some res2 := hF
  have hS : Sl 27 [(4, (Value.int IntKind.i64 x88)), (7, p0_lv), (8, (Value.int IntKind.i64 (p0_l.length : Int))), (9, (Value.int IntKind.i64 x89))] a := hS
  have hM : Mem Nob w0 w [(false, rd p0_lv (List.map (Value.int IntKind.i64) p0_l))] := hM
  unfold S_impl_SetOf_l2 at hF
  refine wp_seq_k fun K129 hK129 => ?_
  refine wp_region_lit ?_
  refine st_val hS rfl rfl (by decide) (rv_lss (hS.ev rfl) (hS.ev rfl)) fun a hS => ?_
  refine wpList_nil ?_
  refine hK129 _ _ ?_
  refine wp_seq_k fun K130 hK130 => ?_
  rcases ite_some hF with ⟨hc, hF⟩ | ⟨hc, hF⟩
  · refine cond_t hS rfl hc ?_
    refine wp_skip ?_
    refine hK130 _ _ ?_
    refine wp_seq_k fun K131 hK131 => ?_
    refine wp_block ?_
    refine wp_seq_k fun K150 hK150 => ?_
    refine wp_region_lit ?_
    obtain ⟨x152, hx, hF⟩ := bind_some hF
    obtain ⟨hi0, hi1, hex152⟩ := idxL_some hx
    refine st_val hS rfl rfl (by decide) (rv_indexAddr Try.underlying22 ty_el_3 (hS.ev rfl) (hS.ev rfl) (hM.get 0 rfl) hi0 (map_len hi1)) fun a hS => ?_
    refine st_val hS rfl rfl (by decide) (rv_load_el (hS.ev rfl) ty_ag_3 (hM.get 0 rfl) (mget hex152)) fun a hS => ?_
    refine st_val hS rfl rfl (by decide) (rv_assign (hS.ev rfl)) fun a hS => ?_
    refine wpList_nil ?_
    refine hK150 _ _ ?_
    refine wp_seq_k fun K153 hK153 => ?_
    refine wp_seq_k fun K161 hK161 => ?_
    have hJ3 : ∀ (p164 : Bool) (a : Act) (w : World), Sl 27 [(4, (Value.int IntKind.i64 x88)), (6, (Value.int IntKind.i64 x152)), (7, p0_lv), (8, (Value.int IntKind.i64 (p0_l.length : Int))), (9, (Value.int IntKind.i64 x89)), (20, (Value.bool p164))] a → Mem Nob w0 w [(false, rd p0_lv (List.map (Value.int IntKind.i64) p0_l))] → S_impl_SetOf_j3 F x88 x89 x152 p164 = some res2 → K161 a w := by
      intro p164 a w hS hM hF
      unfold S_impl_SetOf_j3 at hF
      refine hK161 _ _ ?_
      rcases ite_some hF with ⟨hc, hF⟩ | ⟨hc, hF⟩
      · refine cond_t hS rfl hc ?_
        refine wp_seq_k fun K165 hK165 => ?_
        refine wp_region_lit ?_
        refine st_val hS rfl rfl (by decide) (rv_assign (hS.ev rfl)) fun a hS => ?_
        refine st_val hS rfl rfl (by decide) (rv_assign (hS.ev rfl)) fun a hS => ?_
        refine wpList_nil ?_
        refine hK165 _ _ ?_
        refine wp_ret ?_
        cases hF
        have e := hX2 _ rfl
        subst e
        have hF := hF2
        cases hF
        exact hQr _ _ (r_2 hS rfl rfl rfl ⟨rfl, hM.pick [] (by decide) rfl⟩)
      · refine cond_f hS rfl hc ?_
        refine wp_skip ?_
        refine hK153 _ _ ?_
        refine wp_region_lit ?_
        refine st_val hS rfl rfl (by decide) (rv_move (hS.ev rfl)) fun a hS => ?_
        refine st_val hS rfl rfl (by decide) (rv_move (hS.ev rfl)) fun a hS => ?_
        obtain ⟨_, hx, hF⟩ := bind_some hF
        have hi0 := nnO_some hx
        refine st_val hS rfl rfl (by decide) (rv_shl (hS.ev rfl) (hS.ev rfl) hi0) fun a hS => ?_
        refine st_val hS rfl rfl (by decide) (rv_or (hS.ev rfl) (hS.ev rfl)) fun a hS => ?_
        refine st_val hS rfl rfl (by decide) (rv_assign (hS.ev rfl)) fun a hS => ?_
        refine wpList_nil ?_
        refine hK131 _ _ ?_
        refine wp_region_lit ?_
        refine st_val hS rfl rfl (by decide) (rv_add (hS.ev rfl) (hS.ev rfl)) fun a hS => ?_
        refine st_val hS rfl rfl (by decide) (rv_move (hS.ev rfl)) fun a hS => ?_
        refine wpList_nil ?_
        cases hF
        exact hN2 _ _ _ rfl ⟨(hS.sub (sub_cons rfl (sub_cons rfl (sub_cons rfl (sub_cons rfl sub_nil))))), (hM.pick [0] (by decide) rfl)⟩
    refine wp_region_lit ?_
    refine st_val hS rfl rfl (by decide) (rv_move (hS.ev rfl)) fun a hS => ?_
    obtain ⟨r166, hr, hF⟩ := bind_some hF
    refine st_wp hS rfl (wp_call hS rfl rfl (by decide) fn_ok_66 rfl (c_impl_within F x152 0 6 hr _) fun v w a hK hS => ?_)
    obtain ⟨rfl, hN⟩ := hK
    have hM := hM.fra hN.fr
    refine st_val hS rfl rfl (by decide) (rv_not (hS.ev rfl)) fun a hS => ?_
    refine st_val hS rfl rfl (by decide) (rv_move (hS.ev rfl)) fun a hS => ?_
    rcases ite_some hF with ⟨hc, hF⟩ | ⟨hc, hF⟩
    · have hS := hS.setb (t := 16) rfl hc
      refine st_skip hS rfl rfl (by decide) fun a hS => ?_
      refine st_skip hS rfl rfl (by decide) fun a hS => ?_
      refine st_skip hS rfl rfl (by decide) fun a hS => ?_
      refine st_val hS rfl rfl (by decide) (rv_pick_t (hS.ev rfl) (hS.ev rfl)) fun a hS => ?_
      refine wpList_nil ?_
      exact hJ3 true _ _ (hS.sub (sub_cons rfl (sub_cons rfl (sub_cons rfl (sub_cons rfl (sub_cons rfl (sub_cons rfl sub_nil))))))) (hM.pick [0] (by decide) rfl) hF
    · have hS := hS.setb (t := 16) rfl hc
      refine st_val hS rfl rfl (by decide) (rv_move (hS.ev rfl)) fun a hS => ?_
      refine st_val hS rfl rfl (by decide) (rv_move (hS.ev rfl)) fun a hS => ?_
      obtain ⟨r167, hr, hF⟩ := bind_some hF
      refine st_wp hS rfl (wp_call hS rfl rfl (by decide) fn_ok_74 rfl (c_impl_has F x88 x152 hr _) fun v w a hK hS => ?_)
      obtain ⟨rfl, hN⟩ := hK
      have hM := hM.fra hN.fr
      refine st_val hS rfl rfl (by decide) (rv_pick_f (hS.ev rfl) (hS.ev rfl)) fun a hS => ?_
      refine wpList_nil ?_
      exact hJ3 r167 _ _ (hS.sub (sub_cons rfl (sub_cons rfl (sub_cons rfl (sub_cons rfl (sub_cons rfl (sub_cons rfl sub_nil))))))) (hM.pick [0] (by decide) rfl) hF
  · refine cond_f hS rfl hc ?_
    refine wp_exit ?_
    cases hF
    exact hJ1 x88 _ _ (hS.sub (sub_cons rfl sub_nil)) (hM.pick [] (by decide) rfl) (by have e := hX2 _ rfl; subst e; exact hF2)


theorem c_impl_LaterNeighbours (F : Nat) (p0_g_Size : Int) (p0_g_Rows : List Int) (p1_order : List Int) (p2_v : Int) (p0_g_Rowsv : Value) (p1_orderv : Value) {r : Int} (hF : S_impl_LaterNeighbours F p0_g_Size p0_g_Rows p1_order p2_v = some r) (w0 : World) (h0 : RdRow w0 p0_g_Rowsv (List.map (Value.int IntKind.i64) p0_g_Rows)) (h1 : RdRow w0 p1_orderv (List.map (Value.int IntKind.i64) p1_order)) :
    Calls Try.prog 31 [(Value.agg #[(Value.int IntKind.i64 p0_g_Size), p0_g_Rowsv]), p1_orderv, (Value.int IntKind.i64 p2_v)].toArray w0 (retPost fun v w' => v = (Value.int IntKind.i64 r) ∧ Mem Nob w0 w' []) := by
  have hM : Mem Nob w0 w0 [(false, rd p0_g_Rowsv (List.map (Value.int IntKind.i64) p0_g_Rows)), (false, rd p1_orderv (List.map (Value.int IntKind.i64) p1_order))] := (Mem.rcons (Mem.rcons (Mem.nil w0) h1 (by simp)) h0 (by simp))
  refine enter2 Try.func31 rfl rfl rfl fun Q a hQr hQn hQp hS => ?_
  have hS : Sl 37 [(0, (Value.agg #[(Value.int IntKind.i64 p0_g_Size), p0_g_Rowsv])), (1, p1_orderv), (2, (Value.int IntKind.i64 p2_v))] a := hS
  unfold S_impl_LaterNeighbours at hF
  refine wp_seq_k fun K1 hK1 => ?_
  refine wp_region_lit ?_
  obtain ⟨b3, w, hr, hM⟩ := hM.boxE (ρ := a.eval) (dst := some 3) (ty := _) (pos := _) (af := _) (gd := _) (x := .tmp 0) (T := 27) [(Value.int IntKind.i64 p0_g_Size), p0_g_Rowsv] (hS.ev rfl) rfl
  refine st_val hS rfl rfl (by decide) hr fun a hS => ?_
  refine st_val hS rfl rfl (by decide) (rv_assign (hS.ev rfl)) fun a hS => ?_
  refine wpList_nil ?_
  refine hK1 _ _ ?_
  refine wp_seq_k fun K4 hK4 => ?_
  refine wp_seq_k fun K12 hK12 => ?_
  have hJ1 : ∀ (p15 : Bool) (a : Act) (w : World), Sl 37 [(1, p1_orderv), (2, (Value.int IntKind.i64 p2_v)), (3, (fdp b3 0)), (20, (Value.bool p15))] a → Mem Nob w0 w [(false, rd p1_orderv (List.map (Value.int IntKind.i64) p1_order)), (true, bx b3 27 [(Value.int IntKind.i64 p0_g_Size), p0_g_Rowsv]), (false, rd p0_g_Rowsv (List.map (Value.int IntKind.i64) p0_g_Rows))] → S_impl_LaterNeighbours_j1 F p0_g_Rows p1_order p2_v p15 = some r → K12 a w := by
    intro p15 a w hS hM hF
    unfold S_impl_LaterNeighbours_j1 at hF
    refine hK12 _ _ ?_
    rcases ite_some hF with ⟨hc, hF⟩ | ⟨hc, hF⟩
    · refine cond_t hS rfl hc ?_
      refine wp_seq_k fun K16 hK16 => ?_
      refine wp_region_lit ?_
      refine st_val hS rfl rfl (by decide) (rv_assign (hS.ev rfl)) fun a hS => ?_
      refine wpList_nil ?_
      refine hK16 _ _ ?_
      refine wp_ret ?_
      cases hF
      exact hQr _ _ (r_1 hS rfl rfl ⟨rfl, hM.pick [] (by decide) rfl⟩)
    · refine cond_f hS rfl hc ?_
      refine wp_skip ?_
      refine hK4 _ _ ?_
      refine wp_seq_k fun K17 hK17 => ?_
      refine wp_region_lit ?_
      refine st_val hS rfl rfl (by decide) (rv_move (hS.ev rfl)) fun a hS => ?_
      refine st_val hS rfl rfl (by decide) (rv_move (hS.ev rfl)) fun a hS => ?_
      refine st_val hS rfl rfl (by decide) (rv_move (hS.ev rfl)) fun a hS => ?_
      obtain ⟨r21, hr, hF⟩ := bind_some hF
      refine st_wp hS rfl (wp_call hS rfl rfl (by decide) fn_ok_68 rfl (c_slices_Index_int F p1_order p2_v p1_orderv hr _ (hM.get 0 rfl)) fun v w a hK hS => ?_)
      obtain ⟨rfl, hN⟩ := hK
      have hM := hM.fra hN.fr
      obtain ⟨_, hx, hF⟩ := bind_some hF
      have hj22 := slO_some hx
      refine st_val hS rfl rfl (by decide) (rv_slL Try.underlying22 ty_el_3 (hS.ev rfl) (hS.ev rfl) (hM.get 0 rfl) hj22.1 (map_le hj22.2)) fun a hS => ?_
      obtain ⟨r23, hr, hF⟩ := bind_some hF
      refine st_wp hS rfl (wp_call hS rfl rfl (by decide) fn_ok_67 rfl (c_impl_SetOf F (p1_order.drop (r21.toNat)) (slL p1_orderv (r21.toNat)) hr _ (rd_slLm (hM.get 0 rfl) hj22.2)) fun v w a hK hS => ?_)
      obtain ⟨rfl, hN⟩ := hK
      have hM := hM.fra hN.fr
      refine st_val hS rfl rfl (by decide) (rv_move (hS.ev rfl)) fun a hS => ?_
      refine st_val hS rfl rfl (by decide) (rv_extract (hS.ev rfl) rfl) fun a hS => ?_
      refine st_val hS rfl rfl (by decide) (rv_extract (hS.ev rfl) rfl) fun a hS => ?_
      refine st_val hS rfl rfl (by decide) (rv_assign (hS.ev rfl)) fun a hS => ?_
      refine st_val hS rfl rfl (by decide) (rv_assign (hS.ev rfl)) fun a hS => ?_
      refine wpList_nil ?_
      refine hK17 _ _ ?_
      refine wp_seq_k fun K24 hK24 => ?_
      refine wp_region_lit ?_
      refine st_val hS rfl rfl (by decide) (rv_fieldAddr ty_fd_27_1 (hS.ev rfl)) fun a hS => ?_
      refine st_val hS rfl rfl (by decide) (rv_load_bx (hS.ev rfl) ty_ag_22 (hM.get 1 rfl) rfl) fun a hS => ?_
      refine st_val hS rfl rfl (by decide) (rv_move (hS.ev rfl)) fun a hS => ?_
      obtain ⟨x26, hx, hF⟩ := bind_some hF
      obtain ⟨hi0, hi1, hex26⟩ := idxL_some hx
      refine st_val hS rfl rfl (by decide) (rv_indexAddr Try.underlying22 ty_el_3 (hS.ev rfl) (hS.ev rfl) (hM.get 2 rfl) hi0 (map_len hi1)) fun a hS => ?_
      refine st_val hS rfl rfl (by decide) (rv_load_el (hS.ev rfl) ty_ag_3 (hM.get 2 rfl) (mget hex26)) fun a hS => ?_
      refine st_val hS rfl rfl (by decide) (rv_move (hS.ev rfl)) fun a hS => ?_
      refine st_val hS rfl rfl (by decide) (rv_and (hS.ev rfl) (hS.ev rfl)) fun a hS => ?_
      refine st_val hS rfl rfl (by decide) (rv_assign (hS.ev rfl)) fun a hS => ?_
      refine wpList_nil ?_
      refine hK24 _ _ ?_
      refine wp_ret ?_
      cases hF
      exact hQr _ _ (r_1 hS rfl rfl ⟨rfl, hM.pick [] (by decide) rfl⟩)
  refine wp_region_lit ?_
  refine st_val hS rfl rfl (by decide) (rv_load_agg (hS.ev rfl) ty_ag_27 (hM.get 0 rfl) ty_sz_27) fun a hS => ?_
  refine st_val hS rfl rfl (by decide) (rv_move (hS.ev rfl)) fun a hS => ?_
  obtain ⟨r27, hr, hF⟩ := bind_some hF
  refine st_wp hS rfl (wp_call hS rfl rfl (by decide) fn_ok_65 rfl (c_impl_IsOrder F p0_g_Size p0_g_Rows p1_order p0_g_Rowsv p1_orderv hr _ (hM.get 1 rfl) (hM.get 2 rfl)) fun v w a hK hS => ?_)
  obtain ⟨rfl, hN⟩ := hK
  have hM := hM.fra hN.fr
  refine st_val hS rfl rfl (by decide) (rv_not (hS.ev rfl)) fun a hS => ?_
  refine st_val hS rfl rfl (by decide) (rv_move (hS.ev rfl)) fun a hS => ?_
  rcases ite_some hF with ⟨hc, hF⟩ | ⟨hc, hF⟩
  · have hS := hS.setb (t := 13) rfl hc
    refine st_skip hS rfl rfl (by decide) fun a hS => ?_
    refine st_skip hS rfl rfl (by decide) fun a hS => ?_
    refine st_skip hS rfl rfl (by decide) fun a hS => ?_
    refine st_skip hS rfl rfl (by decide) fun a hS => ?_
    refine st_skip hS rfl rfl (by decide) fun a hS => ?_
    refine st_skip hS rfl rfl (by decide) fun a hS => ?_
    refine st_val hS rfl rfl (by decide) (rv_pick_t (hS.ev rfl) (hS.ev rfl)) fun a hS => ?_
    refine wpList_nil ?_
    exact hJ1 true _ _ (hS.sub (sub_cons rfl (sub_cons rfl (sub_cons rfl (sub_cons rfl sub_nil))))) (hM.pick [2, 0, 1] (by decide) rfl) hF
  · have hS := hS.setb (t := 13) rfl hc
    refine st_val hS rfl rfl (by decide) (rv_move (hS.ev rfl)) fun a hS => ?_
    refine st_val hS rfl rfl (by decide) (rv_fieldAddr ty_fd_27_0 (hS.ev rfl)) fun a hS => ?_
    refine st_val hS rfl rfl (by decide) (rv_load_bx (hS.ev rfl) ty_ag_3 (hM.get 0 rfl) rfl) fun a hS => ?_
    refine st_val hS rfl rfl (by decide) (rv_sub (hS.ev rfl) (hS.ev rfl)) fun a hS => ?_
    obtain ⟨r28, hr, hF⟩ := bind_some hF
    refine st_wp hS rfl (wp_call hS rfl rfl (by decide) fn_ok_66 rfl (c_impl_within F p2_v 0 (IntKind.i64.wrap (p0_g_Size - 1)) hr _) fun v w a hK hS => ?_)
    obtain ⟨rfl, hN⟩ := hK
    have hM := hM.fra hN.fr
    refine st_val hS rfl rfl (by decide) (rv_not (hS.ev rfl)) fun a hS => ?_
    refine st_val hS rfl rfl (by decide) (rv_pick_f (hS.ev rfl) (hS.ev rfl)) fun a hS => ?_
    refine wpList_nil ?_
    exact hJ1 (!r28) _ _ (hS.sub (sub_cons rfl (sub_cons rfl (sub_cons rfl (sub_cons rfl sub_nil))))) (hM.pick [2, 0, 1] (by decide) rfl) hF


theorem c_laws_FnExactLaterNeighbours (F : Nat) (p0_aG_Size : Int) (p0_aG_Rows : List Int) (p1_aOrder : List Int) (p2_aV : Int) (p0_aG_Rowsv : Value) (p1_aOrderv : Value) {r : Bool} (hF : S_laws_FnExactLaterNeighbours F p0_aG_Size p0_aG_Rows p1_aOrder p2_aV = some r) (w0 : World) (h0 : RdRow w0 p0_aG_Rowsv (List.map (Value.int IntKind.i64) p0_aG_Rows)) (h1 : RdRow w0 p1_aOrderv (List.map (Value.int IntKind.i64) p1_aOrder)) :
    Calls Try.prog 7 [(Value.agg #[(Value.int IntKind.i64 p0_aG_Size), p0_aG_Rowsv]), p1_aOrderv, (Value.int IntKind.i64 p2_aV)].toArray w0 (retPost fun v w' => v = (Value.bool r) ∧ Mem Nob w0 w' []) := by
  have hM : Mem Nob w0 w0 [(false, rd p0_aG_Rowsv (List.map (Value.int IntKind.i64) p0_aG_Rows)), (false, rd p1_aOrderv (List.map (Value.int IntKind.i64) p1_aOrder))] := (Mem.rcons (Mem.rcons (Mem.nil w0) h1 (by simp)) h0 (by simp))
  refine enter2 Try.func7 rfl rfl rfl fun Q a hQr hQn hQp hS => ?_
  have hS : Sl 47 [(0, (Value.agg #[(Value.int IntKind.i64 p0_aG_Size), p0_aG_Rowsv])), (1, p1_aOrderv), (2, (Value.int IntKind.i64 p2_aV))] a := hS
  unfold S_laws_FnExactLaterNeighbours at hF
  refine wp_seq_k fun K1 hK1 => ?_
  refine wp_region_lit ?_
  obtain ⟨b3, w, hr, hM⟩ := hM.boxE (ρ := a.eval) (dst := some 3) (ty := _) (pos := _) (af := _) (gd := _) (x := .tmp 0) (T := 24) [(Value.int IntKind.i64 p0_aG_Size), p0_aG_Rowsv] (hS.ev rfl) rfl
  refine st_val hS rfl rfl (by decide) hr fun a hS => ?_
  refine st_val hS rfl rfl (by decide) (rv_assign (hS.ev rfl)) fun a hS => ?_
  refine wpList_nil ?_
  refine hK1 _ _ ?_
  refine wp_seq_k fun K4 hK4 => ?_
  refine wp_seq_k fun K7 hK7 => ?_
  refine wp_region_lit ?_
  refine st_val hS rfl rfl (by decide) (rv_move (hS.ev rfl)) fun a hS => ?_
  refine st_val hS rfl rfl (by decide) (rv_len_rowM Try.underlying22 (hS.ev rfl) (hM.get 2 rfl)) fun a hS => ?_
  refine st_val hS rfl rfl (by decide) (rv_gtr (hS.ev rfl) (hS.ev rfl)) fun a hS => ?_
  refine wpList_nil ?_
  refine hK7 _ _ ?_
  rcases ite_some hF with ⟨hc, hF⟩ | ⟨hc, hF⟩
  · refine cond_t hS rfl hc ?_
    refine wp_seq_k fun K8 hK8 => ?_
    refine wp_region_lit ?_
    refine st_val hS rfl rfl (by decide) (rv_assign (hS.ev rfl)) fun a hS => ?_
    refine wpList_nil ?_
    refine hK8 _ _ ?_
    refine wp_ret ?_
    cases hF
    exact hQr _ _ (r_1 hS rfl rfl ⟨rfl, hM.pick [] (by decide) rfl⟩)
  · refine cond_f hS rfl hc ?_
    refine wp_skip ?_
    refine hK4 _ _ ?_
    refine wp_seq_k fun K9 hK9 => ?_
    refine wp_region_lit ?_
    refine st_val hS rfl rfl (by decide) (rv_assign (hS.ev rfl)) fun a hS => ?_
    refine wpList_nil ?_
    refine hK9 _ _ ?_
    refine wp_seq_k fun K10 hK10 => ?_
    refine wp_region_lit ?_
    refine st_val hS rfl rfl (by decide) (rv_load_agg (hS.ev rfl) ty_ag_24 (hM.get 0 rfl) ty_sz_24) fun a hS => ?_
    refine st_val hS rfl rfl (by decide) (rv_move (hS.ev rfl)) fun a hS => ?_
    obtain ⟨r12, hr, hF⟩ := bind_some hF
    refine st_wp hS rfl (wp_call hS rfl rfl (by decide) fn_ok_15 rfl (c_laws_szGraph F p0_aG_Size p0_aG_Rows 1048576 p0_aG_Rowsv hr _ (hM.get 1 rfl)) fun v w a hK hS => ?_)
    obtain ⟨rfl, hN⟩ := hK
    have hM := hM.fra hN.fr
    refine st_val hS rfl rfl (by decide) (rv_assign (hS.ev rfl)) fun a hS => ?_
    refine wpList_nil ?_
    refine hK10 _ _ ?_
    refine wp_seq_k fun K13 hK13 => ?_
    refine wp_seq_k fun K16 hK16 => ?_
    refine wp_region_lit ?_
    refine st_val hS rfl rfl (by decide) (rv_move (hS.ev rfl)) fun a hS => ?_
    refine st_val hS rfl rfl (by decide) (rv_lss (hS.ev rfl) (hS.ev rfl)) fun a hS => ?_
    refine wpList_nil ?_
    refine hK16 _ _ ?_
    rcases ite_some hF with ⟨hc, hF⟩ | ⟨hc, hF⟩
    · refine cond_t hS rfl hc ?_
      refine wp_seq_k fun K17 hK17 => ?_
      refine wp_region_lit ?_
      refine st_val hS rfl rfl (by decide) (rv_assign (hS.ev rfl)) fun a hS => ?_
      refine wpList_nil ?_
      refine hK17 _ _ ?_
      refine wp_ret ?_
      cases hF
      exact hQr _ _ (r_1 hS rfl rfl ⟨rfl, hM.pick [] (by decide) rfl⟩)
    · refine cond_f hS rfl hc ?_
      refine wp_skip ?_
      refine hK13 _ _ ?_
      refine wp_seq_k fun K18 hK18 => ?_
      refine wp_region_lit ?_
      refine st_val hS rfl rfl (by decide) (rv_load_agg (hS.ev rfl) ty_ag_24 (hM.get 0 rfl) ty_sz_24) fun a hS => ?_
      obtain ⟨r24, hr, hF⟩ := bind_some hF
      refine st_wp hS rfl (wp_call hS rfl rfl (by decide) fn_ok_17 rfl (c_laws_toGraph F p0_aG_Size p0_aG_Rows p0_aG_Rowsv hr _ (hM.get 1 rfl)) fun v w a hK hS => ?_)
      obtain ⟨v25, rfl, hN⟩ := hK
      have hM := hM.add hN rfl
      refine st_val hS rfl rfl (by decide) (rv_move (hS.ev rfl)) fun a hS => ?_
      obtain ⟨r26, hr, hF⟩ := bind_some hF
      refine st_wp hS rfl (wp_call hS rfl rfl (by decide) fn_ok_25 rfl (c_laws_toIntS F p1_aOrder p1_aOrderv hr _ (hM.get 3 rfl)) fun v27 w a hK hS => ?_)
      have hN := hK
      have hM := hM.add hN rfl
      refine st_val hS rfl rfl (by decide) (rv_move (hS.ev rfl)) fun a hS => ?_
      obtain ⟨r28, hr, hF⟩ := bind_some hF
      refine st_wp hS rfl (wp_call hS rfl rfl (by decide) fn_ok_30 rfl (c_spec_LaterNeighbours F r24.1 r24.2 r26 p2_aV v25 v27 hr _ (rd_of_ow (hM.get 1 rfl)) (rd_of_ow (hM.get 0 rfl))) fun v w a hK hS => ?_)
      obtain ⟨rfl, hN⟩ := hK
      have hM := hM.fra hN.fr
      refine st_val hS rfl rfl (by decide) (rv_assign (hS.ev rfl)) fun a hS => ?_
      refine wpList_nil ?_
      refine hK18 _ _ ?_
      refine wp_seq_k fun K29 hK29 => ?_
      refine wp_region_lit ?_
      refine st_val hS rfl rfl (by decide) (rv_load_agg (hS.ev rfl) ty_ag_24 (hM.get 2 rfl) ty_sz_24) fun a hS => ?_
      obtain ⟨r33, hr, hF⟩ := bind_some hF
      refine st_wp hS rfl (wp_call hS rfl rfl (by decide) fn_ok_17 rfl (c_laws_toGraph F p0_aG_Size p0_aG_Rows p0_aG_Rowsv hr _ (hM.get 3 rfl)) fun v w a hK hS => ?_)
      obtain ⟨v34, rfl, hN⟩ := hK
      have hM := hM.add hN rfl
      obtain ⟨b35, w, hr, hM⟩ := hM.allocE (ρ := a.eval) (dst := some 9) (ty := _) (pos := _) (af := _) (gd := _) (T := 27) (P := Try.prog) [(Value.int IntKind.i64 0), (Value.slice none 0 0)] ty_zr_27 rfl
      refine st_val hS rfl rfl (by decide) hr fun a hS => ?_
      have hM := hM.addNil 3
      have hM := hM.pick [1, 0, 2, 3, 4, 5, 6, 7] (by decide) rfl
      obtain ⟨w, hr, hM⟩ := hM.st_agg (us := [(Value.int IntKind.i64 r33.1), v34]) (ρ := a.eval) (dst := none) (ty := _) (pos := _) (af := _) (gd := _) (x := .tmp 9) (y := .tmp 27) (hS.ev rfl) (hS.ev rfl) ty_sz_27 (all1_cons rfl (all1_cons (rd_one (rd_of_ow (hM.get 2 rfl))) all1_nil)) rfl
      refine st_unit hS rfl rfl hr ?_
      refine wpList_nil ?_
      refine hK29 _ _ ?_
      refine wp_seq_k fun K36 hK36 => ?_
      refine wp_region_lit ?_
      refine st_val hS rfl rfl (by decide) (rv_move (hS.ev rfl)) fun a hS => ?_
      obtain ⟨r39, hr, hF⟩ := bind_some hF
      refine st_wp hS rfl (wp_call hS rfl rfl (by decide) fn_ok_25 rfl (c_laws_toIntS F p1_aOrder p1_aOrderv hr _ (hM.get 7 rfl)) fun v40 w a hK hS => ?_)
      have hN := hK
      have hM := hM.add hN rfl
      refine st_val hS rfl rfl (by decide) (rv_assign (hS.ev rfl)) fun a hS => ?_
      refine wpList_nil ?_
      refine hK36 _ _ ?_
      refine wp_seq_k fun K41 hK41 => ?_
      refine wp_region_lit ?_
      refine st_val hS rfl rfl (by decide) (rv_load_agg (hS.ev rfl) ty_ag_27 (hM.get 1 rfl) ty_sz_27) fun a hS => ?_
      refine st_val hS rfl rfl (by decide) (rv_move (hS.ev rfl)) fun a hS => ?_
      refine st_val hS rfl rfl (by decide) (rv_move (hS.ev rfl)) fun a hS => ?_
      obtain ⟨r43, hr, hF⟩ := bind_some hF
      refine st_wp hS rfl (wp_call hS rfl rfl (by decide) fn_ok_31 rfl (c_impl_LaterNeighbours F r33.1 r33.2 r39 p2_aV v34 v40 hr _ (rd_of_ow (hM.get 3 rfl)) (rd_of_ow (hM.get 0 rfl))) fun v w a hK hS => ?_)
      obtain ⟨rfl, hN⟩ := hK
      have hM := hM.fra hN.fr
      refine st_val hS rfl rfl (by decide) (rv_assign (hS.ev rfl)) fun a hS => ?_
      refine wpList_nil ?_
      refine hK41 _ _ ?_
      refine wp_seq_k fun K44 hK44 => ?_
      refine wp_seq_k fun K47 hK47 => ?_
      refine wp_region_lit ?_
      refine st_val hS rfl rfl (by decide) (rv_move (hS.ev rfl)) fun a hS => ?_
      refine st_val hS rfl rfl (by decide) (rv_move (hS.ev rfl)) fun a hS => ?_
      refine st_val hS rfl rfl (by decide) (rv_neq (hS.ev rfl) (hS.ev rfl)) fun a hS => ?_
      refine wpList_nil ?_
      refine hK47 _ _ ?_
      rcases ite_some hF with ⟨hc, hF⟩ | ⟨hc, hF⟩
      · refine cond_t hS rfl hc ?_
        refine wp_seq_k fun K48 hK48 => ?_
        refine wp_region_lit ?_
        refine st_val hS rfl rfl (by decide) (rv_assign (hS.ev rfl)) fun a hS => ?_
        refine wpList_nil ?_
        refine hK48 _ _ ?_
        refine wp_ret ?_
        cases hF
        exact hQr _ _ (r_1 hS rfl rfl ⟨rfl, hM.pick [] (by decide) rfl⟩)
      · refine cond_f hS rfl hc ?_
        refine wp_skip ?_
        refine hK44 _ _ ?_
        refine wp_seq_k fun K49 hK49 => ?_
        refine wp_seq_k fun K58 hK58 => ?_
        refine an_start Nob ty_mixed fun w hf => ?_
        have hM := hM.fra hf
        have hB := hM
        have hM := hB.reg0
        refine an_take hS (i := 0) rfl (by kernel_rfl) (by kernel_rfl) (by kernel_rfl) rfl (by decide) (fun c a a' w hd h => hQp c a a' w hd h) rfl (fun w' hC' => (rv_load_agg (hS.ev rfl) ty_ag_27 ((hB.fra hC').get 1 rfl) ty_sz_27)) hM.fr fun a hS => ?_
        refine an_take hS (i := 1) rfl (by kernel_rfl) (by kernel_rfl) (by kernel_rfl) rfl (by decide) (fun c a a' w hd h => hQp c a a' w hd h) rfl (fun w' hC' => (rv_load_agg (hS.ev rfl) ty_ag_24 ((hB.fra hC').get 6 rfl) ty_sz_24)) hM.fr fun a hS => ?_
        obtain ⟨r62, hr, hF⟩ := bind_some hF
        refine an_one hS (i := 2) rfl (by kernel_rfl) rfl ?_
        refine wp_call hS rfl rfl (by decide) fn_ok_17 rfl (c_laws_toGraph F p0_aG_Size p0_aG_Rows p0_aG_Rowsv hr _ (hM.get 7 rfl)) fun v w a hK hS => ?_
        obtain ⟨v63, rfl, hN⟩ := hK
        have hM := hM.add hN rfl
        refine ⟨hM.fr, ?_⟩
        obtain ⟨r64, hr, hF⟩ := bind_some hF
        refine an_one hS (i := 3) rfl (by kernel_rfl) rfl ?_
        refine wp_call hS rfl rfl (by decide) fn_ok_19 rfl (c_laws_eqGraph F r33.1 r33.2 r62.1 r62.2 v34 v63 hr _ (rd_of_ow (hM.get 4 rfl)) (rd_of_ow (hM.get 0 rfl))) fun v w a hK hS => ?_
        obtain ⟨rfl, hN⟩ := hK
        have hM := hM.fra hN.fr
        refine ⟨hM.fr, ?_⟩
        refine an_take hS (i := 4) rfl (by kernel_rfl) (by kernel_rfl) (by kernel_rfl) rfl (by decide) (fun c a a' w hd h => hQp c a a' w hd h) rfl (fun w' hC' => (rv_not (hS.ev rfl))) hM.fr fun a hS => ?_
        refine an_done (by kernel_rfl) ?_
        have hN := hM.pick [0] (by decide) rfl
        have hM := Mem.callo (A := []) (B := [(true, ow 3 v40 (List.map (Value.int IntKind.i64) r39)), (true, bx b35 27 [(Value.int IntKind.i64 r33.1), v34]), (true, ow 3 (Value.slice none 0 0) (List.map (Value.int IntKind.i64) ([] : List (Int)))), (true, ow 3 v34 (List.map (Value.int IntKind.i64) r33.2)), (true, ow 3 v27 (List.map (Value.int IntKind.i64) r26)), (true, ow 3 v25 (List.map (Value.int IntKind.i64) r24.2)), (true, bx b3 24 [(Value.int IntKind.i64 p0_aG_Size), p0_aG_Rowsv]), (false, rd p0_aG_Rowsv (List.map (Value.int IntKind.i64) p0_aG_Rows)), (false, rd p1_aOrderv (List.map (Value.int IntKind.i64) p1_aOrder))]) hB rfl (hN.memS fun _ h => h.elim) rfl
        refine hK58 _ _ ?_
        rcases ite_some hF with ⟨hc, hF⟩ | ⟨hc, hF⟩
        · refine cond_t hS rfl hc ?_
          refine wp_seq_k fun K65 hK65 => ?_
          refine wp_region_lit ?_
          refine st_val hS rfl rfl (by decide) (rv_assign (hS.ev rfl)) fun a hS => ?_
          refine wpList_nil ?_
          refine hK65 _ _ ?_
          refine wp_ret ?_
          cases hF
          exact hQr _ _ (r_1 hS rfl rfl ⟨rfl, hM.pick [] (by decide) rfl⟩)
        · refine cond_f hS rfl hc ?_
          refine wp_skip ?_
          refine hK49 _ _ ?_
          refine wp_seq_k fun K66 hK66 => ?_
          refine wp_seq_k fun K75 hK75 => ?_
          refine wp_region_lit ?_
          refine st_val hS rfl rfl (by decide) (rv_move (hS.ev rfl)) fun a hS => ?_
          refine st_val hS rfl rfl (by decide) (rv_move (hS.ev rfl)) fun a hS => ?_
          obtain ⟨r79, hr, hF⟩ := bind_some hF
          refine st_wp hS rfl (wp_call hS rfl rfl (by decide) fn_ok_25 rfl (c_laws_toIntS F p1_aOrder p1_aOrderv hr _ (hM.get 9 rfl)) fun v80 w a hK hS => ?_)
          have hN := hK
          have hM := hM.add hN rfl
          obtain ⟨r81, hr, hF⟩ := bind_some hF
          refine st_wp hS rfl (wp_call hS rfl rfl (by decide) fn_ok_27 rfl (c_laws_eqIntS F r39 r79 v40 v80 hr _ (rd_of_ow (hM.get 2 rfl)) (rd_of_ow (hM.get 0 rfl))) fun v w a hK hS => ?_)
          obtain ⟨rfl, hN⟩ := hK
          have hM := hM.fra hN.fr
          refine st_val hS rfl rfl (by decide) (rv_not (hS.ev rfl)) fun a hS => ?_
          refine wpList_nil ?_
          refine hK75 _ _ ?_
          rcases ite_some hF with ⟨hc, hF⟩ | ⟨hc, hF⟩
          · refine cond_t hS rfl hc ?_
            refine wp_seq_k fun K82 hK82 => ?_
            refine wp_region_lit ?_
            refine st_val hS rfl rfl (by decide) (rv_assign (hS.ev rfl)) fun a hS => ?_
            refine wpList_nil ?_
            refine hK82 _ _ ?_
            refine wp_ret ?_
            cases hF
            exact hQr _ _ (r_1 hS rfl rfl ⟨rfl, hM.pick [] (by decide) rfl⟩)
          · refine cond_f hS rfl hc ?_
            refine wp_skip ?_
            refine hK66 _ _ ?_
            refine wp_seq_k fun K83 hK83 => ?_
            refine wp_region_lit ?_
            refine st_val hS rfl rfl (by decide) (rv_assign (hS.ev rfl)) fun a hS => ?_
            refine wpList_nil ?_
            refine hK83 _ _ ?_
            refine wp_ret ?_
            cases hF
            exact hQr _ _ (r_1 hS rfl rfl ⟨rfl, hM.pick [] (by decide) rfl⟩)


end Go.Proofs.Ytfhjmoikggiblaa
