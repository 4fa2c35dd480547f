/- Proved here: that each Go function does what its shallow function says -/
import Derived.Test.YtilfniehellmmaaSh
import Derived.Test.YtilfniehellmmaaTy
import Derived.Test.YtilfniehellmmaaK13
import Derived.Test.YtilfniehellmmaaW0
import Derived.Test.YtilfniehellmmaaW1
import Derived.Test.YtilfniehellmmaaW2
namespace Go.Proofs.Ytilfniehellmmaa
open Go Go.RowKit
set_option linter.unusedVariables false
set_option linter.unusedSimpArgs false
set_option maxRecDepth 100000
set_option maxHeartbeats 40000000

open Go.IntKind (i64)
open Go.Value (int)
theorem c_impl_IsInducedPath_c1 (F : Nat) (p0_i : Int) (p1_k : Int) {r : Bool} (hF : S_impl_IsInducedPath_c1 F p0_i p1_k = some r) (w0 : World) :
    Calls Try.prog 88 [(int i64 p0_i), (int i64 p1_k)].toArray w0 (retPost fun v w' => v = (Value.bool r) ∧ Mem Nob w0 w' []) := by
 have hM : Mem Nob w0 w0 [] := (Mem.nil w0)
 refine enter2 Try.func88 rfl rfl rfl fun Q a hQr hQn hQp hS => ?_
 have hS : Sl 9 [(0, (int i64 p0_i)), (1, (int i64 p1_k))] a := hS
 unfold S_impl_IsInducedPath_c1 at hF
 refine wp_seq_k fun K1 hK1 => ?_
 refine wp_region_lit ?_
 refine st_val hS rfl rfl (by decide) (rv_assign (hS.ev rfl)) fun a hS => ?_
 refine wpList_nil ?_
 refine hK1 _ _ ?_
 refine wp_seq_k fun K2 hK2 => ?_
 refine wp_region_lit ?_
 refine st_val hS rfl rfl (by decide) (rv_move (hS.ev rfl)) fun a hS => ?_
 refine st_val hS rfl rfl (by decide) (rv_move (hS.ev rfl)) fun a hS => ?_
 refine st_val hS rfl rfl (by decide) (rv_add (hS.ev rfl) (hS.ev rfl)) fun a hS => ?_
 refine st_val hS rfl rfl (by decide) (rv_eql (hS.ev rfl) (hS.ev rfl)) fun a hS => ?_
 refine st_val hS rfl rfl (by decide) (rv_assign (hS.ev rfl)) fun a hS => ?_
 refine wpList_nil ?_
 refine hK2 _ _ ?_
 refine wp_ret ?_
 cases hF
 exact hQr _ _ (r_1 hS rfl rfl ⟨rfl, hM.pick [] (by decide) rfl⟩)


theorem c_impl_areJoined__IsInducedPathc1 (F : Nat) (p0_g_Size : Int) (p0_g_Rows : List Int) (p1_l : List Int) (p0_g_Rowsv : Value) (p1_lv : Value) {r : Bool} (hF : S_impl_areJoined__IsInducedPathc1 F p0_g_Size p0_g_Rows p1_l = some r) (w0 : World) (h0 : RdRow w0 p0_g_Rowsv (List.map (int i64) p0_g_Rows)) (h1 : RdRow w0 p1_lv (List.map (int i64) p1_l)) :
    Calls Try.prog 82 [(Value.agg #[(int i64 p0_g_Size), p0_g_Rowsv]), p1_lv, (Value.func (Fn.func 88) #[] #[])].toArray w0 (retPost fun v w' => v = (Value.bool r) ∧ Mem Nob w0 w' []) := by
 have hM : Mem Nob w0 w0 [(false, rd p0_g_Rowsv (List.map (int i64) p0_g_Rows)), (false, rd p1_lv (List.map (int i64) p1_l))] := (Mem.rcons (Mem.rcons (Mem.nil w0) h1 (by simp)) h0 (by simp))
 refine enter2 Try.func82 rfl rfl rfl fun Q a hQr hQn hQp hS => ?_
 have hS : Sl 42 [(0, (Value.agg #[(int i64 p0_g_Size), p0_g_Rowsv])), (1, p1_lv), (2, (Value.func (Fn.func 88) #[] #[]))] a := hS
 unfold S_impl_areJoined__IsInducedPathc1 at hF
 refine wp_seq_k fun K1 hK1 => ?_
 refine wp_region_lit ?_
 obtain ⟨b3, w, hr, hM⟩ := hM.boxE (ρ := a.eval) (dst := some 3) (ty := _) (pos := _) (af := _) (gd := _) (x := .tmp 0) (T := 28) [(int i64 p0_g_Size), p0_g_Rowsv] (hS.ev rfl) rfl
 refine st_val hS rfl rfl (by decide) hr fun a hS => ?_
 refine st_val hS rfl rfl (by decide) (rv_assign (hS.ev rfl)) fun a hS => ?_
 refine wpList_nil ?_
 refine hK1 _ _ ?_
 refine wp_seq_k fun K4 hK4 => ?_
 refine wp_seq_k fun K9 hK9 => ?_
 refine wp_region_lit ?_
 refine st_val hS rfl rfl (by decide) (rv_load_agg (hS.ev rfl) ty_ag_28 (hM.get 0 rfl) ty_sz_28) fun a hS => ?_
 refine st_val hS rfl rfl (by decide) (rv_move (hS.ev rfl)) fun a hS => ?_
 obtain ⟨r11, hr, hF⟩ := bind_some hF
 refine st_wp hS rfl (wp_call hS rfl rfl (by decide) fn_ok_107 rfl (c_impl_areVertices F p0_g_Size p0_g_Rows p1_l p0_g_Rowsv p1_lv hr _ (hM.get 1 rfl) (hM.get 2 rfl)) fun v w a hK hS => ?_)
 obtain ⟨rfl, hN⟩ := hK
 have hM := hM.fra hN.fr
 refine st_val hS rfl rfl (by decide) (rv_not (hS.ev rfl)) fun a hS => ?_
 refine wpList_nil ?_
 refine hK9 _ _ ?_
 rcases ite_some hF with ⟨hc, hF⟩ | ⟨hc, hF⟩
 ·refine cond_t hS rfl hc ?_
  refine wp_seq_k fun K12 hK12 => ?_
  refine wp_region_lit ?_
  refine st_val hS rfl rfl (by decide) (rv_assign (hS.ev rfl)) fun a hS => ?_
  refine wpList_nil ?_
  refine hK12 _ _ ?_
  have hS : Sl 42 [(6, (Value.bool false))] a := hS.sub (sub_cons rfl sub_nil)
  have hM := hM.pick [] (by decide) rfl
  refine wp_ret ?_
  cases hF
  exact hQr _ _ (r_1 hS rfl rfl ⟨rfl, hM.pick [] (by decide) rfl⟩)
 ·refine cond_f hS rfl hc ?_
  refine wp_skip ?_
  refine hK4 _ _ ?_
  refine wp_seq_k fun K13 hK13 => ?_
  have hJ1 : ∀ (a : Act) (w : World), Sl 42 [] a → Mem Nob w0 w [] → S_impl_areJoined__IsInducedPathc1_j1 F = some r → K13 a w := by
   intro a w hS hM hF
   unfold S_impl_areJoined__IsInducedPathc1_j1 at hF
   refine hK13 _ _ ?_
   refine wp_seq_k fun K266 hK266 => ?_
   refine wp_region_lit ?_
   refine st_val hS rfl rfl (by decide) (rv_assign (hS.ev rfl)) fun a hS => ?_
   refine wpList_nil ?_
   refine hK266 _ _ ?_
   refine wp_ret ?_
   cases hF
   exact hQr _ _ (r_1 hS rfl rfl ⟨rfl, hM.pick [] (by decide) rfl⟩)
  refine wp_seq_k fun K267 hK267 => ?_
  refine wp_region_lit ?_
  refine st_val hS rfl rfl (by decide) (rv_move (hS.ev rfl)) fun a hS => ?_
  refine st_val hS rfl rfl (by decide) (rv_len_rowM Try.underlying22 (hS.ev rfl) (hM.get 2 rfl)) fun a hS => ?_
  refine st_val hS rfl rfl (by decide) (rv_move (hS.ev rfl)) fun a hS => ?_
  refine wpList_nil ?_
  refine hK267 _ _ ?_
  refine wp_block ?_
  obtain ⟨lb2, hl2, hF2⟩ := bind_some hF
  refine wp_loop_sh (fun s => S_impl_areJoined__IsInducedPathc1_l2 F p0_g_Rows p1_l s) (fun s a w => Sl 42 [(1, p1_lv), (2, (Value.func (Fn.func 88) #[] #[])), (3, (fdp b3 0)), (14, (int i64 (p1_l.length : Int))), (15, (int i64 s))] a ∧ Mem Nob w0 w [(false, rd p1_lv (List.map (int i64) p1_l)), (true, bx b3 28 [(int i64 p0_g_Size), p0_g_Rowsv]), (false, rd p0_g_Rowsv (List.map (int i64) p0_g_Rows))]) hl2 ⟨(hS.sub (sub_cons rfl (sub_cons rfl (sub_cons rfl (sub_cons rfl (sub_cons rfl sub_nil)))))), (hM.pick [2, 0, 1] (by decide) rfl)⟩ ?_
  rintro K2 x268 a w res2 ⟨hS, hM⟩ hF hN2 hX2
  have hF : S_impl_areJoined__IsInducedPathc1_l2 F p0_g_Rows p1_l x268 = some res2 := hF
  have hS : Sl 42 [(1, p1_lv), (2, (Value.func (Fn.func 88) #[] #[])), (3, (fdp b3 0)), (14, (int i64 (p1_l.length : Int))), (15, (int i64 x268))] a := hS
  have hM : Mem Nob w0 w [(false, rd p1_lv (List.map (int i64) p1_l)), (true, bx b3 28 [(int i64 p0_g_Size), p0_g_Rowsv]), (false, rd p0_g_Rowsv (List.map (int i64) p0_g_Rows))] := hM
  unfold S_impl_areJoined__IsInducedPathc1_l2 at hF
  refine wp_seq_k fun K394 hK394 => ?_
  refine wp_region_lit ?_
  refine st_val hS rfl rfl (by decide) (rv_lss (hS.ev rfl) (hS.ev rfl)) fun a hS => ?_
  refine wpList_nil ?_
  refine hK394 _ _ ?_
  refine wp_seq_k fun K395 hK395 => ?_
  rcases ite_some hF with ⟨hc, hF⟩ | ⟨hc, hF⟩
  ·refine cond_t hS rfl hc ?_
   refine wp_skip ?_
   refine hK395 _ _ ?_
   refine wp_seq_k fun K396 hK396 => ?_
   have hJ3 : ∀ (a : Act) (w : World), Sl 42 [(1, p1_lv), (2, (Value.func (Fn.func 88) #[] #[])), (3, (fdp b3 0)), (14, (int i64 (p1_l.length : Int))), (15, (int i64 x268))] a → Mem Nob w0 w [(false, rd p1_lv (List.map (int i64) p1_l)), (true, bx b3 28 [(int i64 p0_g_Size), p0_g_Rowsv]), (false, rd p0_g_Rowsv (List.map (int i64) p0_g_Rows))] → S_impl_areJoined__IsInducedPathc1_j3 F x268 = some res2 → K396 a w := by
    intro a w hS hM hF
    unfold S_impl_areJoined__IsInducedPathc1_j3 at hF
    refine hK396 _ _ ?_
    refine wp_region_lit ?_
    refine st_val hS rfl rfl (by decide) (rv_add (hS.ev rfl) (hS.ev rfl)) fun a hS => ?_
    refine st_val hS rfl rfl (by decide) (rv_move (hS.ev rfl)) fun a hS => ?_
    refine wpList_nil ?_
    cases hF
    exact hN2 _ _ _ rfl ⟨(hS.sub (sub_cons rfl (sub_cons rfl (sub_cons rfl (sub_cons rfl (sub_cons rfl sub_nil)))))), (hM.pick [0, 1, 2] (by decide) rfl)⟩
   refine wp_block ?_
   refine wp_seq_k fun K458 hK458 => ?_
   refine wp_region_lit ?_
   refine st_val hS rfl rfl (by decide) (rv_move (hS.ev rfl)) fun a hS => ?_
   refine st_val hS rfl rfl (by decide) (rv_assign (hS.ev rfl)) fun a hS => ?_
   refine wpList_nil ?_
   refine hK458 _ _ ?_
   refine wp_seq_k fun K459 hK459 => ?_
   refine wp_region_lit ?_
   refine st_val hS rfl rfl (by decide) (rv_move (hS.ev rfl)) fun a hS => ?_
   refine st_val hS rfl rfl (by decide) (rv_move (hS.ev rfl)) fun a hS => ?_
   refine wpList_nil ?_
   refine hK459 _ _ ?_
   refine wp_block ?_
   obtain ⟨lb4, hl4, hF4⟩ := bind_some hF
   refine wp_loop_sh (fun s => S_impl_areJoined__IsInducedPathc1_l4 F p0_g_Rows p1_l x268 s) (fun s a w => Sl 42 [(1, p1_lv), (2, (Value.func (Fn.func 88) #[] #[])), (3, (fdp b3 0)), (7, (int i64 x268)), (14, (int i64 (p1_l.length : Int))), (15, (int i64 x268)), (18, (int i64 x268)), (19, (int i64 s))] a ∧ Mem Nob w0 w [(false, rd p1_lv (List.map (int i64) p1_l)), (true, bx b3 28 [(int i64 p0_g_Size), p0_g_Rowsv]), (false, rd p0_g_Rowsv (List.map (int i64) p0_g_Rows))]) hl4 ⟨(hS.sub (sub_cons rfl (sub_cons rfl (sub_cons rfl (sub_cons rfl (sub_cons rfl (sub_cons rfl (sub_cons rfl (sub_cons rfl sub_nil))))))))), (hM.pick [0, 1, 2] (by decide) rfl)⟩ ?_
   rintro K4 x460 a w res4 ⟨hS, hM⟩ hF hN4 hX4
   have hF : S_impl_areJoined__IsInducedPathc1_l4 F p0_g_Rows p1_l x268 x460 = some res4 := hF
   have hS : Sl 42 [(1, p1_lv), (2, (Value.func (Fn.func 88) #[] #[])), (3, (fdp b3 0)), (7, (int i64 x268)), (14, (int i64 (p1_l.length : Int))), (15, (int i64 x268)), (18, (int i64 x268)), (19, (int i64 x460))] a := hS
   have hM : Mem Nob w0 w [(false, rd p1_lv (List.map (int i64) p1_l)), (true, bx b3 28 [(int i64 p0_g_Size), p0_g_Rowsv]), (false, rd p0_g_Rowsv (List.map (int i64) p0_g_Rows))] := hM
   unfold S_impl_areJoined__IsInducedPathc1_l4 at hF
   refine wp_seq_k fun K490 hK490 => ?_
   refine wp_region_lit ?_
   refine st_val hS rfl rfl (by decide) (rv_lss (hS.ev rfl) (hS.ev rfl)) fun a hS => ?_
   refine wpList_nil ?_
   refine hK490 _ _ ?_
   refine wp_seq_k fun K491 hK491 => ?_
   rcases ite_some hF with ⟨hc, hF⟩ | ⟨hc, hF⟩
   ·refine cond_t hS rfl hc ?_
    refine wp_skip ?_
    refine hK491 _ _ ?_
    refine wp_seq_k fun K492 hK492 => ?_
    refine wp_block ?_
    refine wp_seq_k fun K506 hK506 => ?_
    refine wp_region_lit ?_
    refine st_val hS rfl rfl (by decide) (rv_move (hS.ev rfl)) fun a hS => ?_
    refine st_val hS rfl rfl (by decide) (rv_assign (hS.ev rfl)) fun a hS => ?_
    refine wpList_nil ?_
    refine hK506 _ _ ?_
    refine wp_seq_k fun K507 hK507 => ?_
    refine an_startB 18 Nob ty_mixed (by kernel_rfl) fun w hf => ?_
    have hM := hM.fra hf
    have hB := hM
    have hM := hB.reg0
    refine tkB hS 0 1 (by kernel_rfl) rfl rfl rfl hQp rfl (fun w' hC' => (rv_fieldAddr ty_fd_28_1 (hS.ev rfl))) hM.fr fun a hS => ?_
    refine tkB hS 1 3 (by kernel_rfl) rfl rfl rfl hQp rfl (fun w' hC' => (rv_load_bx (hS.ev rfl) ty_ag_22 ((hB.fra hC').get 1 rfl) rfl)) hM.fr fun a hS => ?_
    refine tkB hS 2 7 (by kernel_rfl) rfl rfl rfl hQp rfl (fun w' hC' => (rv_move (hS.ev rfl))) hM.fr fun a hS => ?_
    refine tkB hS 3 15 (by kernel_rfl) rfl rfl rfl hQp rfl (fun w' hC' => (rv_move (hS.ev rfl))) hM.fr fun a hS => ?_
    obtain ⟨x513, hx, hF⟩ := bind_some hF
    obtain ⟨hi0, hi1, hex513⟩ := idxL_some hx
    refine tkB hS 4 31 (by kernel_rfl) rfl rfl rfl hQp rfl (fun w' hC' => (rv_indexAddr Try.underlying22 ty_el_3 (hS.ev rfl) (hS.ev rfl) (hM.get 0 rfl) hi0 (map_len hi1))) hM.fr fun a hS => ?_
    refine tkB hS 5 63 (by kernel_rfl) rfl rfl rfl hQp rfl (fun w' hC' => (rv_load_el (hS.ev rfl) ty_ag_3 ((hB.fra hC').get 0 rfl) (mget hex513))) hM.fr fun a hS => ?_
    obtain ⟨x514, hx, hF⟩ := bind_some hF
    obtain ⟨hi0, hi1, hex514⟩ := idxL_some hx
    refine tkB hS 6 127 (by kernel_rfl) rfl rfl rfl hQp rfl (fun w' hC' => (rv_indexAddr Try.underlying22 ty_el_3 (hS.ev rfl) (hS.ev rfl) (hM.get 2 rfl) hi0 (map_len hi1))) hM.fr fun a hS => ?_
    refine tkB hS 7 255 (by kernel_rfl) rfl rfl rfl hQp rfl (fun w' hC' => (rv_load_el (hS.ev rfl) ty_ag_3 ((hB.fra hC').get 2 rfl) (mget hex514))) hM.fr fun a hS => ?_
    refine tkB hS 8 511 (by kernel_rfl) rfl rfl rfl hQp rfl (fun w' hC' => (rv_move (hS.ev rfl))) hM.fr fun a hS => ?_
    refine tkB hS 9 1023 (by kernel_rfl) rfl rfl rfl hQp rfl (fun w' hC' => (rv_move (hS.ev rfl))) hM.fr fun a hS => ?_
    obtain ⟨x515, hx, hF⟩ := bind_some hF
    obtain ⟨hi0, hi1, hex515⟩ := idxL_some hx
    refine tkB hS 10 2047 (by kernel_rfl) rfl rfl rfl hQp rfl (fun w' hC' => (rv_indexAddr Try.underlying22 ty_el_3 (hS.ev rfl) (hS.ev rfl) (hM.get 0 rfl) hi0 (map_len hi1))) hM.fr fun a hS => ?_
    refine tkB hS 11 4095 (by kernel_rfl) rfl rfl rfl hQp rfl (fun w' hC' => (rv_load_el (hS.ev rfl) ty_ag_3 ((hB.fra hC').get 0 rfl) (mget hex515))) hM.fr fun a hS => ?_
    refine tkB hS 13 12287 (by kernel_rfl) rfl rfl rfl hQp rfl (fun w' hC' => (rv_move (hS.ev rfl))) hM.fr fun a hS => ?_
    refine tkB hS 14 28671 (by kernel_rfl) rfl rfl rfl hQp rfl (fun w' hC' => (rv_move (hS.ev rfl))) hM.fr fun a hS => ?_
    refine tkB hS 15 61439 (by kernel_rfl) rfl rfl rfl hQp rfl (fun w' hC' => (rv_move (hS.ev rfl))) hM.fr fun a hS => ?_
    obtain ⟨r516, hr, hF⟩ := bind_some hF
    refine an_oneB hS (i := 12) 65535 (by kernel_rfl) rfl (by kernel_rfl) rfl ?_
    refine wp_call hS rfl rfl (by decide) fn_ok_108 rfl (c_impl_has F x514 x515 hr _) fun v w a hK hS => ?_
    obtain ⟨rfl, hN⟩ := hK
    have hM := hM.fra hN.fr
    refine ⟨hM.fr, ?_⟩
    obtain ⟨r517, hr, hF⟩ := bind_some hF
    refine an_oneB hS (i := 16) 131071 (by kernel_rfl) rfl (by kernel_rfl) rfl ?_
    refine wp_callv (vs := [(int i64 x460), (int i64 x268)]) (cap := []) hS rfl rfl rfl (by decide) fn_ok_88 rfl (c_impl_IsInducedPath_c1 F x460 x268 hr _) fun v w a hK hS => ?_
    obtain ⟨rfl, hN⟩ := hK
    have hM := hM.fra hN.fr
    refine ⟨hM.fr, ?_⟩
    refine tkB hS 17 262143 (by kernel_rfl) rfl rfl rfl hQp rfl (fun w' hC' => (rv_bneq Try.underlying4 (hS.ev rfl) (hS.ev rfl))) hM.fr fun a hS => ?_
    refine an_done (by kernel_rfl) ?_
    have hN := hM.pick [] (by decide) rfl
    have hM := Mem.callo0 hB hN rfl
    refine hK507 _ _ ?_
    have hS : Sl 42 [(1, p1_lv), (2, (Value.func (Fn.func 88) #[] #[])), (3, (fdp b3 0)), (7, (int i64 x268)), (14, (int i64 (p1_l.length : Int))), (15, (int i64 x268)), (18, (int i64 x268)), (19, (int i64 x460)), (39, (Value.bool (r516 != r517)))] a := hS.sub (sub_cons rfl (sub_cons rfl (sub_cons rfl (sub_cons rfl (sub_cons rfl (sub_cons rfl (sub_cons rfl (sub_cons rfl (sub_cons rfl sub_nil)))))))))
    rcases ite_some hF with ⟨hc, hF⟩ | ⟨hc, hF⟩
    ·refine cond_t hS rfl hc ?_
     refine wp_seq_k fun K518 hK518 => ?_
     refine wp_region_lit ?_
     refine st_val hS rfl rfl (by decide) (rv_assign (hS.ev rfl)) fun a hS => ?_
     refine wpList_nil ?_
     refine hK518 _ _ ?_
     have hS : Sl 42 [(6, (Value.bool false))] a := hS.sub (sub_cons rfl sub_nil)
     have hM := hM.pick [] (by decide) rfl
     refine wp_ret ?_
     cases hF
     have e := hX4 _ rfl
     subst e
     have hF := hF4
     cases hF
     have e := hX2 _ rfl
     subst e
     have hF := hF2
     cases hF
     exact hQr _ _ (r_1 hS rfl rfl ⟨rfl, hM.pick [] (by decide) rfl⟩)
    ·refine cond_f hS rfl hc ?_
     refine wp_skip ?_
     refine hK492 _ _ ?_
     refine wp_region_lit ?_
     refine st_val hS rfl rfl (by decide) (rv_add (hS.ev rfl) (hS.ev rfl)) fun a hS => ?_
     refine st_val hS rfl rfl (by decide) (rv_move (hS.ev rfl)) fun a hS => ?_
     refine wpList_nil ?_
     cases hF
     exact hN4 _ _ _ rfl ⟨(hS.sub (sub_cons rfl (sub_cons rfl (sub_cons rfl (sub_cons rfl (sub_cons rfl (sub_cons rfl (sub_cons rfl (sub_cons rfl sub_nil))))))))), (hM.pick [0, 1, 2] (by decide) rfl)⟩
   ·refine cond_f hS rfl hc ?_
    refine wp_exit ?_
    cases hF
    exact hJ3 _ _ (hS.sub (sub_cons rfl (sub_cons rfl (sub_cons rfl (sub_cons rfl (sub_cons rfl sub_nil)))))) (hM.pick [0, 1, 2] (by decide) rfl) (by have e := hX4 _ rfl; subst e; exact hF4)
  ·refine cond_f hS rfl hc ?_
   refine wp_exit ?_
   cases hF
   exact hJ1 _ _ (hS.sub sub_nil) (hM.pick [] (by decide) rfl) (by have e := hX2 _ rfl; subst e; exact hF2)


theorem c_impl_IsInducedPath (F : Nat) (p0_g_Size : Int) (p0_g_Rows : List Int) (p1_l : List Int) (p0_g_Rowsv : Value) (p1_lv : Value) {r : Bool} (hF : S_impl_IsInducedPath F p0_g_Size p0_g_Rows p1_l = some r) (w0 : World) (h0 : RdRow w0 p0_g_Rowsv (List.map (int i64) p0_g_Rows)) (h1 : RdRow w0 p1_lv (List.map (int i64) p1_l)) :
    Calls Try.prog 30 [(Value.agg #[(int i64 p0_g_Size), p0_g_Rowsv]), p1_lv].toArray w0 (retPost fun v w' => v = (Value.bool r) ∧ Mem Nob w0 w' []) := by
 have hM : Mem Nob w0 w0 [(false, rd p0_g_Rowsv (List.map (int i64) p0_g_Rows)), (false, rd p1_lv (List.map (int i64) p1_l))] := (Mem.rcons (Mem.rcons (Mem.nil w0) h1 (by simp)) h0 (by simp))
 refine enter2 Try.func30 rfl rfl rfl fun Q a hQr hQn hQp hS => ?_
 have hS : Sl 13 [(0, (Value.agg #[(int i64 p0_g_Size), p0_g_Rowsv])), (1, p1_lv)] a := hS
 unfold S_impl_IsInducedPath at hF
 refine wp_seq_k fun K1 hK1 => ?_
 refine wp_region_lit ?_
 obtain ⟨b3, w, hr, hM⟩ := hM.boxE (ρ := a.eval) (dst := some 2) (ty := _) (pos := _) (af := _) (gd := _) (x := .tmp 0) (T := 28) [(int i64 p0_g_Size), p0_g_Rowsv] (hS.ev rfl) rfl
 refine st_val hS rfl rfl (by decide) hr fun a hS => ?_
 refine st_val hS rfl rfl (by decide) (rv_assign (hS.ev rfl)) fun a hS => ?_
 refine wpList_nil ?_
 refine hK1 _ _ ?_
 refine wp_seq_k fun K4 hK4 => ?_
 have hJ1 : ∀ (p6 : Bool) (a : Act) (w : World), Sl 13 [(4, (Value.bool p6))] a → Mem Nob w0 w [] → S_impl_IsInducedPath_j1 F p6 = some r → K4 a w := by
  intro p6 a w hS hM hF
  unfold S_impl_IsInducedPath_j1 at hF
  refine hK4 _ _ ?_
  refine wp_ret ?_
  cases hF
  exact hQr _ _ (r_1 hS rfl rfl ⟨rfl, hM.pick [] (by decide) rfl⟩)
 refine wp_region_lit ?_
 refine st_val hS rfl rfl (by decide) (rv_move (hS.ev rfl)) fun a hS => ?_
 refine st_val hS rfl rfl (by decide) (rv_len_rowM Try.underlying22 (hS.ev rfl) (hM.get 2 rfl)) fun a hS => ?_
 refine st_val hS rfl rfl (by decide) (rv_gtr (hS.ev rfl) (hS.ev rfl)) fun a hS => ?_
 refine st_val hS rfl rfl (by decide) (rv_move (hS.ev rfl)) fun a hS => ?_
 rcases ite_some hF with ⟨hc, hF⟩ | ⟨hc, hF⟩
 ·have hS := hS.setb (t := 8) rfl hc
  refine st_val hS rfl rfl (by decide) (rv_load_agg (hS.ev rfl) ty_ag_28 (hM.get 0 rfl) ty_sz_28) fun a hS => ?_
  refine st_val hS rfl rfl (by decide) (rv_move (hS.ev rfl)) fun a hS => ?_
  obtain ⟨r7, hr, hF⟩ := bind_some hF
  refine st_wp hS rfl (wp_call hS rfl rfl (by decide) fn_ok_82 rfl (c_impl_areJoined__IsInducedPathc1 F p0_g_Size p0_g_Rows p1_l p0_g_Rowsv p1_lv hr _ (hM.get 1 rfl) (hM.get 2 rfl)) fun v w a hK hS => ?_)
  obtain ⟨rfl, hN⟩ := hK
  have hM := hM.fra hN.fr
  refine st_val hS rfl rfl (by decide) (rv_pick_t (hS.ev rfl) (hS.ev rfl)) fun a hS => ?_
  refine st_val hS rfl rfl (by decide) (rv_assign (hS.ev rfl)) fun a hS => ?_
  refine wpList_nil ?_
  exact hJ1 r7 _ _ (hS.sub (sub_cons rfl sub_nil)) (hM.pick [] (by decide) rfl) hF
 ·have hS := hS.setb (t := 8) rfl hc
  refine st_skip hS rfl rfl (by decide) fun a hS => ?_
  refine st_skip hS rfl rfl (by decide) fun a hS => ?_
  refine st_skip hS rfl rfl (by decide) fun a hS => ?_
  refine st_val hS rfl rfl (by decide) (rv_pick_f (hS.ev rfl) (hS.ev rfl)) fun a hS => ?_
  refine st_val hS rfl rfl (by decide) (rv_assign (hS.ev rfl)) fun a hS => ?_
  refine wpList_nil ?_
  exact hJ1 false _ _ (hS.sub (sub_cons rfl sub_nil)) (hM.pick [] (by decide) rfl) hF


theorem c_impl_FindInducedPath_c1 (F : Nat) (p0_l : List Int) (q0_Size : Int) (q0_Rows : List Int) (p0_lv : Value) (q0_Rowsv : Value) (q0b : Nat) {r : Bool} (hF : S_impl_FindInducedPath_c1 F p0_l q0_Size q0_Rows = some r) (w0 : World) (h0 : RdRow w0 p0_lv (List.map (int i64) p0_l)) (h1 : RdRow w0 q0_Rowsv (List.map (int i64) q0_Rows)) (h2 : (bx q0b 28 [(int i64 q0_Size), q0_Rowsv]).P w0) :
    Calls Try.prog 77 [p0_lv, (fdp q0b 0)].toArray w0 (retPost fun v w' => v = (Value.bool r) ∧ Mem Nob w0 w' []) := by
 have hM : Mem Nob w0 w0 [(false, rd p0_lv (List.map (int i64) p0_l)), (false, rd q0_Rowsv (List.map (int i64) q0_Rows)), (false, bx q0b 28 [(int i64 q0_Size), q0_Rowsv])] := (Mem.rcons (Mem.rcons (Mem.gcons (Mem.nil w0) h2 (by simp)) h1 (by simp)) h0 (by simp))
 refine enter2 Try.func77 rfl rfl rfl fun Q a hQr hQn hQp hS => ?_
 have hS : Sl 7 [(0, p0_lv), (1, (fdp q0b 0))] a := hS
 unfold S_impl_FindInducedPath_c1 at hF
 refine wp_seq_k fun K1 hK1 => ?_
 refine wp_region_lit ?_
 refine st_val hS rfl rfl (by decide) (rv_assign (hS.ev rfl)) fun a hS => ?_
 refine wpList_nil ?_
 refine hK1 _ _ ?_
 refine wp_seq_k fun K2 hK2 => ?_
 refine wp_region_lit ?_
 refine st_val hS rfl rfl (by decide) (rv_load_agg (hS.ev rfl) ty_ag_28 (hM.get 2 rfl) ty_sz_28) fun a hS => ?_
 refine st_val hS rfl rfl (by decide) (rv_move (hS.ev rfl)) fun a hS => ?_
 obtain ⟨r4, hr, hF⟩ := bind_some hF
 refine st_wp hS rfl (wp_call hS rfl rfl (by decide) fn_ok_30 rfl (c_impl_IsInducedPath F q0_Size q0_Rows p0_l q0_Rowsv p0_lv hr _ (hM.get 1 rfl) (hM.get 0 rfl)) fun v w a hK hS => ?_)
 obtain ⟨rfl, hN⟩ := hK
 have hM := hM.fra hN.fr
 refine st_val hS rfl rfl (by decide) (rv_assign (hS.ev rfl)) fun a hS => ?_
 refine wpList_nil ?_
 refine hK2 _ _ ?_
 have hS : Sl 7 [(3, (Value.bool r4))] a := hS.sub (sub_cons rfl sub_nil)
 have hM := hM.pick [] (by decide) rfl
 refine wp_ret ?_
 cases hF
 exact hQr _ _ (r_1 hS rfl rfl ⟨rfl, hM.pick [] (by decide) rfl⟩)


theorem c_impl_firstList_c1__always__FindInducedPathc1__firstListc1_b (F : Nat) (slf : (List Int) → Int → Int → (List Int) → Int → (List Int) → Option ((Option (List Int)))) (ih : ∀ (p0_l : List Int) (q0_v : Int) (q2_Size : Int) (q2_Rows : List Int) (q3_v_c0_Size : Int) (q3_v_c0_Rows : List Int) (p0_lv : Value) (q0b : Nat) (q1b : Nat) (q2_Rowsv : Value) (q2b : Nat) (q3_v_c0_Rowsv : Value) (q3_v_c0b : Nat) (q3b : Nat) (q4b : Nat) {r : (Option (List Int))} (hF : slf p0_l q0_v q2_Size q2_Rows q3_v_c0_Size q3_v_c0_Rows = some r) (w0 : World) (h0 : RdRow w0 p0_lv (List.map (int i64) p0_l)) (h1 : (bx q0b 3 [(int i64 q0_v)]).P w0) (h2 : (bx q1b 55 [(Value.func (Fn.func 70) #[] #[])]).P w0) (h3 : RdRow w0 q2_Rowsv (List.map (int i64) q2_Rows)) (h4 : (bx q2b 28 [(int i64 q2_Size), q2_Rowsv]).P w0) (h5 : RdRow w0 q3_v_c0_Rowsv (List.map (int i64) q3_v_c0_Rows)) (h6 : (bx q3_v_c0b 28 [(int i64 q3_v_c0_Size), q3_v_c0_Rowsv]).P w0) (h7 : (bx q3b 55 [(Value.func (Fn.func 77) #[] #[(fdp q3_v_c0b 0)])]).P w0) (h8 : (bx q4b 41 [(Value.func (Fn.func 116) #[] #[(fdp q0b 0), (fdp q1b 0), (fdp q2b 0), (fdp q3b 0), (fdp q4b 0)])]).P w0), Calls Try.prog 116 [p0_lv, (fdp q0b 0), (fdp q1b 0), (fdp q2b 0), (fdp q3b 0), (fdp q4b 0)].toArray w0 (retPost fun v w' => OptRow Nob w0 w' 3 v r)) (p0_l : List Int) (q0_v : Int) (q2_Size : Int) (q2_Rows : List Int) (q3_v_c0_Size : Int) (q3_v_c0_Rows : List Int) (p0_lv : Value) (q0b : Nat) (q1b : Nat) (q2_Rowsv : Value) (q2b : Nat) (q3_v_c0_Rowsv : Value) (q3_v_c0b : Nat) (q3b : Nat) (q4b : Nat) {r : (Option (List Int))} (hF : S_impl_firstList_c1__always__FindInducedPathc1__firstListc1_b F slf p0_l q0_v q2_Size q2_Rows q3_v_c0_Size q3_v_c0_Rows = some r) (w0 : World) (h0 : RdRow w0 p0_lv (List.map (int i64) p0_l)) (h1 : (bx q0b 3 [(int i64 q0_v)]).P w0) (h2 : (bx q1b 55 [(Value.func (Fn.func 70) #[] #[])]).P w0) (h3 : RdRow w0 q2_Rowsv (List.map (int i64) q2_Rows)) (h4 : (bx q2b 28 [(int i64 q2_Size), q2_Rowsv]).P w0) (h5 : RdRow w0 q3_v_c0_Rowsv (List.map (int i64) q3_v_c0_Rows)) (h6 : (bx q3_v_c0b 28 [(int i64 q3_v_c0_Size), q3_v_c0_Rowsv]).P w0) (h7 : (bx q3b 55 [(Value.func (Fn.func 77) #[] #[(fdp q3_v_c0b 0)])]).P w0) (h8 : (bx q4b 41 [(Value.func (Fn.func 116) #[] #[(fdp q0b 0), (fdp q1b 0), (fdp q2b 0), (fdp q3b 0), (fdp q4b 0)])]).P w0) :
    Calls Try.prog 116 [p0_lv, (fdp q0b 0), (fdp q1b 0), (fdp q2b 0), (fdp q3b 0), (fdp q4b 0)].toArray w0 (retPost fun v w' => OptRow Nob w0 w' 3 v r) := by
 have hM : Mem Nob w0 w0 [(false, rd p0_lv (List.map (int i64) p0_l)), (false, bx q0b 3 [(int i64 q0_v)]), (false, bx q1b 55 [(Value.func (Fn.func 70) #[] #[])]), (false, rd q2_Rowsv (List.map (int i64) q2_Rows)), (false, bx q2b 28 [(int i64 q2_Size), q2_Rowsv]), (false, rd q3_v_c0_Rowsv (List.map (int i64) q3_v_c0_Rows)), (false, bx q3_v_c0b 28 [(int i64 q3_v_c0_Size), q3_v_c0_Rowsv]), (false, bx q3b 55 [(Value.func (Fn.func 77) #[] #[(fdp q3_v_c0b 0)])]), (false, bx q4b 41 [(Value.func (Fn.func 116) #[] #[(fdp q0b 0), (fdp q1b 0), (fdp q2b 0), (fdp q3b 0), (fdp q4b 0)])])] := (Mem.rcons (Mem.gcons (Mem.gcons (Mem.rcons (Mem.gcons (Mem.rcons (Mem.gcons (Mem.gcons (Mem.gcons (Mem.nil w0) h8 (by simp)) h7 (by simp)) h6 (by simp)) h5 (by simp)) h4 (by simp)) h3 (by simp)) h2 (by simp)) h1 (by simp)) h0 (by simp))
 refine enter2 Try.func116 rfl rfl rfl fun Q a hQr hQn hQp hS => ?_
 have hS : Sl 50 [(0, p0_lv), (1, (fdp q0b 0)), (2, (fdp q1b 0)), (3, (fdp q2b 0)), (4, (fdp q3b 0)), (5, (fdp q4b 0))] a := hS
 unfold S_impl_firstList_c1__always__FindInducedPathc1__firstListc1_b at hF
 refine wp_seq_k fun K1 hK1 => ?_
 refine wp_region_lit ?_
 refine st_val hS rfl rfl (by decide) (rv_assign (hS.ev rfl)) fun a hS => ?_
 refine wpList_nil ?_
 refine hK1 _ _ ?_
 refine wp_seq_k fun K2 hK2 => ?_
 refine wp_seq_k fun K22 hK22 => ?_
 refine wp_region_lit ?_
 refine st_val hS rfl rfl (by decide) (rv_move (hS.ev rfl)) fun a hS => ?_
 refine st_val hS rfl rfl (by decide) (rv_len_rowM Try.underlying22 (hS.ev rfl) (hM.get 0 rfl)) fun a hS => ?_
 refine st_val hS rfl rfl (by decide) (rv_load_bx (hS.ev rfl) ty_ag_3 (hM.get 1 rfl) rfl) fun a hS => ?_
 refine st_val hS rfl rfl (by decide) (rv_eql (hS.ev rfl) (hS.ev rfl)) fun a hS => ?_
 refine wpList_nil ?_
 refine hK22 _ _ ?_
 rcases ite_some hF with ⟨hc, hF⟩ | ⟨hc, hF⟩
 ·refine cond_t hS rfl hc ?_
  refine wp_seq_k fun K23 hK23 => ?_
  refine wp_seq_k fun K32 hK32 => ?_
  refine wp_region_lit ?_
  refine st_val hS rfl rfl (by decide) (rv_load_bx (hS.ev rfl) ty_ag_55 (hM.get 2 rfl) rfl) fun a hS => ?_
  refine st_val hS rfl rfl (by decide) (rv_move (hS.ev rfl)) fun a hS => ?_
  obtain ⟨r34, hr, hF⟩ := bind_some hF
  refine st_wp hS rfl (wp_callv (vs := [p0_lv]) (cap := []) hS rfl rfl rfl (by decide) fn_ok_70 rfl (c_impl_always F p0_l p0_lv hr _ (hM.get 0 rfl)) fun v w a hK hS => ?_)
  obtain ⟨rfl, hN⟩ := hK
  have hM := hM.fra hN.fr
  refine wpList_nil ?_
  refine hK32 _ _ ?_
  have hS : Sl 50 [(0, p0_lv), (17, (Value.bool r34))] a := hS.sub (sub_cons rfl (sub_cons rfl sub_nil))
  have hM := hM.pick [0] (by decide) rfl
  rcases ite_some hF with ⟨hc, hF⟩ | ⟨hc, hF⟩
  ·refine cond_t hS rfl hc ?_
   refine wp_seq_k fun K35 hK35 => ?_
   refine wp_region_lit ?_
   refine st_val hS rfl rfl (by decide) (rv_move (hS.ev rfl)) fun a hS => ?_
   obtain ⟨r38, hr, hF⟩ := bind_some hF
   refine st_wp hS rfl (wp_call hS rfl rfl (by decide) fn_ok_117 rfl (c_slices_Clone_int F p0_l p0_lv hr _ (hM.get 0 rfl)) fun v39 w a hK hS => ?_)
   have hN := hK
   have hM := hM.add hN rfl
   refine st_val hS rfl rfl (by decide) (rv_assign (hS.ev rfl)) fun a hS => ?_
   refine wpList_nil ?_
   refine hK35 _ _ ?_
   refine wp_ret ?_
   cases hF
   exact hQr _ _ (r_1 hS rfl rfl (hM.pick [0] (by decide) rfl))
  ·refine cond_f hS rfl hc ?_
   refine wp_skip ?_
   refine hK23 _ _ ?_
   refine wp_seq_k fun K40 hK40 => ?_
   refine wp_region_lit ?_
   refine st_val hS rfl rfl (by decide) (rv_assign (hS.ev rfl)) fun a hS => ?_
   refine wpList_nil ?_
   refine hK40 _ _ ?_
   refine wp_ret ?_
   cases hF
   exact hQr _ _ (r_1 hS rfl rfl ⟨rfl, hM.pick [] (by decide) rfl⟩)
 ·refine cond_f hS rfl hc ?_
  refine wp_skip ?_
  refine hK2 _ _ ?_
  refine wp_seq_k fun K41 hK41 => ?_
  have hJ1 : ∀ (a : Act) (w : World), Sl 50 [] a → Mem Nob w0 w [] → S_impl_firstList_c1__always__FindInducedPathc1__firstListc1_j1 F = some r → K41 a w := by
   intro a w hS hM hF
   unfold S_impl_firstList_c1__always__FindInducedPathc1__firstListc1_j1 at hF
   refine hK41 _ _ ?_
   refine wp_seq_k fun K146 hK146 => ?_
   refine wp_region_lit ?_
   refine st_val hS rfl rfl (by decide) (rv_assign (hS.ev rfl)) fun a hS => ?_
   refine wpList_nil ?_
   refine hK146 _ _ ?_
   refine wp_ret ?_
   cases hF
   exact hQr _ _ (r_1 hS rfl rfl ⟨rfl, hM.pick [] (by decide) rfl⟩)
  refine wp_seq_k fun K147 hK147 => ?_
  refine wp_region_lit ?_
  refine st_val hS rfl rfl (by decide) (rv_fieldAddr ty_fd_28_0 (hS.ev rfl)) fun a hS => ?_
  refine st_val hS rfl rfl (by decide) (rv_load_bx (hS.ev rfl) ty_ag_3 (hM.get 4 rfl) rfl) fun a hS => ?_
  refine st_val hS rfl rfl (by decide) (rv_move (hS.ev rfl)) fun a hS => ?_
  refine wpList_nil ?_
  refine hK147 _ _ ?_
  have hS : Sl 50 [(0, p0_lv), (4, (fdp q3b 0)), (5, (fdp q4b 0)), (21, (int i64 q2_Size)), (22, (int i64 0))] a := hS.sub (sub_cons rfl (sub_cons rfl (sub_cons rfl (sub_cons rfl (sub_cons rfl sub_nil)))))
  refine wp_block ?_
  obtain ⟨lb2, hl2, hF2⟩ := bind_some hF
  refine wp_loop_sh (fun s => S_impl_firstList_c1__always__FindInducedPathc1__firstListc1_l2 F p0_l q0_v q2_Size q2_Rows q3_v_c0_Size q3_v_c0_Rows slf s) (fun s a w => Sl 50 [(0, p0_lv), (4, (fdp q3b 0)), (5, (fdp q4b 0)), (21, (int i64 q2_Size)), (22, (int i64 s))] a ∧ Mem Nob w0 w [(false, rd p0_lv (List.map (int i64) p0_l)), (false, bx q3b 55 [(Value.func (Fn.func 77) #[] #[(fdp q3_v_c0b 0)])]), (false, bx q3_v_c0b 28 [(int i64 q3_v_c0_Size), q3_v_c0_Rowsv]), (false, rd q3_v_c0_Rowsv (List.map (int i64) q3_v_c0_Rows)), (false, bx q4b 41 [(Value.func (Fn.func 116) #[] #[(fdp q0b 0), (fdp q1b 0), (fdp q2b 0), (fdp q3b 0), (fdp q4b 0)])]), (false, bx q0b 3 [(int i64 q0_v)]), (false, bx q1b 55 [(Value.func (Fn.func 70) #[] #[])]), (false, bx q2b 28 [(int i64 q2_Size), q2_Rowsv]), (false, rd q2_Rowsv (List.map (int i64) q2_Rows))]) hl2 ⟨(hS.sub (sub_cons rfl (sub_cons rfl (sub_cons rfl (sub_cons rfl (sub_cons rfl sub_nil)))))), (hM.pick [0, 7, 6, 5, 8, 1, 2, 4, 3] (by decide) rfl)⟩ ?_
  rintro K2 x148 a w res2 ⟨hS, hM⟩ hF hN2 hX2
  have hF : S_impl_firstList_c1__always__FindInducedPathc1__firstListc1_l2 F p0_l q0_v q2_Size q2_Rows q3_v_c0_Size q3_v_c0_Rows slf x148 = some res2 := hF
  have hS : Sl 50 [(0, p0_lv), (4, (fdp q3b 0)), (5, (fdp q4b 0)), (21, (int i64 q2_Size)), (22, (int i64 x148))] a := hS
  have hM : Mem Nob w0 w [(false, rd p0_lv (List.map (int i64) p0_l)), (false, bx q3b 55 [(Value.func (Fn.func 77) #[] #[(fdp q3_v_c0b 0)])]), (false, bx q3_v_c0b 28 [(int i64 q3_v_c0_Size), q3_v_c0_Rowsv]), (false, rd q3_v_c0_Rowsv (List.map (int i64) q3_v_c0_Rows)), (false, bx q4b 41 [(Value.func (Fn.func 116) #[] #[(fdp q0b 0), (fdp q1b 0), (fdp q2b 0), (fdp q3b 0), (fdp q4b 0)])]), (false, bx q0b 3 [(int i64 q0_v)]), (false, bx q1b 55 [(Value.func (Fn.func 70) #[] #[])]), (false, bx q2b 28 [(int i64 q2_Size), q2_Rowsv]), (false, rd q2_Rowsv (List.map (int i64) q2_Rows))] := hM
  unfold S_impl_firstList_c1__always__FindInducedPathc1__firstListc1_l2 at hF
  refine wp_seq_k fun K200 hK200 => ?_
  refine wp_region_lit ?_
  refine st_val hS rfl rfl (by decide) (rv_lss (hS.ev rfl) (hS.ev rfl)) fun a hS => ?_
  refine wpList_nil ?_
  refine hK200 _ _ ?_
  refine wp_seq_k fun K201 hK201 => ?_
  rcases ite_some hF with ⟨hc, hF⟩ | ⟨hc, hF⟩
  ·refine cond_t hS rfl hc ?_
   refine wp_skip ?_
   refine hK201 _ _ ?_
   refine wp_seq_k fun K202 hK202 => ?_
   have hJ3 : ∀ (a : Act) (w : World), Sl 50 [(0, p0_lv), (4, (fdp q3b 0)), (5, (fdp q4b 0)), (21, (int i64 q2_Size)), (22, (int i64 x148))] a → Mem Nob w0 w [(false, rd p0_lv (List.map (int i64) p0_l)), (false, bx q3b 55 [(Value.func (Fn.func 77) #[] #[(fdp q3_v_c0b 0)])]), (false, bx q3_v_c0b 28 [(int i64 q3_v_c0_Size), q3_v_c0_Rowsv]), (false, rd q3_v_c0_Rowsv (List.map (int i64) q3_v_c0_Rows)), (false, bx q4b 41 [(Value.func (Fn.func 116) #[] #[(fdp q0b 0), (fdp q1b 0), (fdp q2b 0), (fdp q3b 0), (fdp q4b 0)])]), (false, bx q0b 3 [(int i64 q0_v)]), (false, bx q1b 55 [(Value.func (Fn.func 70) #[] #[])]), (false, bx q2b 28 [(int i64 q2_Size), q2_Rowsv]), (false, rd q2_Rowsv (List.map (int i64) q2_Rows))] → S_impl_firstList_c1__always__FindInducedPathc1__firstListc1_j3 F x148 = some res2 → K202 a w := by
    intro a w hS hM hF
    unfold S_impl_firstList_c1__always__FindInducedPathc1__firstListc1_j3 at hF
    refine hK202 _ _ ?_
    refine wp_region_lit ?_
    refine st_val hS rfl rfl (by decide) (rv_add (hS.ev rfl) (hS.ev rfl)) fun a hS => ?_
    refine st_val hS rfl rfl (by decide) (rv_move (hS.ev rfl)) fun a hS => ?_
    refine wpList_nil ?_
    cases hF
    exact hN2 _ _ _ rfl ⟨(hS.sub (sub_cons rfl (sub_cons rfl (sub_cons rfl (sub_cons rfl (sub_cons rfl sub_nil)))))), (hM.pick [0, 1, 2, 3, 4, 5, 6, 7, 8] (by decide) rfl)⟩
   refine wp_block ?_
   refine wp_seq_k fun K227 hK227 => ?_
   refine wp_region_lit ?_
   refine st_val hS rfl rfl (by decide) (rv_move (hS.ev rfl)) fun a hS => ?_
   refine st_val hS rfl rfl (by decide) (rv_assign (hS.ev rfl)) fun a hS => ?_
   refine wpList_nil ?_
   refine hK227 _ _ ?_
   refine wp_seq_k fun K228 hK228 => ?_
   refine wp_region_lit ?_
   refine st_val hS rfl rfl (by decide) (rv_move (hS.ev rfl)) fun a hS => ?_
   refine st_val hS rfl rfl (by decide) (rv_move (hS.ev rfl)) fun a hS => ?_
   refine st_val hS rfl rfl (by decide) (rv_len_rowM Try.underlying22 (hS.ev rfl) (hM.get 0 rfl)) fun a hS => ?_
   refine st_val hS rfl rfl (by decide) (rv_move (hS.ev rfl)) fun a hS => ?_
   refine st_val hS rfl rfl (by decide) (rv_len_rowM Try.underlying22 (hS.ev rfl) (hM.get 0 rfl)) fun a hS => ?_
   obtain ⟨_, hx, hF⟩ := bind_some hF
   have hj232 := slO_some hx
   refine st_val hS rfl rfl (by decide) (rv_slF Try.underlying22 ty_el_3 (hS.ev rfl) (hS.ev rfl) (hS.ev rfl) (hM.get 0 rfl) hj232.1 (map_le hj232.2)) fun a hS => ?_
   refine st_val hS rfl rfl (by decide) (rv_move (hS.ev rfl)) fun a hS => ?_
   obtain ⟨v233, w, hr, hM⟩ := Mem.litE (f := (int i64)) (dst := some 32) (ty := _) (pos := _) (af := _) (gd := _) (ps := [(0, .tmp 31)]) ([x148] : List (Int)) i64_one hM hS Try.underlying22 ty_el_3 rfl rfl rfl rfl
   refine st_val hS rfl rfl (by decide) hr fun a hS => ?_
   obtain ⟨_, hx, hF⟩ := bind_some hF
   obtain ⟨v234, w, hr, hM⟩ := Mem.appF (f := (int i64)) (ρ := a.eval) (dst := some 33) (ty := _) (pos := _) (af := _) (gd := _) (x := .tmp 30) (y := .tmp 32) i64_one hM Try.underlying22 ty_el_3 rfl (by decide) (hS.ev rfl) (hM.get 1 rfl) hj232.1 hj232.2 (hS.ev rfl) (rd_of_ow (hM.get 0 rfl)) (by simp) (catO_some hx)
   refine st_val hS rfl rfl (by decide) hr fun a hS => ?_
   refine st_val hS rfl rfl (by decide) (rv_assign (hS.ev rfl)) fun a hS => ?_
   refine wpList_nil ?_
   refine hK228 _ _ ?_
   have hS : Sl 50 [(0, p0_lv), (4, (fdp q3b 0)), (5, (fdp q4b 0)), (8, (int i64 x148)), (9, v234), (21, (int i64 q2_Size)), (22, (int i64 x148))] a := hS.sub (sub_cons rfl (sub_cons rfl (sub_cons rfl (sub_cons rfl (sub_cons rfl (sub_cons rfl (sub_cons rfl sub_nil)))))))
   have hM := hM.pick [0, 2, 3, 4, 5, 6, 7, 8, 9, 10] (by decide) rfl
   refine wp_seq_k fun K235 hK235 => ?_
   have hJ4 : ∀ (p238 : Bool) (a : Act) (w : World), Sl 50 [(0, p0_lv), (4, (fdp q3b 0)), (5, (fdp q4b 0)), (9, v234), (21, (int i64 q2_Size)), (22, (int i64 x148)), (42, (Value.bool p238))] a → Mem Nob w0 w [(false, rd p0_lv (List.map (int i64) p0_l)), (false, bx q3b 55 [(Value.func (Fn.func 77) #[] #[(fdp q3_v_c0b 0)])]), (false, bx q3_v_c0b 28 [(int i64 q3_v_c0_Size), q3_v_c0_Rowsv]), (false, rd q3_v_c0_Rowsv (List.map (int i64) q3_v_c0_Rows)), (false, bx q4b 41 [(Value.func (Fn.func 116) #[] #[(fdp q0b 0), (fdp q1b 0), (fdp q2b 0), (fdp q3b 0), (fdp q4b 0)])]), (false, bx q0b 3 [(int i64 q0_v)]), (false, bx q1b 55 [(Value.func (Fn.func 70) #[] #[])]), (false, bx q2b 28 [(int i64 q2_Size), q2_Rowsv]), (false, rd q2_Rowsv (List.map (int i64) q2_Rows)), (true, ow 3 v234 (List.map (int i64) (p0_l.take ((p0_l.length : Int).toNat) ++ ([x148] : List (Int)))))] → S_impl_firstList_c1__always__FindInducedPathc1__firstListc1_j4 F p0_l q0_v q2_Size q2_Rows q3_v_c0_Size q3_v_c0_Rows slf x148 p238 = some res2 → K235 a w := by
    intro p238 a w hS hM hF
    unfold S_impl_firstList_c1__always__FindInducedPathc1__firstListc1_j4 at hF
    refine hK235 _ _ ?_
    rcases ite_some hF with ⟨hc, hF⟩ | ⟨hc, hF⟩
    ·refine cond_t hS rfl hc ?_
     refine wp_seq_k fun K239 hK239 => ?_
     refine wp_region_lit ?_
     refine st_val hS rfl rfl (by decide) (rv_load_bx (hS.ev rfl) ty_ag_41 (hM.get 4 rfl) rfl) fun a hS => ?_
     refine st_val hS rfl rfl (by decide) (rv_move (hS.ev rfl)) fun a hS => ?_
     obtain ⟨r243, hr, hF⟩ := bind_some hF
     refine st_wp hS rfl (wp_callv (vs := [v234]) (cap := [(fdp q0b 0), (fdp q1b 0), (fdp q2b 0), (fdp q3b 0), (fdp q4b 0)]) hS rfl rfl rfl (by decide) fn_ok_116 rfl (ih (p0_l.take ((p0_l.length : Int).toNat) ++ ([x148] : List (Int))) q0_v q2_Size q2_Rows q3_v_c0_Size q3_v_c0_Rows v234 q0b q1b q2_Rowsv q2b q3_v_c0_Rowsv q3_v_c0b q3b q4b hr _ (rd_of_ow (hM.get 9 rfl)) (hM.get 5 rfl) (hM.get 6 rfl) (hM.get 8 rfl) (hM.get 7 rfl) (hM.get 3 rfl) (hM.get 2 rfl) (hM.get 1 rfl) (hM.get 4 rfl)) fun v244 w a hK hS => ?_)
     rcases r243 with _ | c245
     ·dsimp only at hF
      obtain ⟨rfl, hN⟩ := hK
      have hM := hM.fra hN.fr
      refine st_val hS rfl rfl (by decide) (rv_assign (hS.ev rfl)) fun a hS => ?_
      refine wpList_nil ?_
      refine hK239 _ _ ?_
      refine wp_seq_k fun K246 hK246 => ?_
      refine wp_region_lit ?_
      refine st_val hS rfl rfl (by decide) (rv_move (hS.ev rfl)) fun a hS => ?_
      refine st_val hS rfl rfl (by decide) (rv_nil_neq Try.underlying22 (hS.ev rfl) (hS.ev rfl)) fun a hS => ?_
      refine wpList_nil ?_
      refine hK246 _ _ ?_
      refine cond_f hS rfl rfl ?_
      refine wp_skip ?_
      exact hJ3 _ _ (hS.sub (sub_cons rfl (sub_cons rfl (sub_cons rfl (sub_cons rfl (sub_cons rfl sub_nil)))))) (hM.pick [0, 1, 2, 3, 4, 5, 6, 7, 8] (by decide) rfl) hF
     ·dsimp only at hF
      have hN : Mem Nob _ w [(true, ow 3 v244 (List.map (int i64) c245))] := hK
      have hM := hM.add hN rfl
      refine st_val hS rfl rfl (by decide) (rv_assign (hS.ev rfl)) fun a hS => ?_
      refine wpList_nil ?_
      refine hK239 _ _ ?_
      refine wp_seq_k fun K247 hK247 => ?_
      refine wp_region_lit ?_
      refine st_val hS rfl rfl (by decide) (rv_move (hS.ev rfl)) fun a hS => ?_
      obtain ⟨_, hx, hF⟩ := bind_some hF
      have hi0 := neO_some hx
      refine st_val hS rfl rfl (by decide) (rv_neq_nil Try.underlying22 (hS.ev rfl) (hS.ev rfl) (rd_of_ow (hM.get 0 rfl)) hi0) fun a hS => ?_
      refine wpList_nil ?_
      refine hK247 _ _ ?_
      refine cond_t hS rfl rfl ?_
      refine wp_seq_k fun K248 hK248 => ?_
      refine wp_region_lit ?_
      refine st_val hS rfl rfl (by decide) (rv_move (hS.ev rfl)) fun a hS => ?_
      refine st_val hS rfl rfl (by decide) (rv_assign (hS.ev rfl)) fun a hS => ?_
      refine wpList_nil ?_
      refine hK248 _ _ ?_
      have hS : Sl 50 [(7, v244)] a := hS.sub (sub_cons rfl sub_nil)
      have hM := hM.pick [0] (by decide) rfl
      refine wp_ret ?_
      cases hF
      have e := hX2 _ rfl
      subst e
      have hF := hF2
      cases hF
      exact hQr _ _ (r_1 hS rfl rfl (hM.pick [0] (by decide) rfl))
    ·refine cond_f hS rfl hc ?_
     refine wp_skip ?_
     exact hJ3 _ _ (hS.sub (sub_cons rfl (sub_cons rfl (sub_cons rfl (sub_cons rfl (sub_cons rfl sub_nil)))))) (hM.pick [0, 1, 2, 3, 4, 5, 6, 7, 8] (by decide) rfl) hF
   refine wp_region_lit ?_
   refine st_val hS rfl rfl (by decide) (rv_move (hS.ev rfl)) fun a hS => ?_
   refine st_val hS rfl rfl (by decide) (rv_move (hS.ev rfl)) fun a hS => ?_
   obtain ⟨r249, hr, hF⟩ := bind_some hF
   refine st_wp hS rfl (wp_call hS rfl rfl (by decide) fn_ok_106 rfl (c_slices_Contains_int F p0_l x148 p0_lv hr _ (hM.get 1 rfl)) fun v w a hK hS => ?_)
   obtain ⟨rfl, hN⟩ := hK
   have hM := hM.fra hN.fr
   refine st_val hS rfl rfl (by decide) (rv_not (hS.ev rfl)) fun a hS => ?_
   refine st_val hS rfl rfl (by decide) (rv_move (hS.ev rfl)) fun a hS => ?_
   rcases ite_some hF with ⟨hc, hF⟩ | ⟨hc, hF⟩
   ·have hS := hS.setb (t := 38) rfl hc
    refine st_val hS rfl rfl (by decide) (rv_load_bx (hS.ev rfl) ty_ag_55 (hM.get 2 rfl) rfl) fun a hS => ?_
    refine st_val hS rfl rfl (by decide) (rv_move (hS.ev rfl)) fun a hS => ?_
    obtain ⟨r250, hr, hF⟩ := bind_some hF
    refine st_wp hS rfl (wp_callv (vs := [v234]) (cap := [(fdp q3_v_c0b 0)]) hS rfl rfl rfl (by decide) fn_ok_77 rfl (c_impl_FindInducedPath_c1 F (p0_l.take ((p0_l.length : Int).toNat) ++ ([x148] : List (Int))) q3_v_c0_Size q3_v_c0_Rows v234 q3_v_c0_Rowsv q3_v_c0b hr _ (rd_of_ow (hM.get 0 rfl)) (hM.get 4 rfl) (hM.get 3 rfl)) fun v w a hK hS => ?_)
    obtain ⟨rfl, hN⟩ := hK
    have hM := hM.fra hN.fr
    refine st_val hS rfl rfl (by decide) (rv_pick_t (hS.ev rfl) (hS.ev rfl)) fun a hS => ?_
    refine wpList_nil ?_
    exact hJ4 r250 _ _ (hS.sub (sub_cons rfl (sub_cons rfl (sub_cons rfl (sub_cons rfl (sub_cons rfl (sub_cons rfl (sub_cons rfl sub_nil)))))))) (hM.pick [1, 2, 3, 4, 5, 6, 7, 8, 9, 0] (by decide) rfl) hF
   ·have hS := hS.setb (t := 38) rfl hc
    refine st_skip hS rfl rfl (by decide) fun a hS => ?_
    refine st_skip hS rfl rfl (by decide) fun a hS => ?_
    refine st_skip hS rfl rfl (by decide) fun a hS => ?_
    refine st_val hS rfl rfl (by decide) (rv_pick_f (hS.ev rfl) (hS.ev rfl)) fun a hS => ?_
    refine wpList_nil ?_
    exact hJ4 false _ _ (hS.sub (sub_cons rfl (sub_cons rfl (sub_cons rfl (sub_cons rfl (sub_cons rfl (sub_cons rfl (sub_cons rfl sub_nil)))))))) (hM.pick [1, 2, 3, 4, 5, 6, 7, 8, 9, 0] (by decide) rfl) hF
  ·refine cond_f hS rfl hc ?_
   refine wp_exit ?_
   cases hF
   exact hJ1 _ _ (hS.sub sub_nil) (hM.pick [] (by decide) rfl) (by have e := hX2 _ rfl; subst e; exact hF2)

theorem c_impl_firstList_c1__always__FindInducedPathc1__firstListc1_d (F : Nat) : ∀ (D : Nat) (p0_l : List Int) (q0_v : Int) (q2_Size : Int) (q2_Rows : List Int) (q3_v_c0_Size : Int) (q3_v_c0_Rows : List Int) (p0_lv : Value) (q0b : Nat) (q1b : Nat) (q2_Rowsv : Value) (q2b : Nat) (q3_v_c0_Rowsv : Value) (q3_v_c0b : Nat) (q3b : Nat) (q4b : Nat) {r : (Option (List Int))} (hF : S_impl_firstList_c1__always__FindInducedPathc1__firstListc1_d F D p0_l q0_v q2_Size q2_Rows q3_v_c0_Size q3_v_c0_Rows = some r) (w0 : World) (h0 : RdRow w0 p0_lv (List.map (int i64) p0_l)) (h1 : (bx q0b 3 [(int i64 q0_v)]).P w0) (h2 : (bx q1b 55 [(Value.func (Fn.func 70) #[] #[])]).P w0) (h3 : RdRow w0 q2_Rowsv (List.map (int i64) q2_Rows)) (h4 : (bx q2b 28 [(int i64 q2_Size), q2_Rowsv]).P w0) (h5 : RdRow w0 q3_v_c0_Rowsv (List.map (int i64) q3_v_c0_Rows)) (h6 : (bx q3_v_c0b 28 [(int i64 q3_v_c0_Size), q3_v_c0_Rowsv]).P w0) (h7 : (bx q3b 55 [(Value.func (Fn.func 77) #[] #[(fdp q3_v_c0b 0)])]).P w0) (h8 : (bx q4b 41 [(Value.func (Fn.func 116) #[] #[(fdp q0b 0), (fdp q1b 0), (fdp q2b 0), (fdp q3b 0), (fdp q4b 0)])]).P w0), Calls Try.prog 116 [p0_lv, (fdp q0b 0), (fdp q1b 0), (fdp q2b 0), (fdp q3b 0), (fdp q4b 0)].toArray w0 (retPost fun v w' => OptRow Nob w0 w' 3 v r) := by
  intro D
  induction D with
  | zero =>
    intro p0_l q0_v q2_Size q2_Rows q3_v_c0_Size q3_v_c0_Rows p0_lv q0b q1b q2_Rowsv q2b q3_v_c0_Rowsv q3_v_c0b q3b q4b r hF
    simp [S_impl_firstList_c1__always__FindInducedPathc1__firstListc1_d] at hF
  | succ D ih =>
    intro p0_l q0_v q2_Size q2_Rows q3_v_c0_Size q3_v_c0_Rows p0_lv q0b q1b q2_Rowsv q2b q3_v_c0_Rowsv q3_v_c0b q3b q4b r hF w0 h0 h1 h2 h3 h4 h5 h6 h7 h8
    rw [S_impl_firstList_c1__always__FindInducedPathc1__firstListc1_d] at hF
    exact c_impl_firstList_c1__always__FindInducedPathc1__firstListc1_b F (S_impl_firstList_c1__always__FindInducedPathc1__firstListc1_d F D) ih p0_l q0_v q2_Size q2_Rows q3_v_c0_Size q3_v_c0_Rows p0_lv q0b q1b q2_Rowsv q2b q3_v_c0_Rowsv q3_v_c0b q3b q4b hF w0 h0 h1 h2 h3 h4 h5 h6 h7 h8

theorem c_impl_firstList_c1__always__FindInducedPathc1__firstListc1 (F : Nat) (p0_l : List Int) (q0_v : Int) (q2_Size : Int) (q2_Rows : List Int) (q3_v_c0_Size : Int) (q3_v_c0_Rows : List Int) (p0_lv : Value) (q0b : Nat) (q1b : Nat) (q2_Rowsv : Value) (q2b : Nat) (q3_v_c0_Rowsv : Value) (q3_v_c0b : Nat) (q3b : Nat) (q4b : Nat) {r : (Option (List Int))} (hF : S_impl_firstList_c1__always__FindInducedPathc1__firstListc1 F p0_l q0_v q2_Size q2_Rows q3_v_c0_Size q3_v_c0_Rows = some r) (w0 : World) (h0 : RdRow w0 p0_lv (List.map (int i64) p0_l)) (h1 : (bx q0b 3 [(int i64 q0_v)]).P w0) (h2 : (bx q1b 55 [(Value.func (Fn.func 70) #[] #[])]).P w0) (h3 : RdRow w0 q2_Rowsv (List.map (int i64) q2_Rows)) (h4 : (bx q2b 28 [(int i64 q2_Size), q2_Rowsv]).P w0) (h5 : RdRow w0 q3_v_c0_Rowsv (List.map (int i64) q3_v_c0_Rows)) (h6 : (bx q3_v_c0b 28 [(int i64 q3_v_c0_Size), q3_v_c0_Rowsv]).P w0) (h7 : (bx q3b 55 [(Value.func (Fn.func 77) #[] #[(fdp q3_v_c0b 0)])]).P w0) (h8 : (bx q4b 41 [(Value.func (Fn.func 116) #[] #[(fdp q0b 0), (fdp q1b 0), (fdp q2b 0), (fdp q3b 0), (fdp q4b 0)])]).P w0) : Calls Try.prog 116 [p0_lv, (fdp q0b 0), (fdp q1b 0), (fdp q2b 0), (fdp q3b 0), (fdp q4b 0)].toArray w0 (retPost fun v w' => OptRow Nob w0 w' 3 v r) :=
  c_impl_firstList_c1__always__FindInducedPathc1__firstListc1_d F F p0_l q0_v q2_Size q2_Rows q3_v_c0_Size q3_v_c0_Rows p0_lv q0b q1b q2_Rowsv q2b q3_v_c0_Rowsv q3_v_c0b q3b q4b hF w0 h0 h1 h2 h3 h4 h5 h6 h7 h8


theorem c_impl_firstList__FindInducedPathc1__always (F : Nat) (p0_g_Size : Int) (p0_g_Rows : List Int) (p1_n : Int) (p2_may_c0_Size : Int) (p2_may_c0_Rows : List Int) (p0_g_Rowsv : Value) (p2_may_c0_Rowsv : Value) (p2_may_c0b : Nat) {r : (List (Int)) × Bool} (hF : S_impl_firstList__FindInducedPathc1__always F p0_g_Size p0_g_Rows p1_n p2_may_c0_Size p2_may_c0_Rows = some r) (w0 : World) (h0 : RdRow w0 p0_g_Rowsv (List.map (int i64) p0_g_Rows)) (h1 : RdRow w0 p2_may_c0_Rowsv (List.map (int i64) p2_may_c0_Rows)) (h2 : (bx p2_may_c0b 28 [(int i64 p2_may_c0_Size), p2_may_c0_Rowsv]).P w0) :
    Calls Try.prog 69 [(Value.agg #[(int i64 p0_g_Size), p0_g_Rowsv]), (int i64 p1_n), (Value.func (Fn.func 77) #[] #[(fdp p2_may_c0b 0)]), (Value.func (Fn.func 70) #[] #[])].toArray w0 (retPost fun v w' => ∃ v32, v = (Value.tuple #[v32, (Value.bool r.2)]) ∧ Mem Nob w0 w' [(true, ow 3 v32 (List.map (int i64) r.1))]) := by
 have hM : Mem Nob w0 w0 [(false, rd p0_g_Rowsv (List.map (int i64) p0_g_Rows)), (false, rd p2_may_c0_Rowsv (List.map (int i64) p2_may_c0_Rows)), (false, bx p2_may_c0b 28 [(int i64 p2_may_c0_Size), p2_may_c0_Rowsv])] := (Mem.rcons (Mem.rcons (Mem.gcons (Mem.nil w0) h2 (by simp)) h1 (by simp)) h0 (by simp))
 refine enter2 Try.func69 rfl rfl rfl fun Q a hQr hQn hQp hS => ?_
 have hS : Sl 21 [(0, (Value.agg #[(int i64 p0_g_Size), p0_g_Rowsv])), (1, (int i64 p1_n)), (2, (Value.func (Fn.func 77) #[] #[(fdp p2_may_c0b 0)])), (3, (Value.func (Fn.func 70) #[] #[]))] a := hS
 unfold S_impl_firstList__FindInducedPathc1__always at hF
 refine wp_seq_k fun K1 hK1 => ?_
 refine wp_region_lit ?_
 obtain ⟨b6, w, hr, hM⟩ := hM.boxE (ρ := a.eval) (dst := some 4) (ty := _) (pos := _) (af := _) (gd := _) (x := .tmp 0) (T := 28) [(int i64 p0_g_Size), p0_g_Rowsv] (hS.ev rfl) rfl
 refine st_val hS rfl rfl (by decide) hr fun a hS => ?_
 obtain ⟨b7, w, hr, hM⟩ := hM.boxE (ρ := a.eval) (dst := some 5) (ty := _) (pos := _) (af := _) (gd := _) (x := .tmp 1) (T := 3) [(int i64 p1_n)] (hS.ev rfl) rfl
 refine st_val hS rfl rfl (by decide) hr fun a hS => ?_
 obtain ⟨b8, w, hr, hM⟩ := hM.boxE (ρ := a.eval) (dst := some 6) (ty := _) (pos := _) (af := _) (gd := _) (x := .tmp 2) (T := 55) [(Value.func (Fn.func 77) #[] #[(fdp p2_may_c0b 0)])] (hS.ev rfl) rfl
 refine st_val hS rfl rfl (by decide) hr fun a hS => ?_
 obtain ⟨b9, w, hr, hM⟩ := hM.boxE (ρ := a.eval) (dst := some 7) (ty := _) (pos := _) (af := _) (gd := _) (x := .tmp 3) (T := 55) [(Value.func (Fn.func 70) #[] #[])] (hS.ev rfl) rfl
 refine st_val hS rfl rfl (by decide) hr fun a hS => ?_
 refine st_val hS rfl rfl (by decide) (rv_assign (hS.ev rfl)) fun a hS => ?_
 refine st_val hS rfl rfl (by decide) (rv_assign (hS.ev rfl)) fun a hS => ?_
 refine wpList_nil ?_
 refine hK1 _ _ ?_
 refine wp_seq_k fun K10 hK10 => ?_
 refine wp_region_lit ?_
 obtain ⟨b12, w, hr, hM⟩ := hM.allocE (ρ := a.eval) (dst := some 10) (ty := _) (pos := _) (af := _) (gd := _) (T := 41) (P := Try.prog) [Value.nilFunc] ty_zr_41 rfl
 refine st_val hS rfl rfl (by decide) hr fun a hS => ?_
 refine wpList_nil ?_
 refine hK10 _ _ ?_
 refine wp_seq_k fun K13 hK13 => ?_
 refine wp_region_lit ?_
 refine st_val hS rfl rfl (by decide) (rv_makeFunc hS rfl) fun a hS => ?_
 obtain ⟨w, hr, hM⟩ := hM.st_bx1 (n := 0) (cs' := [(Value.func (Fn.func 116) #[] #[(fdp b7 0), (fdp b9 0), (fdp b6 0), (fdp b8 0), (fdp b12 0)])]) (ρ := a.eval) (dst := none) (ty := _) (pos := _) (af := _) (gd := _) (x := .tmp 10) (y := .tmp 12) (hS.ev rfl) (hS.ev rfl) ty_sz_41 rfl rfl rfl
 refine st_unit hS rfl rfl hr ?_
 refine wpList_nil ?_
 refine hK13 _ _ ?_
 have hS : Sl 21 [(4, (fdp b6 0)), (10, (fdp b12 0))] a := hS.sub (sub_cons rfl (sub_cons rfl sub_nil))
 refine wp_seq_k fun K14 hK14 => ?_
 refine wp_seq_k fun K19 hK19 => ?_
 refine wp_region_lit ?_
 refine st_val hS rfl rfl (by decide) (rv_load_agg (hS.ev rfl) ty_ag_28 (hM.get 4 rfl) ty_sz_28) fun a hS => ?_
 obtain ⟨r21, hr, hF⟩ := bind_some hF
 refine st_wp hS rfl (wp_call hS rfl rfl (by decide) fn_ok_110 rfl (c_impl_IsGraph F p0_g_Size p0_g_Rows p0_g_Rowsv hr _ (hM.get 5 rfl)) fun v w a hK hS => ?_)
 obtain ⟨rfl, hN⟩ := hK
 have hM := hM.fra hN.fr
 refine st_val hS rfl rfl (by decide) (rv_not (hS.ev rfl)) fun a hS => ?_
 refine wpList_nil ?_
 refine hK19 _ _ ?_
 rcases ite_some hF with ⟨hc, hF⟩ | ⟨hc, hF⟩
 ·refine cond_t hS rfl hc ?_
  refine wp_seq_k fun K22 hK22 => ?_
  refine wp_region_lit ?_
  refine st_val hS rfl rfl (by decide) (rv_assign (hS.ev rfl)) fun a hS => ?_
  refine st_val hS rfl rfl (by decide) (rv_assign (hS.ev rfl)) fun a hS => ?_
  refine wpList_nil ?_
  refine hK22 _ _ ?_
  have hS : Sl 21 [(8, (Value.slice none 0 0)), (9, (Value.bool false))] a := hS.sub (sub_cons rfl (sub_cons rfl sub_nil))
  have hM := hM.pick [] (by decide) rfl
  refine wp_ret ?_
  cases hF
  have hM := hM.addNil 3
  exact hQr _ _ (r_2 hS rfl rfl rfl ⟨(Value.slice none 0 0), rfl, hM.pick [0] (by decide) rfl⟩)
 ·refine cond_f hS rfl hc ?_
  refine wp_skip ?_
  refine hK14 _ _ ?_
  refine wp_seq_k fun K23 hK23 => ?_
  refine wp_region_lit ?_
  refine st_val hS rfl rfl (by decide) (rv_load_bx (hS.ev rfl) ty_ag_41 (hM.get 0 rfl) rfl) fun a hS => ?_
  have hM := hM.addNil 3
  obtain ⟨r27, hr, hF⟩ := bind_some hF
  refine st_wp hS rfl (wp_callv (vs := [(Value.slice none 0 0)]) (cap := [(fdp b7 0), (fdp b9 0), (fdp b6 0), (fdp b8 0), (fdp b12 0)]) hS rfl rfl rfl (by decide) fn_ok_116 rfl (c_impl_firstList_c1__always__FindInducedPathc1__firstListc1 F ([] : List (Int)) p1_n p0_g_Size p0_g_Rows p2_may_c0_Size p2_may_c0_Rows (Value.slice none 0 0) b7 b9 p0_g_Rowsv b6 p2_may_c0_Rowsv p2_may_c0b b8 b12 hr _ (rd_of_ow (hM.get 0 rfl)) (hM.get 4 rfl) (hM.get 2 rfl) (hM.get 6 rfl) (hM.get 5 rfl) (hM.get 7 rfl) (hM.get 8 rfl) (hM.get 3 rfl) (hM.get 1 rfl)) fun v28 w a hK hS => ?_)
  rcases r27 with _ | c29
  ·dsimp only at hF
   obtain ⟨rfl, hN⟩ := hK
   have hM := hM.fra hN.fr
   refine st_val hS rfl rfl (by decide) (rv_assign (hS.ev rfl)) fun a hS => ?_
   refine wpList_nil ?_
   refine hK23 _ _ ?_
   have hS : Sl 21 [(11, (Value.slice none 0 0))] a := hS.sub (sub_cons rfl sub_nil)
   have hM := hM.pick [] (by decide) rfl
   refine wp_seq_k fun K30 hK30 => ?_
   refine wp_region_lit ?_
   refine st_val hS rfl rfl (by decide) (rv_move (hS.ev rfl)) fun a hS => ?_
   refine st_val hS rfl rfl (by decide) (rv_move (hS.ev rfl)) fun a hS => ?_
   refine st_val hS rfl rfl (by decide) (rv_nil_neq Try.underlying22 (hS.ev rfl) (hS.ev rfl)) fun a hS => ?_
   refine st_val hS rfl rfl (by decide) (rv_assign (hS.ev rfl)) fun a hS => ?_
   refine st_val hS rfl rfl (by decide) (rv_assign (hS.ev rfl)) fun a hS => ?_
   refine wpList_nil ?_
   refine hK30 _ _ ?_
   refine wp_ret ?_
   cases hF
   have hM := hM.addNil 3
   exact hQr _ _ (r_2 hS rfl rfl rfl ⟨(Value.slice none 0 0), rfl, hM.pick [0] (by decide) rfl⟩)
  ·dsimp only at hF
   have hN : Mem Nob _ w [(true, ow 3 v28 (List.map (int i64) c29))] := hK
   have hM := hM.add hN rfl
   refine st_val hS rfl rfl (by decide) (rv_assign (hS.ev rfl)) fun a hS => ?_
   refine wpList_nil ?_
   refine hK23 _ _ ?_
   have hS : Sl 21 [(11, v28)] a := hS.sub (sub_cons rfl sub_nil)
   have hM := hM.pick [0] (by decide) rfl
   refine wp_seq_k fun K31 hK31 => ?_
   refine wp_region_lit ?_
   refine st_val hS rfl rfl (by decide) (rv_move (hS.ev rfl)) fun a hS => ?_
   refine st_val hS rfl rfl (by decide) (rv_move (hS.ev rfl)) fun a hS => ?_
   obtain ⟨_, hx, hF⟩ := bind_some hF
   have hi0 := neO_some hx
   refine st_val hS rfl rfl (by decide) (rv_neq_nil Try.underlying22 (hS.ev rfl) (hS.ev rfl) (rd_of_ow (hM.get 0 rfl)) hi0) fun a hS => ?_
   refine st_val hS rfl rfl (by decide) (rv_assign (hS.ev rfl)) fun a hS => ?_
   refine st_val hS rfl rfl (by decide) (rv_assign (hS.ev rfl)) fun a hS => ?_
   refine wpList_nil ?_
   refine hK31 _ _ ?_
   refine wp_ret ?_
   cases hF
   exact hQr _ _ (r_2 hS rfl rfl rfl ⟨v28, rfl, hM.pick [0] (by decide) rfl⟩)


theorem c_impl_FindInducedPath (F : Nat) (p0_g_Size : Int) (p0_g_Rows : List Int) (p1_n : Int) (p0_g_Rowsv : Value) {r : (List (Int)) × Bool} (hF : S_impl_FindInducedPath F p0_g_Size p0_g_Rows p1_n = some r) (w0 : World) (h0 : RdRow w0 p0_g_Rowsv (List.map (int i64) p0_g_Rows)) :
    Calls Try.prog 21 [(Value.agg #[(int i64 p0_g_Size), p0_g_Rowsv]), (int i64 p1_n)].toArray w0 (retPost fun v w' => ∃ v18, v = (Value.tuple #[v18, (Value.bool r.2)]) ∧ Mem Nob w0 w' [(true, ow 3 v18 (List.map (int i64) r.1))]) := by
 have hM : Mem Nob w0 w0 [(false, rd p0_g_Rowsv (List.map (int i64) p0_g_Rows))] := (Mem.rcons (Mem.nil w0) h0 (by simp))
 refine enter2 Try.func21 rfl rfl rfl fun Q a hQr hQn hQp hS => ?_
 have hS : Sl 17 [(0, (Value.agg #[(int i64 p0_g_Size), p0_g_Rowsv])), (1, (int i64 p1_n))] a := hS
 unfold S_impl_FindInducedPath at hF
 refine wp_seq_k fun K1 hK1 => ?_
 refine wp_region_lit ?_
 obtain ⟨b3, w, hr, hM⟩ := hM.boxE (ρ := a.eval) (dst := some 2) (ty := _) (pos := _) (af := _) (gd := _) (x := .tmp 0) (T := 28) [(int i64 p0_g_Size), p0_g_Rowsv] (hS.ev rfl) rfl
 refine st_val hS rfl rfl (by decide) hr fun a hS => ?_
 refine st_val hS rfl rfl (by decide) (rv_assign (hS.ev rfl)) fun a hS => ?_
 refine st_val hS rfl rfl (by decide) (rv_assign (hS.ev rfl)) fun a hS => ?_
 refine wpList_nil ?_
 refine hK1 _ _ ?_
 refine wp_seq_k fun K4 hK4 => ?_
 refine wp_seq_k fun K9 hK9 => ?_
 refine wp_region_lit ?_
 refine st_val hS rfl rfl (by decide) (rv_move (hS.ev rfl)) fun a hS => ?_
 refine st_val hS rfl rfl (by decide) (rv_fieldAddr ty_fd_28_0 (hS.ev rfl)) fun a hS => ?_
 refine st_val hS rfl rfl (by decide) (rv_load_bx (hS.ev rfl) ty_ag_3 (hM.get 0 rfl) rfl) fun a hS => ?_
 obtain ⟨r11, hr, hF⟩ := bind_some hF
 refine st_wp hS rfl (wp_call hS rfl rfl (by decide) fn_ok_76 rfl (c_impl_within F p1_n 1 p0_g_Size hr _) fun v w a hK hS => ?_)
 obtain ⟨rfl, hN⟩ := hK
 have hM := hM.fra hN.fr
 refine st_val hS rfl rfl (by decide) (rv_not (hS.ev rfl)) fun a hS => ?_
 refine wpList_nil ?_
 refine hK9 _ _ ?_
 rcases ite_some hF with ⟨hc, hF⟩ | ⟨hc, hF⟩
 ·refine cond_t hS rfl hc ?_
  refine wp_seq_k fun K12 hK12 => ?_
  refine wp_region_lit ?_
  refine st_val hS rfl rfl (by decide) (rv_assign (hS.ev rfl)) fun a hS => ?_
  refine st_val hS rfl rfl (by decide) (rv_assign (hS.ev rfl)) fun a hS => ?_
  refine wpList_nil ?_
  refine hK12 _ _ ?_
  have hS : Sl 17 [(4, (Value.slice none 0 0)), (5, (Value.bool false))] a := hS.sub (sub_cons rfl (sub_cons rfl sub_nil))
  have hM := hM.pick [] (by decide) rfl
  refine wp_ret ?_
  cases hF
  have hM := hM.addNil 3
  exact hQr _ _ (r_2 hS rfl rfl rfl ⟨(Value.slice none 0 0), rfl, hM.pick [0] (by decide) rfl⟩)
 ·refine cond_f hS rfl hc ?_
  refine wp_skip ?_
  refine hK4 _ _ ?_
  have hS : Sl 17 [(1, (int i64 p1_n)), (2, (fdp b3 0))] a := hS.sub (sub_cons rfl (sub_cons rfl sub_nil))
  refine wp_seq_k fun K13 hK13 => ?_
  refine wp_region_lit ?_
  refine st_val hS rfl rfl (by decide) (rv_load_agg (hS.ev rfl) ty_ag_28 (hM.get 0 rfl) ty_sz_28) fun a hS => ?_
  refine st_val hS rfl rfl (by decide) (rv_move (hS.ev rfl)) fun a hS => ?_
  refine st_val hS rfl rfl (by decide) (rv_makeFunc hS rfl) fun a hS => ?_
  obtain ⟨r16, hr, hF⟩ := bind_some hF
  refine st_wp hS rfl (wp_call hS rfl rfl (by decide) fn_ok_69 rfl (c_impl_firstList__FindInducedPathc1__always F p0_g_Size p0_g_Rows p1_n p0_g_Size p0_g_Rows p0_g_Rowsv p0_g_Rowsv b3 hr _ (hM.get 1 rfl) (hM.get 1 rfl) (hM.get 0 rfl)) fun v w a hK hS => ?_)
  obtain ⟨v17, rfl, hN⟩ := hK
  have hM := hM.add hN rfl
  refine st_val hS rfl rfl (by decide) (rv_extract (hS.ev rfl) rfl) fun a hS => ?_
  refine st_val hS rfl rfl (by decide) (rv_extract (hS.ev rfl) rfl) fun a hS => ?_
  refine st_val hS rfl rfl (by decide) (rv_assign (hS.ev rfl)) fun a hS => ?_
  refine st_val hS rfl rfl (by decide) (rv_assign (hS.ev rfl)) fun a hS => ?_
  refine wpList_nil ?_
  refine hK13 _ _ ?_
  have hS : Sl 17 [(4, v17), (5, (Value.bool r16.2))] a := hS.sub (sub_cons rfl (sub_cons rfl sub_nil))
  have hM := hM.pick [0] (by decide) rfl
  refine wp_ret ?_
  cases hF
  exact hQr _ _ (r_2 hS rfl rfl rfl ⟨v17, rfl, hM.pick [0] (by decide) rfl⟩)


theorem c_spec_FindHole (F : Nat) (p0_g_Size : Int) (p0_g_Rows : List Int) (p0_g_Rowsv : Value) {r : (List (Int)) × Bool} (hF : S_spec_FindHole F p0_g_Size p0_g_Rows = some r) (w0 : World) (h0 : RdRow w0 p0_g_Rowsv (List.map (int i64) p0_g_Rows)) :
    Calls Try.prog 22 [(Value.agg #[(int i64 p0_g_Size), p0_g_Rowsv])].toArray w0 (retPost fun v w' => ∃ v124, v = (Value.tuple #[v124, (Value.bool r.2)]) ∧ Mem Nob w0 w' [(true, ow 3 v124 (List.map (int i64) r.1))]) := by
 have hM : Mem Nob w0 w0 [(false, rd p0_g_Rowsv (List.map (int i64) p0_g_Rows))] := (Mem.rcons (Mem.nil w0) h0 (by simp))
 refine enter2 Try.func22 rfl rfl rfl fun Q a hQr hQn hQp hS => ?_
 have hS : Sl 27 [(0, (Value.agg #[(int i64 p0_g_Size), p0_g_Rowsv]))] a := hS
 unfold S_spec_FindHole at hF
 refine wp_seq_k fun K1 hK1 => ?_
 refine wp_region_lit ?_
 obtain ⟨b3, w, hr, hM⟩ := hM.boxE (ρ := a.eval) (dst := some 1) (ty := _) (pos := _) (af := _) (gd := _) (x := .tmp 0) (T := 28) [(int i64 p0_g_Size), p0_g_Rowsv] (hS.ev rfl) rfl
 refine st_val hS rfl rfl (by decide) hr fun a hS => ?_
 refine st_val hS rfl rfl (by decide) (rv_assign (hS.ev rfl)) fun a hS => ?_
 refine st_val hS rfl rfl (by decide) (rv_assign (hS.ev rfl)) fun a hS => ?_
 refine wpList_nil ?_
 refine hK1 _ _ ?_
 refine wp_seq_k fun K4 hK4 => ?_
 have hJ1 : ∀ (a : Act) (w : World), Sl 27 [] a → Mem Nob w0 w [] → S_spec_FindHole_j1 F = some r → K4 a w := by
  intro a w hS hM hF
  unfold S_spec_FindHole_j1 at hF
  refine hK4 _ _ ?_
  refine wp_seq_k fun K63 hK63 => ?_
  refine wp_region_lit ?_
  obtain ⟨v65, w, hr, hM⟩ := Mem.litE (f := (int i64)) (dst := some 26) (ty := _) (pos := _) (af := _) (gd := _) (ps := []) ([] : List (Int)) i64_one hM hS Try.underlying22 ty_el_3 rfl rfl rfl rfl
  refine st_val hS rfl rfl (by decide) hr fun a hS => ?_
  refine st_val hS rfl rfl (by decide) (rv_assign (hS.ev rfl)) fun a hS => ?_
  refine st_val hS rfl rfl (by decide) (rv_assign (hS.ev rfl)) fun a hS => ?_
  refine wpList_nil ?_
  refine hK63 _ _ ?_
  refine wp_ret ?_
  cases hF
  exact hQr _ _ (r_2 hS rfl rfl rfl ⟨v65, rfl, hM.pick [0] (by decide) rfl⟩)
 refine wp_seq_k fun K66 hK66 => ?_
 refine wp_region_lit ?_
 refine st_val hS rfl rfl (by decide) (rv_assign (hS.ev rfl)) fun a hS => ?_
 refine wpList_nil ?_
 refine hK66 _ _ ?_
 refine wp_block ?_
 obtain ⟨lb2, hl2, hF2⟩ := bind_some hF
 refine wp_loop_sh (fun s => S_spec_FindHole_l2 F p0_g_Size p0_g_Rows s) (fun s a w => Sl 27 [(1, (fdp b3 0)), (4, (int i64 s))] a ∧ Mem Nob w0 w [(true, bx b3 28 [(int i64 p0_g_Size), p0_g_Rowsv]), (false, rd p0_g_Rowsv (List.map (int i64) p0_g_Rows))]) hl2 ⟨(hS.sub (sub_cons rfl (sub_cons rfl sub_nil))), (hM.pick [0, 1] (by decide) rfl)⟩ ?_
 rintro K2 x67 a w res2 ⟨hS, hM⟩ hF hN2 hX2
 have hF : S_spec_FindHole_l2 F p0_g_Size p0_g_Rows x67 = some res2 := hF
 have hS : Sl 27 [(1, (fdp b3 0)), (4, (int i64 x67))] a := hS
 have hM : Mem Nob w0 w [(true, bx b3 28 [(int i64 p0_g_Size), p0_g_Rowsv]), (false, rd p0_g_Rowsv (List.map (int i64) p0_g_Rows))] := hM
 unfold S_spec_FindHole_l2 at hF
 refine wp_seq_k fun K96 hK96 => ?_
 refine wp_seq_k fun K101 hK101 => ?_
 have hJ3 : ∀ (p103 : Bool) (a : Act) (w : World), Sl 27 [(1, (fdp b3 0)), (4, (int i64 x67)), (14, (Value.bool p103))] a → Mem Nob w0 w [(true, bx b3 28 [(int i64 p0_g_Size), p0_g_Rowsv]), (false, rd p0_g_Rowsv (List.map (int i64) p0_g_Rows))] → S_spec_FindHole_j3 F p0_g_Size p0_g_Rows x67 p103 = some res2 → K101 a w := by
  intro p103 a w hS hM hF
  unfold S_spec_FindHole_j3 at hF
  refine hK101 _ _ ?_
  rcases ite_some hF with ⟨hc, hF⟩ | ⟨hc, hF⟩
  ·refine cond_t hS rfl hc ?_
   refine wp_skip ?_
   refine hK96 _ _ ?_
   refine wp_seq_k fun K104 hK104 => ?_
   refine wp_block ?_
   refine wp_seq_k fun K114 hK114 => ?_
   refine wp_region_lit ?_
   refine st_val hS rfl rfl (by decide) (rv_load_agg (hS.ev rfl) ty_ag_28 (hM.get 0 rfl) ty_sz_28) fun a hS => ?_
   obtain ⟨v118, w, hr, hM⟩ := Mem.litE (f := (int i64)) (dst := some 19) (ty := _) (pos := _) (af := _) (gd := _) (ps := []) ([] : List (Int)) i64_one hM hS Try.underlying22 ty_el_3 rfl rfl rfl rfl
   refine st_val hS rfl rfl (by decide) hr fun a hS => ?_
   refine st_val hS rfl rfl (by decide) (rv_move (hS.ev rfl)) fun a hS => ?_
   obtain ⟨r119, hr, hF⟩ := bind_some hF
   have hM := hM.pick [0, 2, 1] (by decide) rfl
   have hP := Mem.pre (A := [(true, ow 3 v118 (List.map (int i64) ([] : List (Int))))]) (C := [(false, rd p0_g_Rowsv (List.map (int i64) p0_g_Rows))]) (B := [(true, bx b3 28 [(int i64 p0_g_Size), p0_g_Rowsv])]) hM rfl (weaks_cons (weak_self _ _) weaks_nil)
   refine st_wp hS rfl (wp_call hS rfl rfl (by decide) fn_ok_75 rfl (c_spec_l4Search F p0_g_Size p0_g_Rows ([] : List (Int)) x67 true p0_g_Rowsv v118 hr _ hP) fun v w a hK hS => ?_)
   obtain ⟨v120, rfl, hN⟩ := hK
   have hM := Mem.callo (A := [(true, ow 3 v118 (List.map (int i64) ([] : List (Int))))]) (B := [(false, rd p0_g_Rowsv (List.map (int i64) p0_g_Rows)), (true, bx b3 28 [(int i64 p0_g_Size), p0_g_Rowsv])]) hM rfl hN rfl
   refine st_val hS rfl rfl (by decide) (rv_move (hS.ev rfl)) fun a hS => ?_
   refine st_val hS rfl rfl (by decide) (rv_extract (hS.ev rfl) rfl) fun a hS => ?_
   refine st_val hS rfl rfl (by decide) (rv_extract (hS.ev rfl) rfl) fun a hS => ?_
   refine st_val hS rfl rfl (by decide) (rv_assign (hS.ev rfl)) fun a hS => ?_
   refine st_val hS rfl rfl (by decide) (rv_assign (hS.ev rfl)) fun a hS => ?_
   refine wpList_nil ?_
   refine hK114 _ _ ?_
   have hS : Sl 27 [(1, (fdp b3 0)), (4, (int i64 x67)), (5, v120), (6, (Value.bool r119.2))] a := hS.sub (sub_cons rfl (sub_cons rfl (sub_cons rfl (sub_cons rfl sub_nil))))
   refine wp_seq_k fun K121 hK121 => ?_
   refine wp_region_lit ?_
   refine st_val hS rfl rfl (by decide) (rv_move (hS.ev rfl)) fun a hS => ?_
   refine wpList_nil ?_
   refine hK121 _ _ ?_
   rcases ite_some hF with ⟨hc, hF⟩ | ⟨hc, hF⟩
   ·refine cond_t hS rfl hc ?_
    refine wp_seq_k fun K122 hK122 => ?_
    refine wp_region_lit ?_
    refine st_val hS rfl rfl (by decide) (rv_move (hS.ev rfl)) fun a hS => ?_
    refine st_val hS rfl rfl (by decide) (rv_assign (hS.ev rfl)) fun a hS => ?_
    refine st_val hS rfl rfl (by decide) (rv_assign (hS.ev rfl)) fun a hS => ?_
    refine wpList_nil ?_
    refine hK122 _ _ ?_
    refine wp_ret ?_
    cases hF
    have e := hX2 _ rfl
    subst e
    have hF := hF2
    cases hF
    exact hQr _ _ (r_2 hS rfl rfl rfl ⟨v120, rfl, hM.pick [0] (by decide) rfl⟩)
   ·refine cond_f hS rfl hc ?_
    refine wp_skip ?_
    refine hK104 _ _ ?_
    refine wp_region_lit ?_
    refine st_val hS rfl rfl (by decide) (rv_move (hS.ev rfl)) fun a hS => ?_
    refine st_val hS rfl rfl (by decide) (rv_add (hS.ev rfl) (hS.ev rfl)) fun a hS => ?_
    refine st_val hS rfl rfl (by decide) (rv_assign (hS.ev rfl)) fun a hS => ?_
    refine wpList_nil ?_
    cases hF
    exact hN2 _ _ _ rfl ⟨(hS.sub (sub_cons rfl (sub_cons rfl sub_nil))), (hM.pick [2, 1] (by decide) rfl)⟩
  ·refine cond_f hS rfl hc ?_
   refine wp_exit ?_
   cases hF
   exact hJ1 _ _ (hS.sub sub_nil) (hM.pick [] (by decide) rfl) (by have e := hX2 _ rfl; subst e; exact hF2)
 refine wp_region_lit ?_
 refine st_val hS rfl rfl (by decide) (rv_move (hS.ev rfl)) fun a hS => ?_
 refine st_val hS rfl rfl (by decide) (rv_fieldAddr ty_fd_28_0 (hS.ev rfl)) fun a hS => ?_
 refine st_val hS rfl rfl (by decide) (rv_load_bx (hS.ev rfl) ty_ag_3 (hM.get 0 rfl) rfl) fun a hS => ?_
 refine st_val hS rfl rfl (by decide) (rv_leq (hS.ev rfl) (hS.ev rfl)) fun a hS => ?_
 refine st_val hS rfl rfl (by decide) (rv_move (hS.ev rfl)) fun a hS => ?_
 rcases ite_some hF with ⟨hc, hF⟩ | ⟨hc, hF⟩
 ·have hS := hS.setb (t := 11) rfl hc
  refine st_val hS rfl rfl (by decide) (rv_load_agg (hS.ev rfl) ty_ag_28 (hM.get 0 rfl) ty_sz_28) fun a hS => ?_
  obtain ⟨r123, hr, hF⟩ := bind_some hF
  refine st_wp hS rfl (wp_call hS rfl rfl (by decide) fn_ok_73 rfl (c_spec_IsGraph F p0_g_Size p0_g_Rows p0_g_Rowsv hr _ (hM.get 1 rfl)) fun v w a hK hS => ?_)
  obtain ⟨rfl, hN⟩ := hK
  have hM := hM.fra hN.fr
  refine st_val hS rfl rfl (by decide) (rv_pick_t (hS.ev rfl) (hS.ev rfl)) fun a hS => ?_
  refine wpList_nil ?_
  exact hJ3 r123 _ _ (hS.sub (sub_cons rfl (sub_cons rfl (sub_cons rfl sub_nil)))) (hM.pick [0, 1] (by decide) rfl) hF
 ·have hS := hS.setb (t := 11) rfl hc
  refine st_skip hS rfl rfl (by decide) fun a hS => ?_
  refine st_skip hS rfl rfl (by decide) fun a hS => ?_
  refine st_val hS rfl rfl (by decide) (rv_pick_f (hS.ev rfl) (hS.ev rfl)) fun a hS => ?_
  refine wpList_nil ?_
  exact hJ3 false _ _ (hS.sub (sub_cons rfl (sub_cons rfl (sub_cons rfl sub_nil)))) (hM.pick [0, 1] (by decide) rfl) hF


theorem c_impl_FindHole_c1 (F : Nat) (p0_l : List Int) (q0_v : Int) (q1_Size : Int) (q1_Rows : List Int) (p0_lv : Value) (q0b : Nat) (q1_Rowsv : Value) (q1b : Nat) {r : Bool} (hF : S_impl_FindHole_c1 F p0_l q0_v q1_Size q1_Rows = some r) (w0 : World) (h0 : RdRow w0 p0_lv (List.map (int i64) p0_l)) (h1 : (bx q0b 3 [(int i64 q0_v)]).P w0) (h2 : RdRow w0 q1_Rowsv (List.map (int i64) q1_Rows)) (h3 : (bx q1b 28 [(int i64 q1_Size), q1_Rowsv]).P w0) :
    Calls Try.prog 78 [p0_lv, (fdp q0b 0), (fdp q1b 0)].toArray w0 (retPost fun v w' => v = (Value.bool r) ∧ Mem Nob w0 w' []) := by
 have hM : Mem Nob w0 w0 [(false, rd p0_lv (List.map (int i64) p0_l)), (false, bx q0b 3 [(int i64 q0_v)]), (false, rd q1_Rowsv (List.map (int i64) q1_Rows)), (false, bx q1b 28 [(int i64 q1_Size), q1_Rowsv])] := (Mem.rcons (Mem.gcons (Mem.rcons (Mem.gcons (Mem.nil w0) h3 (by simp)) h2 (by simp)) h1 (by simp)) h0 (by simp))
 refine enter2 Try.func78 rfl rfl rfl fun Q a hQr hQn hQp hS => ?_
 have hS : Sl 14 [(0, p0_lv), (1, (fdp q0b 0)), (2, (fdp q1b 0))] a := hS
 unfold S_impl_FindHole_c1 at hF
 refine wp_seq_k fun K1 hK1 => ?_
 refine wp_region_lit ?_
 refine st_val hS rfl rfl (by decide) (rv_assign (hS.ev rfl)) fun a hS => ?_
 refine wpList_nil ?_
 refine hK1 _ _ ?_
 refine wp_seq_k fun K2 hK2 => ?_
 have hJ1 : ∀ (p4 : Bool) (a : Act) (w : World), Sl 14 [(4, (Value.bool p4))] a → Mem Nob w0 w [] → S_impl_FindHole_c1_j1 F p4 = some r → K2 a w := by
  intro p4 a w hS hM hF
  unfold S_impl_FindHole_c1_j1 at hF
  refine hK2 _ _ ?_
  refine wp_ret ?_
  cases hF
  exact hQr _ _ (r_1 hS rfl rfl ⟨rfl, hM.pick [] (by decide) rfl⟩)
 refine wp_region_lit ?_
 refine st_val hS rfl rfl (by decide) (rv_move (hS.ev rfl)) fun a hS => ?_
 refine st_val hS rfl rfl (by decide) (rv_len_rowM Try.underlying22 (hS.ev rfl) (hM.get 0 rfl)) fun a hS => ?_
 refine st_val hS rfl rfl (by decide) (rv_load_bx (hS.ev rfl) ty_ag_3 (hM.get 1 rfl) rfl) fun a hS => ?_
 refine st_val hS rfl rfl (by decide) (rv_eql (hS.ev rfl) (hS.ev rfl)) fun a hS => ?_
 refine st_val hS rfl rfl (by decide) (rv_move (hS.ev rfl)) fun a hS => ?_
 rcases ite_some hF with ⟨hc, hF⟩ | ⟨hc, hF⟩
 ·have hS := hS.setb (t := 9) rfl hc
  refine st_skip hS rfl rfl (by decide) fun a hS => ?_
  refine st_skip hS rfl rfl (by decide) fun a hS => ?_
  refine st_skip hS rfl rfl (by decide) fun a hS => ?_
  refine st_val hS rfl rfl (by decide) (rv_pick_t (hS.ev rfl) (hS.ev rfl)) fun a hS => ?_
  refine st_val hS rfl rfl (by decide) (rv_assign (hS.ev rfl)) fun a hS => ?_
  refine wpList_nil ?_
  exact hJ1 true _ _ (hS.sub (sub_cons rfl sub_nil)) (hM.pick [] (by decide) rfl) hF
 ·have hS := hS.setb (t := 9) rfl hc
  refine st_val hS rfl rfl (by decide) (rv_load_agg (hS.ev rfl) ty_ag_28 (hM.get 3 rfl) ty_sz_28) fun a hS => ?_
  refine st_val hS rfl rfl (by decide) (rv_move (hS.ev rfl)) fun a hS => ?_
  obtain ⟨r5, hr, hF⟩ := bind_some hF
  refine st_wp hS rfl (wp_call hS rfl rfl (by decide) fn_ok_30 rfl (c_impl_IsInducedPath F q1_Size q1_Rows p0_l q1_Rowsv p0_lv hr _ (hM.get 2 rfl) (hM.get 0 rfl)) fun v w a hK hS => ?_)
  obtain ⟨rfl, hN⟩ := hK
  have hM := hM.fra hN.fr
  refine st_val hS rfl rfl (by decide) (rv_pick_f (hS.ev rfl) (hS.ev rfl)) fun a hS => ?_
  refine st_val hS rfl rfl (by decide) (rv_assign (hS.ev rfl)) fun a hS => ?_
  refine wpList_nil ?_
  exact hJ1 r5 _ _ (hS.sub (sub_cons rfl sub_nil)) (hM.pick [] (by decide) rfl) hF


theorem c_impl_IsHole_c1 (F : Nat) (p0_i : Int) (p1_k : Int) (q0_v : List Int) (q0_vv : Value) (q0b : Nat) {r : Bool} (hF : S_impl_IsHole_c1 F p0_i p1_k q0_v = some r) (w0 : World) (h0 : RdRow w0 q0_vv (List.map (int i64) q0_v)) (h1 : (bx q0b 22 [q0_vv]).P w0) :
    Calls Try.prog 83 [(int i64 p0_i), (int i64 p1_k), (fdp q0b 0)].toArray w0 (retPost fun v w' => v = (Value.bool r) ∧ Mem Nob w0 w' []) := by
 have hM : Mem Nob w0 w0 [(false, rd q0_vv (List.map (int i64) q0_v)), (false, bx q0b 22 [q0_vv])] := (Mem.rcons (Mem.gcons (Mem.nil w0) h1 (by simp)) h0 (by simp))
 refine enter2 Try.func83 rfl rfl rfl fun Q a hQr hQn hQp hS => ?_
 have hS : Sl 21 [(0, (int i64 p0_i)), (1, (int i64 p1_k)), (2, (fdp q0b 0))] a := hS
 unfold S_impl_IsHole_c1 at hF
 refine wp_seq_k fun K1 hK1 => ?_
 refine wp_region_lit ?_
 refine st_val hS rfl rfl (by decide) (rv_assign (hS.ev rfl)) fun a hS => ?_
 refine wpList_nil ?_
 refine hK1 _ _ ?_
 refine wp_seq_k fun K2 hK2 => ?_
 have hJ1 : ∀ (p3 : Bool) (a : Act) (w : World), Sl 21 [(5, (Value.bool p3))] a → Mem Nob w0 w [] → S_impl_IsHole_c1_j1 F p3 = some r → K2 a w := by
  intro p3 a w hS hM hF
  unfold S_impl_IsHole_c1_j1 at hF
  refine hK2 _ _ ?_
  refine wp_ret ?_
  cases hF
  exact hQr _ _ (r_1 hS rfl rfl ⟨rfl, hM.pick [] (by decide) rfl⟩)
 refine wp_region_lit ?_
 refine st_val hS rfl rfl (by decide) (rv_move (hS.ev rfl)) fun a hS => ?_
 refine st_val hS rfl rfl (by decide) (rv_move (hS.ev rfl)) fun a hS => ?_
 refine st_val hS rfl rfl (by decide) (rv_add (hS.ev rfl) (hS.ev rfl)) fun a hS => ?_
 refine st_val hS rfl rfl (by decide) (rv_eql (hS.ev rfl) (hS.ev rfl)) fun a hS => ?_
 refine st_val hS rfl rfl (by decide) (rv_move (hS.ev rfl)) fun a hS => ?_
 rcases ite_some hF with ⟨hc, hF⟩ | ⟨hc, hF⟩
 ·have hS := hS.setb (t := 10) rfl hc
  refine st_skip hS rfl rfl (by decide) fun a hS => ?_
  refine st_skip hS rfl rfl (by decide) fun a hS => ?_
  refine st_skip hS rfl rfl (by decide) fun a hS => ?_
  refine st_skip hS rfl rfl (by decide) fun a hS => ?_
  refine st_skip hS rfl rfl (by decide) fun a hS => ?_
  refine st_skip hS rfl rfl (by decide) fun a hS => ?_
  refine st_skip hS rfl rfl (by decide) fun a hS => ?_
  refine st_skip hS rfl rfl (by decide) fun a hS => ?_
  refine st_skip hS rfl rfl (by decide) fun a hS => ?_
  refine st_val hS rfl rfl (by decide) (rv_pick_t (hS.ev rfl) (hS.ev rfl)) fun a hS => ?_
  refine st_val hS rfl rfl (by decide) (rv_assign (hS.ev rfl)) fun a hS => ?_
  refine wpList_nil ?_
  exact hJ1 true _ _ (hS.sub (sub_cons rfl sub_nil)) (hM.pick [] (by decide) rfl) hF
 ·have hS := hS.setb (t := 10) rfl hc
  refine st_val hS rfl rfl (by decide) (rv_move (hS.ev rfl)) fun a hS => ?_
  refine st_val hS rfl rfl (by decide) (rv_eql (hS.ev rfl) (hS.ev rfl)) fun a hS => ?_
  refine st_val hS rfl rfl (by decide) (rv_move (hS.ev rfl)) fun a hS => ?_
  rcases ite_some hF with ⟨hc, hF⟩ | ⟨hc, hF⟩
  ·have hS := hS.setb (t := 13) rfl hc
   refine st_val hS rfl rfl (by decide) (rv_move (hS.ev rfl)) fun a hS => ?_
   refine st_val hS rfl rfl (by decide) (rv_load_bx (hS.ev rfl) ty_ag_22 (hM.get 1 rfl) rfl) fun a hS => ?_
   refine st_val hS rfl rfl (by decide) (rv_len_rowM Try.underlying22 (hS.ev rfl) (hM.get 0 rfl)) fun a hS => ?_
   refine st_val hS rfl rfl (by decide) (rv_sub (hS.ev rfl) (hS.ev rfl)) fun a hS => ?_
   refine st_val hS rfl rfl (by decide) (rv_eql (hS.ev rfl) (hS.ev rfl)) fun a hS => ?_
   refine st_val hS rfl rfl (by decide) (rv_pick_t (hS.ev rfl) (hS.ev rfl)) fun a hS => ?_
   refine st_val hS rfl rfl (by decide) (rv_pick_f (hS.ev rfl) (hS.ev rfl)) fun a hS => ?_
   refine st_val hS rfl rfl (by decide) (rv_assign (hS.ev rfl)) fun a hS => ?_
   refine wpList_nil ?_
   exact hJ1 (p1_k == (i64.wrap ((q0_v.length : Int) - 1))) _ _ (hS.sub (sub_cons rfl sub_nil)) (hM.pick [] (by decide) rfl) hF
  ·have hS := hS.setb (t := 13) rfl hc
   refine st_skip hS rfl rfl (by decide) fun a hS => ?_
   refine st_skip hS rfl rfl (by decide) fun a hS => ?_
   refine st_skip hS rfl rfl (by decide) fun a hS => ?_
   refine st_skip hS rfl rfl (by decide) fun a hS => ?_
   refine st_skip hS rfl rfl (by decide) fun a hS => ?_
   refine st_val hS rfl rfl (by decide) (rv_pick_f (hS.ev rfl) (hS.ev rfl)) fun a hS => ?_
   refine st_val hS rfl rfl (by decide) (rv_pick_f (hS.ev rfl) (hS.ev rfl)) fun a hS => ?_
   refine st_val hS rfl rfl (by decide) (rv_assign (hS.ev rfl)) fun a hS => ?_
   refine wpList_nil ?_
   exact hJ1 false _ _ (hS.sub (sub_cons rfl sub_nil)) (hM.pick [] (by decide) rfl) hF


theorem c_impl_areJoined__IsHolec1 (F : Nat) (p0_g_Size : Int) (p0_g_Rows : List Int) (p1_l : List Int) (p2_joined_c0_v : List Int) (p0_g_Rowsv : Value) (p1_lv : Value) (p2_joined_c0_vv : Value) (p2_joined_c0b : Nat) {r : Bool} (hF : S_impl_areJoined__IsHolec1 F p0_g_Size p0_g_Rows p1_l p2_joined_c0_v = some r) (w0 : World) (h0 : RdRow w0 p0_g_Rowsv (List.map (int i64) p0_g_Rows)) (h1 : RdRow w0 p1_lv (List.map (int i64) p1_l)) (h2 : RdRow w0 p2_joined_c0_vv (List.map (int i64) p2_joined_c0_v)) (h3 : (bx p2_joined_c0b 22 [p2_joined_c0_vv]).P w0) :
    Calls Try.prog 82 [(Value.agg #[(int i64 p0_g_Size), p0_g_Rowsv]), p1_lv, (Value.func (Fn.func 83) #[] #[(fdp p2_joined_c0b 0)])].toArray w0 (retPost fun v w' => v = (Value.bool r) ∧ Mem Nob w0 w' []) := by
 have hM : Mem Nob w0 w0 [(false, rd p0_g_Rowsv (List.map (int i64) p0_g_Rows)), (false, rd p1_lv (List.map (int i64) p1_l)), (false, rd p2_joined_c0_vv (List.map (int i64) p2_joined_c0_v)), (false, bx p2_joined_c0b 22 [p2_joined_c0_vv])] := (Mem.rcons (Mem.rcons (Mem.rcons (Mem.gcons (Mem.nil w0) h3 (by simp)) h2 (by simp)) h1 (by simp)) h0 (by simp))
 refine enter2 Try.func82 rfl rfl rfl fun Q a hQr hQn hQp hS => ?_
 have hS : Sl 42 [(0, (Value.agg #[(int i64 p0_g_Size), p0_g_Rowsv])), (1, p1_lv), (2, (Value.func (Fn.func 83) #[] #[(fdp p2_joined_c0b 0)]))] a := hS
 unfold S_impl_areJoined__IsHolec1 at hF
 refine wp_seq_k fun K1 hK1 => ?_
 refine wp_region_lit ?_
 obtain ⟨b3, w, hr, hM⟩ := hM.boxE (ρ := a.eval) (dst := some 3) (ty := _) (pos := _) (af := _) (gd := _) (x := .tmp 0) (T := 28) [(int i64 p0_g_Size), p0_g_Rowsv] (hS.ev rfl) rfl
 refine st_val hS rfl rfl (by decide) hr fun a hS => ?_
 refine st_val hS rfl rfl (by decide) (rv_assign (hS.ev rfl)) fun a hS => ?_
 refine wpList_nil ?_
 refine hK1 _ _ ?_
 refine wp_seq_k fun K4 hK4 => ?_
 refine wp_seq_k fun K9 hK9 => ?_
 refine wp_region_lit ?_
 refine st_val hS rfl rfl (by decide) (rv_load_agg (hS.ev rfl) ty_ag_28 (hM.get 0 rfl) ty_sz_28) fun a hS => ?_
 refine st_val hS rfl rfl (by decide) (rv_move (hS.ev rfl)) fun a hS => ?_
 obtain ⟨r11, hr, hF⟩ := bind_some hF
 refine st_wp hS rfl (wp_call hS rfl rfl (by decide) fn_ok_107 rfl (c_impl_areVertices F p0_g_Size p0_g_Rows p1_l p0_g_Rowsv p1_lv hr _ (hM.get 1 rfl) (hM.get 2 rfl)) fun v w a hK hS => ?_)
 obtain ⟨rfl, hN⟩ := hK
 have hM := hM.fra hN.fr
 refine st_val hS rfl rfl (by decide) (rv_not (hS.ev rfl)) fun a hS => ?_
 refine wpList_nil ?_
 refine hK9 _ _ ?_
 rcases ite_some hF with ⟨hc, hF⟩ | ⟨hc, hF⟩
 ·refine cond_t hS rfl hc ?_
  refine wp_seq_k fun K12 hK12 => ?_
  refine wp_region_lit ?_
  refine st_val hS rfl rfl (by decide) (rv_assign (hS.ev rfl)) fun a hS => ?_
  refine wpList_nil ?_
  refine hK12 _ _ ?_
  have hS : Sl 42 [(6, (Value.bool false))] a := hS.sub (sub_cons rfl sub_nil)
  have hM := hM.pick [] (by decide) rfl
  refine wp_ret ?_
  cases hF
  exact hQr _ _ (r_1 hS rfl rfl ⟨rfl, hM.pick [] (by decide) rfl⟩)
 ·refine cond_f hS rfl hc ?_
  refine wp_skip ?_
  refine hK4 _ _ ?_
  refine wp_seq_k fun K13 hK13 => ?_
  have hJ1 : ∀ (a : Act) (w : World), Sl 42 [] a → Mem Nob w0 w [] → S_impl_areJoined__IsHolec1_j1 F = some r → K13 a w := by
   intro a w hS hM hF
   unfold S_impl_areJoined__IsHolec1_j1 at hF
   refine hK13 _ _ ?_
   refine wp_seq_k fun K266 hK266 => ?_
   refine wp_region_lit ?_
   refine st_val hS rfl rfl (by decide) (rv_assign (hS.ev rfl)) fun a hS => ?_
   refine wpList_nil ?_
   refine hK266 _ _ ?_
   refine wp_ret ?_
   cases hF
   exact hQr _ _ (r_1 hS rfl rfl ⟨rfl, hM.pick [] (by decide) rfl⟩)
  refine wp_seq_k fun K267 hK267 => ?_
  refine wp_region_lit ?_
  refine st_val hS rfl rfl (by decide) (rv_move (hS.ev rfl)) fun a hS => ?_
  refine st_val hS rfl rfl (by decide) (rv_len_rowM Try.underlying22 (hS.ev rfl) (hM.get 2 rfl)) fun a hS => ?_
  refine st_val hS rfl rfl (by decide) (rv_move (hS.ev rfl)) fun a hS => ?_
  refine wpList_nil ?_
  refine hK267 _ _ ?_
  refine wp_block ?_
  obtain ⟨lb2, hl2, hF2⟩ := bind_some hF
  refine wp_loop_sh (fun s => S_impl_areJoined__IsHolec1_l2 F p0_g_Rows p1_l p2_joined_c0_v s) (fun s a w => Sl 42 [(1, p1_lv), (2, (Value.func (Fn.func 83) #[] #[(fdp p2_joined_c0b 0)])), (3, (fdp b3 0)), (14, (int i64 (p1_l.length : Int))), (15, (int i64 s))] a ∧ Mem Nob w0 w [(false, rd p1_lv (List.map (int i64) p1_l)), (false, bx p2_joined_c0b 22 [p2_joined_c0_vv]), (false, rd p2_joined_c0_vv (List.map (int i64) p2_joined_c0_v)), (true, bx b3 28 [(int i64 p0_g_Size), p0_g_Rowsv]), (false, rd p0_g_Rowsv (List.map (int i64) p0_g_Rows))]) hl2 ⟨(hS.sub (sub_cons rfl (sub_cons rfl (sub_cons rfl (sub_cons rfl (sub_cons rfl sub_nil)))))), (hM.pick [2, 4, 3, 0, 1] (by decide) rfl)⟩ ?_
  rintro K2 x268 a w res2 ⟨hS, hM⟩ hF hN2 hX2
  have hF : S_impl_areJoined__IsHolec1_l2 F p0_g_Rows p1_l p2_joined_c0_v x268 = some res2 := hF
  have hS : Sl 42 [(1, p1_lv), (2, (Value.func (Fn.func 83) #[] #[(fdp p2_joined_c0b 0)])), (3, (fdp b3 0)), (14, (int i64 (p1_l.length : Int))), (15, (int i64 x268))] a := hS
  have hM : Mem Nob w0 w [(false, rd p1_lv (List.map (int i64) p1_l)), (false, bx p2_joined_c0b 22 [p2_joined_c0_vv]), (false, rd p2_joined_c0_vv (List.map (int i64) p2_joined_c0_v)), (true, bx b3 28 [(int i64 p0_g_Size), p0_g_Rowsv]), (false, rd p0_g_Rowsv (List.map (int i64) p0_g_Rows))] := hM
  unfold S_impl_areJoined__IsHolec1_l2 at hF
  refine wp_seq_k fun K394 hK394 => ?_
  refine wp_region_lit ?_
  refine st_val hS rfl rfl (by decide) (rv_lss (hS.ev rfl) (hS.ev rfl)) fun a hS => ?_
  refine wpList_nil ?_
  refine hK394 _ _ ?_
  refine wp_seq_k fun K395 hK395 => ?_
  rcases ite_some hF with ⟨hc, hF⟩ | ⟨hc, hF⟩
  ·refine cond_t hS rfl hc ?_
   refine wp_skip ?_
   refine hK395 _ _ ?_
   refine wp_seq_k fun K396 hK396 => ?_
   have hJ3 : ∀ (a : Act) (w : World), Sl 42 [(1, p1_lv), (2, (Value.func (Fn.func 83) #[] #[(fdp p2_joined_c0b 0)])), (3, (fdp b3 0)), (14, (int i64 (p1_l.length : Int))), (15, (int i64 x268))] a → Mem Nob w0 w [(false, rd p1_lv (List.map (int i64) p1_l)), (false, bx p2_joined_c0b 22 [p2_joined_c0_vv]), (false, rd p2_joined_c0_vv (List.map (int i64) p2_joined_c0_v)), (true, bx b3 28 [(int i64 p0_g_Size), p0_g_Rowsv]), (false, rd p0_g_Rowsv (List.map (int i64) p0_g_Rows))] → S_impl_areJoined__IsHolec1_j3 F x268 = some res2 → K396 a w := by
    intro a w hS hM hF
    unfold S_impl_areJoined__IsHolec1_j3 at hF
    refine hK396 _ _ ?_
    refine wp_region_lit ?_
    refine st_val hS rfl rfl (by decide) (rv_add (hS.ev rfl) (hS.ev rfl)) fun a hS => ?_
    refine st_val hS rfl rfl (by decide) (rv_move (hS.ev rfl)) fun a hS => ?_
    refine wpList_nil ?_
    cases hF
    exact hN2 _ _ _ rfl ⟨(hS.sub (sub_cons rfl (sub_cons rfl (sub_cons rfl (sub_cons rfl (sub_cons rfl sub_nil)))))), (hM.pick [0, 1, 2, 3, 4] (by decide) rfl)⟩
   refine wp_block ?_
   refine wp_seq_k fun K458 hK458 => ?_
   refine wp_region_lit ?_
   refine st_val hS rfl rfl (by decide) (rv_move (hS.ev rfl)) fun a hS => ?_
   refine st_val hS rfl rfl (by decide) (rv_assign (hS.ev rfl)) fun a hS => ?_
   refine wpList_nil ?_
   refine hK458 _ _ ?_
   refine wp_seq_k fun K459 hK459 => ?_
   refine wp_region_lit ?_
   refine st_val hS rfl rfl (by decide) (rv_move (hS.ev rfl)) fun a hS => ?_
   refine st_val hS rfl rfl (by decide) (rv_move (hS.ev rfl)) fun a hS => ?_
   refine wpList_nil ?_
   refine hK459 _ _ ?_
   refine wp_block ?_
   obtain ⟨lb4, hl4, hF4⟩ := bind_some hF
   refine wp_loop_sh (fun s => S_impl_areJoined__IsHolec1_l4 F p0_g_Rows p1_l p2_joined_c0_v x268 s) (fun s a w => Sl 42 [(1, p1_lv), (2, (Value.func (Fn.func 83) #[] #[(fdp p2_joined_c0b 0)])), (3, (fdp b3 0)), (7, (int i64 x268)), (14, (int i64 (p1_l.length : Int))), (15, (int i64 x268)), (18, (int i64 x268)), (19, (int i64 s))] a ∧ Mem Nob w0 w [(false, rd p1_lv (List.map (int i64) p1_l)), (false, bx p2_joined_c0b 22 [p2_joined_c0_vv]), (false, rd p2_joined_c0_vv (List.map (int i64) p2_joined_c0_v)), (true, bx b3 28 [(int i64 p0_g_Size), p0_g_Rowsv]), (false, rd p0_g_Rowsv (List.map (int i64) p0_g_Rows))]) hl4 ⟨(hS.sub (sub_cons rfl (sub_cons rfl (sub_cons rfl (sub_cons rfl (sub_cons rfl (sub_cons rfl (sub_cons rfl (sub_cons rfl sub_nil))))))))), (hM.pick [0, 1, 2, 3, 4] (by decide) rfl)⟩ ?_
   rintro K4 x460 a w res4 ⟨hS, hM⟩ hF hN4 hX4
   have hF : S_impl_areJoined__IsHolec1_l4 F p0_g_Rows p1_l p2_joined_c0_v x268 x460 = some res4 := hF
   have hS : Sl 42 [(1, p1_lv), (2, (Value.func (Fn.func 83) #[] #[(fdp p2_joined_c0b 0)])), (3, (fdp b3 0)), (7, (int i64 x268)), (14, (int i64 (p1_l.length : Int))), (15, (int i64 x268)), (18, (int i64 x268)), (19, (int i64 x460))] a := hS
   have hM : Mem Nob w0 w [(false, rd p1_lv (List.map (int i64) p1_l)), (false, bx p2_joined_c0b 22 [p2_joined_c0_vv]), (false, rd p2_joined_c0_vv (List.map (int i64) p2_joined_c0_v)), (true, bx b3 28 [(int i64 p0_g_Size), p0_g_Rowsv]), (false, rd p0_g_Rowsv (List.map (int i64) p0_g_Rows))] := hM
   unfold S_impl_areJoined__IsHolec1_l4 at hF
   refine wp_seq_k fun K490 hK490 => ?_
   refine wp_region_lit ?_
   refine st_val hS rfl rfl (by decide) (rv_lss (hS.ev rfl) (hS.ev rfl)) fun a hS => ?_
   refine wpList_nil ?_
   refine hK490 _ _ ?_
   refine wp_seq_k fun K491 hK491 => ?_
   rcases ite_some hF with ⟨hc, hF⟩ | ⟨hc, hF⟩
   ·refine cond_t hS rfl hc ?_
    refine wp_skip ?_
    refine hK491 _ _ ?_
    refine wp_seq_k fun K492 hK492 => ?_
    refine wp_block ?_
    refine wp_seq_k fun K506 hK506 => ?_
    refine wp_region_lit ?_
    refine st_val hS rfl rfl (by decide) (rv_move (hS.ev rfl)) fun a hS => ?_
    refine st_val hS rfl rfl (by decide) (rv_assign (hS.ev rfl)) fun a hS => ?_
    refine wpList_nil ?_
    refine hK506 _ _ ?_
    refine wp_seq_k fun K507 hK507 => ?_
    refine an_startB 18 Nob ty_mixed (by kernel_rfl) fun w hf => ?_
    have hM := hM.fra hf
    have hB := hM
    have hM := hB.reg0
    refine tkB hS 0 1 (by kernel_rfl) rfl rfl rfl hQp rfl (fun w' hC' => (rv_fieldAddr ty_fd_28_1 (hS.ev rfl))) hM.fr fun a hS => ?_
    refine tkB hS 1 3 (by kernel_rfl) rfl rfl rfl hQp rfl (fun w' hC' => (rv_load_bx (hS.ev rfl) ty_ag_22 ((hB.fra hC').get 3 rfl) rfl)) hM.fr fun a hS => ?_
    refine tkB hS 2 7 (by kernel_rfl) rfl rfl rfl hQp rfl (fun w' hC' => (rv_move (hS.ev rfl))) hM.fr fun a hS => ?_
    refine tkB hS 3 15 (by kernel_rfl) rfl rfl rfl hQp rfl (fun w' hC' => (rv_move (hS.ev rfl))) hM.fr fun a hS => ?_
    obtain ⟨x513, hx, hF⟩ := bind_some hF
    obtain ⟨hi0, hi1, hex513⟩ := idxL_some hx
    refine tkB hS 4 31 (by kernel_rfl) rfl rfl rfl hQp rfl (fun w' hC' => (rv_indexAddr Try.underlying22 ty_el_3 (hS.ev rfl) (hS.ev rfl) (hM.get 0 rfl) hi0 (map_len hi1))) hM.fr fun a hS => ?_
    refine tkB hS 5 63 (by kernel_rfl) rfl rfl rfl hQp rfl (fun w' hC' => (rv_load_el (hS.ev rfl) ty_ag_3 ((hB.fra hC').get 0 rfl) (mget hex513))) hM.fr fun a hS => ?_
    obtain ⟨x514, hx, hF⟩ := bind_some hF
    obtain ⟨hi0, hi1, hex514⟩ := idxL_some hx
    refine tkB hS 6 127 (by kernel_rfl) rfl rfl rfl hQp rfl (fun w' hC' => (rv_indexAddr Try.underlying22 ty_el_3 (hS.ev rfl) (hS.ev rfl) (hM.get 4 rfl) hi0 (map_len hi1))) hM.fr fun a hS => ?_
    refine tkB hS 7 255 (by kernel_rfl) rfl rfl rfl hQp rfl (fun w' hC' => (rv_load_el (hS.ev rfl) ty_ag_3 ((hB.fra hC').get 4 rfl) (mget hex514))) hM.fr fun a hS => ?_
    refine tkB hS 8 511 (by kernel_rfl) rfl rfl rfl hQp rfl (fun w' hC' => (rv_move (hS.ev rfl))) hM.fr fun a hS => ?_
    refine tkB hS 9 1023 (by kernel_rfl) rfl rfl rfl hQp rfl (fun w' hC' => (rv_move (hS.ev rfl))) hM.fr fun a hS => ?_
    obtain ⟨x515, hx, hF⟩ := bind_some hF
    obtain ⟨hi0, hi1, hex515⟩ := idxL_some hx
    refine tkB hS 10 2047 (by kernel_rfl) rfl rfl rfl hQp rfl (fun w' hC' => (rv_indexAddr Try.underlying22 ty_el_3 (hS.ev rfl) (hS.ev rfl) (hM.get 0 rfl) hi0 (map_len hi1))) hM.fr fun a hS => ?_
    refine tkB hS 11 4095 (by kernel_rfl) rfl rfl rfl hQp rfl (fun w' hC' => (rv_load_el (hS.ev rfl) ty_ag_3 ((hB.fra hC').get 0 rfl) (mget hex515))) hM.fr fun a hS => ?_
    refine tkB hS 13 12287 (by kernel_rfl) rfl rfl rfl hQp rfl (fun w' hC' => (rv_move (hS.ev rfl))) hM.fr fun a hS => ?_
    refine tkB hS 14 28671 (by kernel_rfl) rfl rfl rfl hQp rfl (fun w' hC' => (rv_move (hS.ev rfl))) hM.fr fun a hS => ?_
    refine tkB hS 15 61439 (by kernel_rfl) rfl rfl rfl hQp rfl (fun w' hC' => (rv_move (hS.ev rfl))) hM.fr fun a hS => ?_
    obtain ⟨r516, hr, hF⟩ := bind_some hF
    refine an_oneB hS (i := 12) 65535 (by kernel_rfl) rfl (by kernel_rfl) rfl ?_
    refine wp_call hS rfl rfl (by decide) fn_ok_108 rfl (c_impl_has F x514 x515 hr _) fun v w a hK hS => ?_
    obtain ⟨rfl, hN⟩ := hK
    have hM := hM.fra hN.fr
    refine ⟨hM.fr, ?_⟩
    obtain ⟨r517, hr, hF⟩ := bind_some hF
    refine an_oneB hS (i := 16) 131071 (by kernel_rfl) rfl (by kernel_rfl) rfl ?_
    refine wp_callv (vs := [(int i64 x460), (int i64 x268)]) (cap := [(fdp p2_joined_c0b 0)]) hS rfl rfl rfl (by decide) fn_ok_83 rfl (c_impl_IsHole_c1 F x460 x268 p2_joined_c0_v p2_joined_c0_vv p2_joined_c0b hr _ (hM.get 2 rfl) (hM.get 1 rfl)) fun v w a hK hS => ?_
    obtain ⟨rfl, hN⟩ := hK
    have hM := hM.fra hN.fr
    refine ⟨hM.fr, ?_⟩
    refine tkB hS 17 262143 (by kernel_rfl) rfl rfl rfl hQp rfl (fun w' hC' => (rv_bneq Try.underlying4 (hS.ev rfl) (hS.ev rfl))) hM.fr fun a hS => ?_
    refine an_done (by kernel_rfl) ?_
    have hN := hM.pick [] (by decide) rfl
    have hM := Mem.callo0 hB hN rfl
    refine hK507 _ _ ?_
    have hS : Sl 42 [(1, p1_lv), (2, (Value.func (Fn.func 83) #[] #[(fdp p2_joined_c0b 0)])), (3, (fdp b3 0)), (7, (int i64 x268)), (14, (int i64 (p1_l.length : Int))), (15, (int i64 x268)), (18, (int i64 x268)), (19, (int i64 x460)), (39, (Value.bool (r516 != r517)))] a := hS.sub (sub_cons rfl (sub_cons rfl (sub_cons rfl (sub_cons rfl (sub_cons rfl (sub_cons rfl (sub_cons rfl (sub_cons rfl (sub_cons rfl sub_nil)))))))))
    rcases ite_some hF with ⟨hc, hF⟩ | ⟨hc, hF⟩
    ·refine cond_t hS rfl hc ?_
     refine wp_seq_k fun K518 hK518 => ?_
     refine wp_region_lit ?_
     refine st_val hS rfl rfl (by decide) (rv_assign (hS.ev rfl)) fun a hS => ?_
     refine wpList_nil ?_
     refine hK518 _ _ ?_
     have hS : Sl 42 [(6, (Value.bool false))] a := hS.sub (sub_cons rfl sub_nil)
     have hM := hM.pick [] (by decide) rfl
     refine wp_ret ?_
     cases hF
     have e := hX4 _ rfl
     subst e
     have hF := hF4
     cases hF
     have e := hX2 _ rfl
     subst e
     have hF := hF2
     cases hF
     exact hQr _ _ (r_1 hS rfl rfl ⟨rfl, hM.pick [] (by decide) rfl⟩)
    ·refine cond_f hS rfl hc ?_
     refine wp_skip ?_
     refine hK492 _ _ ?_
     refine wp_region_lit ?_
     refine st_val hS rfl rfl (by decide) (rv_add (hS.ev rfl) (hS.ev rfl)) fun a hS => ?_
     refine st_val hS rfl rfl (by decide) (rv_move (hS.ev rfl)) fun a hS => ?_
     refine wpList_nil ?_
     cases hF
     exact hN4 _ _ _ rfl ⟨(hS.sub (sub_cons rfl (sub_cons rfl (sub_cons rfl (sub_cons rfl (sub_cons rfl (sub_cons rfl (sub_cons rfl (sub_cons rfl sub_nil))))))))), (hM.pick [0, 1, 2, 3, 4] (by decide) rfl)⟩
   ·refine cond_f hS rfl hc ?_
    refine wp_exit ?_
    cases hF
    exact hJ3 _ _ (hS.sub (sub_cons rfl (sub_cons rfl (sub_cons rfl (sub_cons rfl (sub_cons rfl sub_nil)))))) (hM.pick [0, 1, 2, 3, 4] (by decide) rfl) (by have e := hX4 _ rfl; subst e; exact hF4)
  ·refine cond_f hS rfl hc ?_
   refine wp_exit ?_
   cases hF
   exact hJ1 _ _ (hS.sub sub_nil) (hM.pick [] (by decide) rfl) (by have e := hX2 _ rfl; subst e; exact hF2)


theorem c_impl_IsHole (F : Nat) (p0_g_Size : Int) (p0_g_Rows : List Int) (p1_l : List Int) (p0_g_Rowsv : Value) (p1_lv : Value) {r : Bool} (hF : S_impl_IsHole F p0_g_Size p0_g_Rows p1_l = some r) (w0 : World) (h0 : RdRow w0 p0_g_Rowsv (List.map (int i64) p0_g_Rows)) (h1 : RdRow w0 p1_lv (List.map (int i64) p1_l)) :
    Calls Try.prog 27 [(Value.agg #[(int i64 p0_g_Size), p0_g_Rowsv]), p1_lv].toArray w0 (retPost fun v w' => v = (Value.bool r) ∧ Mem Nob w0 w' []) := by
 have hM : Mem Nob w0 w0 [(false, rd p0_g_Rowsv (List.map (int i64) p0_g_Rows)), (false, rd p1_lv (List.map (int i64) p1_l))] := (Mem.rcons (Mem.rcons (Mem.nil w0) h1 (by simp)) h0 (by simp))
 refine enter2 Try.func27 rfl rfl rfl fun Q a hQr hQn hQp hS => ?_
 have hS : Sl 14 [(0, (Value.agg #[(int i64 p0_g_Size), p0_g_Rowsv])), (1, p1_lv)] a := hS
 unfold S_impl_IsHole at hF
 refine wp_seq_k fun K1 hK1 => ?_
 refine wp_region_lit ?_
 obtain ⟨b4, w, hr, hM⟩ := hM.boxE (ρ := a.eval) (dst := some 2) (ty := _) (pos := _) (af := _) (gd := _) (x := .tmp 0) (T := 28) [(int i64 p0_g_Size), p0_g_Rowsv] (hS.ev rfl) rfl
 refine st_val hS rfl rfl (by decide) hr fun a hS => ?_
 obtain ⟨b5, w, hr, hM⟩ := hM.boxE (ρ := a.eval) (dst := some 3) (ty := _) (pos := _) (af := _) (gd := _) (x := .tmp 1) (T := 22) [p1_lv] (hS.ev rfl) (one_cells (rd_one (hM.get 2 rfl)))
 refine st_val hS rfl rfl (by decide) hr fun a hS => ?_
 refine st_val hS rfl rfl (by decide) (rv_assign (hS.ev rfl)) fun a hS => ?_
 refine wpList_nil ?_
 refine hK1 _ _ ?_
 refine wp_seq_k fun K6 hK6 => ?_
 have hJ1 : ∀ (p8 : Bool) (a : Act) (w : World), Sl 14 [(4, (Value.bool p8))] a → Mem Nob w0 w [] → S_impl_IsHole_j1 F p8 = some r → K6 a w := by
  intro p8 a w hS hM hF
  unfold S_impl_IsHole_j1 at hF
  refine hK6 _ _ ?_
  refine wp_ret ?_
  cases hF
  exact hQr _ _ (r_1 hS rfl rfl ⟨rfl, hM.pick [] (by decide) rfl⟩)
 refine wp_region_lit ?_
 refine st_val hS rfl rfl (by decide) (rv_load_bx (hS.ev rfl) ty_ag_22 (hM.get 0 rfl) rfl) fun a hS => ?_
 refine st_val hS rfl rfl (by decide) (rv_len_rowM Try.underlying22 (hS.ev rfl) (hM.get 3 rfl)) fun a hS => ?_
 refine st_val hS rfl rfl (by decide) (rv_geq (hS.ev rfl) (hS.ev rfl)) fun a hS => ?_
 refine st_val hS rfl rfl (by decide) (rv_move (hS.ev rfl)) fun a hS => ?_
 rcases ite_some hF with ⟨hc, hF⟩ | ⟨hc, hF⟩
 ·have hS := hS.setb (t := 8) rfl hc
  refine st_val hS rfl rfl (by decide) (rv_load_agg (hS.ev rfl) ty_ag_28 (hM.get 1 rfl) ty_sz_28) fun a hS => ?_
  refine st_val hS rfl rfl (by decide) (rv_load_bx (hS.ev rfl) ty_ag_22 (hM.get 0 rfl) rfl) fun a hS => ?_
  refine st_val hS rfl rfl (by decide) (rv_makeFunc hS rfl) fun a hS => ?_
  obtain ⟨r9, hr, hF⟩ := bind_some hF
  refine st_wp hS rfl (wp_call hS rfl rfl (by decide) fn_ok_82 rfl (c_impl_areJoined__IsHolec1 F p0_g_Size p0_g_Rows p1_l p1_l p0_g_Rowsv p1_lv p1_lv b5 hr _ (hM.get 2 rfl) (hM.get 3 rfl) (hM.get 3 rfl) (hM.get 0 rfl)) fun v w a hK hS => ?_)
  obtain ⟨rfl, hN⟩ := hK
  have hM := hM.fra hN.fr
  refine st_val hS rfl rfl (by decide) (rv_pick_t (hS.ev rfl) (hS.ev rfl)) fun a hS => ?_
  refine st_val hS rfl rfl (by decide) (rv_assign (hS.ev rfl)) fun a hS => ?_
  refine wpList_nil ?_
  exact hJ1 r9 _ _ (hS.sub (sub_cons rfl sub_nil)) (hM.pick [] (by decide) rfl) hF
 ·have hS := hS.setb (t := 8) rfl hc
  refine st_skip hS rfl rfl (by decide) fun a hS => ?_
  refine st_skip hS rfl rfl (by decide) fun a hS => ?_
  refine st_skip hS rfl rfl (by decide) fun a hS => ?_
  refine st_skip hS rfl rfl (by decide) fun a hS => ?_
  refine st_val hS rfl rfl (by decide) (rv_pick_f (hS.ev rfl) (hS.ev rfl)) fun a hS => ?_
  refine st_val hS rfl rfl (by decide) (rv_assign (hS.ev rfl)) fun a hS => ?_
  refine wpList_nil ?_
  exact hJ1 false _ _ (hS.sub (sub_cons rfl sub_nil)) (hM.pick [] (by decide) rfl) hF


theorem c_impl_FindHole_c2 (F : Nat) (p0_l : List Int) (q0_Size : Int) (q0_Rows : List Int) (p0_lv : Value) (q0_Rowsv : Value) (q0b : Nat) {r : Bool} (hF : S_impl_FindHole_c2 F p0_l q0_Size q0_Rows = some r) (w0 : World) (h0 : RdRow w0 p0_lv (List.map (int i64) p0_l)) (h1 : RdRow w0 q0_Rowsv (List.map (int i64) q0_Rows)) (h2 : (bx q0b 28 [(int i64 q0_Size), q0_Rowsv]).P w0) :
    Calls Try.prog 79 [p0_lv, (fdp q0b 0)].toArray w0 (retPost fun v w' => v = (Value.bool r) ∧ Mem Nob w0 w' []) := by
 have hM : Mem Nob w0 w0 [(false, rd p0_lv (List.map (int i64) p0_l)), (false, rd q0_Rowsv (List.map (int i64) q0_Rows)), (false, bx q0b 28 [(int i64 q0_Size), q0_Rowsv])] := (Mem.rcons (Mem.rcons (Mem.gcons (Mem.nil w0) h2 (by simp)) h1 (by simp)) h0 (by simp))
 refine enter2 Try.func79 rfl rfl rfl fun Q a hQr hQn hQp hS => ?_
 have hS : Sl 7 [(0, p0_lv), (1, (fdp q0b 0))] a := hS
 unfold S_impl_FindHole_c2 at hF
 refine wp_seq_k fun K1 hK1 => ?_
 refine wp_region_lit ?_
 refine st_val hS rfl rfl (by decide) (rv_assign (hS.ev rfl)) fun a hS => ?_
 refine wpList_nil ?_
 refine hK1 _ _ ?_
 refine wp_seq_k fun K2 hK2 => ?_
 refine wp_region_lit ?_
 refine st_val hS rfl rfl (by decide) (rv_load_agg (hS.ev rfl) ty_ag_28 (hM.get 2 rfl) ty_sz_28) fun a hS => ?_
 refine st_val hS rfl rfl (by decide) (rv_move (hS.ev rfl)) fun a hS => ?_
 obtain ⟨r4, hr, hF⟩ := bind_some hF
 refine st_wp hS rfl (wp_call hS rfl rfl (by decide) fn_ok_27 rfl (c_impl_IsHole F q0_Size q0_Rows p0_l q0_Rowsv p0_lv hr _ (hM.get 1 rfl) (hM.get 0 rfl)) fun v w a hK hS => ?_)
 obtain ⟨rfl, hN⟩ := hK
 have hM := hM.fra hN.fr
 refine st_val hS rfl rfl (by decide) (rv_assign (hS.ev rfl)) fun a hS => ?_
 refine wpList_nil ?_
 refine hK2 _ _ ?_
 have hS : Sl 7 [(3, (Value.bool r4))] a := hS.sub (sub_cons rfl sub_nil)
 have hM := hM.pick [] (by decide) rfl
 refine wp_ret ?_
 cases hF
 exact hQr _ _ (r_1 hS rfl rfl ⟨rfl, hM.pick [] (by decide) rfl⟩)


theorem c_impl_firstList_c1__FindHolec2__FindHolec1__firstListc1_b (F : Nat) (slf : (List Int) → Int → Int → (List Int) → Int → (List Int) → Int → Option ((Option (List Int)))) (ih : ∀ (p0_l : List Int) (q0_v : Int) (q1_v_c0_Size : Int) (q1_v_c0_Rows : List Int) (q2_Size : Int) (q2_Rows : List Int) (q3_v_c0_v : Int) (p0_lv : Value) (q0b : Nat) (q1_v_c0_Rowsv : Value) (q1_v_c0b : Nat) (q1b : Nat) (q2_Rowsv : Value) (q2b : Nat) (q3_v_c0b : Nat) (q3b : Nat) (q4b : Nat) {r : (Option (List Int))} (hF : slf p0_l q0_v q1_v_c0_Size q1_v_c0_Rows q2_Size q2_Rows q3_v_c0_v = some r) (w0 : World) (h0 : RdRow w0 p0_lv (List.map (int i64) p0_l)) (h1 : (bx q0b 3 [(int i64 q0_v)]).P w0) (h2 : RdRow w0 q1_v_c0_Rowsv (List.map (int i64) q1_v_c0_Rows)) (h3 : (bx q1_v_c0b 28 [(int i64 q1_v_c0_Size), q1_v_c0_Rowsv]).P w0) (h4 : (bx q1b 55 [(Value.func (Fn.func 79) #[] #[(fdp q1_v_c0b 0)])]).P w0) (h5 : RdRow w0 q2_Rowsv (List.map (int i64) q2_Rows)) (h6 : (bx q2b 28 [(int i64 q2_Size), q2_Rowsv]).P w0) (h7 : (bx q3_v_c0b 3 [(int i64 q3_v_c0_v)]).P w0) (h8 : (bx q3b 55 [(Value.func (Fn.func 78) #[] #[(fdp q3_v_c0b 0), (fdp q1_v_c0b 0)])]).P w0) (h9 : (bx q4b 41 [(Value.func (Fn.func 116) #[] #[(fdp q0b 0), (fdp q1b 0), (fdp q2b 0), (fdp q3b 0), (fdp q4b 0)])]).P w0), Calls Try.prog 116 [p0_lv, (fdp q0b 0), (fdp q1b 0), (fdp q2b 0), (fdp q3b 0), (fdp q4b 0)].toArray w0 (retPost fun v w' => OptRow Nob w0 w' 3 v r)) (p0_l : List Int) (q0_v : Int) (q1_v_c0_Size : Int) (q1_v_c0_Rows : List Int) (q2_Size : Int) (q2_Rows : List Int) (q3_v_c0_v : Int) (p0_lv : Value) (q0b : Nat) (q1_v_c0_Rowsv : Value) (q1_v_c0b : Nat) (q1b : Nat) (q2_Rowsv : Value) (q2b : Nat) (q3_v_c0b : Nat) (q3b : Nat) (q4b : Nat) {r : (Option (List Int))} (hF : S_impl_firstList_c1__FindHolec2__FindHolec1__firstListc1_b F slf p0_l q0_v q1_v_c0_Size q1_v_c0_Rows q2_Size q2_Rows q3_v_c0_v = some r) (w0 : World) (h0 : RdRow w0 p0_lv (List.map (int i64) p0_l)) (h1 : (bx q0b 3 [(int i64 q0_v)]).P w0) (h2 : RdRow w0 q1_v_c0_Rowsv (List.map (int i64) q1_v_c0_Rows)) (h3 : (bx q1_v_c0b 28 [(int i64 q1_v_c0_Size), q1_v_c0_Rowsv]).P w0) (h4 : (bx q1b 55 [(Value.func (Fn.func 79) #[] #[(fdp q1_v_c0b 0)])]).P w0) (h5 : RdRow w0 q2_Rowsv (List.map (int i64) q2_Rows)) (h6 : (bx q2b 28 [(int i64 q2_Size), q2_Rowsv]).P w0) (h7 : (bx q3_v_c0b 3 [(int i64 q3_v_c0_v)]).P w0) (h8 : (bx q3b 55 [(Value.func (Fn.func 78) #[] #[(fdp q3_v_c0b 0), (fdp q1_v_c0b 0)])]).P w0) (h9 : (bx q4b 41 [(Value.func (Fn.func 116) #[] #[(fdp q0b 0), (fdp q1b 0), (fdp q2b 0), (fdp q3b 0), (fdp q4b 0)])]).P w0) :
    Calls Try.prog 116 [p0_lv, (fdp q0b 0), (fdp q1b 0), (fdp q2b 0), (fdp q3b 0), (fdp q4b 0)].toArray w0 (retPost fun v w' => OptRow Nob w0 w' 3 v r) := by
 have hM : Mem Nob w0 w0 [(false, rd p0_lv (List.map (int i64) p0_l)), (false, bx q0b 3 [(int i64 q0_v)]), (false, rd q1_v_c0_Rowsv (List.map (int i64) q1_v_c0_Rows)), (false, bx q1_v_c0b 28 [(int i64 q1_v_c0_Size), q1_v_c0_Rowsv]), (false, bx q1b 55 [(Value.func (Fn.func 79) #[] #[(fdp q1_v_c0b 0)])]), (false, rd q2_Rowsv (List.map (int i64) q2_Rows)), (false, bx q2b 28 [(int i64 q2_Size), q2_Rowsv]), (false, bx q3_v_c0b 3 [(int i64 q3_v_c0_v)]), (false, bx q3b 55 [(Value.func (Fn.func 78) #[] #[(fdp q3_v_c0b 0), (fdp q1_v_c0b 0)])]), (false, bx q4b 41 [(Value.func (Fn.func 116) #[] #[(fdp q0b 0), (fdp q1b 0), (fdp q2b 0), (fdp q3b 0), (fdp q4b 0)])])] := (Mem.rcons (Mem.gcons (Mem.rcons (Mem.gcons (Mem.gcons (Mem.rcons (Mem.gcons (Mem.gcons (Mem.gcons (Mem.gcons (Mem.nil w0) h9 (by simp)) h8 (by simp)) h7 (by simp)) h6 (by simp)) h5 (by simp)) h4 (by simp)) h3 (by simp)) h2 (by simp)) h1 (by simp)) h0 (by simp))
 refine enter2 Try.func116 rfl rfl rfl fun Q a hQr hQn hQp hS => ?_
 have hS : Sl 50 [(0, p0_lv), (1, (fdp q0b 0)), (2, (fdp q1b 0)), (3, (fdp q2b 0)), (4, (fdp q3b 0)), (5, (fdp q4b 0))] a := hS
 unfold S_impl_firstList_c1__FindHolec2__FindHolec1__firstListc1_b at hF
 refine wp_seq_k fun K1 hK1 => ?_
 refine wp_region_lit ?_
 refine st_val hS rfl rfl (by decide) (rv_assign (hS.ev rfl)) fun a hS => ?_
 refine wpList_nil ?_
 refine hK1 _ _ ?_
 refine wp_seq_k fun K2 hK2 => ?_
 refine wp_seq_k fun K22 hK22 => ?_
 refine wp_region_lit ?_
 refine st_val hS rfl rfl (by decide) (rv_move (hS.ev rfl)) fun a hS => ?_
 refine st_val hS rfl rfl (by decide) (rv_len_rowM Try.underlying22 (hS.ev rfl) (hM.get 0 rfl)) fun a hS => ?_
 refine st_val hS rfl rfl (by decide) (rv_load_bx (hS.ev rfl) ty_ag_3 (hM.get 1 rfl) rfl) fun a hS => ?_
 refine st_val hS rfl rfl (by decide) (rv_eql (hS.ev rfl) (hS.ev rfl)) fun a hS => ?_
 refine wpList_nil ?_
 refine hK22 _ _ ?_
 rcases ite_some hF with ⟨hc, hF⟩ | ⟨hc, hF⟩
 ·refine cond_t hS rfl hc ?_
  refine wp_seq_k fun K23 hK23 => ?_
  refine wp_seq_k fun K32 hK32 => ?_
  refine wp_region_lit ?_
  refine st_val hS rfl rfl (by decide) (rv_load_bx (hS.ev rfl) ty_ag_55 (hM.get 4 rfl) rfl) fun a hS => ?_
  refine st_val hS rfl rfl (by decide) (rv_move (hS.ev rfl)) fun a hS => ?_
  obtain ⟨r34, hr, hF⟩ := bind_some hF
  refine st_wp hS rfl (wp_callv (vs := [p0_lv]) (cap := [(fdp q1_v_c0b 0)]) hS rfl rfl rfl (by decide) fn_ok_79 rfl (c_impl_FindHole_c2 F p0_l q1_v_c0_Size q1_v_c0_Rows p0_lv q1_v_c0_Rowsv q1_v_c0b hr _ (hM.get 0 rfl) (hM.get 2 rfl) (hM.get 3 rfl)) fun v w a hK hS => ?_)
  obtain ⟨rfl, hN⟩ := hK
  have hM := hM.fra hN.fr
  refine wpList_nil ?_
  refine hK32 _ _ ?_
  have hS : Sl 50 [(0, p0_lv), (17, (Value.bool r34))] a := hS.sub (sub_cons rfl (sub_cons rfl sub_nil))
  have hM := hM.pick [0] (by decide) rfl
  rcases ite_some hF with ⟨hc, hF⟩ | ⟨hc, hF⟩
  ·refine cond_t hS rfl hc ?_
   refine wp_seq_k fun K35 hK35 => ?_
   refine wp_region_lit ?_
   refine st_val hS rfl rfl (by decide) (rv_move (hS.ev rfl)) fun a hS => ?_
   obtain ⟨r38, hr, hF⟩ := bind_some hF
   refine st_wp hS rfl (wp_call hS rfl rfl (by decide) fn_ok_117 rfl (c_slices_Clone_int F p0_l p0_lv hr _ (hM.get 0 rfl)) fun v39 w a hK hS => ?_)
   have hN := hK
   have hM := hM.add hN rfl
   refine st_val hS rfl rfl (by decide) (rv_assign (hS.ev rfl)) fun a hS => ?_
   refine wpList_nil ?_
   refine hK35 _ _ ?_
   refine wp_ret ?_
   cases hF
   exact hQr _ _ (r_1 hS rfl rfl (hM.pick [0] (by decide) rfl))
  ·refine cond_f hS rfl hc ?_
   refine wp_skip ?_
   refine hK23 _ _ ?_
   refine wp_seq_k fun K40 hK40 => ?_
   refine wp_region_lit ?_
   refine st_val hS rfl rfl (by decide) (rv_assign (hS.ev rfl)) fun a hS => ?_
   refine wpList_nil ?_
   refine hK40 _ _ ?_
   refine wp_ret ?_
   cases hF
   exact hQr _ _ (r_1 hS rfl rfl ⟨rfl, hM.pick [] (by decide) rfl⟩)
 ·refine cond_f hS rfl hc ?_
  refine wp_skip ?_
  refine hK2 _ _ ?_
  refine wp_seq_k fun K41 hK41 => ?_
  have hJ1 : ∀ (a : Act) (w : World), Sl 50 [] a → Mem Nob w0 w [] → S_impl_firstList_c1__FindHolec2__FindHolec1__firstListc1_j1 F = some r → K41 a w := by
   intro a w hS hM hF
   unfold S_impl_firstList_c1__FindHolec2__FindHolec1__firstListc1_j1 at hF
   refine hK41 _ _ ?_
   refine wp_seq_k fun K146 hK146 => ?_
   refine wp_region_lit ?_
   refine st_val hS rfl rfl (by decide) (rv_assign (hS.ev rfl)) fun a hS => ?_
   refine wpList_nil ?_
   refine hK146 _ _ ?_
   refine wp_ret ?_
   cases hF
   exact hQr _ _ (r_1 hS rfl rfl ⟨rfl, hM.pick [] (by decide) rfl⟩)
  refine wp_seq_k fun K147 hK147 => ?_
  refine wp_region_lit ?_
  refine st_val hS rfl rfl (by decide) (rv_fieldAddr ty_fd_28_0 (hS.ev rfl)) fun a hS => ?_
  refine st_val hS rfl rfl (by decide) (rv_load_bx (hS.ev rfl) ty_ag_3 (hM.get 6 rfl) rfl) fun a hS => ?_
  refine st_val hS rfl rfl (by decide) (rv_move (hS.ev rfl)) fun a hS => ?_
  refine wpList_nil ?_
  refine hK147 _ _ ?_
  have hS : Sl 50 [(0, p0_lv), (4, (fdp q3b 0)), (5, (fdp q4b 0)), (21, (int i64 q2_Size)), (22, (int i64 0))] a := hS.sub (sub_cons rfl (sub_cons rfl (sub_cons rfl (sub_cons rfl (sub_cons rfl sub_nil)))))
  refine wp_block ?_
  obtain ⟨lb2, hl2, hF2⟩ := bind_some hF
  refine wp_loop_sh (fun s => S_impl_firstList_c1__FindHolec2__FindHolec1__firstListc1_l2 F p0_l q0_v q1_v_c0_Size q1_v_c0_Rows q2_Size q2_Rows q3_v_c0_v slf s) (fun s a w => Sl 50 [(0, p0_lv), (4, (fdp q3b 0)), (5, (fdp q4b 0)), (21, (int i64 q2_Size)), (22, (int i64 s))] a ∧ Mem Nob w0 w [(false, rd p0_lv (List.map (int i64) p0_l)), (false, bx q3b 55 [(Value.func (Fn.func 78) #[] #[(fdp q3_v_c0b 0), (fdp q1_v_c0b 0)])]), (false, bx q3_v_c0b 3 [(int i64 q3_v_c0_v)]), (false, bx q1_v_c0b 28 [(int i64 q1_v_c0_Size), q1_v_c0_Rowsv]), (false, rd q1_v_c0_Rowsv (List.map (int i64) q1_v_c0_Rows)), (false, bx q4b 41 [(Value.func (Fn.func 116) #[] #[(fdp q0b 0), (fdp q1b 0), (fdp q2b 0), (fdp q3b 0), (fdp q4b 0)])]), (false, bx q0b 3 [(int i64 q0_v)]), (false, bx q1b 55 [(Value.func (Fn.func 79) #[] #[(fdp q1_v_c0b 0)])]), (false, bx q2b 28 [(int i64 q2_Size), q2_Rowsv]), (false, rd q2_Rowsv (List.map (int i64) q2_Rows))]) hl2 ⟨(hS.sub (sub_cons rfl (sub_cons rfl (sub_cons rfl (sub_cons rfl (sub_cons rfl sub_nil)))))), (hM.pick [0, 8, 7, 3, 2, 9, 1, 4, 6, 5] (by decide) rfl)⟩ ?_
  rintro K2 x148 a w res2 ⟨hS, hM⟩ hF hN2 hX2
  have hF : S_impl_firstList_c1__FindHolec2__FindHolec1__firstListc1_l2 F p0_l q0_v q1_v_c0_Size q1_v_c0_Rows q2_Size q2_Rows q3_v_c0_v slf x148 = some res2 := hF
  have hS : Sl 50 [(0, p0_lv), (4, (fdp q3b 0)), (5, (fdp q4b 0)), (21, (int i64 q2_Size)), (22, (int i64 x148))] a := hS
  have hM : Mem Nob w0 w [(false, rd p0_lv (List.map (int i64) p0_l)), (false, bx q3b 55 [(Value.func (Fn.func 78) #[] #[(fdp q3_v_c0b 0), (fdp q1_v_c0b 0)])]), (false, bx q3_v_c0b 3 [(int i64 q3_v_c0_v)]), (false, bx q1_v_c0b 28 [(int i64 q1_v_c0_Size), q1_v_c0_Rowsv]), (false, rd q1_v_c0_Rowsv (List.map (int i64) q1_v_c0_Rows)), (false, bx q4b 41 [(Value.func (Fn.func 116) #[] #[(fdp q0b 0), (fdp q1b 0), (fdp q2b 0), (fdp q3b 0), (fdp q4b 0)])]), (false, bx q0b 3 [(int i64 q0_v)]), (false, bx q1b 55 [(Value.func (Fn.func 79) #[] #[(fdp q1_v_c0b 0)])]), (false, bx q2b 28 [(int i64 q2_Size), q2_Rowsv]), (false, rd q2_Rowsv (List.map (int i64) q2_Rows))] := hM
  unfold S_impl_firstList_c1__FindHolec2__FindHolec1__firstListc1_l2 at hF
  refine wp_seq_k fun K200 hK200 => ?_
  refine wp_region_lit ?_
  refine st_val hS rfl rfl (by decide) (rv_lss (hS.ev rfl) (hS.ev rfl)) fun a hS => ?_
  refine wpList_nil ?_
  refine hK200 _ _ ?_
  refine wp_seq_k fun K201 hK201 => ?_
  rcases ite_some hF with ⟨hc, hF⟩ | ⟨hc, hF⟩
  ·refine cond_t hS rfl hc ?_
   refine wp_skip ?_
   refine hK201 _ _ ?_
   refine wp_seq_k fun K202 hK202 => ?_
   have hJ3 : ∀ (a : Act) (w : World), Sl 50 [(0, p0_lv), (4, (fdp q3b 0)), (5, (fdp q4b 0)), (21, (int i64 q2_Size)), (22, (int i64 x148))] a → Mem Nob w0 w [(false, rd p0_lv (List.map (int i64) p0_l)), (false, bx q3b 55 [(Value.func (Fn.func 78) #[] #[(fdp q3_v_c0b 0), (fdp q1_v_c0b 0)])]), (false, bx q3_v_c0b 3 [(int i64 q3_v_c0_v)]), (false, bx q1_v_c0b 28 [(int i64 q1_v_c0_Size), q1_v_c0_Rowsv]), (false, rd q1_v_c0_Rowsv (List.map (int i64) q1_v_c0_Rows)), (false, bx q4b 41 [(Value.func (Fn.func 116) #[] #[(fdp q0b 0), (fdp q1b 0), (fdp q2b 0), (fdp q3b 0), (fdp q4b 0)])]), (false, bx q0b 3 [(int i64 q0_v)]), (false, bx q1b 55 [(Value.func (Fn.func 79) #[] #[(fdp q1_v_c0b 0)])]), (false, bx q2b 28 [(int i64 q2_Size), q2_Rowsv]), (false, rd q2_Rowsv (List.map (int i64) q2_Rows))] → S_impl_firstList_c1__FindHolec2__FindHolec1__firstListc1_j3 F x148 = some res2 → K202 a w := by
    intro a w hS hM hF
    unfold S_impl_firstList_c1__FindHolec2__FindHolec1__firstListc1_j3 at hF
    refine hK202 _ _ ?_
    refine wp_region_lit ?_
    refine st_val hS rfl rfl (by decide) (rv_add (hS.ev rfl) (hS.ev rfl)) fun a hS => ?_
    refine st_val hS rfl rfl (by decide) (rv_move (hS.ev rfl)) fun a hS => ?_
    refine wpList_nil ?_
    cases hF
    exact hN2 _ _ _ rfl ⟨(hS.sub (sub_cons rfl (sub_cons rfl (sub_cons rfl (sub_cons rfl (sub_cons rfl sub_nil)))))), (hM.pick [0, 1, 2, 3, 4, 5, 6, 7, 8, 9] (by decide) rfl)⟩
   refine wp_block ?_
   refine wp_seq_k fun K227 hK227 => ?_
   refine wp_region_lit ?_
   refine st_val hS rfl rfl (by decide) (rv_move (hS.ev rfl)) fun a hS => ?_
   refine st_val hS rfl rfl (by decide) (rv_assign (hS.ev rfl)) fun a hS => ?_
   refine wpList_nil ?_
   refine hK227 _ _ ?_
   refine wp_seq_k fun K228 hK228 => ?_
   refine wp_region_lit ?_
   refine st_val hS rfl rfl (by decide) (rv_move (hS.ev rfl)) fun a hS => ?_
   refine st_val hS rfl rfl (by decide) (rv_move (hS.ev rfl)) fun a hS => ?_
   refine st_val hS rfl rfl (by decide) (rv_len_rowM Try.underlying22 (hS.ev rfl) (hM.get 0 rfl)) fun a hS => ?_
   refine st_val hS rfl rfl (by decide) (rv_move (hS.ev rfl)) fun a hS => ?_
   refine st_val hS rfl rfl (by decide) (rv_len_rowM Try.underlying22 (hS.ev rfl) (hM.get 0 rfl)) fun a hS => ?_
   obtain ⟨_, hx, hF⟩ := bind_some hF
   have hj232 := slO_some hx
   refine st_val hS rfl rfl (by decide) (rv_slF Try.underlying22 ty_el_3 (hS.ev rfl) (hS.ev rfl) (hS.ev rfl) (hM.get 0 rfl) hj232.1 (map_le hj232.2)) fun a hS => ?_
   refine st_val hS rfl rfl (by decide) (rv_move (hS.ev rfl)) fun a hS => ?_
   obtain ⟨v233, w, hr, hM⟩ := Mem.litE (f := (int i64)) (dst := some 32) (ty := _) (pos := _) (af := _) (gd := _) (ps := [(0, .tmp 31)]) ([x148] : List (Int)) i64_one hM hS Try.underlying22 ty_el_3 rfl rfl rfl rfl
   refine st_val hS rfl rfl (by decide) hr fun a hS => ?_
   obtain ⟨_, hx, hF⟩ := bind_some hF
   obtain ⟨v234, w, hr, hM⟩ := Mem.appF (f := (int i64)) (ρ := a.eval) (dst := some 33) (ty := _) (pos := _) (af := _) (gd := _) (x := .tmp 30) (y := .tmp 32) i64_one hM Try.underlying22 ty_el_3 rfl (by decide) (hS.ev rfl) (hM.get 1 rfl) hj232.1 hj232.2 (hS.ev rfl) (rd_of_ow (hM.get 0 rfl)) (by simp) (catO_some hx)
   refine st_val hS rfl rfl (by decide) hr fun a hS => ?_
   refine st_val hS rfl rfl (by decide) (rv_assign (hS.ev rfl)) fun a hS => ?_
   refine wpList_nil ?_
   refine hK228 _ _ ?_
   have hS : Sl 50 [(0, p0_lv), (4, (fdp q3b 0)), (5, (fdp q4b 0)), (8, (int i64 x148)), (9, v234), (21, (int i64 q2_Size)), (22, (int i64 x148))] a := hS.sub (sub_cons rfl (sub_cons rfl (sub_cons rfl (sub_cons rfl (sub_cons rfl (sub_cons rfl (sub_cons rfl sub_nil)))))))
   have hM := hM.pick [0, 2, 3, 4, 5, 6, 7, 8, 9, 10, 11] (by decide) rfl
   refine wp_seq_k fun K235 hK235 => ?_
   have hJ4 : ∀ (p238 : Bool) (a : Act) (w : World), Sl 50 [(0, p0_lv), (4, (fdp q3b 0)), (5, (fdp q4b 0)), (9, v234), (21, (int i64 q2_Size)), (22, (int i64 x148)), (42, (Value.bool p238))] a → Mem Nob w0 w [(false, rd p0_lv (List.map (int i64) p0_l)), (false, bx q3b 55 [(Value.func (Fn.func 78) #[] #[(fdp q3_v_c0b 0), (fdp q1_v_c0b 0)])]), (false, bx q3_v_c0b 3 [(int i64 q3_v_c0_v)]), (false, bx q1_v_c0b 28 [(int i64 q1_v_c0_Size), q1_v_c0_Rowsv]), (false, rd q1_v_c0_Rowsv (List.map (int i64) q1_v_c0_Rows)), (false, bx q4b 41 [(Value.func (Fn.func 116) #[] #[(fdp q0b 0), (fdp q1b 0), (fdp q2b 0), (fdp q3b 0), (fdp q4b 0)])]), (false, bx q0b 3 [(int i64 q0_v)]), (false, bx q1b 55 [(Value.func (Fn.func 79) #[] #[(fdp q1_v_c0b 0)])]), (false, bx q2b 28 [(int i64 q2_Size), q2_Rowsv]), (false, rd q2_Rowsv (List.map (int i64) q2_Rows)), (true, ow 3 v234 (List.map (int i64) (p0_l.take ((p0_l.length : Int).toNat) ++ ([x148] : List (Int)))))] → S_impl_firstList_c1__FindHolec2__FindHolec1__firstListc1_j4 F p0_l q0_v q1_v_c0_Size q1_v_c0_Rows q2_Size q2_Rows q3_v_c0_v slf x148 p238 = some res2 → K235 a w := by
    intro p238 a w hS hM hF
    unfold S_impl_firstList_c1__FindHolec2__FindHolec1__firstListc1_j4 at hF
    refine hK235 _ _ ?_
    rcases ite_some hF with ⟨hc, hF⟩ | ⟨hc, hF⟩
    ·refine cond_t hS rfl hc ?_
     refine wp_seq_k fun K239 hK239 => ?_
     refine wp_region_lit ?_
     refine st_val hS rfl rfl (by decide) (rv_load_bx (hS.ev rfl) ty_ag_41 (hM.get 5 rfl) rfl) fun a hS => ?_
     refine st_val hS rfl rfl (by decide) (rv_move (hS.ev rfl)) fun a hS => ?_
     obtain ⟨r243, hr, hF⟩ := bind_some hF
     refine st_wp hS rfl (wp_callv (vs := [v234]) (cap := [(fdp q0b 0), (fdp q1b 0), (fdp q2b 0), (fdp q3b 0), (fdp q4b 0)]) hS rfl rfl rfl (by decide) fn_ok_116 rfl (ih (p0_l.take ((p0_l.length : Int).toNat) ++ ([x148] : List (Int))) q0_v q1_v_c0_Size q1_v_c0_Rows q2_Size q2_Rows q3_v_c0_v v234 q0b q1_v_c0_Rowsv q1_v_c0b q1b q2_Rowsv q2b q3_v_c0b q3b q4b hr _ (rd_of_ow (hM.get 10 rfl)) (hM.get 6 rfl) (hM.get 4 rfl) (hM.get 3 rfl) (hM.get 7 rfl) (hM.get 9 rfl) (hM.get 8 rfl) (hM.get 2 rfl) (hM.get 1 rfl) (hM.get 5 rfl)) fun v244 w a hK hS => ?_)
     rcases r243 with _ | c245
     ·dsimp only at hF
      obtain ⟨rfl, hN⟩ := hK
      have hM := hM.fra hN.fr
      refine st_val hS rfl rfl (by decide) (rv_assign (hS.ev rfl)) fun a hS => ?_
      refine wpList_nil ?_
      refine hK239 _ _ ?_
      refine wp_seq_k fun K246 hK246 => ?_
      refine wp_region_lit ?_
      refine st_val hS rfl rfl (by decide) (rv_move (hS.ev rfl)) fun a hS => ?_
      refine st_val hS rfl rfl (by decide) (rv_nil_neq Try.underlying22 (hS.ev rfl) (hS.ev rfl)) fun a hS => ?_
      refine wpList_nil ?_
      refine hK246 _ _ ?_
      refine cond_f hS rfl rfl ?_
      refine wp_skip ?_
      exact hJ3 _ _ (hS.sub (sub_cons rfl (sub_cons rfl (sub_cons rfl (sub_cons rfl (sub_cons rfl sub_nil)))))) (hM.pick [0, 1, 2, 3, 4, 5, 6, 7, 8, 9] (by decide) rfl) hF
     ·dsimp only at hF
      have hN : Mem Nob _ w [(true, ow 3 v244 (List.map (int i64) c245))] := hK
      have hM := hM.add hN rfl
      refine st_val hS rfl rfl (by decide) (rv_assign (hS.ev rfl)) fun a hS => ?_
      refine wpList_nil ?_
      refine hK239 _ _ ?_
      refine wp_seq_k fun K247 hK247 => ?_
      refine wp_region_lit ?_
      refine st_val hS rfl rfl (by decide) (rv_move (hS.ev rfl)) fun a hS => ?_
      obtain ⟨_, hx, hF⟩ := bind_some hF
      have hi0 := neO_some hx
      refine st_val hS rfl rfl (by decide) (rv_neq_nil Try.underlying22 (hS.ev rfl) (hS.ev rfl) (rd_of_ow (hM.get 0 rfl)) hi0) fun a hS => ?_
      refine wpList_nil ?_
      refine hK247 _ _ ?_
      refine cond_t hS rfl rfl ?_
      refine wp_seq_k fun K248 hK248 => ?_
      refine wp_region_lit ?_
      refine st_val hS rfl rfl (by decide) (rv_move (hS.ev rfl)) fun a hS => ?_
      refine st_val hS rfl rfl (by decide) (rv_assign (hS.ev rfl)) fun a hS => ?_
      refine wpList_nil ?_
      refine hK248 _ _ ?_
      have hS : Sl 50 [(7, v244)] a := hS.sub (sub_cons rfl sub_nil)
      have hM := hM.pick [0] (by decide) rfl
      refine wp_ret ?_
      cases hF
      have e := hX2 _ rfl
      subst e
      have hF := hF2
      cases hF
      exact hQr _ _ (r_1 hS rfl rfl (hM.pick [0] (by decide) rfl))
    ·refine cond_f hS rfl hc ?_
     refine wp_skip ?_
     exact hJ3 _ _ (hS.sub (sub_cons rfl (sub_cons rfl (sub_cons rfl (sub_cons rfl (sub_cons rfl sub_nil)))))) (hM.pick [0, 1, 2, 3, 4, 5, 6, 7, 8, 9] (by decide) rfl) hF
   refine wp_region_lit ?_
   refine st_val hS rfl rfl (by decide) (rv_move (hS.ev rfl)) fun a hS => ?_
   refine st_val hS rfl rfl (by decide) (rv_move (hS.ev rfl)) fun a hS => ?_
   obtain ⟨r249, hr, hF⟩ := bind_some hF
   refine st_wp hS rfl (wp_call hS rfl rfl (by decide) fn_ok_106 rfl (c_slices_Contains_int F p0_l x148 p0_lv hr _ (hM.get 1 rfl)) fun v w a hK hS => ?_)
   obtain ⟨rfl, hN⟩ := hK
   have hM := hM.fra hN.fr
   refine st_val hS rfl rfl (by decide) (rv_not (hS.ev rfl)) fun a hS => ?_
   refine st_val hS rfl rfl (by decide) (rv_move (hS.ev rfl)) fun a hS => ?_
   rcases ite_some hF with ⟨hc, hF⟩ | ⟨hc, hF⟩
   ·have hS := hS.setb (t := 38) rfl hc
    refine st_val hS rfl rfl (by decide) (rv_load_bx (hS.ev rfl) ty_ag_55 (hM.get 2 rfl) rfl) fun a hS => ?_
    refine st_val hS rfl rfl (by decide) (rv_move (hS.ev rfl)) fun a hS => ?_
    obtain ⟨r250, hr, hF⟩ := bind_some hF
    refine st_wp hS rfl (wp_callv (vs := [v234]) (cap := [(fdp q3_v_c0b 0), (fdp q1_v_c0b 0)]) hS rfl rfl rfl (by decide) fn_ok_78 rfl (c_impl_FindHole_c1 F (p0_l.take ((p0_l.length : Int).toNat) ++ ([x148] : List (Int))) q3_v_c0_v q1_v_c0_Size q1_v_c0_Rows v234 q3_v_c0b q1_v_c0_Rowsv q1_v_c0b hr _ (rd_of_ow (hM.get 0 rfl)) (hM.get 3 rfl) (hM.get 5 rfl) (hM.get 4 rfl)) fun v w a hK hS => ?_)
    obtain ⟨rfl, hN⟩ := hK
    have hM := hM.fra hN.fr
    refine st_val hS rfl rfl (by decide) (rv_pick_t (hS.ev rfl) (hS.ev rfl)) fun a hS => ?_
    refine wpList_nil ?_
    exact hJ4 r250 _ _ (hS.sub (sub_cons rfl (sub_cons rfl (sub_cons rfl (sub_cons rfl (sub_cons rfl (sub_cons rfl (sub_cons rfl sub_nil)))))))) (hM.pick [1, 2, 3, 4, 5, 6, 7, 8, 9, 10, 0] (by decide) rfl) hF
   ·have hS := hS.setb (t := 38) rfl hc
    refine st_skip hS rfl rfl (by decide) fun a hS => ?_
    refine st_skip hS rfl rfl (by decide) fun a hS => ?_
    refine st_skip hS rfl rfl (by decide) fun a hS => ?_
    refine st_val hS rfl rfl (by decide) (rv_pick_f (hS.ev rfl) (hS.ev rfl)) fun a hS => ?_
    refine wpList_nil ?_
    exact hJ4 false _ _ (hS.sub (sub_cons rfl (sub_cons rfl (sub_cons rfl (sub_cons rfl (sub_cons rfl (sub_cons rfl (sub_cons rfl sub_nil)))))))) (hM.pick [1, 2, 3, 4, 5, 6, 7, 8, 9, 10, 0] (by decide) rfl) hF
  ·refine cond_f hS rfl hc ?_
   refine wp_exit ?_
   cases hF
   exact hJ1 _ _ (hS.sub sub_nil) (hM.pick [] (by decide) rfl) (by have e := hX2 _ rfl; subst e; exact hF2)

theorem c_impl_firstList_c1__FindHolec2__FindHolec1__firstListc1_d (F : Nat) : ∀ (D : Nat) (p0_l : List Int) (q0_v : Int) (q1_v_c0_Size : Int) (q1_v_c0_Rows : List Int) (q2_Size : Int) (q2_Rows : List Int) (q3_v_c0_v : Int) (p0_lv : Value) (q0b : Nat) (q1_v_c0_Rowsv : Value) (q1_v_c0b : Nat) (q1b : Nat) (q2_Rowsv : Value) (q2b : Nat) (q3_v_c0b : Nat) (q3b : Nat) (q4b : Nat) {r : (Option (List Int))} (hF : S_impl_firstList_c1__FindHolec2__FindHolec1__firstListc1_d F D p0_l q0_v q1_v_c0_Size q1_v_c0_Rows q2_Size q2_Rows q3_v_c0_v = some r) (w0 : World) (h0 : RdRow w0 p0_lv (List.map (int i64) p0_l)) (h1 : (bx q0b 3 [(int i64 q0_v)]).P w0) (h2 : RdRow w0 q1_v_c0_Rowsv (List.map (int i64) q1_v_c0_Rows)) (h3 : (bx q1_v_c0b 28 [(int i64 q1_v_c0_Size), q1_v_c0_Rowsv]).P w0) (h4 : (bx q1b 55 [(Value.func (Fn.func 79) #[] #[(fdp q1_v_c0b 0)])]).P w0) (h5 : RdRow w0 q2_Rowsv (List.map (int i64) q2_Rows)) (h6 : (bx q2b 28 [(int i64 q2_Size), q2_Rowsv]).P w0) (h7 : (bx q3_v_c0b 3 [(int i64 q3_v_c0_v)]).P w0) (h8 : (bx q3b 55 [(Value.func (Fn.func 78) #[] #[(fdp q3_v_c0b 0), (fdp q1_v_c0b 0)])]).P w0) (h9 : (bx q4b 41 [(Value.func (Fn.func 116) #[] #[(fdp q0b 0), (fdp q1b 0), (fdp q2b 0), (fdp q3b 0), (fdp q4b 0)])]).P w0), Calls Try.prog 116 [p0_lv, (fdp q0b 0), (fdp q1b 0), (fdp q2b 0), (fdp q3b 0), (fdp q4b 0)].toArray w0 (retPost fun v w' => OptRow Nob w0 w' 3 v r) := by
  intro D
  induction D with
  | zero =>
    intro p0_l q0_v q1_v_c0_Size q1_v_c0_Rows q2_Size q2_Rows q3_v_c0_v p0_lv q0b q1_v_c0_Rowsv q1_v_c0b q1b q2_Rowsv q2b q3_v_c0b q3b q4b r hF
    simp [S_impl_firstList_c1__FindHolec2__FindHolec1__firstListc1_d] at hF
  | succ D ih =>
    intro p0_l q0_v q1_v_c0_Size q1_v_c0_Rows q2_Size q2_Rows q3_v_c0_v p0_lv q0b q1_v_c0_Rowsv q1_v_c0b q1b q2_Rowsv q2b q3_v_c0b q3b q4b r hF w0 h0 h1 h2 h3 h4 h5 h6 h7 h8 h9
    rw [S_impl_firstList_c1__FindHolec2__FindHolec1__firstListc1_d] at hF
    exact c_impl_firstList_c1__FindHolec2__FindHolec1__firstListc1_b F (S_impl_firstList_c1__FindHolec2__FindHolec1__firstListc1_d F D) ih p0_l q0_v q1_v_c0_Size q1_v_c0_Rows q2_Size q2_Rows q3_v_c0_v p0_lv q0b q1_v_c0_Rowsv q1_v_c0b q1b q2_Rowsv q2b q3_v_c0b q3b q4b hF w0 h0 h1 h2 h3 h4 h5 h6 h7 h8 h9

theorem c_impl_firstList_c1__FindHolec2__FindHolec1__firstListc1 (F : Nat) (p0_l : List Int) (q0_v : Int) (q1_v_c0_Size : Int) (q1_v_c0_Rows : List Int) (q2_Size : Int) (q2_Rows : List Int) (q3_v_c0_v : Int) (p0_lv : Value) (q0b : Nat) (q1_v_c0_Rowsv : Value) (q1_v_c0b : Nat) (q1b : Nat) (q2_Rowsv : Value) (q2b : Nat) (q3_v_c0b : Nat) (q3b : Nat) (q4b : Nat) {r : (Option (List Int))} (hF : S_impl_firstList_c1__FindHolec2__FindHolec1__firstListc1 F p0_l q0_v q1_v_c0_Size q1_v_c0_Rows q2_Size q2_Rows q3_v_c0_v = some r) (w0 : World) (h0 : RdRow w0 p0_lv (List.map (int i64) p0_l)) (h1 : (bx q0b 3 [(int i64 q0_v)]).P w0) (h2 : RdRow w0 q1_v_c0_Rowsv (List.map (int i64) q1_v_c0_Rows)) (h3 : (bx q1_v_c0b 28 [(int i64 q1_v_c0_Size), q1_v_c0_Rowsv]).P w0) (h4 : (bx q1b 55 [(Value.func (Fn.func 79) #[] #[(fdp q1_v_c0b 0)])]).P w0) (h5 : RdRow w0 q2_Rowsv (List.map (int i64) q2_Rows)) (h6 : (bx q2b 28 [(int i64 q2_Size), q2_Rowsv]).P w0) (h7 : (bx q3_v_c0b 3 [(int i64 q3_v_c0_v)]).P w0) (h8 : (bx q3b 55 [(Value.func (Fn.func 78) #[] #[(fdp q3_v_c0b 0), (fdp q1_v_c0b 0)])]).P w0) (h9 : (bx q4b 41 [(Value.func (Fn.func 116) #[] #[(fdp q0b 0), (fdp q1b 0), (fdp q2b 0), (fdp q3b 0), (fdp q4b 0)])]).P w0) : Calls Try.prog 116 [p0_lv, (fdp q0b 0), (fdp q1b 0), (fdp q2b 0), (fdp q3b 0), (fdp q4b 0)].toArray w0 (retPost fun v w' => OptRow Nob w0 w' 3 v r) :=
  c_impl_firstList_c1__FindHolec2__FindHolec1__firstListc1_d F F p0_l q0_v q1_v_c0_Size q1_v_c0_Rows q2_Size q2_Rows q3_v_c0_v p0_lv q0b q1_v_c0_Rowsv q1_v_c0b q1b q2_Rowsv q2b q3_v_c0b q3b q4b hF w0 h0 h1 h2 h3 h4 h5 h6 h7 h8 h9


end Go.Proofs.Ytilfniehellmmaa
