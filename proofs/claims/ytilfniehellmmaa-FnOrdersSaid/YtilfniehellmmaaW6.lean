/- Proved here: that each Go function does what its shallow function says -/
import Derived.Test.YtilfniehellmmaaSh
import Derived.Test.YtilfniehellmmaaTy
import Derived.Test.YtilfniehellmmaaK13
import Derived.Test.YtilfniehellmmaaW0
import Derived.Test.YtilfniehellmmaaW1
import Derived.Test.YtilfniehellmmaaW2
import Derived.Test.YtilfniehellmmaaW3
import Derived.Test.YtilfniehellmmaaW4
import Derived.Test.YtilfniehellmmaaW5
namespace Go.Proofs.Ytilfniehellmmaa
open Go Go.RowKit
set_option linter.unusedVariables false
set_option linter.unusedSimpArgs false
set_option maxRecDepth 100000
set_option maxHeartbeats 40000000

open Go.IntKind (i64)
open Go.Value (int)
theorem c_laws_FnOrders (F : Nat) (p0_code : List Int) (p0_codev : Value) {r : Bool} (hF : S_laws_FnOrders F p0_code = some r) (w0 : World) (h0 : RdRow w0 p0_codev (List.map (int IntKind.u8) p0_code)) :
    Calls Try.prog 8 [p0_codev].toArray w0 (retPost fun v w' => v = (Value.bool r) ∧ Mem Nob w0 w' []) := by
 have hM : Mem Nob w0 w0 [(false, rd p0_codev (List.map (int IntKind.u8) p0_code))] := (Mem.rcons (Mem.nil w0) h0 (by simp))
 refine enter2 Try.func8 rfl rfl rfl fun Q a hQr hQn hQp hS => ?_
 have hS : Sl 225 [(0, p0_codev)] a := hS
 unfold S_laws_FnOrders at hF
 refine wp_seq_k fun K1 hK1 => ?_
 refine wp_region_lit ?_
 refine st_val hS rfl rfl (by decide) (rv_assign (hS.ev rfl)) fun a hS => ?_
 refine wpList_nil ?_
 refine hK1 _ _ ?_
 refine wp_seq_k fun K2 hK2 => ?_
 refine wp_seq_k fun K7 hK7 => ?_
 refine wp_region_lit ?_
 refine st_val hS rfl rfl (by decide) (rv_move (hS.ev rfl)) fun a hS => ?_
 obtain ⟨r9, hr, hF⟩ := bind_some hF
 refine st_wp hS rfl (wp_call hS rfl rfl (by decide) fn_ok_24 rfl (c_laws_big F p0_code p0_codev hr _ (hM.get 0 rfl)) fun v w a hK hS => ?_)
 obtain ⟨rfl, hN⟩ := hK
 have hM := hM.fra hN.fr
 refine wpList_nil ?_
 refine hK7 _ _ ?_
 rcases ite_some hF with ⟨hc, hF⟩ | ⟨hc, hF⟩
 ·refine cond_t hS rfl hc ?_
  refine wp_seq_k fun K10 hK10 => ?_
  refine wp_region_lit ?_
  refine st_val hS rfl rfl (by decide) (rv_assign (hS.ev rfl)) fun a hS => ?_
  refine wpList_nil ?_
  refine hK10 _ _ ?_
  refine wp_ret ?_
  cases hF
  exact hQr _ _ (r_1 hS rfl rfl ⟨rfl, hM.pick [] (by decide) rfl⟩)
 ·refine cond_f hS rfl hc ?_
  refine wp_skip ?_
  refine hK2 _ _ ?_
  refine wp_seq_k fun K11 hK11 => ?_
  refine wp_region_lit ?_
  refine st_val hS rfl rfl (by decide) (rv_move (hS.ev rfl)) fun a hS => ?_
  obtain ⟨r15, hr, hF⟩ := bind_some hF
  refine st_wp hS rfl (wp_call hS rfl rfl (by decide) fn_ok_46 rfl (c_spec_DrawLexOrder F p0_code p0_codev hr _ (hM.get 0 rfl)) fun v w a hK hS => ?_)
  obtain ⟨v16, rfl, hN⟩ := hK
  have hM := hM.add hN rfl
  refine st_val hS rfl rfl (by decide) (rv_move (hS.ev rfl)) fun a hS => ?_
  refine st_val hS rfl rfl (by decide) (rv_extract (hS.ev rfl) rfl) fun a hS => ?_
  refine st_val hS rfl rfl (by decide) (rv_extract (hS.ev rfl) rfl) fun a hS => ?_
  obtain ⟨b17, w, hr, hM⟩ := hM.allocE (ρ := a.eval) (dst := some 3) (ty := _) (pos := _) (af := _) (gd := _) (T := 28) (P := Try.prog) [(int i64 0), (Value.slice none 0 0)] ty_zr_28 rfl
  refine st_val hS rfl rfl (by decide) hr fun a hS => ?_
  have hM := hM.addNil 3
  have hM := hM.pick [1, 0, 2, 3] (by decide) rfl
  obtain ⟨w, hr, hM⟩ := hM.st_agg (us := [(int i64 r15.1), v16]) (ρ := a.eval) (dst := none) (ty := _) (pos := _) (af := _) (gd := _) (x := .tmp 3) (y := .tmp 32) (hS.ev rfl) (hS.ev rfl) ty_sz_28 (all1_cons rfl (all1_cons (rd_one (rd_of_ow (hM.get 2 rfl))) all1_nil)) rfl
  refine st_unit hS rfl rfl hr ?_
  refine st_val hS rfl rfl (by decide) (rv_assign (hS.ev rfl)) fun a hS => ?_
  refine wpList_nil ?_
  refine hK11 _ _ ?_
  have hS : Sl 225 [(0, p0_codev), (3, (fdp b17 0)), (4, (int i64 r15.2.2))] a := hS.sub (sub_cons rfl (sub_cons rfl (sub_cons rfl sub_nil)))
  have hM := hM.pick [0, 2, 3] (by decide) rfl
  refine wp_seq_k fun K18 hK18 => ?_
  refine wp_region_lit ?_
  refine st_val hS rfl rfl (by decide) (rv_load_agg (hS.ev rfl) ty_ag_28 (hM.get 0 rfl) ty_sz_28) fun a hS => ?_
  refine st_val hS rfl rfl (by decide) (rv_move (hS.ev rfl)) fun a hS => ?_
  obtain ⟨r21, hr, hF⟩ := bind_some hF
  refine st_wp hS rfl (wp_call hS rfl rfl (by decide) fn_ok_47 rfl (c_impl_LexOrder F r15.1 r15.2.1 r15.2.2 v16 hr _ (rd_of_ow (hM.get 1 rfl))) fun v w a hK hS => ?_)
  obtain ⟨v22, rfl, hN⟩ := hK
  have hM := hM.add hN rfl
  refine st_val hS rfl rfl (by decide) (rv_move (hS.ev rfl)) fun a hS => ?_
  refine st_val hS rfl rfl (by decide) (rv_extract (hS.ev rfl) rfl) fun a hS => ?_
  refine st_val hS rfl rfl (by decide) (rv_extract (hS.ev rfl) rfl) fun a hS => ?_
  refine st_val hS rfl rfl (by decide) (rv_assign (hS.ev rfl)) fun a hS => ?_
  refine st_val hS rfl rfl (by decide) (rv_assign (hS.ev rfl)) fun a hS => ?_
  refine wpList_nil ?_
  refine hK18 _ _ ?_
  refine wp_seq_k fun K23 hK23 => ?_
  refine wp_region_lit ?_
  refine st_val hS rfl rfl (by decide) (rv_load_agg (hS.ev rfl) ty_ag_28 (hM.get 1 rfl) ty_sz_28) fun a hS => ?_
  refine st_val hS rfl rfl (by decide) (rv_move (hS.ev rfl)) fun a hS => ?_
  obtain ⟨r26, hr, hF⟩ := bind_some hF
  refine st_wp hS rfl (wp_call hS rfl rfl (by decide) fn_ok_48 rfl (c_spec_LexOrder F r15.1 r15.2.1 r15.2.2 v16 hr _ (rd_of_ow (hM.get 2 rfl))) fun v w a hK hS => ?_)
  obtain ⟨v27, rfl, hN⟩ := hK
  have hM := hM.add hN rfl
  refine st_val hS rfl rfl (by decide) (rv_move (hS.ev rfl)) fun a hS => ?_
  refine st_val hS rfl rfl (by decide) (rv_extract (hS.ev rfl) rfl) fun a hS => ?_
  refine st_val hS rfl rfl (by decide) (rv_extract (hS.ev rfl) rfl) fun a hS => ?_
  refine st_val hS rfl rfl (by decide) (rv_assign (hS.ev rfl)) fun a hS => ?_
  refine st_val hS rfl rfl (by decide) (rv_assign (hS.ev rfl)) fun a hS => ?_
  refine wpList_nil ?_
  refine hK23 _ _ ?_
  have hS : Sl 225 [(0, p0_codev), (3, (fdp b17 0)), (4, (int i64 r15.2.2)), (5, v22), (6, (Value.bool r21.2)), (7, v27), (8, (Value.bool r26.2))] a := hS.sub (sub_cons rfl (sub_cons rfl (sub_cons rfl (sub_cons rfl (sub_cons rfl (sub_cons rfl (sub_cons rfl sub_nil)))))))
  refine wp_seq_k fun K28 hK28 => ?_
  refine wp_region_lit ?_
  refine st_val hS rfl rfl (by decide) (rv_load_agg (hS.ev rfl) ty_ag_28 (hM.get 2 rfl) ty_sz_28) fun a hS => ?_
  refine st_val hS rfl rfl (by decide) (rv_move (hS.ev rfl)) fun a hS => ?_
  obtain ⟨r31, hr, hF⟩ := bind_some hF
  refine st_wp hS rfl (wp_call hS rfl rfl (by decide) fn_ok_49 rfl (c_impl_CardinalityOrder F r15.1 r15.2.1 r15.2.2 v16 hr _ (rd_of_ow (hM.get 3 rfl))) fun v w a hK hS => ?_)
  obtain ⟨v32, rfl, hN⟩ := hK
  have hM := hM.add hN rfl
  refine st_val hS rfl rfl (by decide) (rv_move (hS.ev rfl)) fun a hS => ?_
  refine st_val hS rfl rfl (by decide) (rv_extract (hS.ev rfl) rfl) fun a hS => ?_
  refine st_val hS rfl rfl (by decide) (rv_extract (hS.ev rfl) rfl) fun a hS => ?_
  refine st_val hS rfl rfl (by decide) (rv_assign (hS.ev rfl)) fun a hS => ?_
  refine st_val hS rfl rfl (by decide) (rv_assign (hS.ev rfl)) fun a hS => ?_
  refine wpList_nil ?_
  refine hK28 _ _ ?_
  refine wp_seq_k fun K33 hK33 => ?_
  refine wp_region_lit ?_
  refine st_val hS rfl rfl (by decide) (rv_load_agg (hS.ev rfl) ty_ag_28 (hM.get 3 rfl) ty_sz_28) fun a hS => ?_
  refine st_val hS rfl rfl (by decide) (rv_move (hS.ev rfl)) fun a hS => ?_
  obtain ⟨r36, hr, hF⟩ := bind_some hF
  refine st_wp hS rfl (wp_call hS rfl rfl (by decide) fn_ok_50 rfl (c_spec_CardinalityOrder F r15.1 r15.2.1 r15.2.2 v16 hr _ (rd_of_ow (hM.get 4 rfl))) fun v w a hK hS => ?_)
  obtain ⟨v37, rfl, hN⟩ := hK
  have hM := hM.add hN rfl
  refine st_val hS rfl rfl (by decide) (rv_move (hS.ev rfl)) fun a hS => ?_
  refine st_val hS rfl rfl (by decide) (rv_extract (hS.ev rfl) rfl) fun a hS => ?_
  refine st_val hS rfl rfl (by decide) (rv_extract (hS.ev rfl) rfl) fun a hS => ?_
  refine st_val hS rfl rfl (by decide) (rv_assign (hS.ev rfl)) fun a hS => ?_
  refine st_val hS rfl rfl (by decide) (rv_assign (hS.ev rfl)) fun a hS => ?_
  refine wpList_nil ?_
  refine hK33 _ _ ?_
  have hS : Sl 225 [(0, p0_codev), (3, (fdp b17 0)), (4, (int i64 r15.2.2)), (5, v22), (6, (Value.bool r21.2)), (7, v27), (8, (Value.bool r26.2)), (9, v32), (10, (Value.bool r31.2)), (11, v37), (12, (Value.bool r36.2))] a := hS.sub (sub_cons rfl (sub_cons rfl (sub_cons rfl (sub_cons rfl (sub_cons rfl (sub_cons rfl (sub_cons rfl (sub_cons rfl (sub_cons rfl (sub_cons rfl (sub_cons rfl sub_nil)))))))))))
  refine wp_seq_k fun K38 hK38 => ?_
  refine wp_region_lit ?_
  refine st_val hS rfl rfl (by decide) (rv_load_agg (hS.ev rfl) ty_ag_28 (hM.get 4 rfl) ty_sz_28) fun a hS => ?_
  refine st_val hS rfl rfl (by decide) (rv_move (hS.ev rfl)) fun a hS => ?_
  obtain ⟨r41, hr, hF⟩ := bind_some hF
  refine st_wp hS rfl (wp_call hS rfl rfl (by decide) fn_ok_51 rfl (c_impl_BreadthOrder F r15.1 r15.2.1 r15.2.2 v16 hr _ (rd_of_ow (hM.get 5 rfl))) fun v w a hK hS => ?_)
  obtain ⟨v42, rfl, hN⟩ := hK
  have hM := hM.add hN rfl
  refine st_val hS rfl rfl (by decide) (rv_move (hS.ev rfl)) fun a hS => ?_
  refine st_val hS rfl rfl (by decide) (rv_extract (hS.ev rfl) rfl) fun a hS => ?_
  refine st_val hS rfl rfl (by decide) (rv_extract (hS.ev rfl) rfl) fun a hS => ?_
  refine st_val hS rfl rfl (by decide) (rv_assign (hS.ev rfl)) fun a hS => ?_
  refine st_val hS rfl rfl (by decide) (rv_assign (hS.ev rfl)) fun a hS => ?_
  refine wpList_nil ?_
  refine hK38 _ _ ?_
  refine wp_seq_k fun K43 hK43 => ?_
  refine wp_region_lit ?_
  refine st_val hS rfl rfl (by decide) (rv_load_agg (hS.ev rfl) ty_ag_28 (hM.get 5 rfl) ty_sz_28) fun a hS => ?_
  refine st_val hS rfl rfl (by decide) (rv_move (hS.ev rfl)) fun a hS => ?_
  obtain ⟨r46, hr, hF⟩ := bind_some hF
  refine st_wp hS rfl (wp_call hS rfl rfl (by decide) fn_ok_52 rfl (c_spec_BreadthOrder F r15.1 r15.2.1 r15.2.2 v16 hr _ (rd_of_ow (hM.get 6 rfl))) fun v w a hK hS => ?_)
  obtain ⟨v47, rfl, hN⟩ := hK
  have hM := hM.add hN rfl
  refine st_val hS rfl rfl (by decide) (rv_move (hS.ev rfl)) fun a hS => ?_
  refine st_val hS rfl rfl (by decide) (rv_extract (hS.ev rfl) rfl) fun a hS => ?_
  refine st_val hS rfl rfl (by decide) (rv_extract (hS.ev rfl) rfl) fun a hS => ?_
  refine st_val hS rfl rfl (by decide) (rv_assign (hS.ev rfl)) fun a hS => ?_
  refine st_val hS rfl rfl (by decide) (rv_assign (hS.ev rfl)) fun a hS => ?_
  refine wpList_nil ?_
  refine hK43 _ _ ?_
  have hS : Sl 225 [(0, p0_codev), (3, (fdp b17 0)), (4, (int i64 r15.2.2)), (5, v22), (6, (Value.bool r21.2)), (7, v27), (8, (Value.bool r26.2)), (9, v32), (10, (Value.bool r31.2)), (11, v37), (12, (Value.bool r36.2)), (13, v42), (14, (Value.bool r41.2)), (15, v47), (16, (Value.bool r46.2))] a := hS.sub (sub_cons rfl (sub_cons rfl (sub_cons rfl (sub_cons rfl (sub_cons rfl (sub_cons rfl (sub_cons rfl (sub_cons rfl (sub_cons rfl (sub_cons rfl (sub_cons rfl (sub_cons rfl (sub_cons rfl (sub_cons rfl (sub_cons rfl sub_nil)))))))))))))))
  refine wp_seq_k fun K48 hK48 => ?_
  refine wp_seq_k fun K64 hK64 => ?_
  have hJ1 : ∀ (p71 : Bool) (a : Act) (w : World), Sl 225 [(0, p0_codev), (3, (fdp b17 0)), (4, (int i64 r15.2.2)), (14, (Value.bool r41.2)), (15, v47), (121, (Value.bool p71))] a → Mem Nob w0 w [(false, rd p0_codev (List.map (int IntKind.u8) p0_code)), (true, bx b17 28 [(int i64 r15.1), v16]), (true, ow 3 v16 (List.map (int i64) r15.2.1)), (true, ow 3 v47 (List.map (int i64) r46.1))] → S_laws_FnOrders_j1 F p0_code r15 r41 r46 p71 = some r → K64 a w := by
   intro p71 a w hS hM hF
   unfold S_laws_FnOrders_j1 at hF
   refine hK64 _ _ ?_
   rcases ite_some hF with ⟨hc, hF⟩ | ⟨hc, hF⟩
   ·refine cond_t hS rfl hc ?_
    refine wp_seq_k fun K72 hK72 => ?_
    refine wp_region_lit ?_
    refine st_val hS rfl rfl (by decide) (rv_assign (hS.ev rfl)) fun a hS => ?_
    refine wpList_nil ?_
    refine hK72 _ _ ?_
    have hS : Sl 225 [(2, (Value.bool false))] a := hS.sub (sub_cons rfl sub_nil)
    have hM := hM.pick [] (by decide) rfl
    refine wp_ret ?_
    cases hF
    exact hQr _ _ (r_1 hS rfl rfl ⟨rfl, hM.pick [] (by decide) rfl⟩)
   ·refine cond_f hS rfl hc ?_
    refine wp_skip ?_
    refine hK48 _ _ ?_
    refine wp_seq_k fun K73 hK73 => ?_
    have hJ2 : ∀ (a : Act) (w : World), Sl 225 [(0, p0_codev), (3, (fdp b17 0)), (14, (Value.bool r41.2)), (15, v47)] a → Mem Nob w0 w [(false, rd p0_codev (List.map (int IntKind.u8) p0_code)), (true, bx b17 28 [(int i64 r15.1), v16]), (true, ow 3 v16 (List.map (int i64) r15.2.1)), (true, ow 3 v47 (List.map (int i64) r46.1))] → S_laws_FnOrders_j2 F p0_code r15 r41 r46 = some r → K73 a w := by
     intro a w hS hM hF
     unfold S_laws_FnOrders_j2 at hF
     refine hK73 _ _ ?_
     refine wp_seq_k fun K124 hK124 => ?_
     refine wp_seq_k fun K130 hK130 => ?_
     have hJ3 : ∀ (p132 : Bool) (a : Act) (w : World), Sl 225 [(0, p0_codev), (154, (Value.bool p132))] a → Mem Nob w0 w [(false, rd p0_codev (List.map (int IntKind.u8) p0_code))] → S_laws_FnOrders_j3 F p0_code p132 = some r → K130 a w := by
      intro p132 a w hS hM hF
      unfold S_laws_FnOrders_j3 at hF
      refine hK130 _ _ ?_
      rcases ite_some hF with ⟨hc, hF⟩ | ⟨hc, hF⟩
      ·refine cond_t hS rfl hc ?_
       refine wp_seq_k fun K133 hK133 => ?_
       refine wp_region_lit ?_
       refine st_val hS rfl rfl (by decide) (rv_assign (hS.ev rfl)) fun a hS => ?_
       refine wpList_nil ?_
       refine hK133 _ _ ?_
       refine wp_ret ?_
       cases hF
       exact hQr _ _ (r_1 hS rfl rfl ⟨rfl, hM.pick [] (by decide) rfl⟩)
      ·refine cond_f hS rfl hc ?_
       refine wp_skip ?_
       refine hK124 _ _ ?_
       refine wp_seq_k fun K134 hK134 => ?_
       refine wp_region_lit ?_
       refine st_val hS rfl rfl (by decide) (rv_move (hS.ev rfl)) fun a hS => ?_
       obtain ⟨r138, hr, hF⟩ := bind_some hF
       refine st_wp hS rfl (wp_call hS rfl rfl (by decide) fn_ok_57 rfl (c_spec_DrawDistanceOf F p0_code p0_codev hr _ (hM.get 0 rfl)) fun v w a hK hS => ?_)
       obtain ⟨v139, rfl, hN⟩ := hK
       have hM := hM.add hN rfl
       refine st_val hS rfl rfl (by decide) (rv_move (hS.ev rfl)) fun a hS => ?_
       refine st_val hS rfl rfl (by decide) (rv_extract (hS.ev rfl) rfl) fun a hS => ?_
       refine st_val hS rfl rfl (by decide) (rv_extract (hS.ev rfl) rfl) fun a hS => ?_
       refine st_val hS rfl rfl (by decide) (rv_extract (hS.ev rfl) rfl) fun a hS => ?_
       obtain ⟨b140, w, hr, hM⟩ := hM.allocE (ρ := a.eval) (dst := some 18) (ty := _) (pos := _) (af := _) (gd := _) (T := 28) (P := Try.prog) [(int i64 0), (Value.slice none 0 0)] ty_zr_28 rfl
       refine st_val hS rfl rfl (by decide) hr fun a hS => ?_
       have hM := hM.addNil 3
       have hM := hM.pick [1, 0, 2, 3] (by decide) rfl
       obtain ⟨w, hr, hM⟩ := hM.st_agg (us := [(int i64 r138.1), v139]) (ρ := a.eval) (dst := none) (ty := _) (pos := _) (af := _) (gd := _) (x := .tmp 18) (y := .tmp 158) (hS.ev rfl) (hS.ev rfl) ty_sz_28 (all1_cons rfl (all1_cons (rd_one (rd_of_ow (hM.get 2 rfl))) all1_nil)) rfl
       refine st_unit hS rfl rfl hr ?_
       refine st_val hS rfl rfl (by decide) (rv_assign (hS.ev rfl)) fun a hS => ?_
       refine st_val hS rfl rfl (by decide) (rv_assign (hS.ev rfl)) fun a hS => ?_
       refine wpList_nil ?_
       refine hK134 _ _ ?_
       refine wp_seq_k fun K141 hK141 => ?_
       refine wp_region_lit ?_
       refine st_val hS rfl rfl (by decide) (rv_load_agg (hS.ev rfl) ty_ag_28 (hM.get 0 rfl) ty_sz_28) fun a hS => ?_
       refine st_val hS rfl rfl (by decide) (rv_move (hS.ev rfl)) fun a hS => ?_
       refine st_val hS rfl rfl (by decide) (rv_move (hS.ev rfl)) fun a hS => ?_
       obtain ⟨r143, hr, hF⟩ := bind_some hF
       refine st_wp hS rfl (wp_call hS rfl rfl (by decide) fn_ok_55 rfl (c_impl_DistanceOf F r138.1 r138.2.1 r138.2.2.1 r138.2.2.2 v139 hr _ (rd_of_ow (hM.get 2 rfl))) fun v w a hK hS => ?_)
       obtain ⟨rfl, hN⟩ := hK
       have hM := hM.fra hN.fr
       refine st_val hS rfl rfl (by decide) (rv_assign (hS.ev rfl)) fun a hS => ?_
       refine wpList_nil ?_
       refine hK141 _ _ ?_
       have hS : Sl 225 [(0, p0_codev), (18, (fdp b140 0)), (19, (int i64 r138.2.2.1)), (20, (int i64 r138.2.2.2)), (21, (int i64 r143))] a := hS.sub (sub_cons rfl (sub_cons rfl (sub_cons rfl (sub_cons rfl (sub_cons rfl sub_nil)))))
       have hM := hM.pick [0, 2, 3] (by decide) rfl
       refine wp_seq_k fun K144 hK144 => ?_
       refine wp_seq_k fun K154 hK154 => ?_
       have hJ4 : ∀ (p158 : Bool) (a : Act) (w : World), Sl 225 [(0, p0_codev), (189, (Value.bool p158))] a → Mem Nob w0 w [(false, rd p0_codev (List.map (int IntKind.u8) p0_code))] → S_laws_FnOrders_j4 F p0_code p158 = some r → K154 a w := by
        intro p158 a w hS hM hF
        unfold S_laws_FnOrders_j4 at hF
        refine hK154 _ _ ?_
        rcases ite_some hF with ⟨hc, hF⟩ | ⟨hc, hF⟩
        ·refine cond_t hS rfl hc ?_
         refine wp_seq_k fun K159 hK159 => ?_
         refine wp_region_lit ?_
         refine st_val hS rfl rfl (by decide) (rv_assign (hS.ev rfl)) fun a hS => ?_
         refine wpList_nil ?_
         refine hK159 _ _ ?_
         refine wp_ret ?_
         cases hF
         exact hQr _ _ (r_1 hS rfl rfl ⟨rfl, hM.pick [] (by decide) rfl⟩)
        ·refine cond_f hS rfl hc ?_
         refine wp_skip ?_
         refine hK144 _ _ ?_
         refine wp_seq_k fun K160 hK160 => ?_
         refine wp_region_lit ?_
         refine st_val hS rfl rfl (by decide) (rv_move (hS.ev rfl)) fun a hS => ?_
         obtain ⟨r165, hr, hF⟩ := bind_some hF
         refine st_wp hS rfl (wp_call hS rfl rfl (by decide) fn_ok_60 rfl (c_spec_DrawIsLexOrder F p0_code p0_codev hr _ (hM.get 0 rfl)) fun v w a hK hS => ?_)
         obtain ⟨v166, v167, rfl, hN⟩ := hK
         have hM := hM.add hN rfl
         refine st_val hS rfl rfl (by decide) (rv_move (hS.ev rfl)) fun a hS => ?_
         refine st_val hS rfl rfl (by decide) (rv_extract (hS.ev rfl) rfl) fun a hS => ?_
         refine st_val hS rfl rfl (by decide) (rv_extract (hS.ev rfl) rfl) fun a hS => ?_
         obtain ⟨b168, w, hr, hM⟩ := hM.allocE (ρ := a.eval) (dst := some 22) (ty := _) (pos := _) (af := _) (gd := _) (T := 28) (P := Try.prog) [(int i64 0), (Value.slice none 0 0)] ty_zr_28 rfl
         refine st_val hS rfl rfl (by decide) hr fun a hS => ?_
         have hM := hM.addNil 3
         have hM := hM.pick [1, 0, 2, 3, 4] (by decide) rfl
         obtain ⟨w, hr, hM⟩ := hM.st_agg (us := [(int i64 r165.1), v166]) (ρ := a.eval) (dst := none) (ty := _) (pos := _) (af := _) (gd := _) (x := .tmp 22) (y := .tmp 193) (hS.ev rfl) (hS.ev rfl) ty_sz_28 (all1_cons rfl (all1_cons (rd_one (rd_of_ow (hM.get 2 rfl))) all1_nil)) rfl
         refine st_unit hS rfl rfl hr ?_
         refine st_val hS rfl rfl (by decide) (rv_assign (hS.ev rfl)) fun a hS => ?_
         refine wpList_nil ?_
         refine hK160 _ _ ?_
         refine wp_seq_k fun K169 hK169 => ?_
         refine wp_region_lit ?_
         refine st_val hS rfl rfl (by decide) (rv_move (hS.ev rfl)) fun a hS => ?_
         obtain ⟨r174, hr, hF⟩ := bind_some hF
         refine st_wp hS rfl (wp_call hS rfl rfl (by decide) fn_ok_61 rfl (c_spec_DrawIsOrder F p0_code p0_codev hr _ (hM.get 4 rfl)) fun v w a hK hS => ?_)
         obtain ⟨v175, v176, rfl, hN⟩ := hK
         have hM := hM.add hN rfl
         refine st_val hS rfl rfl (by decide) (rv_move (hS.ev rfl)) fun a hS => ?_
         refine st_val hS rfl rfl (by decide) (rv_extract (hS.ev rfl) rfl) fun a hS => ?_
         refine st_val hS rfl rfl (by decide) (rv_extract (hS.ev rfl) rfl) fun a hS => ?_
         obtain ⟨b177, w, hr, hM⟩ := hM.allocE (ρ := a.eval) (dst := some 24) (ty := _) (pos := _) (af := _) (gd := _) (T := 28) (P := Try.prog) [(int i64 0), (Value.slice none 0 0)] ty_zr_28 rfl
         refine st_val hS rfl rfl (by decide) hr fun a hS => ?_
         have hM := hM.addNil 3
         have hM := hM.pick [1, 0, 2, 3, 4, 5, 6, 7, 8] (by decide) rfl
         obtain ⟨w, hr, hM⟩ := hM.st_agg (us := [(int i64 r174.1), v175]) (ρ := a.eval) (dst := none) (ty := _) (pos := _) (af := _) (gd := _) (x := .tmp 24) (y := .tmp 198) (hS.ev rfl) (hS.ev rfl) ty_sz_28 (all1_cons rfl (all1_cons (rd_one (rd_of_ow (hM.get 2 rfl))) all1_nil)) rfl
         refine st_unit hS rfl rfl hr ?_
         refine st_val hS rfl rfl (by decide) (rv_assign (hS.ev rfl)) fun a hS => ?_
         refine wpList_nil ?_
         refine hK169 _ _ ?_
         have hS : Sl 225 [(0, p0_codev), (22, (fdp b168 0)), (23, v167), (24, (fdp b177 0)), (25, v176)] a := hS.sub (sub_cons rfl (sub_cons rfl (sub_cons rfl (sub_cons rfl (sub_cons rfl sub_nil)))))
         have hM := hM.pick [0, 2, 3, 4, 6, 7, 8] (by decide) rfl
         refine wp_seq_k fun K178 hK178 => ?_
         refine wp_region_lit ?_
         refine st_val hS rfl rfl (by decide) (rv_move (hS.ev rfl)) fun a hS => ?_
         obtain ⟨r182, hr, hF⟩ := bind_some hF
         refine st_wp hS rfl (wp_call hS rfl rfl (by decide) fn_ok_62 rfl (c_spec_DrawIsConnected F p0_code p0_codev hr _ (hM.get 6 rfl)) fun v w a hK hS => ?_)
         obtain ⟨v183, rfl, hN⟩ := hK
         have hM := hM.add hN rfl
         obtain ⟨b184, w, hr, hM⟩ := hM.allocE (ρ := a.eval) (dst := some 26) (ty := _) (pos := _) (af := _) (gd := _) (T := 28) (P := Try.prog) [(int i64 0), (Value.slice none 0 0)] ty_zr_28 rfl
         refine st_val hS rfl rfl (by decide) hr fun a hS => ?_
         have hM := hM.addNil 3
         have hM := hM.pick [1, 0, 2, 3, 4, 5, 6, 7, 8, 9] (by decide) rfl
         obtain ⟨w, hr, hM⟩ := hM.st_agg (us := [(int i64 r182.1), v183]) (ρ := a.eval) (dst := none) (ty := _) (pos := _) (af := _) (gd := _) (x := .tmp 26) (y := .tmp 201) (hS.ev rfl) (hS.ev rfl) ty_sz_28 (all1_cons rfl (all1_cons (rd_one (rd_of_ow (hM.get 2 rfl))) all1_nil)) rfl
         refine st_unit hS rfl rfl hr ?_
         refine wpList_nil ?_
         refine hK178 _ _ ?_
         refine wp_seq_k fun K185 hK185 => ?_
         have hJ5 : ∀ (p192 : Bool) (a : Act) (w : World), Sl 225 [(2, (Value.bool p192))] a → Mem Nob w0 w [] → S_laws_FnOrders_j5 F p192 = some r → K185 a w := by
          intro p192 a w hS hM hF
          unfold S_laws_FnOrders_j5 at hF
          refine hK185 _ _ ?_
          refine wp_ret ?_
          cases hF
          exact hQr _ _ (r_1 hS rfl rfl ⟨rfl, hM.pick [] (by decide) rfl⟩)
         refine an_startB 24 Nob ty_mixed (by kernel_rfl) fun w hf => ?_
         have hM := hM.fra hf
         have hB := hM
         have hM := hB.reg0
         refine tkB hS 0 1 (by kernel_rfl) rfl rfl rfl hQp rfl (fun w' hC' => (rv_load_agg (hS.ev rfl) ty_ag_28 ((hB.fra hC').get 6 rfl) ty_sz_28)) hM.fr fun a hS => ?_
         refine tkB hS 1 3 (by kernel_rfl) rfl rfl rfl hQp rfl (fun w' hC' => (rv_move (hS.ev rfl))) hM.fr fun a hS => ?_
         refine tkB hS 3 11 (by kernel_rfl) rfl rfl rfl hQp rfl (fun w' hC' => (rv_load_agg (hS.ev rfl) ty_ag_28 ((hB.fra hC').get 6 rfl) ty_sz_28)) hM.fr fun a hS => ?_
         refine tkB hS 4 27 (by kernel_rfl) rfl rfl rfl hQp rfl (fun w' hC' => (rv_move (hS.ev rfl))) hM.fr fun a hS => ?_
         obtain ⟨r193, hr, hF⟩ := bind_some hF
         refine an_oneB hS (i := 2) 31 (by kernel_rfl) rfl (by kernel_rfl) rfl ?_
         refine wp_call hS rfl rfl (by decide) fn_ok_54 rfl (c_impl_IsLexOrder F r165.1 r165.2.1 r165.2.2 v166 v167 hr _ (rd_of_ow (hM.get 7 rfl)) (rd_of_ow (hM.get 8 rfl))) fun v w a hK hS => ?_
         obtain ⟨rfl, hN⟩ := hK
         have hM := hM.fra hN.fr
         refine ⟨hM.fr, ?_⟩
         obtain ⟨r194, hr, hF⟩ := bind_some hF
         refine an_oneB hS (i := 5) 63 (by kernel_rfl) rfl (by kernel_rfl) rfl ?_
         refine wp_call hS rfl rfl (by decide) fn_ok_63 rfl (c_spec_IsLexOrder F r165.1 r165.2.1 r165.2.2 v166 v167 hr _ (rd_of_ow (hM.get 7 rfl)) (rd_of_ow (hM.get 8 rfl))) fun v w a hK hS => ?_
         obtain ⟨rfl, hN⟩ := hK
         have hM := hM.fra hN.fr
         refine ⟨hM.fr, ?_⟩
         refine tkB hS 6 127 (by kernel_rfl) rfl rfl rfl hQp rfl (fun w' hC' => (rv_beql Try.underlying4 (hS.ev rfl) (hS.ev rfl))) hM.fr fun a hS => ?_
         refine tkB hS 7 255 (by kernel_rfl) rfl rfl rfl hQp rfl (fun w' hC' => (rv_move (hS.ev rfl))) hM.fr fun a hS => ?_
         rcases ite_some hF with ⟨hc, hF⟩ | ⟨hc, hF⟩
         ·have hS := hS.setb (t := 209) rfl hc
          refine tkB hS 8 511 (by kernel_rfl) rfl rfl rfl hQp rfl (fun w' hC' => (rv_load_agg (hS.ev rfl) ty_ag_28 ((hB.fra hC').get 3 rfl) ty_sz_28)) hM.fr fun a hS => ?_
          refine tkB hS 9 1023 (by kernel_rfl) rfl rfl rfl hQp rfl (fun w' hC' => (rv_move (hS.ev rfl))) hM.fr fun a hS => ?_
          refine tkB hS 11 3071 (by kernel_rfl) rfl rfl rfl hQp rfl (fun w' hC' => (rv_load_agg (hS.ev rfl) ty_ag_28 ((hB.fra hC').get 3 rfl) ty_sz_28)) hM.fr fun a hS => ?_
          refine tkB hS 12 7167 (by kernel_rfl) rfl rfl rfl hQp rfl (fun w' hC' => (rv_move (hS.ev rfl))) hM.fr fun a hS => ?_
          obtain ⟨r195, hr, hF⟩ := bind_some hF
          refine an_oneB hS (i := 10) 8191 (by kernel_rfl) rfl (by kernel_rfl) rfl ?_
          refine wp_call hS rfl rfl (by decide) fn_ok_53 rfl (c_impl_IsOrder F r174.1 r174.2.1 r174.2.2 v175 v176 hr _ (rd_of_ow (hM.get 4 rfl)) (rd_of_ow (hM.get 5 rfl))) fun v w a hK hS => ?_
          obtain ⟨rfl, hN⟩ := hK
          have hM := hM.fra hN.fr
          refine ⟨hM.fr, ?_⟩
          obtain ⟨r196, hr, hF⟩ := bind_some hF
          refine an_oneB hS (i := 13) 16383 (by kernel_rfl) rfl (by kernel_rfl) rfl ?_
          refine wp_call hS rfl rfl (by decide) fn_ok_64 rfl (c_spec_IsOrder F r174.1 r174.2.1 r174.2.2 v175 v176 hr _ (rd_of_ow (hM.get 4 rfl)) (rd_of_ow (hM.get 5 rfl))) fun v w a hK hS => ?_
          obtain ⟨rfl, hN⟩ := hK
          have hM := hM.fra hN.fr
          refine ⟨hM.fr, ?_⟩
          refine tkB hS 14 32767 (by kernel_rfl) rfl rfl rfl hQp rfl (fun w' hC' => (rv_beql Try.underlying4 (hS.ev rfl) (hS.ev rfl))) hM.fr fun a hS => ?_
          refine tkB hS 15 65535 (by kernel_rfl) rfl rfl rfl hQp rfl (fun w' hC' => (rv_pick_t (hS.ev rfl) (hS.ev rfl))) hM.fr fun a hS => ?_
          refine tkB hS 16 131071 (by kernel_rfl) rfl rfl rfl hQp rfl (fun w' hC' => (rv_move (hS.ev rfl))) hM.fr fun a hS => ?_
          rcases ite_some hF with ⟨hc, hF⟩ | ⟨hc, hF⟩
          ·have hS := hS.setb (t := 218) rfl hc
           refine tkB hS 17 262143 (by kernel_rfl) rfl rfl rfl hQp rfl (fun w' hC' => (rv_load_agg (hS.ev rfl) ty_ag_28 ((hB.fra hC').get 0 rfl) ty_sz_28)) hM.fr fun a hS => ?_
           refine tkB hS 19 786431 (by kernel_rfl) rfl rfl rfl hQp rfl (fun w' hC' => (rv_load_agg (hS.ev rfl) ty_ag_28 ((hB.fra hC').get 0 rfl) ty_sz_28)) hM.fr fun a hS => ?_
           obtain ⟨r197, hr, hF⟩ := bind_some hF
           refine an_oneB hS (i := 18) 1048575 (by kernel_rfl) rfl (by kernel_rfl) rfl ?_
           refine wp_call hS rfl rfl (by decide) fn_ok_56 rfl (c_impl_IsConnected F r182.1 r182.2 v183 hr _ (rd_of_ow (hM.get 2 rfl))) fun v w a hK hS => ?_
           obtain ⟨rfl, hN⟩ := hK
           have hM := hM.fra hN.fr
           refine ⟨hM.fr, ?_⟩
           obtain ⟨r198, hr, hF⟩ := bind_some hF
           refine an_oneB hS (i := 20) 2097151 (by kernel_rfl) rfl (by kernel_rfl) rfl ?_
           refine wp_call hS rfl rfl (by decide) fn_ok_65 rfl (c_spec_IsConnected F r182.1 r182.2 v183 hr _ (rd_of_ow (hM.get 2 rfl))) fun v w a hK hS => ?_
           obtain ⟨rfl, hN⟩ := hK
           have hM := hM.fra hN.fr
           refine ⟨hM.fr, ?_⟩
           refine tkB hS 21 4194303 (by kernel_rfl) rfl rfl rfl hQp rfl (fun w' hC' => (rv_beql Try.underlying4 (hS.ev rfl) (hS.ev rfl))) hM.fr fun a hS => ?_
           refine tkB hS 22 8388607 (by kernel_rfl) rfl rfl rfl hQp rfl (fun w' hC' => (rv_pick_t (hS.ev rfl) (hS.ev rfl))) hM.fr fun a hS => ?_
           refine tkB hS 23 16777215 (by kernel_rfl) rfl rfl rfl hQp rfl (fun w' hC' => (rv_assign (hS.ev rfl))) hM.fr fun a hS => ?_
           refine an_done (by kernel_rfl) ?_
           have hN := hM.pick [] (by decide) rfl
           have hM := Mem.callo0 hB hN rfl
           exact hJ5 (r197 == r198) _ _ (hS.sub (sub_cons rfl sub_nil)) (hM.pick [] (by decide) rfl) hF
          ·have hS := hS.setb (t := 218) rfl hc
           refine skB hS [17, 18, 19, 20, 21] [219, 220, 221, 222, 223] 4194303 2 rfl (by kernel_rfl) hQp hM.fr fun a hS => ?_
           refine tkB hS 22 8388607 (by kernel_rfl) rfl rfl rfl hQp rfl (fun w' hC' => (rv_pick_f (hS.ev rfl) (hS.ev rfl))) hM.fr fun a hS => ?_
           refine tkB hS 23 16777215 (by kernel_rfl) rfl rfl rfl hQp rfl (fun w' hC' => (rv_assign (hS.ev rfl))) hM.fr fun a hS => ?_
           refine an_done (by kernel_rfl) ?_
           have hN := hM.pick [] (by decide) rfl
           have hM := Mem.callo0 hB hN rfl
           exact hJ5 false _ _ (hS.sub (sub_cons rfl sub_nil)) (hM.pick [] (by decide) rfl) hF
         ·have hS := hS.setb (t := 209) rfl hc
          refine skB hS [8, 9, 10, 11, 12, 13, 14] [210, 211, 212, 213, 214, 215, 216] 32767 9 rfl (by kernel_rfl) hQp hM.fr fun a hS => ?_
          refine tkB hS 15 65535 (by kernel_rfl) rfl rfl rfl hQp rfl (fun w' hC' => (rv_pick_f (hS.ev rfl) (hS.ev rfl))) hM.fr fun a hS => ?_
          refine tkB hS 16 131071 (by kernel_rfl) rfl rfl rfl hQp rfl (fun w' hC' => (rv_move (hS.ev rfl))) hM.fr fun a hS => ?_
          refine skB hS [17, 18, 19, 20, 21] [219, 220, 221, 222, 223] 4194303 2 rfl (by kernel_rfl) hQp hM.fr fun a hS => ?_
          refine tkB hS 22 8388607 (by kernel_rfl) rfl rfl rfl hQp rfl (fun w' hC' => (rv_pick_f (hS.ev rfl) (hS.ev rfl))) hM.fr fun a hS => ?_
          refine tkB hS 23 16777215 (by kernel_rfl) rfl rfl rfl hQp rfl (fun w' hC' => (rv_assign (hS.ev rfl))) hM.fr fun a hS => ?_
          refine an_done (by kernel_rfl) ?_
          have hN := hM.pick [] (by decide) rfl
          have hM := Mem.callo0 hB hN rfl
          exact hJ5 false _ _ (hS.sub (sub_cons rfl sub_nil)) (hM.pick [] (by decide) rfl) hF
       refine wp_region_lit ?_
       refine st_val hS rfl rfl (by decide) (rv_move (hS.ev rfl)) fun a hS => ?_
       refine st_val hS rfl rfl (by decide) (rv_load_agg (hS.ev rfl) ty_ag_28 (hM.get 0 rfl) ty_sz_28) fun a hS => ?_
       refine st_val hS rfl rfl (by decide) (rv_move (hS.ev rfl)) fun a hS => ?_
       refine st_val hS rfl rfl (by decide) (rv_move (hS.ev rfl)) fun a hS => ?_
       obtain ⟨r199, hr, hF⟩ := bind_some hF
       refine st_wp hS rfl (wp_call hS rfl rfl (by decide) fn_ok_58 rfl (c_spec_DistanceOf F r138.1 r138.2.1 r138.2.2.1 r138.2.2.2 v139 hr _ (rd_of_ow (hM.get 1 rfl))) fun v w a hK hS => ?_)
       obtain ⟨rfl, hN⟩ := hK
       have hM := hM.fra hN.fr
       refine st_val hS rfl rfl (by decide) (rv_neq (hS.ev rfl) (hS.ev rfl)) fun a hS => ?_
       refine st_val hS rfl rfl (by decide) (rv_move (hS.ev rfl)) fun a hS => ?_
       rcases ite_some hF with ⟨hc, hF⟩ | ⟨hc, hF⟩
       ·have hS := hS.setb (t := 171) rfl hc
        refine st_skip hS rfl rfl (by decide) fun a hS => ?_
        refine st_skip hS rfl rfl (by decide) fun a hS => ?_
        refine st_skip hS rfl rfl (by decide) fun a hS => ?_
        refine st_skip hS rfl rfl (by decide) fun a hS => ?_
        refine st_skip hS rfl rfl (by decide) fun a hS => ?_
        refine st_skip hS rfl rfl (by decide) fun a hS => ?_
        refine st_val hS rfl rfl (by decide) (rv_pick_t (hS.ev rfl) (hS.ev rfl)) fun a hS => ?_
        refine st_val hS rfl rfl (by decide) (rv_move (hS.ev rfl)) fun a hS => ?_
        refine st_skip hS rfl rfl (by decide) fun a hS => ?_
        refine st_skip hS rfl rfl (by decide) fun a hS => ?_
        refine st_skip hS rfl rfl (by decide) fun a hS => ?_
        refine st_skip hS rfl rfl (by decide) fun a hS => ?_
        refine st_skip hS rfl rfl (by decide) fun a hS => ?_
        refine st_skip hS rfl rfl (by decide) fun a hS => ?_
        refine st_skip hS rfl rfl (by decide) fun a hS => ?_
        refine st_skip hS rfl rfl (by decide) fun a hS => ?_
        refine st_skip hS rfl rfl (by decide) fun a hS => ?_
        refine st_val hS rfl rfl (by decide) (rv_pick_t (hS.ev rfl) (hS.ev rfl)) fun a hS => ?_
        refine wpList_nil ?_
        exact hJ4 true _ _ (hS.sub (sub_cons rfl (sub_cons rfl sub_nil))) (hM.pick [2] (by decide) rfl) hF
       ·have hS := hS.setb (t := 171) rfl hc
        refine st_val hS rfl rfl (by decide) (rv_move (hS.ev rfl)) fun a hS => ?_
        refine st_val hS rfl rfl (by decide) (rv_load_agg (hS.ev rfl) ty_ag_28 (hM.get 0 rfl) ty_sz_28) fun a hS => ?_
        refine st_val hS rfl rfl (by decide) (rv_move (hS.ev rfl)) fun a hS => ?_
        refine st_val hS rfl rfl (by decide) (rv_move (hS.ev rfl)) fun a hS => ?_
        obtain ⟨r200, hr, hF⟩ := bind_some hF
        refine st_wp hS rfl (wp_call hS rfl rfl (by decide) fn_ok_55 rfl (c_impl_DistanceOf F r138.1 r138.2.1 r138.2.2.2 r138.2.2.1 v139 hr _ (rd_of_ow (hM.get 1 rfl))) fun v w a hK hS => ?_)
        obtain ⟨rfl, hN⟩ := hK
        have hM := hM.fra hN.fr
        refine st_val hS rfl rfl (by decide) (rv_neq (hS.ev rfl) (hS.ev rfl)) fun a hS => ?_
        refine st_val hS rfl rfl (by decide) (rv_pick_f (hS.ev rfl) (hS.ev rfl)) fun a hS => ?_
        refine st_val hS rfl rfl (by decide) (rv_move (hS.ev rfl)) fun a hS => ?_
        rcases ite_some hF with ⟨hc, hF⟩ | ⟨hc, hF⟩
        ·have hS := hS.setb (t := 179) rfl hc
         refine st_skip hS rfl rfl (by decide) fun a hS => ?_
         refine st_skip hS rfl rfl (by decide) fun a hS => ?_
         refine st_skip hS rfl rfl (by decide) fun a hS => ?_
         refine st_skip hS rfl rfl (by decide) fun a hS => ?_
         refine st_skip hS rfl rfl (by decide) fun a hS => ?_
         refine st_skip hS rfl rfl (by decide) fun a hS => ?_
         refine st_skip hS rfl rfl (by decide) fun a hS => ?_
         refine st_skip hS rfl rfl (by decide) fun a hS => ?_
         refine st_skip hS rfl rfl (by decide) fun a hS => ?_
         refine st_val hS rfl rfl (by decide) (rv_pick_t (hS.ev rfl) (hS.ev rfl)) fun a hS => ?_
         refine wpList_nil ?_
         exact hJ4 true _ _ (hS.sub (sub_cons rfl (sub_cons rfl sub_nil))) (hM.pick [2] (by decide) rfl) hF
        ·have hS := hS.setb (t := 179) rfl hc
         refine st_val hS rfl rfl (by decide) (rv_move (hS.ev rfl)) fun a hS => ?_
         refine st_val hS rfl rfl (by decide) (rv_eql (hS.ev rfl) (hS.ev rfl)) fun a hS => ?_
         refine st_val hS rfl rfl (by decide) (rv_move (hS.ev rfl)) fun a hS => ?_
         rcases ite_some hF with ⟨hc, hF⟩ | ⟨hc, hF⟩
         ·have hS := hS.setb (t := 182) rfl hc
          refine st_val hS rfl rfl (by decide) (rv_load_agg (hS.ev rfl) ty_ag_28 (hM.get 0 rfl) ty_sz_28) fun a hS => ?_
          refine st_val hS rfl rfl (by decide) (rv_move (hS.ev rfl)) fun a hS => ?_
          refine st_val hS rfl rfl (by decide) (rv_move (hS.ev rfl)) fun a hS => ?_
          obtain ⟨r201, hr, hF⟩ := bind_some hF
          refine st_wp hS rfl (wp_call hS rfl rfl (by decide) fn_ok_59 rfl (c_impl_HasEdge F r138.1 r138.2.1 r138.2.2.1 r138.2.2.2 v139 hr _ (rd_of_ow (hM.get 1 rfl))) fun v w a hK hS => ?_)
          obtain ⟨rfl, hN⟩ := hK
          have hM := hM.fra hN.fr
          refine st_val hS rfl rfl (by decide) (rv_not (hS.ev rfl)) fun a hS => ?_
          refine st_val hS rfl rfl (by decide) (rv_pick_t (hS.ev rfl) (hS.ev rfl)) fun a hS => ?_
          refine st_val hS rfl rfl (by decide) (rv_pick_f (hS.ev rfl) (hS.ev rfl)) fun a hS => ?_
          refine wpList_nil ?_
          exact hJ4 (!r201) _ _ (hS.sub (sub_cons rfl (sub_cons rfl sub_nil))) (hM.pick [2] (by decide) rfl) hF
         ·have hS := hS.setb (t := 182) rfl hc
          refine st_skip hS rfl rfl (by decide) fun a hS => ?_
          refine st_skip hS rfl rfl (by decide) fun a hS => ?_
          refine st_skip hS rfl rfl (by decide) fun a hS => ?_
          refine st_skip hS rfl rfl (by decide) fun a hS => ?_
          refine st_skip hS rfl rfl (by decide) fun a hS => ?_
          refine st_val hS rfl rfl (by decide) (rv_pick_f (hS.ev rfl) (hS.ev rfl)) fun a hS => ?_
          refine st_val hS rfl rfl (by decide) (rv_pick_f (hS.ev rfl) (hS.ev rfl)) fun a hS => ?_
          refine wpList_nil ?_
          exact hJ4 false _ _ (hS.sub (sub_cons rfl (sub_cons rfl sub_nil))) (hM.pick [2] (by decide) rfl) hF
     refine an_startB 11 Nob ty_mixed (by kernel_rfl) fun w hf => ?_
     have hM := hM.fra hf
     have hB := hM
     have hM := hB.reg0
     refine tkB hS 0 1 (by kernel_rfl) rfl rfl rfl hQp rfl (fun w' hC' => (rv_move (hS.ev rfl))) hM.fr fun a hS => ?_
     refine tkB hS 1 3 (by kernel_rfl) rfl rfl rfl hQp rfl (fun w' hC' => (rv_move (hS.ev rfl))) hM.fr fun a hS => ?_
     rcases ite_some hF with ⟨hc, hF⟩ | ⟨hc, hF⟩
     ·have hS := hS.setb (t := 145) rfl hc
      refine tkB hS 2 7 (by kernel_rfl) rfl rfl rfl hQp rfl (fun w' hC' => (rv_load_agg (hS.ev rfl) ty_ag_28 ((hB.fra hC').get 1 rfl) ty_sz_28)) hM.fr fun a hS => ?_
      refine tkB hS 4 23 (by kernel_rfl) rfl rfl rfl hQp rfl (fun w' hC' => (rv_move (hS.ev rfl))) hM.fr fun a hS => ?_
      refine tkB hS 5 55 (by kernel_rfl) rfl rfl rfl hQp rfl (fun w' hC' => (rv_len_rowM Try.underlying22 (hS.ev rfl) (rd_of_ow (hM.get 3 rfl)))) hM.fr fun a hS => ?_
      refine tkB hS 6 119 (by kernel_rfl) rfl rfl rfl hQp rfl (fun w' hC' => (rv_fieldAddr ty_fd_28_0 (hS.ev rfl))) hM.fr fun a hS => ?_
      refine tkB hS 7 247 (by kernel_rfl) rfl rfl rfl hQp rfl (fun w' hC' => (rv_load_bx (hS.ev rfl) ty_ag_3 ((hB.fra hC').get 1 rfl) rfl)) hM.fr fun a hS => ?_
      refine tkB hS 8 503 (by kernel_rfl) rfl rfl rfl hQp rfl (fun w' hC' => (rv_eql (hS.ev rfl) (hS.ev rfl))) hM.fr fun a hS => ?_
      obtain ⟨r202, hr, hF⟩ := bind_some hF
      refine an_oneB hS (i := 3) 511 (by kernel_rfl) rfl (by kernel_rfl) rfl ?_
      refine wp_call hS rfl rfl (by decide) fn_ok_56 rfl (c_impl_IsConnected F r15.1 r15.2.1 v16 hr _ (rd_of_ow (hM.get 2 rfl))) fun v w a hK hS => ?_
      obtain ⟨rfl, hN⟩ := hK
      have hM := hM.fra hN.fr
      refine ⟨hM.fr, ?_⟩
      refine tkB hS 9 1023 (by kernel_rfl) rfl rfl rfl hQp rfl (fun w' hC' => (rv_bneq Try.underlying4 (hS.ev rfl) (hS.ev rfl))) hM.fr fun a hS => ?_
      refine tkB hS 10 2047 (by kernel_rfl) rfl rfl rfl hQp rfl (fun w' hC' => (rv_pick_t (hS.ev rfl) (hS.ev rfl))) hM.fr fun a hS => ?_
      refine an_done (by kernel_rfl) ?_
      have hN := hM.pick [] (by decide) rfl
      have hM := Mem.callo0 hB hN rfl
      exact hJ3 (r202 != ((r46.1.length : Int) == r15.1)) _ _ (hS.sub (sub_cons rfl (sub_cons rfl sub_nil))) (hM.pick [0] (by decide) rfl) hF
     ·have hS := hS.setb (t := 145) rfl hc
      refine skB hS [2, 3, 4, 5, 6, 7, 8, 9] [146, 147, 148, 149, 150, 151, 152, 153] 1023 1 rfl (by kernel_rfl) hQp hM.fr fun a hS => ?_
      refine tkB hS 10 2047 (by kernel_rfl) rfl rfl rfl hQp rfl (fun w' hC' => (rv_pick_f (hS.ev rfl) (hS.ev rfl))) hM.fr fun a hS => ?_
      refine an_done (by kernel_rfl) ?_
      have hN := hM.pick [] (by decide) rfl
      have hM := Mem.callo0 hB hN rfl
      exact hJ3 false _ _ (hS.sub (sub_cons rfl (sub_cons rfl sub_nil))) (hM.pick [0] (by decide) rfl) hF
    refine wp_seq_k fun K203 hK203 => ?_
    refine wp_region_lit ?_
    refine st_val hS rfl rfl (by decide) (rv_assign (hS.ev rfl)) fun a hS => ?_
    refine wpList_nil ?_
    refine hK203 _ _ ?_
    refine wp_block ?_
    obtain ⟨lb6, hl6, hF6⟩ := bind_some hF
    refine wp_loop_sh (fun s => S_laws_FnOrders_l6 F r15 r46 s) (fun s a w => Sl 225 [(0, p0_codev), (3, (fdp b17 0)), (4, (int i64 r15.2.2)), (14, (Value.bool r41.2)), (15, v47), (17, (int i64 s))] a ∧ Mem Nob w0 w [(false, rd p0_codev (List.map (int IntKind.u8) p0_code)), (true, bx b17 28 [(int i64 r15.1), v16]), (true, ow 3 v16 (List.map (int i64) r15.2.1)), (true, ow 3 v47 (List.map (int i64) r46.1))]) hl6 ⟨(hS.sub (sub_cons rfl (sub_cons rfl (sub_cons rfl (sub_cons rfl (sub_cons rfl (sub_cons rfl sub_nil))))))), (hM.pick [0, 1, 2, 3] (by decide) rfl)⟩ ?_
    rintro K6 x204 a w res6 ⟨hS, hM⟩ hF hN6 hX6
    have hF : S_laws_FnOrders_l6 F r15 r46 x204 = some res6 := hF
    have hS : Sl 225 [(0, p0_codev), (3, (fdp b17 0)), (4, (int i64 r15.2.2)), (14, (Value.bool r41.2)), (15, v47), (17, (int i64 x204))] a := hS
    have hM : Mem Nob w0 w [(false, rd p0_codev (List.map (int IntKind.u8) p0_code)), (true, bx b17 28 [(int i64 r15.1), v16]), (true, ow 3 v16 (List.map (int i64) r15.2.1)), (true, ow 3 v47 (List.map (int i64) r46.1))] := hM
    unfold S_laws_FnOrders_l6 at hF
    refine wp_seq_k fun K229 hK229 => ?_
    refine wp_seq_k fun K231 hK231 => ?_
    refine wp_region_lit ?_
    refine st_val hS rfl rfl (by decide) (rv_move (hS.ev rfl)) fun a hS => ?_
    refine st_val hS rfl rfl (by decide) (rv_move (hS.ev rfl)) fun a hS => ?_
    refine st_val hS rfl rfl (by decide) (rv_len_rowM Try.underlying22 (hS.ev rfl) (rd_of_ow (hM.get 3 rfl))) fun a hS => ?_
    refine st_val hS rfl rfl (by decide) (rv_lss (hS.ev rfl) (hS.ev rfl)) fun a hS => ?_
    refine wpList_nil ?_
    refine hK231 _ _ ?_
    rcases ite_some hF with ⟨hc, hF⟩ | ⟨hc, hF⟩
    ·refine cond_t hS rfl hc ?_
     refine wp_skip ?_
     refine hK229 _ _ ?_
     refine wp_seq_k fun K232 hK232 => ?_
     refine wp_block ?_
     refine wp_seq_k fun K243 hK243 => ?_
     refine an_startB 16 Nob ty_mixed (by kernel_rfl) fun w hf => ?_
     have hM := hM.fra hf
     have hB := hM
     have hM := hB.reg0
     refine tkB hS 0 1 (by kernel_rfl) rfl rfl rfl hQp rfl (fun w' hC' => (rv_load_agg (hS.ev rfl) ty_ag_28 ((hB.fra hC').get 1 rfl) ty_sz_28)) hM.fr fun a hS => ?_
     refine tkB hS 1 3 (by kernel_rfl) rfl rfl rfl hQp rfl (fun w' hC' => (rv_move (hS.ev rfl))) hM.fr fun a hS => ?_
     refine tkB hS 2 7 (by kernel_rfl) rfl rfl rfl hQp rfl (fun w' hC' => (rv_move (hS.ev rfl))) hM.fr fun a hS => ?_
     refine tkB hS 3 15 (by kernel_rfl) rfl rfl rfl hQp rfl (fun w' hC' => (rv_move (hS.ev rfl))) hM.fr fun a hS => ?_
     obtain ⟨x248, hx, hF⟩ := bind_some hF
     obtain ⟨hi0, hi1, hex248⟩ := idxL_some hx
     refine tkB hS 4 31 (by kernel_rfl) rfl rfl rfl hQp rfl (fun w' hC' => (rv_indexAddr Try.underlying22 ty_el_3 (hS.ev rfl) (hS.ev rfl) (rd_of_ow (hM.get 3 rfl)) hi0 (map_len hi1))) hM.fr fun a hS => ?_
     refine tkB hS 5 63 (by kernel_rfl) rfl rfl rfl hQp rfl (fun w' hC' => (rv_load_el (hS.ev rfl) ty_ag_3 (rd_of_ow ((hB.fra hC').get 3 rfl)) (mget hex248))) hM.fr fun a hS => ?_
     refine tkB hS 7 191 (by kernel_rfl) rfl rfl rfl hQp rfl (fun w' hC' => (rv_load_agg (hS.ev rfl) ty_ag_28 ((hB.fra hC').get 1 rfl) ty_sz_28)) hM.fr fun a hS => ?_
     refine tkB hS 8 447 (by kernel_rfl) rfl rfl rfl hQp rfl (fun w' hC' => (rv_move (hS.ev rfl))) hM.fr fun a hS => ?_
     refine tkB hS 9 959 (by kernel_rfl) rfl rfl rfl hQp rfl (fun w' hC' => (rv_move (hS.ev rfl))) hM.fr fun a hS => ?_
     refine tkB hS 10 1983 (by kernel_rfl) rfl rfl rfl hQp rfl (fun w' hC' => (rv_move (hS.ev rfl))) hM.fr fun a hS => ?_
     refine tkB hS 11 4031 (by kernel_rfl) rfl rfl rfl hQp rfl (fun w' hC' => (rv_sub (hS.ev rfl) (hS.ev rfl))) hM.fr fun a hS => ?_
     obtain ⟨x249, hx, hF⟩ := bind_some hF
     obtain ⟨hi0, hi1, hex249⟩ := idxL_some hx
     refine tkB hS 12 8127 (by kernel_rfl) rfl rfl rfl hQp rfl (fun w' hC' => (rv_indexAddr Try.underlying22 ty_el_3 (hS.ev rfl) (hS.ev rfl) (rd_of_ow (hM.get 3 rfl)) hi0 (map_len hi1))) hM.fr fun a hS => ?_
     refine tkB hS 13 16319 (by kernel_rfl) rfl rfl rfl hQp rfl (fun w' hC' => (rv_load_el (hS.ev rfl) ty_ag_3 (rd_of_ow ((hB.fra hC').get 3 rfl)) (mget hex249))) hM.fr fun a hS => ?_
     obtain ⟨r250, hr, hF⟩ := bind_some hF
     refine an_oneB hS (i := 6) 16383 (by kernel_rfl) rfl (by kernel_rfl) rfl ?_
     refine wp_call hS rfl rfl (by decide) fn_ok_55 rfl (c_impl_DistanceOf F r15.1 r15.2.1 r15.2.2 x248 v16 hr _ (rd_of_ow (hM.get 2 rfl))) fun v w a hK hS => ?_
     obtain ⟨rfl, hN⟩ := hK
     have hM := hM.fra hN.fr
     refine ⟨hM.fr, ?_⟩
     obtain ⟨r251, hr, hF⟩ := bind_some hF
     refine an_oneB hS (i := 14) 32767 (by kernel_rfl) rfl (by kernel_rfl) rfl ?_
     refine wp_call hS rfl rfl (by decide) fn_ok_55 rfl (c_impl_DistanceOf F r15.1 r15.2.1 r15.2.2 x249 v16 hr _ (rd_of_ow (hM.get 2 rfl))) fun v w a hK hS => ?_
     obtain ⟨rfl, hN⟩ := hK
     have hM := hM.fra hN.fr
     refine ⟨hM.fr, ?_⟩
     refine tkB hS 15 65535 (by kernel_rfl) rfl rfl rfl hQp rfl (fun w' hC' => (rv_lss (hS.ev rfl) (hS.ev rfl))) hM.fr fun a hS => ?_
     refine an_done (by kernel_rfl) ?_
     have hN := hM.pick [] (by decide) rfl
     have hM := Mem.callo0 hB hN rfl
     refine hK243 _ _ ?_
     have hS : Sl 225 [(0, p0_codev), (3, (fdp b17 0)), (4, (int i64 r15.2.2)), (14, (Value.bool r41.2)), (15, v47), (17, (int i64 x204)), (143, (Value.bool (decide (r250 < r251))))] a := hS.sub (sub_cons rfl (sub_cons rfl (sub_cons rfl (sub_cons rfl (sub_cons rfl (sub_cons rfl (sub_cons rfl sub_nil)))))))
     rcases ite_some hF with ⟨hc, hF⟩ | ⟨hc, hF⟩
     ·refine cond_t hS rfl hc ?_
      refine wp_seq_k fun K252 hK252 => ?_
      refine wp_region_lit ?_
      refine st_val hS rfl rfl (by decide) (rv_assign (hS.ev rfl)) fun a hS => ?_
      refine wpList_nil ?_
      refine hK252 _ _ ?_
      have hS : Sl 225 [(2, (Value.bool false))] a := hS.sub (sub_cons rfl sub_nil)
      have hM := hM.pick [] (by decide) rfl
      refine wp_ret ?_
      cases hF
      have e := hX6 _ rfl
      subst e
      have hF := hF6
      cases hF
      exact hQr _ _ (r_1 hS rfl rfl ⟨rfl, hM.pick [] (by decide) rfl⟩)
     ·refine cond_f hS rfl hc ?_
      refine wp_skip ?_
      refine hK232 _ _ ?_
      refine wp_region_lit ?_
      refine st_val hS rfl rfl (by decide) (rv_move (hS.ev rfl)) fun a hS => ?_
      refine st_val hS rfl rfl (by decide) (rv_add (hS.ev rfl) (hS.ev rfl)) fun a hS => ?_
      refine st_val hS rfl rfl (by decide) (rv_assign (hS.ev rfl)) fun a hS => ?_
      refine wpList_nil ?_
      cases hF
      exact hN6 _ _ _ rfl ⟨(hS.sub (sub_cons rfl (sub_cons rfl (sub_cons rfl (sub_cons rfl (sub_cons rfl (sub_cons rfl sub_nil))))))), (hM.pick [0, 1, 2, 3] (by decide) rfl)⟩
    ·refine cond_f hS rfl hc ?_
     refine wp_exit ?_
     cases hF
     exact hJ2 _ _ (hS.sub (sub_cons rfl (sub_cons rfl (sub_cons rfl (sub_cons rfl sub_nil))))) (hM.pick [0, 1, 2, 3] (by decide) rfl) (by have e := hX6 _ rfl; subst e; exact hF6)
  refine wp_region_lit ?_
  refine st_val hS rfl rfl (by decide) (rv_move (hS.ev rfl)) fun a hS => ?_
  refine st_val hS rfl rfl (by decide) (rv_move (hS.ev rfl)) fun a hS => ?_
  refine st_val hS rfl rfl (by decide) (rv_bneq Try.underlying4 (hS.ev rfl) (hS.ev rfl)) fun a hS => ?_
  refine st_val hS rfl rfl (by decide) (rv_move (hS.ev rfl)) fun a hS => ?_
  rcases ite_some hF with ⟨hc, hF⟩ | ⟨hc, hF⟩
  ·have hS := hS.setb (t := 73) rfl hc
   refine st_skip hS rfl rfl (by decide) fun a hS => ?_
   refine st_skip hS rfl rfl (by decide) fun a hS => ?_
   refine st_skip hS rfl rfl (by decide) fun a hS => ?_
   refine st_skip hS rfl rfl (by decide) fun a hS => ?_
   refine st_val hS rfl rfl (by decide) (rv_pick_t (hS.ev rfl) (hS.ev rfl)) fun a hS => ?_
   refine st_val hS rfl rfl (by decide) (rv_move (hS.ev rfl)) fun a hS => ?_
   refine st_skip hS rfl rfl (by decide) fun a hS => ?_
   refine st_skip hS rfl rfl (by decide) fun a hS => ?_
   refine st_skip hS rfl rfl (by decide) fun a hS => ?_
   refine st_val hS rfl rfl (by decide) (rv_pick_t (hS.ev rfl) (hS.ev rfl)) fun a hS => ?_
   refine st_val hS rfl rfl (by decide) (rv_move (hS.ev rfl)) fun a hS => ?_
   refine st_skip hS rfl rfl (by decide) fun a hS => ?_
   refine st_skip hS rfl rfl (by decide) fun a hS => ?_
   refine st_skip hS rfl rfl (by decide) fun a hS => ?_
   refine st_skip hS rfl rfl (by decide) fun a hS => ?_
   refine st_val hS rfl rfl (by decide) (rv_pick_t (hS.ev rfl) (hS.ev rfl)) fun a hS => ?_
   refine st_val hS rfl rfl (by decide) (rv_move (hS.ev rfl)) fun a hS => ?_
   refine st_skip hS rfl rfl (by decide) fun a hS => ?_
   refine st_skip hS rfl rfl (by decide) fun a hS => ?_
   refine st_skip hS rfl rfl (by decide) fun a hS => ?_
   refine st_val hS rfl rfl (by decide) (rv_pick_t (hS.ev rfl) (hS.ev rfl)) fun a hS => ?_
   refine st_val hS rfl rfl (by decide) (rv_move (hS.ev rfl)) fun a hS => ?_
   refine st_skip hS rfl rfl (by decide) fun a hS => ?_
   refine st_skip hS rfl rfl (by decide) fun a hS => ?_
   refine st_skip hS rfl rfl (by decide) fun a hS => ?_
   refine st_skip hS rfl rfl (by decide) fun a hS => ?_
   refine st_val hS rfl rfl (by decide) (rv_pick_t (hS.ev rfl) (hS.ev rfl)) fun a hS => ?_
   refine st_val hS rfl rfl (by decide) (rv_move (hS.ev rfl)) fun a hS => ?_
   refine st_skip hS rfl rfl (by decide) fun a hS => ?_
   refine st_skip hS rfl rfl (by decide) fun a hS => ?_
   refine st_skip hS rfl rfl (by decide) fun a hS => ?_
   refine st_skip hS rfl rfl (by decide) fun a hS => ?_
   refine st_skip hS rfl rfl (by decide) fun a hS => ?_
   refine st_skip hS rfl rfl (by decide) fun a hS => ?_
   refine st_skip hS rfl rfl (by decide) fun a hS => ?_
   refine st_skip hS rfl rfl (by decide) fun a hS => ?_
   refine st_skip hS rfl rfl (by decide) fun a hS => ?_
   refine st_skip hS rfl rfl (by decide) fun a hS => ?_
   refine st_skip hS rfl rfl (by decide) fun a hS => ?_
   refine st_skip hS rfl rfl (by decide) fun a hS => ?_
   refine st_skip hS rfl rfl (by decide) fun a hS => ?_
   refine st_skip hS rfl rfl (by decide) fun a hS => ?_
   refine st_skip hS rfl rfl (by decide) fun a hS => ?_
   refine st_skip hS rfl rfl (by decide) fun a hS => ?_
   refine st_skip hS rfl rfl (by decide) fun a hS => ?_
   refine st_skip hS rfl rfl (by decide) fun a hS => ?_
   refine st_skip hS rfl rfl (by decide) fun a hS => ?_
   refine st_val hS rfl rfl (by decide) (rv_pick_t (hS.ev rfl) (hS.ev rfl)) fun a hS => ?_
   refine wpList_nil ?_
   exact hJ1 true _ _ (hS.sub (sub_cons rfl (sub_cons rfl (sub_cons rfl (sub_cons rfl (sub_cons rfl (sub_cons rfl sub_nil))))))) (hM.pick [8, 6, 7, 0] (by decide) rfl) hF
  ·have hS := hS.setb (t := 73) rfl hc
   refine st_val hS rfl rfl (by decide) (rv_move (hS.ev rfl)) fun a hS => ?_
   refine st_val hS rfl rfl (by decide) (rv_move (hS.ev rfl)) fun a hS => ?_
   obtain ⟨r253, hr, hF⟩ := bind_some hF
   refine st_wp hS rfl (wp_call hS rfl rfl (by decide) fn_ok_26 rfl (c_laws_sameInts F r21.1 r26.1 v22 v27 hr _ (rd_of_ow (hM.get 5 rfl)) (rd_of_ow (hM.get 4 rfl))) fun v w a hK hS => ?_)
   obtain ⟨rfl, hN⟩ := hK
   have hM := hM.fra hN.fr
   refine st_val hS rfl rfl (by decide) (rv_not (hS.ev rfl)) fun a hS => ?_
   refine st_val hS rfl rfl (by decide) (rv_pick_f (hS.ev rfl) (hS.ev rfl)) fun a hS => ?_
   refine st_val hS rfl rfl (by decide) (rv_move (hS.ev rfl)) fun a hS => ?_
   rcases ite_some hF with ⟨hc, hF⟩ | ⟨hc, hF⟩
   ·have hS := hS.setb (t := 79) rfl hc
    refine st_skip hS rfl rfl (by decide) fun a hS => ?_
    refine st_skip hS rfl rfl (by decide) fun a hS => ?_
    refine st_skip hS rfl rfl (by decide) fun a hS => ?_
    refine st_val hS rfl rfl (by decide) (rv_pick_t (hS.ev rfl) (hS.ev rfl)) fun a hS => ?_
    refine st_val hS rfl rfl (by decide) (rv_move (hS.ev rfl)) fun a hS => ?_
    refine st_skip hS rfl rfl (by decide) fun a hS => ?_
    refine st_skip hS rfl rfl (by decide) fun a hS => ?_
    refine st_skip hS rfl rfl (by decide) fun a hS => ?_
    refine st_skip hS rfl rfl (by decide) fun a hS => ?_
    refine st_val hS rfl rfl (by decide) (rv_pick_t (hS.ev rfl) (hS.ev rfl)) fun a hS => ?_
    refine st_val hS rfl rfl (by decide) (rv_move (hS.ev rfl)) fun a hS => ?_
    refine st_skip hS rfl rfl (by decide) fun a hS => ?_
    refine st_skip hS rfl rfl (by decide) fun a hS => ?_
    refine st_skip hS rfl rfl (by decide) fun a hS => ?_
    refine st_val hS rfl rfl (by decide) (rv_pick_t (hS.ev rfl) (hS.ev rfl)) fun a hS => ?_
    refine st_val hS rfl rfl (by decide) (rv_move (hS.ev rfl)) fun a hS => ?_
    refine st_skip hS rfl rfl (by decide) fun a hS => ?_
    refine st_skip hS rfl rfl (by decide) fun a hS => ?_
    refine st_skip hS rfl rfl (by decide) fun a hS => ?_
    refine st_skip hS rfl rfl (by decide) fun a hS => ?_
    refine st_val hS rfl rfl (by decide) (rv_pick_t (hS.ev rfl) (hS.ev rfl)) fun a hS => ?_
    refine st_val hS rfl rfl (by decide) (rv_move (hS.ev rfl)) fun a hS => ?_
    refine st_skip hS rfl rfl (by decide) fun a hS => ?_
    refine st_skip hS rfl rfl (by decide) fun a hS => ?_
    refine st_skip hS rfl rfl (by decide) fun a hS => ?_
    refine st_skip hS rfl rfl (by decide) fun a hS => ?_
    refine st_skip hS rfl rfl (by decide) fun a hS => ?_
    refine st_skip hS rfl rfl (by decide) fun a hS => ?_
    refine st_skip hS rfl rfl (by decide) fun a hS => ?_
    refine st_skip hS rfl rfl (by decide) fun a hS => ?_
    refine st_skip hS rfl rfl (by decide) fun a hS => ?_
    refine st_skip hS rfl rfl (by decide) fun a hS => ?_
    refine st_skip hS rfl rfl (by decide) fun a hS => ?_
    refine st_skip hS rfl rfl (by decide) fun a hS => ?_
    refine st_skip hS rfl rfl (by decide) fun a hS => ?_
    refine st_skip hS rfl rfl (by decide) fun a hS => ?_
    refine st_skip hS rfl rfl (by decide) fun a hS => ?_
    refine st_skip hS rfl rfl (by decide) fun a hS => ?_
    refine st_skip hS rfl rfl (by decide) fun a hS => ?_
    refine st_skip hS rfl rfl (by decide) fun a hS => ?_
    refine st_skip hS rfl rfl (by decide) fun a hS => ?_
    refine st_val hS rfl rfl (by decide) (rv_pick_t (hS.ev rfl) (hS.ev rfl)) fun a hS => ?_
    refine wpList_nil ?_
    exact hJ1 true _ _ (hS.sub (sub_cons rfl (sub_cons rfl (sub_cons rfl (sub_cons rfl (sub_cons rfl (sub_cons rfl sub_nil))))))) (hM.pick [8, 6, 7, 0] (by decide) rfl) hF
   ·have hS := hS.setb (t := 79) rfl hc
    refine st_val hS rfl rfl (by decide) (rv_move (hS.ev rfl)) fun a hS => ?_
    refine st_val hS rfl rfl (by decide) (rv_move (hS.ev rfl)) fun a hS => ?_
    refine st_val hS rfl rfl (by decide) (rv_bneq Try.underlying4 (hS.ev rfl) (hS.ev rfl)) fun a hS => ?_
    refine st_val hS rfl rfl (by decide) (rv_pick_f (hS.ev rfl) (hS.ev rfl)) fun a hS => ?_
    refine st_val hS rfl rfl (by decide) (rv_move (hS.ev rfl)) fun a hS => ?_
    rcases ite_some hF with ⟨hc, hF⟩ | ⟨hc, hF⟩
    ·have hS := hS.setb (t := 84) rfl hc
     refine st_skip hS rfl rfl (by decide) fun a hS => ?_
     refine st_skip hS rfl rfl (by decide) fun a hS => ?_
     refine st_skip hS rfl rfl (by decide) fun a hS => ?_
     refine st_skip hS rfl rfl (by decide) fun a hS => ?_
     refine st_val hS rfl rfl (by decide) (rv_pick_t (hS.ev rfl) (hS.ev rfl)) fun a hS => ?_
     refine st_val hS rfl rfl (by decide) (rv_move (hS.ev rfl)) fun a hS => ?_
     refine st_skip hS rfl rfl (by decide) fun a hS => ?_
     refine st_skip hS rfl rfl (by decide) fun a hS => ?_
     refine st_skip hS rfl rfl (by decide) fun a hS => ?_
     refine st_val hS rfl rfl (by decide) (rv_pick_t (hS.ev rfl) (hS.ev rfl)) fun a hS => ?_
     refine st_val hS rfl rfl (by decide) (rv_move (hS.ev rfl)) fun a hS => ?_
     refine st_skip hS rfl rfl (by decide) fun a hS => ?_
     refine st_skip hS rfl rfl (by decide) fun a hS => ?_
     refine st_skip hS rfl rfl (by decide) fun a hS => ?_
     refine st_skip hS rfl rfl (by decide) fun a hS => ?_
     refine st_val hS rfl rfl (by decide) (rv_pick_t (hS.ev rfl) (hS.ev rfl)) fun a hS => ?_
     refine st_val hS rfl rfl (by decide) (rv_move (hS.ev rfl)) fun a hS => ?_
     refine st_skip hS rfl rfl (by decide) fun a hS => ?_
     refine st_skip hS rfl rfl (by decide) fun a hS => ?_
     refine st_skip hS rfl rfl (by decide) fun a hS => ?_
     refine st_skip hS rfl rfl (by decide) fun a hS => ?_
     refine st_skip hS rfl rfl (by decide) fun a hS => ?_
     refine st_skip hS rfl rfl (by decide) fun a hS => ?_
     refine st_skip hS rfl rfl (by decide) fun a hS => ?_
     refine st_skip hS rfl rfl (by decide) fun a hS => ?_
     refine st_skip hS rfl rfl (by decide) fun a hS => ?_
     refine st_skip hS rfl rfl (by decide) fun a hS => ?_
     refine st_skip hS rfl rfl (by decide) fun a hS => ?_
     refine st_skip hS rfl rfl (by decide) fun a hS => ?_
     refine st_skip hS rfl rfl (by decide) fun a hS => ?_
     refine st_skip hS rfl rfl (by decide) fun a hS => ?_
     refine st_skip hS rfl rfl (by decide) fun a hS => ?_
     refine st_skip hS rfl rfl (by decide) fun a hS => ?_
     refine st_skip hS rfl rfl (by decide) fun a hS => ?_
     refine st_skip hS rfl rfl (by decide) fun a hS => ?_
     refine st_skip hS rfl rfl (by decide) fun a hS => ?_
     refine st_val hS rfl rfl (by decide) (rv_pick_t (hS.ev rfl) (hS.ev rfl)) fun a hS => ?_
     refine wpList_nil ?_
     exact hJ1 true _ _ (hS.sub (sub_cons rfl (sub_cons rfl (sub_cons rfl (sub_cons rfl (sub_cons rfl (sub_cons rfl sub_nil))))))) (hM.pick [8, 6, 7, 0] (by decide) rfl) hF
    ·have hS := hS.setb (t := 84) rfl hc
     refine st_val hS rfl rfl (by decide) (rv_move (hS.ev rfl)) fun a hS => ?_
     refine st_val hS rfl rfl (by decide) (rv_move (hS.ev rfl)) fun a hS => ?_
     obtain ⟨r254, hr, hF⟩ := bind_some hF
     refine st_wp hS rfl (wp_call hS rfl rfl (by decide) fn_ok_26 rfl (c_laws_sameInts F r31.1 r36.1 v32 v37 hr _ (rd_of_ow (hM.get 3 rfl)) (rd_of_ow (hM.get 2 rfl))) fun v w a hK hS => ?_)
     obtain ⟨rfl, hN⟩ := hK
     have hM := hM.fra hN.fr
     refine st_val hS rfl rfl (by decide) (rv_not (hS.ev rfl)) fun a hS => ?_
     refine st_val hS rfl rfl (by decide) (rv_pick_f (hS.ev rfl) (hS.ev rfl)) fun a hS => ?_
     refine st_val hS rfl rfl (by decide) (rv_move (hS.ev rfl)) fun a hS => ?_
     rcases ite_some hF with ⟨hc, hF⟩ | ⟨hc, hF⟩
     ·have hS := hS.setb (t := 90) rfl hc
      refine st_skip hS rfl rfl (by decide) fun a hS => ?_
      refine st_skip hS rfl rfl (by decide) fun a hS => ?_
      refine st_skip hS rfl rfl (by decide) fun a hS => ?_
      refine st_val hS rfl rfl (by decide) (rv_pick_t (hS.ev rfl) (hS.ev rfl)) fun a hS => ?_
      refine st_val hS rfl rfl (by decide) (rv_move (hS.ev rfl)) fun a hS => ?_
      refine st_skip hS rfl rfl (by decide) fun a hS => ?_
      refine st_skip hS rfl rfl (by decide) fun a hS => ?_
      refine st_skip hS rfl rfl (by decide) fun a hS => ?_
      refine st_skip hS rfl rfl (by decide) fun a hS => ?_
      refine st_val hS rfl rfl (by decide) (rv_pick_t (hS.ev rfl) (hS.ev rfl)) fun a hS => ?_
      refine st_val hS rfl rfl (by decide) (rv_move (hS.ev rfl)) fun a hS => ?_
      refine st_skip hS rfl rfl (by decide) fun a hS => ?_
      refine st_skip hS rfl rfl (by decide) fun a hS => ?_
      refine st_skip hS rfl rfl (by decide) fun a hS => ?_
      refine st_skip hS rfl rfl (by decide) fun a hS => ?_
      refine st_skip hS rfl rfl (by decide) fun a hS => ?_
      refine st_skip hS rfl rfl (by decide) fun a hS => ?_
      refine st_skip hS rfl rfl (by decide) fun a hS => ?_
      refine st_skip hS rfl rfl (by decide) fun a hS => ?_
      refine st_skip hS rfl rfl (by decide) fun a hS => ?_
      refine st_skip hS rfl rfl (by decide) fun a hS => ?_
      refine st_skip hS rfl rfl (by decide) fun a hS => ?_
      refine st_skip hS rfl rfl (by decide) fun a hS => ?_
      refine st_skip hS rfl rfl (by decide) fun a hS => ?_
      refine st_skip hS rfl rfl (by decide) fun a hS => ?_
      refine st_skip hS rfl rfl (by decide) fun a hS => ?_
      refine st_skip hS rfl rfl (by decide) fun a hS => ?_
      refine st_skip hS rfl rfl (by decide) fun a hS => ?_
      refine st_skip hS rfl rfl (by decide) fun a hS => ?_
      refine st_skip hS rfl rfl (by decide) fun a hS => ?_
      refine st_val hS rfl rfl (by decide) (rv_pick_t (hS.ev rfl) (hS.ev rfl)) fun a hS => ?_
      refine wpList_nil ?_
      exact hJ1 true _ _ (hS.sub (sub_cons rfl (sub_cons rfl (sub_cons rfl (sub_cons rfl (sub_cons rfl (sub_cons rfl sub_nil))))))) (hM.pick [8, 6, 7, 0] (by decide) rfl) hF
     ·have hS := hS.setb (t := 90) rfl hc
      refine st_val hS rfl rfl (by decide) (rv_move (hS.ev rfl)) fun a hS => ?_
      refine st_val hS rfl rfl (by decide) (rv_move (hS.ev rfl)) fun a hS => ?_
      refine st_val hS rfl rfl (by decide) (rv_bneq Try.underlying4 (hS.ev rfl) (hS.ev rfl)) fun a hS => ?_
      refine st_val hS rfl rfl (by decide) (rv_pick_f (hS.ev rfl) (hS.ev rfl)) fun a hS => ?_
      refine st_val hS rfl rfl (by decide) (rv_move (hS.ev rfl)) fun a hS => ?_
      rcases ite_some hF with ⟨hc, hF⟩ | ⟨hc, hF⟩
      ·have hS := hS.setb (t := 95) rfl hc
       refine st_skip hS rfl rfl (by decide) fun a hS => ?_
       refine st_skip hS rfl rfl (by decide) fun a hS => ?_
       refine st_skip hS rfl rfl (by decide) fun a hS => ?_
       refine st_skip hS rfl rfl (by decide) fun a hS => ?_
       refine st_val hS rfl rfl (by decide) (rv_pick_t (hS.ev rfl) (hS.ev rfl)) fun a hS => ?_
       refine st_val hS rfl rfl (by decide) (rv_move (hS.ev rfl)) fun a hS => ?_
       refine st_skip hS rfl rfl (by decide) fun a hS => ?_
       refine st_skip hS rfl rfl (by decide) fun a hS => ?_
       refine st_skip hS rfl rfl (by decide) fun a hS => ?_
       refine st_skip hS rfl rfl (by decide) fun a hS => ?_
       refine st_skip hS rfl rfl (by decide) fun a hS => ?_
       refine st_skip hS rfl rfl (by decide) fun a hS => ?_
       refine st_skip hS rfl rfl (by decide) fun a hS => ?_
       refine st_skip hS rfl rfl (by decide) fun a hS => ?_
       refine st_skip hS rfl rfl (by decide) fun a hS => ?_
       refine st_skip hS rfl rfl (by decide) fun a hS => ?_
       refine st_skip hS rfl rfl (by decide) fun a hS => ?_
       refine st_skip hS rfl rfl (by decide) fun a hS => ?_
       refine st_skip hS rfl rfl (by decide) fun a hS => ?_
       refine st_skip hS rfl rfl (by decide) fun a hS => ?_
       refine st_skip hS rfl rfl (by decide) fun a hS => ?_
       refine st_skip hS rfl rfl (by decide) fun a hS => ?_
       refine st_skip hS rfl rfl (by decide) fun a hS => ?_
       refine st_skip hS rfl rfl (by decide) fun a hS => ?_
       refine st_skip hS rfl rfl (by decide) fun a hS => ?_
       refine st_val hS rfl rfl (by decide) (rv_pick_t (hS.ev rfl) (hS.ev rfl)) fun a hS => ?_
       refine wpList_nil ?_
       exact hJ1 true _ _ (hS.sub (sub_cons rfl (sub_cons rfl (sub_cons rfl (sub_cons rfl (sub_cons rfl (sub_cons rfl sub_nil))))))) (hM.pick [8, 6, 7, 0] (by decide) rfl) hF
      ·have hS := hS.setb (t := 95) rfl hc
       refine st_val hS rfl rfl (by decide) (rv_move (hS.ev rfl)) fun a hS => ?_
       refine st_val hS rfl rfl (by decide) (rv_move (hS.ev rfl)) fun a hS => ?_
       obtain ⟨r255, hr, hF⟩ := bind_some hF
       refine st_wp hS rfl (wp_call hS rfl rfl (by decide) fn_ok_26 rfl (c_laws_sameInts F r41.1 r46.1 v42 v47 hr _ (rd_of_ow (hM.get 1 rfl)) (rd_of_ow (hM.get 0 rfl))) fun v w a hK hS => ?_)
       obtain ⟨rfl, hN⟩ := hK
       have hM := hM.fra hN.fr
       refine st_val hS rfl rfl (by decide) (rv_not (hS.ev rfl)) fun a hS => ?_
       refine st_val hS rfl rfl (by decide) (rv_pick_f (hS.ev rfl) (hS.ev rfl)) fun a hS => ?_
       refine st_val hS rfl rfl (by decide) (rv_move (hS.ev rfl)) fun a hS => ?_
       rcases ite_some hF with ⟨hc, hF⟩ | ⟨hc, hF⟩
       ·have hS := hS.setb (t := 101) rfl hc
        refine st_skip hS rfl rfl (by decide) fun a hS => ?_
        refine st_skip hS rfl rfl (by decide) fun a hS => ?_
        refine st_skip hS rfl rfl (by decide) fun a hS => ?_
        refine st_skip hS rfl rfl (by decide) fun a hS => ?_
        refine st_skip hS rfl rfl (by decide) fun a hS => ?_
        refine st_skip hS rfl rfl (by decide) fun a hS => ?_
        refine st_skip hS rfl rfl (by decide) fun a hS => ?_
        refine st_skip hS rfl rfl (by decide) fun a hS => ?_
        refine st_skip hS rfl rfl (by decide) fun a hS => ?_
        refine st_skip hS rfl rfl (by decide) fun a hS => ?_
        refine st_skip hS rfl rfl (by decide) fun a hS => ?_
        refine st_skip hS rfl rfl (by decide) fun a hS => ?_
        refine st_skip hS rfl rfl (by decide) fun a hS => ?_
        refine st_skip hS rfl rfl (by decide) fun a hS => ?_
        refine st_skip hS rfl rfl (by decide) fun a hS => ?_
        refine st_skip hS rfl rfl (by decide) fun a hS => ?_
        refine st_skip hS rfl rfl (by decide) fun a hS => ?_
        refine st_skip hS rfl rfl (by decide) fun a hS => ?_
        refine st_skip hS rfl rfl (by decide) fun a hS => ?_
        refine st_val hS rfl rfl (by decide) (rv_pick_t (hS.ev rfl) (hS.ev rfl)) fun a hS => ?_
        refine wpList_nil ?_
        exact hJ1 true _ _ (hS.sub (sub_cons rfl (sub_cons rfl (sub_cons rfl (sub_cons rfl (sub_cons rfl (sub_cons rfl sub_nil))))))) (hM.pick [8, 6, 7, 0] (by decide) rfl) hF
       ·have hS := hS.setb (t := 101) rfl hc
        refine st_val hS rfl rfl (by decide) (rv_move (hS.ev rfl)) fun a hS => ?_
        refine st_val hS rfl rfl (by decide) (rv_move (hS.ev rfl)) fun a hS => ?_
        rcases ite_some hF with ⟨hc, hF⟩ | ⟨hc, hF⟩
        ·have hS := hS.setb (t := 103) rfl hc
         refine st_val hS rfl rfl (by decide) (rv_load_agg (hS.ev rfl) ty_ag_28 (hM.get 6 rfl) ty_sz_28) fun a hS => ?_
         refine st_val hS rfl rfl (by decide) (rv_move (hS.ev rfl)) fun a hS => ?_
         obtain ⟨r256, hr, hF⟩ := bind_some hF
         refine st_wp hS rfl (wp_call hS rfl rfl (by decide) fn_ok_53 rfl (c_impl_IsOrder F r15.1 r15.2.1 r26.1 v16 v27 hr _ (rd_of_ow (hM.get 7 rfl)) (rd_of_ow (hM.get 4 rfl))) fun v w a hK hS => ?_)
         obtain ⟨rfl, hN⟩ := hK
         have hM := hM.fra hN.fr
         refine st_val hS rfl rfl (by decide) (rv_not (hS.ev rfl)) fun a hS => ?_
         refine st_val hS rfl rfl (by decide) (rv_move (hS.ev rfl)) fun a hS => ?_
         rcases ite_some hF with ⟨hc, hF⟩ | ⟨hc, hF⟩
         ·have hS := hS.setb (t := 108) rfl hc
          refine st_skip hS rfl rfl (by decide) fun a hS => ?_
          refine st_skip hS rfl rfl (by decide) fun a hS => ?_
          refine st_skip hS rfl rfl (by decide) fun a hS => ?_
          refine st_skip hS rfl rfl (by decide) fun a hS => ?_
          refine st_val hS rfl rfl (by decide) (rv_pick_t (hS.ev rfl) (hS.ev rfl)) fun a hS => ?_
          refine st_val hS rfl rfl (by decide) (rv_move (hS.ev rfl)) fun a hS => ?_
          refine st_skip hS rfl rfl (by decide) fun a hS => ?_
          refine st_skip hS rfl rfl (by decide) fun a hS => ?_
          refine st_skip hS rfl rfl (by decide) fun a hS => ?_
          refine st_skip hS rfl rfl (by decide) fun a hS => ?_
          refine st_val hS rfl rfl (by decide) (rv_pick_t (hS.ev rfl) (hS.ev rfl)) fun a hS => ?_
          refine st_val hS rfl rfl (by decide) (rv_pick_t (hS.ev rfl) (hS.ev rfl)) fun a hS => ?_
          refine st_val hS rfl rfl (by decide) (rv_pick_f (hS.ev rfl) (hS.ev rfl)) fun a hS => ?_
          refine wpList_nil ?_
          exact hJ1 true _ _ (hS.sub (sub_cons rfl (sub_cons rfl (sub_cons rfl (sub_cons rfl (sub_cons rfl (sub_cons rfl sub_nil))))))) (hM.pick [8, 6, 7, 0] (by decide) rfl) hF
         ·have hS := hS.setb (t := 108) rfl hc
          refine st_val hS rfl rfl (by decide) (rv_load_agg (hS.ev rfl) ty_ag_28 (hM.get 6 rfl) ty_sz_28) fun a hS => ?_
          refine st_val hS rfl rfl (by decide) (rv_move (hS.ev rfl)) fun a hS => ?_
          obtain ⟨r257, hr, hF⟩ := bind_some hF
          refine st_wp hS rfl (wp_call hS rfl rfl (by decide) fn_ok_54 rfl (c_impl_IsLexOrder F r15.1 r15.2.1 r26.1 v16 v27 hr _ (rd_of_ow (hM.get 7 rfl)) (rd_of_ow (hM.get 4 rfl))) fun v w a hK hS => ?_)
          obtain ⟨rfl, hN⟩ := hK
          have hM := hM.fra hN.fr
          refine st_val hS rfl rfl (by decide) (rv_not (hS.ev rfl)) fun a hS => ?_
          refine st_val hS rfl rfl (by decide) (rv_pick_f (hS.ev rfl) (hS.ev rfl)) fun a hS => ?_
          refine st_val hS rfl rfl (by decide) (rv_move (hS.ev rfl)) fun a hS => ?_
          rcases ite_some hF with ⟨hc, hF⟩ | ⟨hc, hF⟩
          ·have hS := hS.setb (t := 114) rfl hc
           refine st_skip hS rfl rfl (by decide) fun a hS => ?_
           refine st_skip hS rfl rfl (by decide) fun a hS => ?_
           refine st_skip hS rfl rfl (by decide) fun a hS => ?_
           refine st_skip hS rfl rfl (by decide) fun a hS => ?_
           refine st_val hS rfl rfl (by decide) (rv_pick_t (hS.ev rfl) (hS.ev rfl)) fun a hS => ?_
           refine st_val hS rfl rfl (by decide) (rv_pick_t (hS.ev rfl) (hS.ev rfl)) fun a hS => ?_
           refine st_val hS rfl rfl (by decide) (rv_pick_f (hS.ev rfl) (hS.ev rfl)) fun a hS => ?_
           refine wpList_nil ?_
           exact hJ1 true _ _ (hS.sub (sub_cons rfl (sub_cons rfl (sub_cons rfl (sub_cons rfl (sub_cons rfl (sub_cons rfl sub_nil))))))) (hM.pick [8, 6, 7, 0] (by decide) rfl) hF
          ·have hS := hS.setb (t := 114) rfl hc
           refine st_val hS rfl rfl (by decide) (rv_load_agg (hS.ev rfl) ty_ag_28 (hM.get 6 rfl) ty_sz_28) fun a hS => ?_
           refine st_val hS rfl rfl (by decide) (rv_move (hS.ev rfl)) fun a hS => ?_
           obtain ⟨r258, hr, hF⟩ := bind_some hF
           refine st_wp hS rfl (wp_call hS rfl rfl (by decide) fn_ok_53 rfl (c_impl_IsOrder F r15.1 r15.2.1 r36.1 v16 v37 hr _ (rd_of_ow (hM.get 7 rfl)) (rd_of_ow (hM.get 2 rfl))) fun v w a hK hS => ?_)
           obtain ⟨rfl, hN⟩ := hK
           have hM := hM.fra hN.fr
           refine st_val hS rfl rfl (by decide) (rv_not (hS.ev rfl)) fun a hS => ?_
           refine st_val hS rfl rfl (by decide) (rv_pick_f (hS.ev rfl) (hS.ev rfl)) fun a hS => ?_
           refine st_val hS rfl rfl (by decide) (rv_pick_t (hS.ev rfl) (hS.ev rfl)) fun a hS => ?_
           refine st_val hS rfl rfl (by decide) (rv_pick_f (hS.ev rfl) (hS.ev rfl)) fun a hS => ?_
           refine wpList_nil ?_
           exact hJ1 (!r258) _ _ (hS.sub (sub_cons rfl (sub_cons rfl (sub_cons rfl (sub_cons rfl (sub_cons rfl (sub_cons rfl sub_nil))))))) (hM.pick [8, 6, 7, 0] (by decide) rfl) hF
        ·have hS := hS.setb (t := 103) rfl hc
         refine st_skip hS rfl rfl (by decide) fun a hS => ?_
         refine st_skip hS rfl rfl (by decide) fun a hS => ?_
         refine st_skip hS rfl rfl (by decide) fun a hS => ?_
         refine st_skip hS rfl rfl (by decide) fun a hS => ?_
         refine st_skip hS rfl rfl (by decide) fun a hS => ?_
         refine st_skip hS rfl rfl (by decide) fun a hS => ?_
         refine st_skip hS rfl rfl (by decide) fun a hS => ?_
         refine st_skip hS rfl rfl (by decide) fun a hS => ?_
         refine st_skip hS rfl rfl (by decide) fun a hS => ?_
         refine st_skip hS rfl rfl (by decide) fun a hS => ?_
         refine st_skip hS rfl rfl (by decide) fun a hS => ?_
         refine st_skip hS rfl rfl (by decide) fun a hS => ?_
         refine st_skip hS rfl rfl (by decide) fun a hS => ?_
         refine st_skip hS rfl rfl (by decide) fun a hS => ?_
         refine st_skip hS rfl rfl (by decide) fun a hS => ?_
         refine st_skip hS rfl rfl (by decide) fun a hS => ?_
         refine st_val hS rfl rfl (by decide) (rv_pick_f (hS.ev rfl) (hS.ev rfl)) fun a hS => ?_
         refine st_val hS rfl rfl (by decide) (rv_pick_f (hS.ev rfl) (hS.ev rfl)) fun a hS => ?_
         refine wpList_nil ?_
         exact hJ1 false _ _ (hS.sub (sub_cons rfl (sub_cons rfl (sub_cons rfl (sub_cons rfl (sub_cons rfl (sub_cons rfl sub_nil))))))) (hM.pick [8, 6, 7, 0] (by decide) rfl) hF


end Go.Proofs.Ytilfniehellmmaa
