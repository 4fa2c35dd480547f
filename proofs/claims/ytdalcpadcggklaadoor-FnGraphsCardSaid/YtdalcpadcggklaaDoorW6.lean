/- Proved here: that each Go function does what its shallow function says -/
import Derived.Test.YtdalcpadcggklaaDoorSh
import Derived.Test.YtdalcpadcggklaaDoorTy
import Derived.Test.YtdalcpadcggklaaDoorK13
import Derived.Test.YtdalcpadcggklaaDoorKS
import Derived.Test.YtdalcpadcggklaaDoorW0
import Derived.Test.YtdalcpadcggklaaDoorW1
import Derived.Test.YtdalcpadcggklaaDoorW2
import Derived.Test.YtdalcpadcggklaaDoorW3
import Derived.Test.YtdalcpadcggklaaDoorW4
import Derived.Test.YtdalcpadcggklaaDoorW5
namespace Go.Proofs.YtdalcpadcggklaaDoor
open Go Go.RowKit
set_option linter.unusedVariables false
set_option linter.unusedSimpArgs false
set_option maxRecDepth 100000
set_option maxHeartbeats 40000000

open Go.IntKind (i64)
open Go.Value (int)
theorem c_laws_FnGraphs (F : Nat) (p0_code : List Int) (p0_codev : Value) {r : Bool} (hF : S_laws_FnGraphs F p0_code = some r) (w0 : World) (h0 : RdRow w0 p0_codev (List.map (int IntKind.u8) p0_code)) (h1 : (tabR Tryd.prog tabN).P w0) :
    Calls Tryd.prog 4 [p0_codev].toArray w0 (retPost fun v w' => v = (Value.bool r) ∧ Mem Nob w0 w' []) := by
 have hM : Mem Nob w0 w0 [(false, rd p0_codev (List.map (int IntKind.u8) p0_code)), (false, tabR Tryd.prog tabN)] := (Mem.rcons (Mem.gcons (Mem.nil w0) h1 (by simp)) h0 (by simp))
 refine enter2 Tryd.func4 rfl rfl rfl fun Q a hQr hQn hQp hS => ?_
 have hS : Sl 297 [(0, p0_codev)] a := hS
 unfold S_laws_FnGraphs at hF
 refine wp_seq_k fun K1 hK1 => ?_
 refine wp_region_lit ?_
 refine st_val hS rfl rfl (by decide) (rv_assign (hS.ev rfl)) fun a hS => ?_
 refine wpList_nil ?_
 refine hK1 _ _ ?_
 refine wp_seq_k fun K2 hK2 => ?_
 refine wp_seq_k fun K7 hK7 => ?_
 refine wp_region_lit ?_
 refine st_val hS rfl rfl (by decide) (rv_move (hS.ev rfl)) fun a hS => ?_
 obtain ⟨r9, hr, hF⟩ := bind_some hF
 refine st_wp hS rfl (wp_call hS rfl rfl (by decide) fn_ok_5 rfl (c_laws_big F p0_code p0_codev hr _ (hM.get 0 rfl)) fun v w a hK hS => ?_)
 obtain ⟨rfl, hN⟩ := hK
 have hM := hM.fra hN.fr
 refine wpList_nil ?_
 refine hK7 _ _ ?_
 rcases ite_some hF with ⟨hc, hF⟩ | ⟨hc, hF⟩
 ·refine cond_t hS rfl hc ?_
  refine wp_seq_k fun K10 hK10 => ?_
  refine wp_region_lit ?_
  refine st_val hS rfl rfl (by decide) (rv_assign (hS.ev rfl)) fun a hS => ?_
  refine wpList_nil ?_
  refine hK10 _ _ ?_
  refine wp_ret ?_
  cases hF
  exact hQr _ _ (r_1 hS rfl rfl ⟨rfl, hM.pk [] (by decide) pn⟩)
 ·refine cond_f hS rfl hc ?_
  refine wp_skip ?_
  refine hK2 _ _ ?_
  refine wp_seq_k fun K11 hK11 => ?_
  refine wp_region_lit ?_
  refine st_val hS rfl rfl (by decide) (rv_move (hS.ev rfl)) fun a hS => ?_
  obtain ⟨r15, hr, hF⟩ := bind_some hF
  refine st_wp hS rfl (wp_call hS rfl rfl (by decide) fn_ok_33 rfl (c_spec_DrawFormatGraph F p0_code p0_codev hr _ (hM.get 0 rfl)) fun v w a hK hS => ?_)
  obtain ⟨v16, rfl, hN⟩ := hK
  have hM := hM.add hN rfl
  obtain ⟨b17, w, hr, hM⟩ := hM.allocE (ρ := a.eval) (dst := some 3) (ty := _) (pos := _) (af := _) (gd := _) (T := 26) (P := Tryd.prog) [(int i64 0), (Value.slice none 0 0)] ty_zr_26 rfl
  refine st_val hS rfl rfl (by decide) hr fun a hS => ?_
  have hM := hM.addNil 3
  have hM := hM.pk [1, 0, 2, 3, 4] (by decide) (pc rfl (pc rfl (pc rfl (pc rfl (pc rfl pn)))))
  obtain ⟨w, hr, hM⟩ := hM.st_agg (us := [(int i64 r15.1), v16]) (ρ := a.eval) (dst := none) (ty := _) (pos := _) (af := _) (gd := _) (x := .tmp 3) (y := .tmp 48) (hS.ev rfl) (hS.ev rfl) ty_sz_26 (all1_cons rfl (all1_cons (rd_one (rd_of_ow (hM.get 2 rfl))) all1_nil)) rfl
  refine st_unit hS rfl rfl hr ?_
  refine wpList_nil ?_
  refine hK11 _ _ ?_
  refine wp_seq_k fun K18 hK18 => ?_
  refine wp_region_lit ?_
  refine st_val hS rfl rfl (by decide) (rv_load_agg (hS.ev rfl) ty_ag_26 (hM.get 0 rfl) ty_sz_26) fun a hS => ?_
  obtain ⟨r20, hr, hF⟩ := bind_some hF
  refine st_wp hS rfl (wp_call hS rfl rfl (by decide) fn_ok_34 rfl (c_impl_FormatGraph F r15.1 r15.2 v16 hr _ (rd_of_ow (hM.get 2 rfl)) (hM.get 4 rfl)) fun v w a hK hS => ?_)
  obtain ⟨rfl, hN⟩ := hK
  have hM := hM.fra hN.fr
  refine st_val hS rfl rfl (by decide) (rv_assign (hS.ev rfl)) fun a hS => ?_
  refine wpList_nil ?_
  refine hK18 _ _ ?_
  refine wp_seq_k fun K21 hK21 => ?_
  refine wp_region_lit ?_
  refine st_val hS rfl rfl (by decide) (rv_move (hS.ev rfl)) fun a hS => ?_
  obtain ⟨r25, hr, hF⟩ := bind_some hF
  refine st_wp hS rfl (wp_call hS rfl rfl (by decide) fn_ok_35 rfl (c_impl_ParseGraph F r20 hr _ (hM.get 4 rfl)) fun v w a hK hS => ?_)
  obtain ⟨v26, rfl, hN⟩ := hK
  have hM := hM.add hN rfl
  refine st_val hS rfl rfl (by decide) (rv_move (hS.ev rfl)) fun a hS => ?_
  refine st_val hS rfl rfl (by decide) (rv_extract (hS.ev rfl) rfl) fun a hS => ?_
  refine st_val hS rfl rfl (by decide) (rv_extract (hS.ev rfl) rfl) fun a hS => ?_
  obtain ⟨b27, w, hr, hM⟩ := hM.allocE (ρ := a.eval) (dst := some 5) (ty := _) (pos := _) (af := _) (gd := _) (T := 26) (P := Tryd.prog) [(int i64 0), (Value.slice none 0 0)] ty_zr_26 rfl
  refine st_val hS rfl rfl (by decide) hr fun a hS => ?_
  have hM := hM.addNil 3
  have hM := hM.pk [1, 0, 2, 3, 4, 5, 6, 7] (by decide) (pc rfl (pc rfl (pc rfl (pc rfl (pc rfl (pc rfl (pc rfl (pc rfl pn))))))))
  obtain ⟨w, hr, hM⟩ := hM.st_agg (us := [(int i64 r25.1), v26]) (ρ := a.eval) (dst := none) (ty := _) (pos := _) (af := _) (gd := _) (x := .tmp 5) (y := .tmp 54) (hS.ev rfl) (hS.ev rfl) ty_sz_26 (all1_cons rfl (all1_cons (rd_one (rd_of_ow (hM.get 2 rfl))) all1_nil)) rfl
  refine st_unit hS rfl rfl hr ?_
  refine st_val hS rfl rfl (by decide) (rv_assign (hS.ev rfl)) fun a hS => ?_
  refine wpList_nil ?_
  refine hK21 _ _ ?_
  have hS : Sl 297 [(0, p0_codev), (3, (fdp b17 0)), (4, (Value.string (bs r20))), (5, (fdp b27 0)), (6, (Value.bool r25.2.2))] a := hS.sub (sub_cons rfl (sub_cons rfl (sub_cons rfl (sub_cons rfl (sub_cons rfl sub_nil)))))
  have hM := hM.pk [0, 2, 3, 5, 6, 7] (by decide) (pc rfl (pc rfl (pc rfl (pc rfl (pc rfl (pc rfl pn))))))
  refine wp_seq_k fun K28 hK28 => ?_
  refine wp_region_lit ?_
  refine st_val hS rfl rfl (by decide) (rv_move (hS.ev rfl)) fun a hS => ?_
  obtain ⟨r30, hr, hF⟩ := bind_some hF
  refine st_wp hS rfl (wp_call hS rfl rfl (by decide) fn_ok_36 rfl (c_spec_DrawParseGraph F p0_code p0_codev hr _ (hM.get 4 rfl)) fun v w a hK hS => ?_)
  obtain ⟨rfl, hN⟩ := hK
  have hM := hM.fra hN.fr
  refine st_val hS rfl rfl (by decide) (rv_assign (hS.ev rfl)) fun a hS => ?_
  refine wpList_nil ?_
  refine hK28 _ _ ?_
  refine wp_seq_k fun K31 hK31 => ?_
  refine wp_region_lit ?_
  refine st_val hS rfl rfl (by decide) (rv_move (hS.ev rfl)) fun a hS => ?_
  obtain ⟨r35, hr, hF⟩ := bind_some hF
  refine st_wp hS rfl (wp_call hS rfl rfl (by decide) fn_ok_35 rfl (c_impl_ParseGraph F r30 hr _ (hM.get 5 rfl)) fun v w a hK hS => ?_)
  obtain ⟨v36, rfl, hN⟩ := hK
  have hM := hM.add hN rfl
  refine st_val hS rfl rfl (by decide) (rv_move (hS.ev rfl)) fun a hS => ?_
  refine st_val hS rfl rfl (by decide) (rv_extract (hS.ev rfl) rfl) fun a hS => ?_
  refine st_val hS rfl rfl (by decide) (rv_extract (hS.ev rfl) rfl) fun a hS => ?_
  obtain ⟨b37, w, hr, hM⟩ := hM.allocE (ρ := a.eval) (dst := some 8) (ty := _) (pos := _) (af := _) (gd := _) (T := 26) (P := Tryd.prog) [(int i64 0), (Value.slice none 0 0)] ty_zr_26 rfl
  refine st_val hS rfl rfl (by decide) hr fun a hS => ?_
  have hM := hM.addNil 3
  have hM := hM.pk [1, 0, 2, 3, 4, 5, 6, 7, 8] (by decide) (pc rfl (pc rfl (pc rfl (pc rfl (pc rfl (pc rfl (pc rfl (pc rfl (pc rfl pn)))))))))
  obtain ⟨w, hr, hM⟩ := hM.st_agg (us := [(int i64 r35.1), v36]) (ρ := a.eval) (dst := none) (ty := _) (pos := _) (af := _) (gd := _) (x := .tmp 8) (y := .tmp 61) (hS.ev rfl) (hS.ev rfl) ty_sz_26 (all1_cons rfl (all1_cons (rd_one (rd_of_ow (hM.get 2 rfl))) all1_nil)) rfl
  refine st_unit hS rfl rfl hr ?_
  refine st_val hS rfl rfl (by decide) (rv_assign (hS.ev rfl)) fun a hS => ?_
  refine wpList_nil ?_
  refine hK31 _ _ ?_
  have hS : Sl 297 [(0, p0_codev), (3, (fdp b17 0)), (4, (Value.string (bs r20))), (5, (fdp b27 0)), (6, (Value.bool r25.2.2)), (7, (Value.string (bs r30))), (9, (Value.bool r35.2.2))] a := hS.sub (sub_cons rfl (sub_cons rfl (sub_cons rfl (sub_cons rfl (sub_cons rfl (sub_cons rfl (sub_cons rfl sub_nil)))))))
  have hM := hM.pk [3, 4, 5, 6, 7, 8] (by decide) (pc rfl (pc rfl (pc rfl (pc rfl (pc rfl (pc rfl pn))))))
  refine wp_seq_k fun K38 hK38 => ?_
  refine wp_region_lit ?_
  refine st_val hS rfl rfl (by decide) (rv_move (hS.ev rfl)) fun a hS => ?_
  obtain ⟨r42, hr, hF⟩ := bind_some hF
  refine st_wp hS rfl (wp_call hS rfl rfl (by decide) fn_ok_37 rfl (c_spec_ParseGraph F r30 hr _) fun v w a hK hS => ?_)
  obtain ⟨v43, rfl, hN⟩ := hK
  have hM := hM.add hN rfl
  refine st_val hS rfl rfl (by decide) (rv_move (hS.ev rfl)) fun a hS => ?_
  refine st_val hS rfl rfl (by decide) (rv_extract (hS.ev rfl) rfl) fun a hS => ?_
  refine st_val hS rfl rfl (by decide) (rv_extract (hS.ev rfl) rfl) fun a hS => ?_
  obtain ⟨b44, w, hr, hM⟩ := hM.allocE (ρ := a.eval) (dst := some 10) (ty := _) (pos := _) (af := _) (gd := _) (T := 26) (P := Tryd.prog) [(int i64 0), (Value.slice none 0 0)] ty_zr_26 rfl
  refine st_val hS rfl rfl (by decide) hr fun a hS => ?_
  have hM := hM.addNil 3
  have hM := hM.pk [1, 0, 2, 3, 4, 5, 6, 7, 8] (by decide) (pc rfl (pc rfl (pc rfl (pc rfl (pc rfl (pc rfl (pc rfl (pc rfl (pc rfl pn)))))))))
  obtain ⟨w, hr, hM⟩ := hM.st_agg (us := [(int i64 r42.1), v43]) (ρ := a.eval) (dst := none) (ty := _) (pos := _) (af := _) (gd := _) (x := .tmp 10) (y := .tmp 66) (hS.ev rfl) (hS.ev rfl) ty_sz_26 (all1_cons rfl (all1_cons (rd_one (rd_of_ow (hM.get 2 rfl))) all1_nil)) rfl
  refine st_unit hS rfl rfl hr ?_
  refine st_val hS rfl rfl (by decide) (rv_assign (hS.ev rfl)) fun a hS => ?_
  refine wpList_nil ?_
  refine hK38 _ _ ?_
  have hS : Sl 297 [(0, p0_codev), (3, (fdp b17 0)), (4, (Value.string (bs r20))), (5, (fdp b27 0)), (6, (Value.bool r25.2.2)), (9, (Value.bool r35.2.2)), (11, (Value.bool r42.2.2))] a := hS.sub (sub_cons rfl (sub_cons rfl (sub_cons rfl (sub_cons rfl (sub_cons rfl (sub_cons rfl (sub_cons rfl sub_nil)))))))
  have hM := hM.pk [3, 4, 5, 6, 7, 8] (by decide) (pc rfl (pc rfl (pc rfl (pc rfl (pc rfl (pc rfl pn))))))
  refine wp_seq_k fun K45 hK45 => ?_
  refine wp_seq_k fun K63 hK63 => ?_
  have hJ1 : ∀ (p71 : Bool) (a : Act) (w : World), Sl 297 [(0, p0_codev), (3, (fdp b17 0)), (98, (Value.bool p71))] a → Mem Nob w0 w [(false, rd p0_codev (List.map (int IntKind.u8) p0_code)), (true, bx b17 26 [(int i64 r15.1), v16]), (true, ow 3 v16 (List.map (int i64) r15.2)), (false, tabR Tryd.prog tabN)] → S_laws_FnGraphs_j1 F p0_code r15 p71 = some r → K63 a w := by
   intro p71 a w hS hM hF
   unfold S_laws_FnGraphs_j1 at hF
   refine hK63 _ _ ?_
   rcases ite_some hF with ⟨hc, hF⟩ | ⟨hc, hF⟩
   ·refine cond_t hS rfl hc ?_
    refine wp_seq_k fun K72 hK72 => ?_
    refine wp_region_lit ?_
    refine st_val hS rfl rfl (by decide) (rv_assign (hS.ev rfl)) fun a hS => ?_
    refine wpList_nil ?_
    refine hK72 _ _ ?_
    have hS : Sl 297 [(2, (Value.bool false))] a := hS.sub (sub_cons rfl sub_nil)
    have hM := hM.pk [3] (by decide) (pc rfl pn)
    refine wp_ret ?_
    cases hF
    exact hQr _ _ (r_1 hS rfl rfl ⟨rfl, hM.pk [] (by decide) pn⟩)
   ·refine cond_f hS rfl hc ?_
    refine wp_skip ?_
    refine hK45 _ _ ?_
    refine wp_seq_k fun K73 hK73 => ?_
    refine wp_region_lit ?_
    refine st_val hS rfl rfl (by decide) (rv_load_agg (hS.ev rfl) ty_ag_26 (hM.get 1 rfl) ty_sz_26) fun a hS => ?_
    obtain ⟨r77, hr, hF⟩ := bind_some hF
    refine st_wp hS rfl (wp_call hS rfl rfl (by decide) fn_ok_41 rfl (c_impl_ComplementOf F r15.1 r15.2 v16 hr _ (rd_of_ow (hM.get 2 rfl))) fun v w a hK hS => ?_)
    obtain ⟨v78, rfl, hN⟩ := hK
    have hM := hM.add hN rfl
    refine st_val hS rfl rfl (by decide) (rv_move (hS.ev rfl)) fun a hS => ?_
    refine st_val hS rfl rfl (by decide) (rv_extract (hS.ev rfl) rfl) fun a hS => ?_
    refine st_val hS rfl rfl (by decide) (rv_extract (hS.ev rfl) rfl) fun a hS => ?_
    obtain ⟨b79, w, hr, hM⟩ := hM.allocE (ρ := a.eval) (dst := some 12) (ty := _) (pos := _) (af := _) (gd := _) (T := 26) (P := Tryd.prog) [(int i64 0), (Value.slice none 0 0)] ty_zr_26 rfl
    refine st_val hS rfl rfl (by decide) hr fun a hS => ?_
    have hM := hM.addNil 3
    have hM := hM.pk [1, 0, 2, 3, 4, 5, 6] (by decide) (pc rfl (pc rfl (pc rfl (pc rfl (pc rfl (pc rfl (pc rfl pn)))))))
    obtain ⟨w, hr, hM⟩ := hM.st_agg (us := [(int i64 r77.1), v78]) (ρ := a.eval) (dst := none) (ty := _) (pos := _) (af := _) (gd := _) (x := .tmp 12) (y := .tmp 102) (hS.ev rfl) (hS.ev rfl) ty_sz_26 (all1_cons rfl (all1_cons (rd_one (rd_of_ow (hM.get 2 rfl))) all1_nil)) rfl
    refine st_unit hS rfl rfl hr ?_
    refine st_val hS rfl rfl (by decide) (rv_assign (hS.ev rfl)) fun a hS => ?_
    refine wpList_nil ?_
    refine hK73 _ _ ?_
    refine wp_seq_k fun K80 hK80 => ?_
    refine wp_region_lit ?_
    refine st_val hS rfl rfl (by decide) (rv_load_agg (hS.ev rfl) ty_ag_26 (hM.get 4 rfl) ty_sz_26) fun a hS => ?_
    obtain ⟨r84, hr, hF⟩ := bind_some hF
    refine st_wp hS rfl (wp_call hS rfl rfl (by decide) fn_ok_21 rfl (c_spec_ComplementOf F r15.1 r15.2 v16 hr _ (rd_of_ow (hM.get 5 rfl))) fun v w a hK hS => ?_)
    obtain ⟨v85, rfl, hN⟩ := hK
    have hM := hM.add hN rfl
    refine st_val hS rfl rfl (by decide) (rv_move (hS.ev rfl)) fun a hS => ?_
    refine st_val hS rfl rfl (by decide) (rv_extract (hS.ev rfl) rfl) fun a hS => ?_
    refine st_val hS rfl rfl (by decide) (rv_extract (hS.ev rfl) rfl) fun a hS => ?_
    obtain ⟨b86, w, hr, hM⟩ := hM.allocE (ρ := a.eval) (dst := some 14) (ty := _) (pos := _) (af := _) (gd := _) (T := 26) (P := Tryd.prog) [(int i64 0), (Value.slice none 0 0)] ty_zr_26 rfl
    refine st_val hS rfl rfl (by decide) hr fun a hS => ?_
    have hM := hM.addNil 3
    have hM := hM.pk [1, 0, 2, 3, 4, 5, 6, 7, 8, 9] (by decide) (pc rfl (pc rfl (pc rfl (pc rfl (pc rfl (pc rfl (pc rfl (pc rfl (pc rfl (pc rfl pn))))))))))
    obtain ⟨w, hr, hM⟩ := hM.st_agg (us := [(int i64 r84.1), v85]) (ρ := a.eval) (dst := none) (ty := _) (pos := _) (af := _) (gd := _) (x := .tmp 14) (y := .tmp 107) (hS.ev rfl) (hS.ev rfl) ty_sz_26 (all1_cons rfl (all1_cons (rd_one (rd_of_ow (hM.get 2 rfl))) all1_nil)) rfl
    refine st_unit hS rfl rfl hr ?_
    refine st_val hS rfl rfl (by decide) (rv_assign (hS.ev rfl)) fun a hS => ?_
    refine wpList_nil ?_
    refine hK80 _ _ ?_
    have hS : Sl 297 [(0, p0_codev), (3, (fdp b17 0)), (12, (fdp b79 0)), (13, (Value.bool r77.2.2)), (14, (fdp b86 0)), (15, (Value.bool r84.2.2))] a := hS.sub (sub_cons rfl (sub_cons rfl (sub_cons rfl (sub_cons rfl (sub_cons rfl (sub_cons rfl sub_nil))))))
    have hM := hM.pk [0, 2, 3, 5, 6, 7, 8, 9] (by decide) (pc rfl (pc rfl (pc rfl (pc rfl (pc rfl (pc rfl (pc rfl (pc rfl pn))))))))
    refine wp_seq_k fun K87 hK87 => ?_
    refine wp_seq_k fun K93 hK93 => ?_
    have hJ2 : ∀ (p95 : Bool) (a : Act) (w : World), Sl 297 [(0, p0_codev), (3, (fdp b17 0)), (13, (Value.bool r77.2.2)), (14, (fdp b86 0)), (117, (Value.bool p95))] a → Mem Nob w0 w [(false, rd p0_codev (List.map (int IntKind.u8) p0_code)), (true, bx b17 26 [(int i64 r15.1), v16]), (true, ow 3 v16 (List.map (int i64) r15.2)), (true, bx b86 26 [(int i64 r84.1), v85]), (true, ow 3 v85 (List.map (int i64) r84.2.1)), (false, tabR Tryd.prog tabN)] → S_laws_FnGraphs_j2 F p0_code r15 r77 r84 p95 = some r → K93 a w := by
     intro p95 a w hS hM hF
     unfold S_laws_FnGraphs_j2 at hF
     refine hK93 _ _ ?_
     rcases ite_some hF with ⟨hc, hF⟩ | ⟨hc, hF⟩
     ·refine cond_t hS rfl hc ?_
      refine wp_seq_k fun K96 hK96 => ?_
      refine wp_region_lit ?_
      refine st_val hS rfl rfl (by decide) (rv_assign (hS.ev rfl)) fun a hS => ?_
      refine wpList_nil ?_
      refine hK96 _ _ ?_
      have hS : Sl 297 [(2, (Value.bool false))] a := hS.sub (sub_cons rfl sub_nil)
      have hM := hM.pk [5] (by decide) (pc rfl pn)
      refine wp_ret ?_
      cases hF
      exact hQr _ _ (r_1 hS rfl rfl ⟨rfl, hM.pk [] (by decide) pn⟩)
     ·refine cond_f hS rfl hc ?_
      refine wp_skip ?_
      refine hK87 _ _ ?_
      refine wp_seq_k fun K97 hK97 => ?_
      have hJ3 : ∀ (a : Act) (w : World), Sl 297 [(0, p0_codev), (3, (fdp b17 0))] a → Mem Nob w0 w [(false, rd p0_codev (List.map (int IntKind.u8) p0_code)), (true, bx b17 26 [(int i64 r15.1), v16]), (true, ow 3 v16 (List.map (int i64) r15.2)), (false, tabR Tryd.prog tabN)] → S_laws_FnGraphs_j3 F p0_code r15 = some r → K97 a w := by
       intro a w hS hM hF
       unfold S_laws_FnGraphs_j3 at hF
       refine hK97 _ _ ?_
       refine wp_seq_k fun K123 hK123 => ?_
       refine wp_region_lit ?_
       refine st_val hS rfl rfl (by decide) (rv_move (hS.ev rfl)) fun a hS => ?_
       obtain ⟨r127, hr, hF⟩ := bind_some hF
       refine st_wp hS rfl (wp_call hS rfl rfl (by decide) fn_ok_42 rfl (c_spec_DrawAddEdge F p0_code p0_codev hr _ (hM.get 0 rfl)) fun v w a hK hS => ?_)
       obtain ⟨v128, rfl, hN⟩ := hK
       have hM := hM.add hN rfl
       refine st_val hS rfl rfl (by decide) (rv_move (hS.ev rfl)) fun a hS => ?_
       refine st_val hS rfl rfl (by decide) (rv_extract (hS.ev rfl) rfl) fun a hS => ?_
       refine st_val hS rfl rfl (by decide) (rv_extract (hS.ev rfl) rfl) fun a hS => ?_
       refine st_val hS rfl rfl (by decide) (rv_extract (hS.ev rfl) rfl) fun a hS => ?_
       obtain ⟨b129, w, hr, hM⟩ := hM.allocE (ρ := a.eval) (dst := some 18) (ty := _) (pos := _) (af := _) (gd := _) (T := 26) (P := Tryd.prog) [(int i64 0), (Value.slice none 0 0)] ty_zr_26 rfl
       refine st_val hS rfl rfl (by decide) hr fun a hS => ?_
       have hM := hM.addNil 3
       have hM := hM.pk [1, 0, 2, 3, 4, 5, 6] (by decide) (pc rfl (pc rfl (pc rfl (pc rfl (pc rfl (pc rfl (pc rfl pn)))))))
       obtain ⟨w, hr, hM⟩ := hM.st_agg (us := [(int i64 r127.1), v128]) (ρ := a.eval) (dst := none) (ty := _) (pos := _) (af := _) (gd := _) (x := .tmp 18) (y := .tmp 152) (hS.ev rfl) (hS.ev rfl) ty_sz_26 (all1_cons rfl (all1_cons (rd_one (rd_of_ow (hM.get 2 rfl))) all1_nil)) rfl
       refine st_unit hS rfl rfl hr ?_
       refine st_val hS rfl rfl (by decide) (rv_assign (hS.ev rfl)) fun a hS => ?_
       refine st_val hS rfl rfl (by decide) (rv_assign (hS.ev rfl)) fun a hS => ?_
       refine wpList_nil ?_
       refine hK123 _ _ ?_
       refine wp_seq_k fun K130 hK130 => ?_
       refine wp_region_lit ?_
       refine st_val hS rfl rfl (by decide) (rv_load_agg (hS.ev rfl) ty_ag_26 (hM.get 0 rfl) ty_sz_26) fun a hS => ?_
       refine st_val hS rfl rfl (by decide) (rv_move (hS.ev rfl)) fun a hS => ?_
       refine st_val hS rfl rfl (by decide) (rv_move (hS.ev rfl)) fun a hS => ?_
       obtain ⟨r134, hr, hF⟩ := bind_some hF
       refine st_wp hS rfl (wp_call hS rfl rfl (by decide) fn_ok_43 rfl (c_impl_AddEdge F r127.1 r127.2.1 r127.2.2.1 r127.2.2.2 v128 hr _ (rd_of_ow (hM.get 2 rfl))) fun v w a hK hS => ?_)
       obtain ⟨v135, rfl, hN⟩ := hK
       have hM := hM.add hN rfl
       refine st_val hS rfl rfl (by decide) (rv_move (hS.ev rfl)) fun a hS => ?_
       refine st_val hS rfl rfl (by decide) (rv_extract (hS.ev rfl) rfl) fun a hS => ?_
       refine st_val hS rfl rfl (by decide) (rv_extract (hS.ev rfl) rfl) fun a hS => ?_
       obtain ⟨b136, w, hr, hM⟩ := hM.allocE (ρ := a.eval) (dst := some 21) (ty := _) (pos := _) (af := _) (gd := _) (T := 26) (P := Tryd.prog) [(int i64 0), (Value.slice none 0 0)] ty_zr_26 rfl
       refine st_val hS rfl rfl (by decide) hr fun a hS => ?_
       have hM := hM.addNil 3
       have hM := hM.pk [1, 0, 2, 3, 4, 5, 6, 7, 8, 9] (by decide) (pc rfl (pc rfl (pc rfl (pc rfl (pc rfl (pc rfl (pc rfl (pc rfl (pc rfl (pc rfl pn))))))))))
       obtain ⟨w, hr, hM⟩ := hM.st_agg (us := [(int i64 r134.1), v135]) (ρ := a.eval) (dst := none) (ty := _) (pos := _) (af := _) (gd := _) (x := .tmp 21) (y := .tmp 160) (hS.ev rfl) (hS.ev rfl) ty_sz_26 (all1_cons rfl (all1_cons (rd_one (rd_of_ow (hM.get 2 rfl))) all1_nil)) rfl
       refine st_unit hS rfl rfl hr ?_
       refine st_val hS rfl rfl (by decide) (rv_assign (hS.ev rfl)) fun a hS => ?_
       refine wpList_nil ?_
       refine hK130 _ _ ?_
       have hS : Sl 297 [(0, p0_codev), (3, (fdp b17 0)), (18, (fdp b129 0)), (19, (int i64 r127.2.2.1)), (20, (int i64 r127.2.2.2)), (21, (fdp b136 0)), (22, (Value.bool r134.2.2))] a := hS.sub (sub_cons rfl (sub_cons rfl (sub_cons rfl (sub_cons rfl (sub_cons rfl (sub_cons rfl (sub_cons rfl sub_nil)))))))
       have hM := hM.pk [0, 2, 3, 5, 6, 7, 8, 9] (by decide) (pc rfl (pc rfl (pc rfl (pc rfl (pc rfl (pc rfl (pc rfl (pc rfl pn))))))))
       refine wp_seq_k fun K137 hK137 => ?_
       refine wp_region_lit ?_
       refine st_val hS rfl rfl (by decide) (rv_load_agg (hS.ev rfl) ty_ag_26 (hM.get 2 rfl) ty_sz_26) fun a hS => ?_
       refine st_val hS rfl rfl (by decide) (rv_move (hS.ev rfl)) fun a hS => ?_
       refine st_val hS rfl rfl (by decide) (rv_move (hS.ev rfl)) fun a hS => ?_
       obtain ⟨r141, hr, hF⟩ := bind_some hF
       refine st_wp hS rfl (wp_call hS rfl rfl (by decide) fn_ok_44 rfl (c_spec_AddEdge F r127.1 r127.2.1 r127.2.2.1 r127.2.2.2 v128 hr _ (rd_of_ow (hM.get 3 rfl))) fun v w a hK hS => ?_)
       obtain ⟨v142, rfl, hN⟩ := hK
       have hM := hM.add hN rfl
       refine st_val hS rfl rfl (by decide) (rv_move (hS.ev rfl)) fun a hS => ?_
       refine st_val hS rfl rfl (by decide) (rv_extract (hS.ev rfl) rfl) fun a hS => ?_
       refine st_val hS rfl rfl (by decide) (rv_extract (hS.ev rfl) rfl) fun a hS => ?_
       obtain ⟨b143, w, hr, hM⟩ := hM.allocE (ρ := a.eval) (dst := some 23) (ty := _) (pos := _) (af := _) (gd := _) (T := 26) (P := Tryd.prog) [(int i64 0), (Value.slice none 0 0)] ty_zr_26 rfl
       refine st_val hS rfl rfl (by decide) hr fun a hS => ?_
       have hM := hM.addNil 3
       have hM := hM.pk [1, 0, 2, 3, 4, 5, 6, 7, 8, 9, 10] (by decide) (pc rfl (pc rfl (pc rfl (pc rfl (pc rfl (pc rfl (pc rfl (pc rfl (pc rfl (pc rfl (pc rfl pn)))))))))))
       obtain ⟨w, hr, hM⟩ := hM.st_agg (us := [(int i64 r141.1), v142]) (ρ := a.eval) (dst := none) (ty := _) (pos := _) (af := _) (gd := _) (x := .tmp 23) (y := .tmp 167) (hS.ev rfl) (hS.ev rfl) ty_sz_26 (all1_cons rfl (all1_cons (rd_one (rd_of_ow (hM.get 2 rfl))) all1_nil)) rfl
       refine st_unit hS rfl rfl hr ?_
       refine st_val hS rfl rfl (by decide) (rv_assign (hS.ev rfl)) fun a hS => ?_
       refine wpList_nil ?_
       refine hK137 _ _ ?_
       refine wp_seq_k fun K144 hK144 => ?_
       refine wp_seq_k fun K152 hK152 => ?_
       have hJ4 : ∀ (p155 : Bool) (a : Act) (w : World), Sl 297 [(0, p0_codev), (3, (fdp b17 0)), (18, (fdp b129 0)), (19, (int i64 r127.2.2.1)), (20, (int i64 r127.2.2.2)), (22, (Value.bool r134.2.2)), (23, (fdp b143 0)), (187, (Value.bool p155))] a → Mem Nob w0 w [(false, rd p0_codev (List.map (int IntKind.u8) p0_code)), (true, bx b17 26 [(int i64 r15.1), v16]), (true, ow 3 v16 (List.map (int i64) r15.2)), (true, bx b129 26 [(int i64 r127.1), v128]), (true, ow 3 v128 (List.map (int i64) r127.2.1)), (true, bx b143 26 [(int i64 r141.1), v142]), (true, ow 3 v142 (List.map (int i64) r141.2.1)), (false, tabR Tryd.prog tabN)] → S_laws_FnGraphs_j4 F p0_code r15 r127 r134 r141 p155 = some r → K152 a w := by
        intro p155 a w hS hM hF
        unfold S_laws_FnGraphs_j4 at hF
        refine hK152 _ _ ?_
        rcases ite_some hF with ⟨hc, hF⟩ | ⟨hc, hF⟩
        ·refine cond_t hS rfl hc ?_
         refine wp_seq_k fun K156 hK156 => ?_
         refine wp_region_lit ?_
         refine st_val hS rfl rfl (by decide) (rv_assign (hS.ev rfl)) fun a hS => ?_
         refine wpList_nil ?_
         refine hK156 _ _ ?_
         have hS : Sl 297 [(2, (Value.bool false))] a := hS.sub (sub_cons rfl sub_nil)
         have hM := hM.pk [7] (by decide) (pc rfl pn)
         refine wp_ret ?_
         cases hF
         exact hQr _ _ (r_1 hS rfl rfl ⟨rfl, hM.pk [] (by decide) pn⟩)
        ·refine cond_f hS rfl hc ?_
         refine wp_skip ?_
         refine hK144 _ _ ?_
         refine wp_seq_k fun K157 hK157 => ?_
         have hJ5 : ∀ (a : Act) (w : World), Sl 297 [(0, p0_codev), (3, (fdp b17 0))] a → Mem Nob w0 w [(false, rd p0_codev (List.map (int IntKind.u8) p0_code)), (true, bx b17 26 [(int i64 r15.1), v16]), (true, ow 3 v16 (List.map (int i64) r15.2)), (false, tabR Tryd.prog tabN)] → S_laws_FnGraphs_j5 F p0_code r15 = some r → K157 a w := by
          intro a w hS hM hF
          unfold S_laws_FnGraphs_j5 at hF
          refine hK157 _ _ ?_
          refine wp_seq_k fun K171 hK171 => ?_
          refine wp_region_lit ?_
          refine st_val hS rfl rfl (by decide) (rv_move (hS.ev rfl)) fun a hS => ?_
          obtain ⟨r175, hr, hF⟩ := bind_some hF
          refine st_wp hS rfl (wp_call hS rfl rfl (by decide) fn_ok_47 rfl (c_spec_DrawRemoveEdge F p0_code p0_codev hr _ (hM.get 0 rfl)) fun v w a hK hS => ?_)
          obtain ⟨v176, rfl, hN⟩ := hK
          have hM := hM.add hN rfl
          refine st_val hS rfl rfl (by decide) (rv_move (hS.ev rfl)) fun a hS => ?_
          refine st_val hS rfl rfl (by decide) (rv_extract (hS.ev rfl) rfl) fun a hS => ?_
          refine st_val hS rfl rfl (by decide) (rv_extract (hS.ev rfl) rfl) fun a hS => ?_
          refine st_val hS rfl rfl (by decide) (rv_extract (hS.ev rfl) rfl) fun a hS => ?_
          obtain ⟨b177, w, hr, hM⟩ := hM.allocE (ρ := a.eval) (dst := some 27) (ty := _) (pos := _) (af := _) (gd := _) (T := 26) (P := Tryd.prog) [(int i64 0), (Value.slice none 0 0)] ty_zr_26 rfl
          refine st_val hS rfl rfl (by decide) hr fun a hS => ?_
          have hM := hM.addNil 3
          have hM := hM.pk [1, 0, 2, 3, 4, 5, 6] (by decide) (pc rfl (pc rfl (pc rfl (pc rfl (pc rfl (pc rfl (pc rfl pn)))))))
          obtain ⟨w, hr, hM⟩ := hM.st_agg (us := [(int i64 r175.1), v176]) (ρ := a.eval) (dst := none) (ty := _) (pos := _) (af := _) (gd := _) (x := .tmp 27) (y := .tmp 207) (hS.ev rfl) (hS.ev rfl) ty_sz_26 (all1_cons rfl (all1_cons (rd_one (rd_of_ow (hM.get 2 rfl))) all1_nil)) rfl
          refine st_unit hS rfl rfl hr ?_
          refine st_val hS rfl rfl (by decide) (rv_assign (hS.ev rfl)) fun a hS => ?_
          refine st_val hS rfl rfl (by decide) (rv_assign (hS.ev rfl)) fun a hS => ?_
          refine wpList_nil ?_
          refine hK171 _ _ ?_
          refine wp_seq_k fun K178 hK178 => ?_
          refine wp_region_lit ?_
          refine st_val hS rfl rfl (by decide) (rv_load_agg (hS.ev rfl) ty_ag_26 (hM.get 0 rfl) ty_sz_26) fun a hS => ?_
          refine st_val hS rfl rfl (by decide) (rv_move (hS.ev rfl)) fun a hS => ?_
          refine st_val hS rfl rfl (by decide) (rv_move (hS.ev rfl)) fun a hS => ?_
          obtain ⟨r182, hr, hF⟩ := bind_some hF
          refine st_wp hS rfl (wp_call hS rfl rfl (by decide) fn_ok_46 rfl (c_impl_RemoveEdge F r175.1 r175.2.1 r175.2.2.1 r175.2.2.2 v176 hr _ (rd_of_ow (hM.get 2 rfl))) fun v w a hK hS => ?_)
          obtain ⟨v183, rfl, hN⟩ := hK
          have hM := hM.add hN rfl
          refine st_val hS rfl rfl (by decide) (rv_move (hS.ev rfl)) fun a hS => ?_
          refine st_val hS rfl rfl (by decide) (rv_extract (hS.ev rfl) rfl) fun a hS => ?_
          refine st_val hS rfl rfl (by decide) (rv_extract (hS.ev rfl) rfl) fun a hS => ?_
          obtain ⟨b184, w, hr, hM⟩ := hM.allocE (ρ := a.eval) (dst := some 30) (ty := _) (pos := _) (af := _) (gd := _) (T := 26) (P := Tryd.prog) [(int i64 0), (Value.slice none 0 0)] ty_zr_26 rfl
          refine st_val hS rfl rfl (by decide) hr fun a hS => ?_
          have hM := hM.addNil 3
          have hM := hM.pk [1, 0, 2, 3, 4, 5, 6, 7, 8, 9] (by decide) (pc rfl (pc rfl (pc rfl (pc rfl (pc rfl (pc rfl (pc rfl (pc rfl (pc rfl (pc rfl pn))))))))))
          obtain ⟨w, hr, hM⟩ := hM.st_agg (us := [(int i64 r182.1), v183]) (ρ := a.eval) (dst := none) (ty := _) (pos := _) (af := _) (gd := _) (x := .tmp 30) (y := .tmp 215) (hS.ev rfl) (hS.ev rfl) ty_sz_26 (all1_cons rfl (all1_cons (rd_one (rd_of_ow (hM.get 2 rfl))) all1_nil)) rfl
          refine st_unit hS rfl rfl hr ?_
          refine st_val hS rfl rfl (by decide) (rv_assign (hS.ev rfl)) fun a hS => ?_
          refine wpList_nil ?_
          refine hK178 _ _ ?_
          have hS : Sl 297 [(0, p0_codev), (3, (fdp b17 0)), (27, (fdp b177 0)), (28, (int i64 r175.2.2.1)), (29, (int i64 r175.2.2.2)), (30, (fdp b184 0)), (31, (Value.bool r182.2.2))] a := hS.sub (sub_cons rfl (sub_cons rfl (sub_cons rfl (sub_cons rfl (sub_cons rfl (sub_cons rfl (sub_cons rfl sub_nil)))))))
          have hM := hM.pk [0, 2, 3, 5, 6, 7, 8, 9] (by decide) (pc rfl (pc rfl (pc rfl (pc rfl (pc rfl (pc rfl (pc rfl (pc rfl pn))))))))
          refine wp_seq_k fun K185 hK185 => ?_
          refine wp_region_lit ?_
          refine st_val hS rfl rfl (by decide) (rv_load_agg (hS.ev rfl) ty_ag_26 (hM.get 2 rfl) ty_sz_26) fun a hS => ?_
          refine st_val hS rfl rfl (by decide) (rv_move (hS.ev rfl)) fun a hS => ?_
          refine st_val hS rfl rfl (by decide) (rv_move (hS.ev rfl)) fun a hS => ?_
          obtain ⟨r189, hr, hF⟩ := bind_some hF
          refine st_wp hS rfl (wp_call hS rfl rfl (by decide) fn_ok_48 rfl (c_spec_RemoveEdge F r175.1 r175.2.1 r175.2.2.1 r175.2.2.2 v176 hr _ (rd_of_ow (hM.get 3 rfl))) fun v w a hK hS => ?_)
          obtain ⟨v190, rfl, hN⟩ := hK
          have hM := hM.add hN rfl
          refine st_val hS rfl rfl (by decide) (rv_move (hS.ev rfl)) fun a hS => ?_
          refine st_val hS rfl rfl (by decide) (rv_extract (hS.ev rfl) rfl) fun a hS => ?_
          refine st_val hS rfl rfl (by decide) (rv_extract (hS.ev rfl) rfl) fun a hS => ?_
          obtain ⟨b191, w, hr, hM⟩ := hM.allocE (ρ := a.eval) (dst := some 32) (ty := _) (pos := _) (af := _) (gd := _) (T := 26) (P := Tryd.prog) [(int i64 0), (Value.slice none 0 0)] ty_zr_26 rfl
          refine st_val hS rfl rfl (by decide) hr fun a hS => ?_
          have hM := hM.addNil 3
          have hM := hM.pk [1, 0, 2, 3, 4, 5, 6, 7, 8, 9, 10] (by decide) (pc rfl (pc rfl (pc rfl (pc rfl (pc rfl (pc rfl (pc rfl (pc rfl (pc rfl (pc rfl (pc rfl pn)))))))))))
          obtain ⟨w, hr, hM⟩ := hM.st_agg (us := [(int i64 r189.1), v190]) (ρ := a.eval) (dst := none) (ty := _) (pos := _) (af := _) (gd := _) (x := .tmp 32) (y := .tmp 222) (hS.ev rfl) (hS.ev rfl) ty_sz_26 (all1_cons rfl (all1_cons (rd_one (rd_of_ow (hM.get 2 rfl))) all1_nil)) rfl
          refine st_unit hS rfl rfl hr ?_
          refine st_val hS rfl rfl (by decide) (rv_assign (hS.ev rfl)) fun a hS => ?_
          refine wpList_nil ?_
          refine hK185 _ _ ?_
          have hS : Sl 297 [(0, p0_codev), (3, (fdp b17 0)), (30, (fdp b184 0)), (31, (Value.bool r182.2.2)), (32, (fdp b191 0)), (33, (Value.bool r189.2.2))] a := hS.sub (sub_cons rfl (sub_cons rfl (sub_cons rfl (sub_cons rfl (sub_cons rfl (sub_cons rfl sub_nil))))))
          have hM := hM.pk [0, 2, 3, 4, 7, 8, 9, 10] (by decide) (pc rfl (pc rfl (pc rfl (pc rfl (pc rfl (pc rfl (pc rfl (pc rfl pn))))))))
          refine wp_seq_k fun K192 hK192 => ?_
          refine wp_region_lit ?_
          refine st_val hS rfl rfl (by decide) (rv_move (hS.ev rfl)) fun a hS => ?_
          obtain ⟨r196, hr, hF⟩ := bind_some hF
          refine st_wp hS rfl (wp_call hS rfl rfl (by decide) fn_ok_49 rfl (c_spec_DrawHasEdge F p0_code p0_codev hr _ (hM.get 4 rfl)) fun v w a hK hS => ?_)
          obtain ⟨v197, rfl, hN⟩ := hK
          have hM := hM.add hN rfl
          refine st_val hS rfl rfl (by decide) (rv_move (hS.ev rfl)) fun a hS => ?_
          refine st_val hS rfl rfl (by decide) (rv_extract (hS.ev rfl) rfl) fun a hS => ?_
          refine st_val hS rfl rfl (by decide) (rv_extract (hS.ev rfl) rfl) fun a hS => ?_
          refine st_val hS rfl rfl (by decide) (rv_extract (hS.ev rfl) rfl) fun a hS => ?_
          obtain ⟨b198, w, hr, hM⟩ := hM.allocE (ρ := a.eval) (dst := some 34) (ty := _) (pos := _) (af := _) (gd := _) (T := 26) (P := Tryd.prog) [(int i64 0), (Value.slice none 0 0)] ty_zr_26 rfl
          refine st_val hS rfl rfl (by decide) hr fun a hS => ?_
          have hM := hM.addNil 3
          have hM := hM.pk [1, 0, 2, 3, 4, 5, 6, 7, 8, 9, 10] (by decide) (pc rfl (pc rfl (pc rfl (pc rfl (pc rfl (pc rfl (pc rfl (pc rfl (pc rfl (pc rfl (pc rfl pn)))))))))))
          obtain ⟨w, hr, hM⟩ := hM.st_agg (us := [(int i64 r196.1), v197]) (ρ := a.eval) (dst := none) (ty := _) (pos := _) (af := _) (gd := _) (x := .tmp 34) (y := .tmp 227) (hS.ev rfl) (hS.ev rfl) ty_sz_26 (all1_cons rfl (all1_cons (rd_one (rd_of_ow (hM.get 2 rfl))) all1_nil)) rfl
          refine st_unit hS rfl rfl hr ?_
          refine st_val hS rfl rfl (by decide) (rv_assign (hS.ev rfl)) fun a hS => ?_
          refine st_val hS rfl rfl (by decide) (rv_assign (hS.ev rfl)) fun a hS => ?_
          refine wpList_nil ?_
          refine hK192 _ _ ?_
          refine wp_seq_k fun K199 hK199 => ?_
          refine wp_region_lit ?_
          refine st_val hS rfl rfl (by decide) (rv_move (hS.ev rfl)) fun a hS => ?_
          obtain ⟨r201, hr, hF⟩ := bind_some hF
          refine st_wp hS rfl (wp_call hS rfl rfl (by decide) fn_ok_50 rfl (c_spec_DrawNamedGraph F p0_code p0_codev hr _ (hM.get 7 rfl)) fun v w a hK hS => ?_)
          obtain ⟨rfl, hN⟩ := hK
          have hM := hM.fra hN.fr
          refine st_val hS rfl rfl (by decide) (rv_move (hS.ev rfl)) fun a hS => ?_
          refine st_val hS rfl rfl (by decide) (rv_extract (hS.ev rfl) rfl) fun a hS => ?_
          refine st_val hS rfl rfl (by decide) (rv_extract (hS.ev rfl) rfl) fun a hS => ?_
          refine st_val hS rfl rfl (by decide) (rv_assign (hS.ev rfl)) fun a hS => ?_
          refine st_val hS rfl rfl (by decide) (rv_assign (hS.ev rfl)) fun a hS => ?_
          refine wpList_nil ?_
          refine hK199 _ _ ?_
          have hS : Sl 297 [(0, p0_codev), (3, (fdp b17 0)), (30, (fdp b184 0)), (31, (Value.bool r182.2.2)), (32, (fdp b191 0)), (33, (Value.bool r189.2.2)), (34, (fdp b198 0)), (35, (int i64 r196.2.2.1)), (36, (int i64 r196.2.2.2)), (37, (Value.string (bs r201.1))), (38, (int i64 r201.2))] a := hS.sub (sub_cons rfl (sub_cons rfl (sub_cons rfl (sub_cons rfl (sub_cons rfl (sub_cons rfl (sub_cons rfl (sub_cons rfl (sub_cons rfl (sub_cons rfl (sub_cons rfl sub_nil)))))))))))
          have hM := hM.pk [0, 2, 3, 4, 5, 6, 7, 8, 9, 10] (by decide) (pc rfl (pc rfl (pc rfl (pc rfl (pc rfl (pc rfl (pc rfl (pc rfl (pc rfl (pc rfl pn))))))))))
          refine wp_seq_k fun K202 hK202 => ?_
          refine wp_region_lit ?_
          refine st_val hS rfl rfl (by decide) (rv_move (hS.ev rfl)) fun a hS => ?_
          refine st_val hS rfl rfl (by decide) (rv_move (hS.ev rfl)) fun a hS => ?_
          obtain ⟨r206, hr, hF⟩ := bind_some hF
          refine st_wp hS rfl (wp_call hS rfl rfl (by decide) fn_ok_51 rfl (c_impl_NamedGraph F r201.1 r201.2 hr _) fun v w a hK hS => ?_)
          obtain ⟨v207, rfl, hN⟩ := hK
          have hM := hM.add hN rfl
          refine st_val hS rfl rfl (by decide) (rv_move (hS.ev rfl)) fun a hS => ?_
          refine st_val hS rfl rfl (by decide) (rv_extract (hS.ev rfl) rfl) fun a hS => ?_
          refine st_val hS rfl rfl (by decide) (rv_extract (hS.ev rfl) rfl) fun a hS => ?_
          obtain ⟨b208, w, hr, hM⟩ := hM.allocE (ρ := a.eval) (dst := some 39) (ty := _) (pos := _) (af := _) (gd := _) (T := 26) (P := Tryd.prog) [(int i64 0), (Value.slice none 0 0)] ty_zr_26 rfl
          refine st_val hS rfl rfl (by decide) hr fun a hS => ?_
          have hM := hM.addNil 3
          have hM := hM.pk [1, 0, 2, 3, 4, 5, 6, 7, 8, 9, 10, 11, 12] (by decide) (pc rfl (pc rfl (pc rfl (pc rfl (pc rfl (pc rfl (pc rfl (pc rfl (pc rfl (pc rfl (pc rfl (pc rfl (pc rfl pn)))))))))))))
          obtain ⟨w, hr, hM⟩ := hM.st_agg (us := [(int i64 r206.1), v207]) (ρ := a.eval) (dst := none) (ty := _) (pos := _) (af := _) (gd := _) (x := .tmp 39) (y := .tmp 239) (hS.ev rfl) (hS.ev rfl) ty_sz_26 (all1_cons rfl (all1_cons (rd_one (rd_of_ow (hM.get 2 rfl))) all1_nil)) rfl
          refine st_unit hS rfl rfl hr ?_
          refine st_val hS rfl rfl (by decide) (rv_assign (hS.ev rfl)) fun a hS => ?_
          refine wpList_nil ?_
          refine hK202 _ _ ?_
          refine wp_seq_k fun K209 hK209 => ?_
          refine wp_region_lit ?_
          refine st_val hS rfl rfl (by decide) (rv_move (hS.ev rfl)) fun a hS => ?_
          refine st_val hS rfl rfl (by decide) (rv_move (hS.ev rfl)) fun a hS => ?_
          obtain ⟨r213, hr, hF⟩ := bind_some hF
          refine st_wp hS rfl (wp_call hS rfl rfl (by decide) fn_ok_52 rfl (c_spec_NamedGraph F r201.1 r201.2 hr _) fun v w a hK hS => ?_)
          obtain ⟨v214, rfl, hN⟩ := hK
          have hM := hM.add hN rfl
          refine st_val hS rfl rfl (by decide) (rv_move (hS.ev rfl)) fun a hS => ?_
          refine st_val hS rfl rfl (by decide) (rv_extract (hS.ev rfl) rfl) fun a hS => ?_
          refine st_val hS rfl rfl (by decide) (rv_extract (hS.ev rfl) rfl) fun a hS => ?_
          obtain ⟨b215, w, hr, hM⟩ := hM.allocE (ρ := a.eval) (dst := some 41) (ty := _) (pos := _) (af := _) (gd := _) (T := 26) (P := Tryd.prog) [(int i64 0), (Value.slice none 0 0)] ty_zr_26 rfl
          refine st_val hS rfl rfl (by decide) hr fun a hS => ?_
          have hM := hM.addNil 3
          have hM := hM.pk [1, 0, 2, 3, 4, 5, 6, 7, 8, 9, 10, 11, 12, 13, 14, 15] (by decide) (pc rfl (pc rfl (pc rfl (pc rfl (pc rfl (pc rfl (pc rfl (pc rfl (pc rfl (pc rfl (pc rfl (pc rfl (pc rfl (pc rfl (pc rfl (pc rfl pn))))))))))))))))
          obtain ⟨w, hr, hM⟩ := hM.st_agg (us := [(int i64 r213.1), v214]) (ρ := a.eval) (dst := none) (ty := _) (pos := _) (af := _) (gd := _) (x := .tmp 41) (y := .tmp 245) (hS.ev rfl) (hS.ev rfl) ty_sz_26 (all1_cons rfl (all1_cons (rd_one (rd_of_ow (hM.get 2 rfl))) all1_nil)) rfl
          refine st_unit hS rfl rfl hr ?_
          refine st_val hS rfl rfl (by decide) (rv_assign (hS.ev rfl)) fun a hS => ?_
          refine wpList_nil ?_
          refine hK209 _ _ ?_
          have hS : Sl 297 [(0, p0_codev), (3, (fdp b17 0)), (30, (fdp b184 0)), (31, (Value.bool r182.2.2)), (32, (fdp b191 0)), (33, (Value.bool r189.2.2)), (34, (fdp b198 0)), (35, (int i64 r196.2.2.1)), (36, (int i64 r196.2.2.2)), (39, (fdp b208 0)), (40, (Value.bool r206.2.2)), (41, (fdp b215 0)), (42, (Value.bool r213.2.2))] a := hS.sub (sub_cons rfl (sub_cons rfl (sub_cons rfl (sub_cons rfl (sub_cons rfl (sub_cons rfl (sub_cons rfl (sub_cons rfl (sub_cons rfl (sub_cons rfl (sub_cons rfl (sub_cons rfl (sub_cons rfl sub_nil)))))))))))))
          have hM := hM.pk [0, 2, 3, 5, 6, 7, 8, 9, 10, 11, 12, 13, 14, 15] (by decide) (pc rfl (pc rfl (pc rfl (pc rfl (pc rfl (pc rfl (pc rfl (pc rfl (pc rfl (pc rfl (pc rfl (pc rfl (pc rfl (pc rfl pn))))))))))))))
          refine wp_seq_k fun K216 hK216 => ?_
          refine wp_region_lit ?_
          refine st_val hS rfl rfl (by decide) (rv_move (hS.ev rfl)) fun a hS => ?_
          obtain ⟨r222, hr, hF⟩ := bind_some hF
          refine st_wp hS rfl (wp_call hS rfl rfl (by decide) fn_ok_53 rfl (c_spec_DrawEqualGraphs F p0_code p0_codev hr _ (hM.get 10 rfl)) fun v w a hK hS => ?_)
          obtain ⟨v223, v224, rfl, hN⟩ := hK
          have hM := hM.add hN rfl
          refine st_val hS rfl rfl (by decide) (rv_move (hS.ev rfl)) fun a hS => ?_
          refine st_val hS rfl rfl (by decide) (rv_extract (hS.ev rfl) rfl) fun a hS => ?_
          refine st_val hS rfl rfl (by decide) (rv_extract (hS.ev rfl) rfl) fun a hS => ?_
          obtain ⟨b225, w, hr, hM⟩ := hM.allocE (ρ := a.eval) (dst := some 43) (ty := _) (pos := _) (af := _) (gd := _) (T := 26) (P := Tryd.prog) [(int i64 0), (Value.slice none 0 0)] ty_zr_26 rfl
          refine st_val hS rfl rfl (by decide) hr fun a hS => ?_
          have hM := hM.addNil 3
          obtain ⟨b226, w, hr, hM⟩ := hM.allocE (ρ := a.eval) (dst := some 44) (ty := _) (pos := _) (af := _) (gd := _) (T := 26) (P := Tryd.prog) [(int i64 0), (Value.slice none 0 0)] ty_zr_26 rfl
          refine st_val hS rfl rfl (by decide) hr fun a hS => ?_
          have hM := hM.addNil 3
          have hM := hM.pk [3, 0, 1, 2, 4, 5, 6, 7, 8, 9, 10, 11, 12, 13, 14, 15, 16, 17, 18, 19] (by decide) (pc rfl (pc rfl (pc rfl (pc rfl (pc rfl (pc rfl (pc rfl (pc rfl (pc rfl (pc rfl (pc rfl (pc rfl (pc rfl (pc rfl (pc rfl (pc rfl (pc rfl (pc rfl (pc rfl (pc rfl pn))))))))))))))))))))
          obtain ⟨w, hr, hM⟩ := hM.st_agg (us := [(int i64 r222.1), v223]) (ρ := a.eval) (dst := none) (ty := _) (pos := _) (af := _) (gd := _) (x := .tmp 43) (y := .tmp 250) (hS.ev rfl) (hS.ev rfl) ty_sz_26 (all1_cons rfl (all1_cons (rd_one (rd_of_ow (hM.get 4 rfl))) all1_nil)) rfl
          refine st_unit hS rfl rfl hr ?_
          have hM := hM.pk [2, 0, 1, 3, 4, 5, 6, 7, 8, 9, 10, 11, 12, 13, 14, 15, 16, 17, 18, 19] (by decide) (pc rfl (pc rfl (pc rfl (pc rfl (pc rfl (pc rfl (pc rfl (pc rfl (pc rfl (pc rfl (pc rfl (pc rfl (pc rfl (pc rfl (pc rfl (pc rfl (pc rfl (pc rfl (pc rfl (pc rfl pn))))))))))))))))))))
          obtain ⟨w, hr, hM⟩ := hM.st_agg (us := [(int i64 r222.2.2.1), v224]) (ρ := a.eval) (dst := none) (ty := _) (pos := _) (af := _) (gd := _) (x := .tmp 44) (y := .tmp 251) (hS.ev rfl) (hS.ev rfl) ty_sz_26 (all1_cons rfl (all1_cons (rd_one (rd_of_ow (hM.get 5 rfl))) all1_nil)) rfl
          refine st_unit hS rfl rfl hr ?_
          refine wpList_nil ?_
          refine hK216 _ _ ?_
          have hS : Sl 297 [(3, (fdp b17 0)), (30, (fdp b184 0)), (31, (Value.bool r182.2.2)), (32, (fdp b191 0)), (33, (Value.bool r189.2.2)), (34, (fdp b198 0)), (35, (int i64 r196.2.2.1)), (36, (int i64 r196.2.2.2)), (39, (fdp b208 0)), (40, (Value.bool r206.2.2)), (41, (fdp b215 0)), (42, (Value.bool r213.2.2)), (43, (fdp b225 0)), (44, (fdp b226 0))] a := hS.sub (sub_cons rfl (sub_cons rfl (sub_cons rfl (sub_cons rfl (sub_cons rfl (sub_cons rfl (sub_cons rfl (sub_cons rfl (sub_cons rfl (sub_cons rfl (sub_cons rfl (sub_cons rfl (sub_cons rfl (sub_cons rfl sub_nil))))))))))))))
          have hM := hM.pk [0, 1, 4, 5, 6, 7, 8, 9, 10, 11, 12, 13, 14, 15, 17, 18, 19] (by decide) (pc rfl (pc rfl (pc rfl (pc rfl (pc rfl (pc rfl (pc rfl (pc rfl (pc rfl (pc rfl (pc rfl (pc rfl (pc rfl (pc rfl (pc rfl (pc rfl (pc rfl pn)))))))))))))))))
          refine wp_seq_k fun K227 hK227 => ?_
          have hJ6 : ∀ (p241 : Bool) (a : Act) (w : World), Sl 297 [(2, (Value.bool p241))] a → Mem Nob w0 w [(false, tabR Tryd.prog tabN)] → S_laws_FnGraphs_j6 F p241 = some r → K227 a w := by
           intro p241 a w hS hM hF
           unfold S_laws_FnGraphs_j6 at hF
           refine hK227 _ _ ?_
           refine wp_ret ?_
           cases hF
           exact hQr _ _ (r_1 hS rfl rfl ⟨rfl, hM.pk [] (by decide) pn⟩)
          refine an_startB 46 Nob ty_mixed (by kernel_rfl) fun w hf => ?_
          have hM := hM.fra hf
          have hB := hM
          have hM := hB.reg0
          try dsimp only [ro] at hM
          refine tkB hS 0 1 (by as_aux_lemma => kernel_rfl) rfl rfl rfl hQp rfl (fun w' hC' => (rv_move (hS.ev rfl))) hM.fr fun a hS => ?_
          refine tkB hS 1 3 (by as_aux_lemma => kernel_rfl) rfl rfl rfl hQp rfl (fun w' hC' => (rv_move (hS.ev rfl))) hM.fr fun a hS => ?_
          refine tkB hS 2 7 (by as_aux_lemma => kernel_rfl) rfl rfl rfl hQp rfl (fun w' hC' => (rv_beql Tryd.underlying4 (hS.ev rfl) (hS.ev rfl))) hM.fr fun a hS => ?_
          refine tkB hS 3 15 (by as_aux_lemma => kernel_rfl) rfl rfl rfl hQp rfl (fun w' hC' => (rv_move (hS.ev rfl))) hM.fr fun a hS => ?_
          rcases ite_some hF with ⟨hc, hF⟩ | ⟨hc, hF⟩
          ·have hS := hS.setb (t := 255) rfl hc
           refine tkB hS 4 31 (by as_aux_lemma => kernel_rfl) rfl rfl rfl hQp rfl (fun w' hC' => (rv_load_agg (hS.ev rfl) ty_ag_26 ((hB.fra hC').get 12 rfl) ty_sz_26)) hM.fr fun a hS => ?_
           refine tkB hS 5 63 (by as_aux_lemma => kernel_rfl) rfl rfl rfl hQp rfl (fun w' hC' => (rv_load_agg (hS.ev rfl) ty_ag_26 ((hB.fra hC').get 10 rfl) ty_sz_26)) hM.fr fun a hS => ?_
           obtain ⟨r242, hr, hF⟩ := bind_some hF
           refine an_oneB hS (i := 6) 127 (by as_aux_lemma => kernel_rfl) rfl (by as_aux_lemma => kernel_rfl) rfl ?_
           refine wp_call hS rfl rfl (by decide) fn_ok_28 rfl (c_spec_EqualGraphs F r182.1 r182.2.1 r189.1 r189.2.1 v183 v190 hr _ (rd_of_ow (hM.get 13 rfl)) (rd_of_ow (hM.get 11 rfl))) fun v w a hK hS => ?_
           obtain ⟨rfl, hN⟩ := hK
           have hM := hM.fra hN.fr
           refine ⟨hM.fr, ?_⟩
           refine tkB hS 7 255 (by as_aux_lemma => kernel_rfl) rfl rfl rfl hQp rfl (fun w' hC' => (rv_pick_t (hS.ev rfl) (hS.ev rfl))) hM.fr fun a hS => ?_
           refine tkB hS 8 511 (by as_aux_lemma => kernel_rfl) rfl rfl rfl hQp rfl (fun w' hC' => (rv_move (hS.ev rfl))) hM.fr fun a hS => ?_
           rcases ite_some hF with ⟨hc, hF⟩ | ⟨hc, hF⟩
           ·have hS := hS.setb (t := 260) rfl hc
            refine tkB hS 9 1023 (by as_aux_lemma => kernel_rfl) rfl rfl rfl hQp rfl (fun w' hC' => (rv_load_agg (hS.ev rfl) ty_ag_26 ((hB.fra hC').get 8 rfl) ty_sz_26)) hM.fr fun a hS => ?_
            refine tkB hS 10 2047 (by as_aux_lemma => kernel_rfl) rfl rfl rfl hQp rfl (fun w' hC' => (rv_move (hS.ev rfl))) hM.fr fun a hS => ?_
            refine tkB hS 11 4095 (by as_aux_lemma => kernel_rfl) rfl rfl rfl hQp rfl (fun w' hC' => (rv_move (hS.ev rfl))) hM.fr fun a hS => ?_
            refine tkB hS 13 12287 (by as_aux_lemma => kernel_rfl) rfl rfl rfl hQp rfl (fun w' hC' => (rv_load_agg (hS.ev rfl) ty_ag_26 ((hB.fra hC').get 8 rfl) ty_sz_26)) hM.fr fun a hS => ?_
            refine tkB hS 14 28671 (by as_aux_lemma => kernel_rfl) rfl rfl rfl hQp rfl (fun w' hC' => (rv_move (hS.ev rfl))) hM.fr fun a hS => ?_
            refine tkB hS 15 61439 (by as_aux_lemma => kernel_rfl) rfl rfl rfl hQp rfl (fun w' hC' => (rv_move (hS.ev rfl))) hM.fr fun a hS => ?_
            obtain ⟨r243, hr, hF⟩ := bind_some hF
            refine an_oneB hS (i := 12) 65535 (by as_aux_lemma => kernel_rfl) rfl (by as_aux_lemma => kernel_rfl) rfl ?_
            refine wp_call hS rfl rfl (by decide) fn_ok_45 rfl (c_impl_HasEdge F r196.1 r196.2.1 r196.2.2.1 r196.2.2.2 v197 hr _ (rd_of_ow (hM.get 9 rfl))) fun v w a hK hS => ?_
            obtain ⟨rfl, hN⟩ := hK
            have hM := hM.fra hN.fr
            refine ⟨hM.fr, ?_⟩
            obtain ⟨r244, hr, hF⟩ := bind_some hF
            refine an_oneB hS (i := 16) 131071 (by as_aux_lemma => kernel_rfl) rfl (by as_aux_lemma => kernel_rfl) rfl ?_
            refine wp_call hS rfl rfl (by decide) fn_ok_54 rfl (c_spec_HasEdge F r196.1 r196.2.1 r196.2.2.1 r196.2.2.2 v197 hr _ (rd_of_ow (hM.get 9 rfl))) fun v w a hK hS => ?_
            obtain ⟨rfl, hN⟩ := hK
            have hM := hM.fra hN.fr
            refine ⟨hM.fr, ?_⟩
            refine tkB hS 17 262143 (by as_aux_lemma => kernel_rfl) rfl rfl rfl hQp rfl (fun w' hC' => (rv_beql Tryd.underlying4 (hS.ev rfl) (hS.ev rfl))) hM.fr fun a hS => ?_
            refine tkB hS 18 524287 (by as_aux_lemma => kernel_rfl) rfl rfl rfl hQp rfl (fun w' hC' => (rv_pick_t (hS.ev rfl) (hS.ev rfl))) hM.fr fun a hS => ?_
            refine tkB hS 19 1048575 (by as_aux_lemma => kernel_rfl) rfl rfl rfl hQp rfl (fun w' hC' => (rv_move (hS.ev rfl))) hM.fr fun a hS => ?_
            rcases ite_some hF with ⟨hc, hF⟩ | ⟨hc, hF⟩
            ·have hS := hS.setb (t := 271) rfl hc
             refine tkB hS 20 2097151 (by as_aux_lemma => kernel_rfl) rfl rfl rfl hQp rfl (fun w' hC' => (rv_move (hS.ev rfl))) hM.fr fun a hS => ?_
             refine tkB hS 21 4194303 (by as_aux_lemma => kernel_rfl) rfl rfl rfl hQp rfl (fun w' hC' => (rv_move (hS.ev rfl))) hM.fr fun a hS => ?_
             refine tkB hS 22 8388607 (by as_aux_lemma => kernel_rfl) rfl rfl rfl hQp rfl (fun w' hC' => (rv_beql Tryd.underlying4 (hS.ev rfl) (hS.ev rfl))) hM.fr fun a hS => ?_
             refine tkB hS 23 16777215 (by as_aux_lemma => kernel_rfl) rfl rfl rfl hQp rfl (fun w' hC' => (rv_pick_t (hS.ev rfl) (hS.ev rfl))) hM.fr fun a hS => ?_
             refine tkB hS 24 33554431 (by as_aux_lemma => kernel_rfl) rfl rfl rfl hQp rfl (fun w' hC' => (rv_move (hS.ev rfl))) hM.fr fun a hS => ?_
             rcases ite_some hF with ⟨hc, hF⟩ | ⟨hc, hF⟩
             ·have hS := hS.setb (t := 276) rfl hc
              refine tkB hS 25 67108863 (by as_aux_lemma => kernel_rfl) rfl rfl rfl hQp rfl (fun w' hC' => (rv_load_agg (hS.ev rfl) ty_ag_26 ((hB.fra hC').get 6 rfl) ty_sz_26)) hM.fr fun a hS => ?_
              refine tkB hS 26 134217727 (by as_aux_lemma => kernel_rfl) rfl rfl rfl hQp rfl (fun w' hC' => (rv_load_agg (hS.ev rfl) ty_ag_26 ((hB.fra hC').get 4 rfl) ty_sz_26)) hM.fr fun a hS => ?_
              obtain ⟨r245, hr, hF⟩ := bind_some hF
              refine an_oneB hS (i := 27) 268435455 (by as_aux_lemma => kernel_rfl) rfl (by as_aux_lemma => kernel_rfl) rfl ?_
              refine wp_call hS rfl rfl (by decide) fn_ok_28 rfl (c_spec_EqualGraphs F r206.1 r206.2.1 r213.1 r213.2.1 v207 v214 hr _ (rd_of_ow (hM.get 7 rfl)) (rd_of_ow (hM.get 5 rfl))) fun v w a hK hS => ?_
              obtain ⟨rfl, hN⟩ := hK
              have hM := hM.fra hN.fr
              refine ⟨hM.fr, ?_⟩
              refine tkB hS 28 536870911 (by as_aux_lemma => kernel_rfl) rfl rfl rfl hQp rfl (fun w' hC' => (rv_pick_t (hS.ev rfl) (hS.ev rfl))) hM.fr fun a hS => ?_
              refine tkB hS 29 1073741823 (by as_aux_lemma => kernel_rfl) rfl rfl rfl hQp rfl (fun w' hC' => (rv_move (hS.ev rfl))) hM.fr fun a hS => ?_
              rcases ite_some hF with ⟨hc, hF⟩ | ⟨hc, hF⟩
              ·have hS := hS.setb (t := 281) rfl hc
               refine tkB hS 30 2147483647 (by as_aux_lemma => kernel_rfl) rfl rfl rfl hQp rfl (fun w' hC' => (rv_load_agg (hS.ev rfl) ty_ag_26 ((hB.fra hC').get 1 rfl) ty_sz_26)) hM.fr fun a hS => ?_
               refine tkB hS 31 4294967295 (by as_aux_lemma => kernel_rfl) rfl rfl rfl hQp rfl (fun w' hC' => (rv_load_agg (hS.ev rfl) ty_ag_26 ((hB.fra hC').get 0 rfl) ty_sz_26)) hM.fr fun a hS => ?_
               refine tkB hS 33 12884901887 (by as_aux_lemma => kernel_rfl) rfl rfl rfl hQp rfl (fun w' hC' => (rv_load_agg (hS.ev rfl) ty_ag_26 ((hB.fra hC').get 1 rfl) ty_sz_26)) hM.fr fun a hS => ?_
               refine tkB hS 34 30064771071 (by as_aux_lemma => kernel_rfl) rfl rfl rfl hQp rfl (fun w' hC' => (rv_load_agg (hS.ev rfl) ty_ag_26 ((hB.fra hC').get 0 rfl) ty_sz_26)) hM.fr fun a hS => ?_
               obtain ⟨r246, hr, hF⟩ := bind_some hF
               refine an_oneB hS (i := 32) 34359738367 (by as_aux_lemma => kernel_rfl) rfl (by as_aux_lemma => kernel_rfl) rfl ?_
               refine wp_call hS rfl rfl (by decide) fn_ok_55 rfl (c_impl_EqualGraphs F r222.1 r222.2.1 r222.2.2.1 r222.2.2.2 v223 v224 hr _ (rd_of_ow (hM.get 2 rfl)) (rd_of_ow (hM.get 3 rfl))) fun v w a hK hS => ?_
               obtain ⟨rfl, hN⟩ := hK
               have hM := hM.fra hN.fr
               refine ⟨hM.fr, ?_⟩
               obtain ⟨r247, hr, hF⟩ := bind_some hF
               refine an_oneB hS (i := 35) 68719476735 (by as_aux_lemma => kernel_rfl) rfl (by as_aux_lemma => kernel_rfl) rfl ?_
               refine wp_call hS rfl rfl (by decide) fn_ok_28 rfl (c_spec_EqualGraphs F r222.1 r222.2.1 r222.2.2.1 r222.2.2.2 v223 v224 hr _ (rd_of_ow (hM.get 2 rfl)) (rd_of_ow (hM.get 3 rfl))) fun v w a hK hS => ?_
               obtain ⟨rfl, hN⟩ := hK
               have hM := hM.fra hN.fr
               refine ⟨hM.fr, ?_⟩
               refine tkB hS 36 137438953471 (by as_aux_lemma => kernel_rfl) rfl rfl rfl hQp rfl (fun w' hC' => (rv_beql Tryd.underlying4 (hS.ev rfl) (hS.ev rfl))) hM.fr fun a hS => ?_
               refine tkB hS 37 274877906943 (by as_aux_lemma => kernel_rfl) rfl rfl rfl hQp rfl (fun w' hC' => (rv_pick_t (hS.ev rfl) (hS.ev rfl))) hM.fr fun a hS => ?_
               refine tkB hS 38 549755813887 (by as_aux_lemma => kernel_rfl) rfl rfl rfl hQp rfl (fun w' hC' => (rv_move (hS.ev rfl))) hM.fr fun a hS => ?_
               rcases ite_some hF with ⟨hc, hF⟩ | ⟨hc, hF⟩
               ·have hS := hS.setb (t := 290) rfl hc
                refine tkB hS 39 1099511627775 (by as_aux_lemma => kernel_rfl) rfl rfl rfl hQp rfl (fun w' hC' => (rv_load_agg (hS.ev rfl) ty_ag_26 ((hB.fra hC').get 14 rfl) ty_sz_26)) hM.fr fun a hS => ?_
                refine tkB hS 41 3298534883327 (by as_aux_lemma => kernel_rfl) rfl rfl rfl hQp rfl (fun w' hC' => (rv_load_agg (hS.ev rfl) ty_ag_26 ((hB.fra hC').get 14 rfl) ty_sz_26)) hM.fr fun a hS => ?_
                obtain ⟨r248, hr, hF⟩ := bind_some hF
                refine an_oneB hS (i := 40) 4398046511103 (by as_aux_lemma => kernel_rfl) rfl (by as_aux_lemma => kernel_rfl) rfl ?_
                refine wp_call hS rfl rfl (by decide) fn_ok_29 rfl (c_impl_EdgesOf F r15.1 r15.2 v16 hr _ (rd_of_ow (hM.get 15 rfl))) fun v w a hK hS => ?_
                obtain ⟨v249, hs250, hv0, hN⟩ := hK
                subst v
                have hM := hM.add hN rfl
                refine ⟨hM.fr, ?_⟩
                obtain ⟨r251, hr, hF⟩ := bind_some hF
                refine an_oneB hS (i := 42) 8796093022207 (by as_aux_lemma => kernel_rfl) rfl (by as_aux_lemma => kernel_rfl) rfl ?_
                refine wp_call hS rfl rfl (by decide) fn_ok_57 rfl (c_spec_EdgesOf F r15.1 r15.2 v16 hr _ (rd_of_ow (hM.get 16 rfl))) fun v w a hK hS => ?_
                obtain ⟨v252, hs253, hv0, hN⟩ := hK
                subst v
                have hM := hM.add hN rfl
                refine ⟨hM.fr, ?_⟩
                obtain ⟨r254, hr, hF⟩ := bind_some hF
                refine an_oneB hS (i := 43) 17592186044415 (by as_aux_lemma => kernel_rfl) rfl (by as_aux_lemma => kernel_rfl) rfl ?_
                refine wp_call hS rfl rfl (by decide) fn_ok_56 rfl (c_laws_sameLists F r248 r251 v249 hs250 v252 hs253 hr _ (hM.get 1 rfl) (hM.get 0 rfl)) fun v w a hK hS => ?_
                obtain ⟨rfl, hN⟩ := hK
                have hM := hM.fra hN.fr
                refine ⟨hM.fr, ?_⟩
                refine tkB hS 44 35184372088831 (by as_aux_lemma => kernel_rfl) rfl rfl rfl hQp rfl (fun w' hC' => (rv_pick_t (hS.ev rfl) (hS.ev rfl))) hM.fr fun a hS => ?_
                refine tkB hS 45 70368744177663 (by as_aux_lemma => kernel_rfl) rfl rfl rfl hQp rfl (fun w' hC' => (rv_assign (hS.ev rfl))) hM.fr fun a hS => ?_
                refine an_done (by as_aux_lemma => kernel_rfl) ?_
                have hN := hM.pk [0, 1] (by decide) (pc rfl (pc rfl pn))
                have hM := Mem.callo0 hB hN rfl
                exact hJ6 r254 _ _ (hS.sub (sub_cons rfl sub_nil)) (hM.pk [18] (by decide) (pc rfl pn)) hF
               ·have hS := hS.setb (t := 290) rfl hc
                refine skB hS [39, 40, 41, 42, 43] [291, 292, 293, 294, 295] 17592186044415 2 rfl (by as_aux_lemma => kernel_rfl) hQp hM.fr fun a hS => ?_
                refine tkB hS 44 35184372088831 (by as_aux_lemma => kernel_rfl) rfl rfl rfl hQp rfl (fun w' hC' => (rv_pick_f (hS.ev rfl) (hS.ev rfl))) hM.fr fun a hS => ?_
                refine tkB hS 45 70368744177663 (by as_aux_lemma => kernel_rfl) rfl rfl rfl hQp rfl (fun w' hC' => (rv_assign (hS.ev rfl))) hM.fr fun a hS => ?_
                refine an_done (by as_aux_lemma => kernel_rfl) ?_
                have hN := hM.pk [] (by decide) pn
                have hM := Mem.callo0 hB hN rfl
                exact hJ6 false _ _ (hS.sub (sub_cons rfl sub_nil)) (hM.pk [16] (by decide) (pc rfl pn)) hF
              ·have hS := hS.setb (t := 281) rfl hc
               refine skB hS [30, 31, 32, 33, 34, 35, 36] [282, 283, 284, 285, 286, 287, 288] 137438953471 9 rfl (by as_aux_lemma => kernel_rfl) hQp hM.fr fun a hS => ?_
               refine tkB hS 37 274877906943 (by as_aux_lemma => kernel_rfl) rfl rfl rfl hQp rfl (fun w' hC' => (rv_pick_f (hS.ev rfl) (hS.ev rfl))) hM.fr fun a hS => ?_
               refine tkB hS 38 549755813887 (by as_aux_lemma => kernel_rfl) rfl rfl rfl hQp rfl (fun w' hC' => (rv_move (hS.ev rfl))) hM.fr fun a hS => ?_
               refine skB hS [39, 40, 41, 42, 43] [291, 292, 293, 294, 295] 17592186044415 2 rfl (by as_aux_lemma => kernel_rfl) hQp hM.fr fun a hS => ?_
               refine tkB hS 44 35184372088831 (by as_aux_lemma => kernel_rfl) rfl rfl rfl hQp rfl (fun w' hC' => (rv_pick_f (hS.ev rfl) (hS.ev rfl))) hM.fr fun a hS => ?_
               refine tkB hS 45 70368744177663 (by as_aux_lemma => kernel_rfl) rfl rfl rfl hQp rfl (fun w' hC' => (rv_assign (hS.ev rfl))) hM.fr fun a hS => ?_
               refine an_done (by as_aux_lemma => kernel_rfl) ?_
               have hN := hM.pk [] (by decide) pn
               have hM := Mem.callo0 hB hN rfl
               exact hJ6 false _ _ (hS.sub (sub_cons rfl sub_nil)) (hM.pk [16] (by decide) (pc rfl pn)) hF
             ·have hS := hS.setb (t := 276) rfl hc
              refine skB hS [25, 26, 27] [277, 278, 279] 268435455 18 rfl (by as_aux_lemma => kernel_rfl) hQp hM.fr fun a hS => ?_
              refine tkB hS 28 536870911 (by as_aux_lemma => kernel_rfl) rfl rfl rfl hQp rfl (fun w' hC' => (rv_pick_f (hS.ev rfl) (hS.ev rfl))) hM.fr fun a hS => ?_
              refine tkB hS 29 1073741823 (by as_aux_lemma => kernel_rfl) rfl rfl rfl hQp rfl (fun w' hC' => (rv_move (hS.ev rfl))) hM.fr fun a hS => ?_
              refine skB hS [30, 31, 32, 33, 34, 35, 36] [282, 283, 284, 285, 286, 287, 288] 137438953471 9 rfl (by as_aux_lemma => kernel_rfl) hQp hM.fr fun a hS => ?_
              refine tkB hS 37 274877906943 (by as_aux_lemma => kernel_rfl) rfl rfl rfl hQp rfl (fun w' hC' => (rv_pick_f (hS.ev rfl) (hS.ev rfl))) hM.fr fun a hS => ?_
              refine tkB hS 38 549755813887 (by as_aux_lemma => kernel_rfl) rfl rfl rfl hQp rfl (fun w' hC' => (rv_move (hS.ev rfl))) hM.fr fun a hS => ?_
              refine skB hS [39, 40, 41, 42, 43] [291, 292, 293, 294, 295] 17592186044415 2 rfl (by as_aux_lemma => kernel_rfl) hQp hM.fr fun a hS => ?_
              refine tkB hS 44 35184372088831 (by as_aux_lemma => kernel_rfl) rfl rfl rfl hQp rfl (fun w' hC' => (rv_pick_f (hS.ev rfl) (hS.ev rfl))) hM.fr fun a hS => ?_
              refine tkB hS 45 70368744177663 (by as_aux_lemma => kernel_rfl) rfl rfl rfl hQp rfl (fun w' hC' => (rv_assign (hS.ev rfl))) hM.fr fun a hS => ?_
              refine an_done (by as_aux_lemma => kernel_rfl) ?_
              have hN := hM.pk [] (by decide) pn
              have hM := Mem.callo0 hB hN rfl
              exact hJ6 false _ _ (hS.sub (sub_cons rfl sub_nil)) (hM.pk [16] (by decide) (pc rfl pn)) hF
            ·have hS := hS.setb (t := 271) rfl hc
             refine skB hS [20, 21, 22] [272, 273, 274] 8388607 23 rfl (by as_aux_lemma => kernel_rfl) hQp hM.fr fun a hS => ?_
             refine tkB hS 23 16777215 (by as_aux_lemma => kernel_rfl) rfl rfl rfl hQp rfl (fun w' hC' => (rv_pick_f (hS.ev rfl) (hS.ev rfl))) hM.fr fun a hS => ?_
             refine tkB hS 24 33554431 (by as_aux_lemma => kernel_rfl) rfl rfl rfl hQp rfl (fun w' hC' => (rv_move (hS.ev rfl))) hM.fr fun a hS => ?_
             refine skB hS [25, 26, 27] [277, 278, 279] 268435455 18 rfl (by as_aux_lemma => kernel_rfl) hQp hM.fr fun a hS => ?_
             refine tkB hS 28 536870911 (by as_aux_lemma => kernel_rfl) rfl rfl rfl hQp rfl (fun w' hC' => (rv_pick_f (hS.ev rfl) (hS.ev rfl))) hM.fr fun a hS => ?_
             refine tkB hS 29 1073741823 (by as_aux_lemma => kernel_rfl) rfl rfl rfl hQp rfl (fun w' hC' => (rv_move (hS.ev rfl))) hM.fr fun a hS => ?_
             refine skB hS [30, 31, 32, 33, 34, 35, 36] [282, 283, 284, 285, 286, 287, 288] 137438953471 9 rfl (by as_aux_lemma => kernel_rfl) hQp hM.fr fun a hS => ?_
             refine tkB hS 37 274877906943 (by as_aux_lemma => kernel_rfl) rfl rfl rfl hQp rfl (fun w' hC' => (rv_pick_f (hS.ev rfl) (hS.ev rfl))) hM.fr fun a hS => ?_
             refine tkB hS 38 549755813887 (by as_aux_lemma => kernel_rfl) rfl rfl rfl hQp rfl (fun w' hC' => (rv_move (hS.ev rfl))) hM.fr fun a hS => ?_
             refine skB hS [39, 40, 41, 42, 43] [291, 292, 293, 294, 295] 17592186044415 2 rfl (by as_aux_lemma => kernel_rfl) hQp hM.fr fun a hS => ?_
             refine tkB hS 44 35184372088831 (by as_aux_lemma => kernel_rfl) rfl rfl rfl hQp rfl (fun w' hC' => (rv_pick_f (hS.ev rfl) (hS.ev rfl))) hM.fr fun a hS => ?_
             refine tkB hS 45 70368744177663 (by as_aux_lemma => kernel_rfl) rfl rfl rfl hQp rfl (fun w' hC' => (rv_assign (hS.ev rfl))) hM.fr fun a hS => ?_
             refine an_done (by as_aux_lemma => kernel_rfl) ?_
             have hN := hM.pk [] (by decide) pn
             have hM := Mem.callo0 hB hN rfl
             exact hJ6 false _ _ (hS.sub (sub_cons rfl sub_nil)) (hM.pk [16] (by decide) (pc rfl pn)) hF
           ·have hS := hS.setb (t := 260) rfl hc
            refine skB hS [9, 10, 11, 12, 13, 14, 15, 16, 17] [261, 262, 263, 264, 265, 266, 267, 268, 269] 262143 28 rfl (by as_aux_lemma => kernel_rfl) hQp hM.fr fun a hS => ?_
            refine tkB hS 18 524287 (by as_aux_lemma => kernel_rfl) rfl rfl rfl hQp rfl (fun w' hC' => (rv_pick_f (hS.ev rfl) (hS.ev rfl))) hM.fr fun a hS => ?_
            refine tkB hS 19 1048575 (by as_aux_lemma => kernel_rfl) rfl rfl rfl hQp rfl (fun w' hC' => (rv_move (hS.ev rfl))) hM.fr fun a hS => ?_
            refine skB hS [20, 21, 22] [272, 273, 274] 8388607 23 rfl (by as_aux_lemma => kernel_rfl) hQp hM.fr fun a hS => ?_
            refine tkB hS 23 16777215 (by as_aux_lemma => kernel_rfl) rfl rfl rfl hQp rfl (fun w' hC' => (rv_pick_f (hS.ev rfl) (hS.ev rfl))) hM.fr fun a hS => ?_
            refine tkB hS 24 33554431 (by as_aux_lemma => kernel_rfl) rfl rfl rfl hQp rfl (fun w' hC' => (rv_move (hS.ev rfl))) hM.fr fun a hS => ?_
            refine skB hS [25, 26, 27] [277, 278, 279] 268435455 18 rfl (by as_aux_lemma => kernel_rfl) hQp hM.fr fun a hS => ?_
            refine tkB hS 28 536870911 (by as_aux_lemma => kernel_rfl) rfl rfl rfl hQp rfl (fun w' hC' => (rv_pick_f (hS.ev rfl) (hS.ev rfl))) hM.fr fun a hS => ?_
            refine tkB hS 29 1073741823 (by as_aux_lemma => kernel_rfl) rfl rfl rfl hQp rfl (fun w' hC' => (rv_move (hS.ev rfl))) hM.fr fun a hS => ?_
            refine skB hS [30, 31, 32, 33, 34, 35, 36] [282, 283, 284, 285, 286, 287, 288] 137438953471 9 rfl (by as_aux_lemma => kernel_rfl) hQp hM.fr fun a hS => ?_
            refine tkB hS 37 274877906943 (by as_aux_lemma => kernel_rfl) rfl rfl rfl hQp rfl (fun w' hC' => (rv_pick_f (hS.ev rfl) (hS.ev rfl))) hM.fr fun a hS => ?_
            refine tkB hS 38 549755813887 (by as_aux_lemma => kernel_rfl) rfl rfl rfl hQp rfl (fun w' hC' => (rv_move (hS.ev rfl))) hM.fr fun a hS => ?_
            refine skB hS [39, 40, 41, 42, 43] [291, 292, 293, 294, 295] 17592186044415 2 rfl (by as_aux_lemma => kernel_rfl) hQp hM.fr fun a hS => ?_
            refine tkB hS 44 35184372088831 (by as_aux_lemma => kernel_rfl) rfl rfl rfl hQp rfl (fun w' hC' => (rv_pick_f (hS.ev rfl) (hS.ev rfl))) hM.fr fun a hS => ?_
            refine tkB hS 45 70368744177663 (by as_aux_lemma => kernel_rfl) rfl rfl rfl hQp rfl (fun w' hC' => (rv_assign (hS.ev rfl))) hM.fr fun a hS => ?_
            refine an_done (by as_aux_lemma => kernel_rfl) ?_
            have hN := hM.pk [] (by decide) pn
            have hM := Mem.callo0 hB hN rfl
            exact hJ6 false _ _ (hS.sub (sub_cons rfl sub_nil)) (hM.pk [16] (by decide) (pc rfl pn)) hF
          ·have hS := hS.setb (t := 255) rfl hc
           refine skB hS [4, 5, 6] [256, 257, 258] 127 39 rfl (by as_aux_lemma => kernel_rfl) hQp hM.fr fun a hS => ?_
           refine tkB hS 7 255 (by as_aux_lemma => kernel_rfl) rfl rfl rfl hQp rfl (fun w' hC' => (rv_pick_f (hS.ev rfl) (hS.ev rfl))) hM.fr fun a hS => ?_
           refine tkB hS 8 511 (by as_aux_lemma => kernel_rfl) rfl rfl rfl hQp rfl (fun w' hC' => (rv_move (hS.ev rfl))) hM.fr fun a hS => ?_
           refine skB hS [9, 10, 11, 12, 13, 14, 15, 16, 17] [261, 262, 263, 264, 265, 266, 267, 268, 269] 262143 28 rfl (by as_aux_lemma => kernel_rfl) hQp hM.fr fun a hS => ?_
           refine tkB hS 18 524287 (by as_aux_lemma => kernel_rfl) rfl rfl rfl hQp rfl (fun w' hC' => (rv_pick_f (hS.ev rfl) (hS.ev rfl))) hM.fr fun a hS => ?_
           refine tkB hS 19 1048575 (by as_aux_lemma => kernel_rfl) rfl rfl rfl hQp rfl (fun w' hC' => (rv_move (hS.ev rfl))) hM.fr fun a hS => ?_
           refine skB hS [20, 21, 22] [272, 273, 274] 8388607 23 rfl (by as_aux_lemma => kernel_rfl) hQp hM.fr fun a hS => ?_
           refine tkB hS 23 16777215 (by as_aux_lemma => kernel_rfl) rfl rfl rfl hQp rfl (fun w' hC' => (rv_pick_f (hS.ev rfl) (hS.ev rfl))) hM.fr fun a hS => ?_
           refine tkB hS 24 33554431 (by as_aux_lemma => kernel_rfl) rfl rfl rfl hQp rfl (fun w' hC' => (rv_move (hS.ev rfl))) hM.fr fun a hS => ?_
           refine skB hS [25, 26, 27] [277, 278, 279] 268435455 18 rfl (by as_aux_lemma => kernel_rfl) hQp hM.fr fun a hS => ?_
           refine tkB hS 28 536870911 (by as_aux_lemma => kernel_rfl) rfl rfl rfl hQp rfl (fun w' hC' => (rv_pick_f (hS.ev rfl) (hS.ev rfl))) hM.fr fun a hS => ?_
           refine tkB hS 29 1073741823 (by as_aux_lemma => kernel_rfl) rfl rfl rfl hQp rfl (fun w' hC' => (rv_move (hS.ev rfl))) hM.fr fun a hS => ?_
           refine skB hS [30, 31, 32, 33, 34, 35, 36] [282, 283, 284, 285, 286, 287, 288] 137438953471 9 rfl (by as_aux_lemma => kernel_rfl) hQp hM.fr fun a hS => ?_
           refine tkB hS 37 274877906943 (by as_aux_lemma => kernel_rfl) rfl rfl rfl hQp rfl (fun w' hC' => (rv_pick_f (hS.ev rfl) (hS.ev rfl))) hM.fr fun a hS => ?_
           refine tkB hS 38 549755813887 (by as_aux_lemma => kernel_rfl) rfl rfl rfl hQp rfl (fun w' hC' => (rv_move (hS.ev rfl))) hM.fr fun a hS => ?_
           refine skB hS [39, 40, 41, 42, 43] [291, 292, 293, 294, 295] 17592186044415 2 rfl (by as_aux_lemma => kernel_rfl) hQp hM.fr fun a hS => ?_
           refine tkB hS 44 35184372088831 (by as_aux_lemma => kernel_rfl) rfl rfl rfl hQp rfl (fun w' hC' => (rv_pick_f (hS.ev rfl) (hS.ev rfl))) hM.fr fun a hS => ?_
           refine tkB hS 45 70368744177663 (by as_aux_lemma => kernel_rfl) rfl rfl rfl hQp rfl (fun w' hC' => (rv_assign (hS.ev rfl))) hM.fr fun a hS => ?_
           refine an_done (by as_aux_lemma => kernel_rfl) ?_
           have hN := hM.pk [] (by decide) pn
           have hM := Mem.callo0 hB hN rfl
           exact hJ6 false _ _ (hS.sub (sub_cons rfl sub_nil)) (hM.pk [16] (by decide) (pc rfl pn)) hF
         refine wp_seq_k fun K255 hK255 => ?_
         refine wp_region_lit ?_
         refine st_val hS rfl rfl (by decide) (rv_move (hS.ev rfl)) fun a hS => ?_
         refine wpList_nil ?_
         refine hK255 _ _ ?_
         rcases ite_some hF with ⟨hc, hF⟩ | ⟨hc, hF⟩
         ·refine cond_t hS rfl hc ?_
          refine wp_seq_k fun K256 hK256 => ?_
          refine wp_region_lit ?_
          refine st_val hS rfl rfl (by decide) (rv_load_agg (hS.ev rfl) ty_ag_26 (hM.get 5 rfl) ty_sz_26) fun a hS => ?_
          refine st_val hS rfl rfl (by decide) (rv_move (hS.ev rfl)) fun a hS => ?_
          refine st_val hS rfl rfl (by decide) (rv_move (hS.ev rfl)) fun a hS => ?_
          obtain ⟨r260, hr, hF⟩ := bind_some hF
          refine st_wp hS rfl (wp_call hS rfl rfl (by decide) fn_ok_46 rfl (c_impl_RemoveEdge F r141.1 r141.2.1 r127.2.2.2 r127.2.2.1 v142 hr _ (rd_of_ow (hM.get 6 rfl))) fun v w a hK hS => ?_)
          obtain ⟨v261, rfl, hN⟩ := hK
          have hM := hM.add hN rfl
          refine st_val hS rfl rfl (by decide) (rv_move (hS.ev rfl)) fun a hS => ?_
          refine st_val hS rfl rfl (by decide) (rv_extract (hS.ev rfl) rfl) fun a hS => ?_
          refine st_val hS rfl rfl (by decide) (rv_extract (hS.ev rfl) rfl) fun a hS => ?_
          obtain ⟨b262, w, hr, hM⟩ := hM.allocE (ρ := a.eval) (dst := some 25) (ty := _) (pos := _) (af := _) (gd := _) (T := 26) (P := Tryd.prog) [(int i64 0), (Value.slice none 0 0)] ty_zr_26 rfl
          refine st_val hS rfl rfl (by decide) hr fun a hS => ?_
          have hM := hM.addNil 3
          have hM := hM.pk [1, 0, 2, 3, 4, 5, 6, 7, 8, 9, 10] (by decide) (pc rfl (pc rfl (pc rfl (pc rfl (pc rfl (pc rfl (pc rfl (pc rfl (pc rfl (pc rfl (pc rfl pn)))))))))))
          obtain ⟨w, hr, hM⟩ := hM.st_agg (us := [(int i64 r260.1), v261]) (ρ := a.eval) (dst := none) (ty := _) (pos := _) (af := _) (gd := _) (x := .tmp 25) (y := .tmp 194) (hS.ev rfl) (hS.ev rfl) ty_sz_26 (all1_cons rfl (all1_cons (rd_one (rd_of_ow (hM.get 2 rfl))) all1_nil)) rfl
          refine st_unit hS rfl rfl hr ?_
          refine st_val hS rfl rfl (by decide) (rv_assign (hS.ev rfl)) fun a hS => ?_
          refine wpList_nil ?_
          refine hK256 _ _ ?_
          have hS : Sl 297 [(0, p0_codev), (3, (fdp b17 0)), (18, (fdp b129 0)), (25, (fdp b262 0)), (26, (Value.bool r260.2.2))] a := hS.sub (sub_cons rfl (sub_cons rfl (sub_cons rfl (sub_cons rfl (sub_cons rfl sub_nil)))))
          have hM := hM.pk [0, 2, 3, 4, 5, 6, 7, 10] (by decide) (pc rfl (pc rfl (pc rfl (pc rfl (pc rfl (pc rfl (pc rfl (pc rfl pn))))))))
          refine wp_seq_k fun K263 hK263 => ?_
          have hJ7 : ∀ (p265 : Bool) (a : Act) (w : World), Sl 297 [(0, p0_codev), (3, (fdp b17 0)), (203, (Value.bool p265))] a → Mem Nob w0 w [(false, rd p0_codev (List.map (int IntKind.u8) p0_code)), (true, bx b17 26 [(int i64 r15.1), v16]), (true, ow 3 v16 (List.map (int i64) r15.2)), (false, tabR Tryd.prog tabN)] → S_laws_FnGraphs_j7 F p0_code r15 p265 = some r → K263 a w := by
           intro p265 a w hS hM hF
           unfold S_laws_FnGraphs_j7 at hF
           refine hK263 _ _ ?_
           rcases ite_some hF with ⟨hc, hF⟩ | ⟨hc, hF⟩
           ·refine cond_t hS rfl hc ?_
            refine wp_seq_k fun K266 hK266 => ?_
            refine wp_region_lit ?_
            refine st_val hS rfl rfl (by decide) (rv_assign (hS.ev rfl)) fun a hS => ?_
            refine wpList_nil ?_
            refine hK266 _ _ ?_
            have hS : Sl 297 [(2, (Value.bool false))] a := hS.sub (sub_cons rfl sub_nil)
            have hM := hM.pk [3] (by decide) (pc rfl pn)
            refine wp_ret ?_
            cases hF
            exact hQr _ _ (r_1 hS rfl rfl ⟨rfl, hM.pk [] (by decide) pn⟩)
           ·refine cond_f hS rfl hc ?_
            refine wp_skip ?_
            exact hJ5 _ _ (hS.sub (sub_cons rfl (sub_cons rfl sub_nil))) (hM.pk [0, 1, 2, 3] (by decide) (pc rfl (pc rfl (pc rfl (pc rfl pn))))) hF
          refine wp_region_lit ?_
          refine st_val hS rfl rfl (by decide) (rv_move (hS.ev rfl)) fun a hS => ?_
          refine st_val hS rfl rfl (by decide) (rv_not (hS.ev rfl)) fun a hS => ?_
          refine st_val hS rfl rfl (by decide) (rv_move (hS.ev rfl)) fun a hS => ?_
          rcases ite_some hF with ⟨hc, hF⟩ | ⟨hc, hF⟩
          ·have hS := hS.setb (t := 198) rfl hc
           refine st_skip hS rfl rfl (by decide) fun a hS => ?_
           refine st_skip hS rfl rfl (by decide) fun a hS => ?_
           refine st_skip hS rfl rfl (by decide) fun a hS => ?_
           refine st_skip hS rfl rfl (by decide) fun a hS => ?_
           refine st_val hS rfl rfl (by decide) (rv_pick_t (hS.ev rfl) (hS.ev rfl)) fun a hS => ?_
           refine wpList_nil ?_
           exact hJ7 true _ _ (hS.sub (sub_cons rfl (sub_cons rfl (sub_cons rfl sub_nil)))) (hM.pk [2, 3, 4, 7] (by decide) (pc rfl (pc rfl (pc rfl (pc rfl pn))))) hF
          ·have hS := hS.setb (t := 198) rfl hc
           refine st_val hS rfl rfl (by decide) (rv_load_agg (hS.ev rfl) ty_ag_26 (hM.get 0 rfl) ty_sz_26) fun a hS => ?_
           refine st_val hS rfl rfl (by decide) (rv_load_agg (hS.ev rfl) ty_ag_26 (hM.get 5 rfl) ty_sz_26) fun a hS => ?_
           obtain ⟨r267, hr, hF⟩ := bind_some hF
           refine st_wp hS rfl (wp_call hS rfl rfl (by decide) fn_ok_28 rfl (c_spec_EqualGraphs F r260.1 r260.2.1 r127.1 r127.2.1 v261 v128 hr _ (rd_of_ow (hM.get 1 rfl)) (rd_of_ow (hM.get 6 rfl))) fun v w a hK hS => ?_)
           obtain ⟨rfl, hN⟩ := hK
           have hM := hM.fra hN.fr
           refine st_val hS rfl rfl (by decide) (rv_not (hS.ev rfl)) fun a hS => ?_
           refine st_val hS rfl rfl (by decide) (rv_pick_f (hS.ev rfl) (hS.ev rfl)) fun a hS => ?_
           refine wpList_nil ?_
           exact hJ7 (!r267) _ _ (hS.sub (sub_cons rfl (sub_cons rfl (sub_cons rfl sub_nil)))) (hM.pk [2, 3, 4, 7] (by decide) (pc rfl (pc rfl (pc rfl (pc rfl pn))))) hF
         ·refine cond_f hS rfl hc ?_
          refine wp_skip ?_
          exact hJ5 _ _ (hS.sub (sub_cons rfl (sub_cons rfl sub_nil))) (hM.pk [0, 1, 2, 7] (by decide) (pc rfl (pc rfl (pc rfl (pc rfl pn))))) hF
       refine wp_region_lit ?_
       refine st_val hS rfl rfl (by decide) (rv_move (hS.ev rfl)) fun a hS => ?_
       refine st_val hS rfl rfl (by decide) (rv_move (hS.ev rfl)) fun a hS => ?_
       refine st_val hS rfl rfl (by decide) (rv_bneq Tryd.underlying4 (hS.ev rfl) (hS.ev rfl)) fun a hS => ?_
       refine st_val hS rfl rfl (by decide) (rv_move (hS.ev rfl)) fun a hS => ?_
       rcases ite_some hF with ⟨hc, hF⟩ | ⟨hc, hF⟩
       ·have hS := hS.setb (t := 172) rfl hc
        refine st_skip hS rfl rfl (by decide) fun a hS => ?_
        refine st_skip hS rfl rfl (by decide) fun a hS => ?_
        refine st_skip hS rfl rfl (by decide) fun a hS => ?_
        refine st_skip hS rfl rfl (by decide) fun a hS => ?_
        refine st_val hS rfl rfl (by decide) (rv_pick_t (hS.ev rfl) (hS.ev rfl)) fun a hS => ?_
        refine st_val hS rfl rfl (by decide) (rv_move (hS.ev rfl)) fun a hS => ?_
        refine st_skip hS rfl rfl (by decide) fun a hS => ?_
        refine st_skip hS rfl rfl (by decide) fun a hS => ?_
        refine st_skip hS rfl rfl (by decide) fun a hS => ?_
        refine st_skip hS rfl rfl (by decide) fun a hS => ?_
        refine st_skip hS rfl rfl (by decide) fun a hS => ?_
        refine st_skip hS rfl rfl (by decide) fun a hS => ?_
        refine st_skip hS rfl rfl (by decide) fun a hS => ?_
        refine st_skip hS rfl rfl (by decide) fun a hS => ?_
        refine st_val hS rfl rfl (by decide) (rv_pick_t (hS.ev rfl) (hS.ev rfl)) fun a hS => ?_
        refine wpList_nil ?_
        exact hJ4 true _ _ (hS.sub (sub_cons rfl (sub_cons rfl (sub_cons rfl (sub_cons rfl (sub_cons rfl (sub_cons rfl (sub_cons rfl (sub_cons rfl sub_nil))))))))) (hM.pk [7, 8, 9, 5, 6, 0, 2, 10] (by decide) (pc rfl (pc rfl (pc rfl (pc rfl (pc rfl (pc rfl (pc rfl (pc rfl pn))))))))) hF
       ·have hS := hS.setb (t := 172) rfl hc
        refine st_val hS rfl rfl (by decide) (rv_load_agg (hS.ev rfl) ty_ag_26 (hM.get 3 rfl) ty_sz_26) fun a hS => ?_
        refine st_val hS rfl rfl (by decide) (rv_load_agg (hS.ev rfl) ty_ag_26 (hM.get 0 rfl) ty_sz_26) fun a hS => ?_
        obtain ⟨r268, hr, hF⟩ := bind_some hF
        refine st_wp hS rfl (wp_call hS rfl rfl (by decide) fn_ok_28 rfl (c_spec_EqualGraphs F r134.1 r134.2.1 r141.1 r141.2.1 v135 v142 hr _ (rd_of_ow (hM.get 4 rfl)) (rd_of_ow (hM.get 2 rfl))) fun v w a hK hS => ?_)
        obtain ⟨rfl, hN⟩ := hK
        have hM := hM.fra hN.fr
        refine st_val hS rfl rfl (by decide) (rv_not (hS.ev rfl)) fun a hS => ?_
        refine st_val hS rfl rfl (by decide) (rv_pick_f (hS.ev rfl) (hS.ev rfl)) fun a hS => ?_
        refine st_val hS rfl rfl (by decide) (rv_move (hS.ev rfl)) fun a hS => ?_
        rcases ite_some hF with ⟨hc, hF⟩ | ⟨hc, hF⟩
        ·have hS := hS.setb (t := 178) rfl hc
         refine st_skip hS rfl rfl (by decide) fun a hS => ?_
         refine st_skip hS rfl rfl (by decide) fun a hS => ?_
         refine st_skip hS rfl rfl (by decide) fun a hS => ?_
         refine st_skip hS rfl rfl (by decide) fun a hS => ?_
         refine st_skip hS rfl rfl (by decide) fun a hS => ?_
         refine st_skip hS rfl rfl (by decide) fun a hS => ?_
         refine st_skip hS rfl rfl (by decide) fun a hS => ?_
         refine st_skip hS rfl rfl (by decide) fun a hS => ?_
         refine st_val hS rfl rfl (by decide) (rv_pick_t (hS.ev rfl) (hS.ev rfl)) fun a hS => ?_
         refine wpList_nil ?_
         exact hJ4 true _ _ (hS.sub (sub_cons rfl (sub_cons rfl (sub_cons rfl (sub_cons rfl (sub_cons rfl (sub_cons rfl (sub_cons rfl (sub_cons rfl sub_nil))))))))) (hM.pk [7, 8, 9, 5, 6, 0, 2, 10] (by decide) (pc rfl (pc rfl (pc rfl (pc rfl (pc rfl (pc rfl (pc rfl (pc rfl pn))))))))) hF
        ·have hS := hS.setb (t := 178) rfl hc
         refine st_val hS rfl rfl (by decide) (rv_move (hS.ev rfl)) fun a hS => ?_
         refine st_val hS rfl rfl (by decide) (rv_move (hS.ev rfl)) fun a hS => ?_
         rcases ite_some hF with ⟨hc, hF⟩ | ⟨hc, hF⟩
         ·have hS := hS.setb (t := 180) rfl hc
          refine st_val hS rfl rfl (by decide) (rv_load_agg (hS.ev rfl) ty_ag_26 (hM.get 0 rfl) ty_sz_26) fun a hS => ?_
          refine st_val hS rfl rfl (by decide) (rv_move (hS.ev rfl)) fun a hS => ?_
          refine st_val hS rfl rfl (by decide) (rv_move (hS.ev rfl)) fun a hS => ?_
          obtain ⟨r269, hr, hF⟩ := bind_some hF
          refine st_wp hS rfl (wp_call hS rfl rfl (by decide) fn_ok_45 rfl (c_impl_HasEdge F r141.1 r141.2.1 r127.2.2.1 r127.2.2.2 v142 hr _ (rd_of_ow (hM.get 2 rfl))) fun v w a hK hS => ?_)
          obtain ⟨rfl, hN⟩ := hK
          have hM := hM.fra hN.fr
          refine st_val hS rfl rfl (by decide) (rv_not (hS.ev rfl)) fun a hS => ?_
          refine st_val hS rfl rfl (by decide) (rv_pick_t (hS.ev rfl) (hS.ev rfl)) fun a hS => ?_
          refine st_val hS rfl rfl (by decide) (rv_pick_f (hS.ev rfl) (hS.ev rfl)) fun a hS => ?_
          refine wpList_nil ?_
          exact hJ4 (!r269) _ _ (hS.sub (sub_cons rfl (sub_cons rfl (sub_cons rfl (sub_cons rfl (sub_cons rfl (sub_cons rfl (sub_cons rfl (sub_cons rfl sub_nil))))))))) (hM.pk [7, 8, 9, 5, 6, 0, 2, 10] (by decide) (pc rfl (pc rfl (pc rfl (pc rfl (pc rfl (pc rfl (pc rfl (pc rfl pn))))))))) hF
         ·have hS := hS.setb (t := 180) rfl hc
          refine st_skip hS rfl rfl (by decide) fun a hS => ?_
          refine st_skip hS rfl rfl (by decide) fun a hS => ?_
          refine st_skip hS rfl rfl (by decide) fun a hS => ?_
          refine st_skip hS rfl rfl (by decide) fun a hS => ?_
          refine st_skip hS rfl rfl (by decide) fun a hS => ?_
          refine st_val hS rfl rfl (by decide) (rv_pick_f (hS.ev rfl) (hS.ev rfl)) fun a hS => ?_
          refine st_val hS rfl rfl (by decide) (rv_pick_f (hS.ev rfl) (hS.ev rfl)) fun a hS => ?_
          refine wpList_nil ?_
          exact hJ4 false _ _ (hS.sub (sub_cons rfl (sub_cons rfl (sub_cons rfl (sub_cons rfl (sub_cons rfl (sub_cons rfl (sub_cons rfl (sub_cons rfl sub_nil))))))))) (hM.pk [7, 8, 9, 5, 6, 0, 2, 10] (by decide) (pc rfl (pc rfl (pc rfl (pc rfl (pc rfl (pc rfl (pc rfl (pc rfl pn))))))))) hF
      refine wp_seq_k fun K270 hK270 => ?_
      refine wp_region_lit ?_
      refine st_val hS rfl rfl (by decide) (rv_move (hS.ev rfl)) fun a hS => ?_
      refine wpList_nil ?_
      refine hK270 _ _ ?_
      rcases ite_some hF with ⟨hc, hF⟩ | ⟨hc, hF⟩
      ·refine cond_t hS rfl hc ?_
       refine wp_seq_k fun K271 hK271 => ?_
       refine wp_region_lit ?_
       refine st_val hS rfl rfl (by decide) (rv_load_agg (hS.ev rfl) ty_ag_26 (hM.get 3 rfl) ty_sz_26) fun a hS => ?_
       obtain ⟨r275, hr, hF⟩ := bind_some hF
       refine st_wp hS rfl (wp_call hS rfl rfl (by decide) fn_ok_41 rfl (c_impl_ComplementOf F r84.1 r84.2.1 v85 hr _ (rd_of_ow (hM.get 4 rfl))) fun v w a hK hS => ?_)
       obtain ⟨v276, rfl, hN⟩ := hK
       have hM := hM.add hN rfl
       refine st_val hS rfl rfl (by decide) (rv_move (hS.ev rfl)) fun a hS => ?_
       refine st_val hS rfl rfl (by decide) (rv_extract (hS.ev rfl) rfl) fun a hS => ?_
       refine st_val hS rfl rfl (by decide) (rv_extract (hS.ev rfl) rfl) fun a hS => ?_
       obtain ⟨b277, w, hr, hM⟩ := hM.allocE (ρ := a.eval) (dst := some 16) (ty := _) (pos := _) (af := _) (gd := _) (T := 26) (P := Tryd.prog) [(int i64 0), (Value.slice none 0 0)] ty_zr_26 rfl
       refine st_val hS rfl rfl (by decide) hr fun a hS => ?_
       have hM := hM.addNil 3
       have hM := hM.pk [1, 0, 2, 3, 4, 5, 6, 7, 8] (by decide) (pc rfl (pc rfl (pc rfl (pc rfl (pc rfl (pc rfl (pc rfl (pc rfl (pc rfl pn)))))))))
       obtain ⟨w, hr, hM⟩ := hM.st_agg (us := [(int i64 r275.1), v276]) (ρ := a.eval) (dst := none) (ty := _) (pos := _) (af := _) (gd := _) (x := .tmp 16) (y := .tmp 122) (hS.ev rfl) (hS.ev rfl) ty_sz_26 (all1_cons rfl (all1_cons (rd_one (rd_of_ow (hM.get 2 rfl))) all1_nil)) rfl
       refine st_unit hS rfl rfl hr ?_
       refine st_val hS rfl rfl (by decide) (rv_assign (hS.ev rfl)) fun a hS => ?_
       refine wpList_nil ?_
       refine hK271 _ _ ?_
       have hS : Sl 297 [(0, p0_codev), (3, (fdp b17 0)), (14, (fdp b86 0)), (16, (fdp b277 0)), (17, (Value.bool r275.2.2))] a := hS.sub (sub_cons rfl (sub_cons rfl (sub_cons rfl (sub_cons rfl (sub_cons rfl sub_nil)))))
       have hM := hM.pk [0, 2, 3, 4, 5, 6, 7, 8] (by decide) (pc rfl (pc rfl (pc rfl (pc rfl (pc rfl (pc rfl (pc rfl (pc rfl pn))))))))
       refine wp_seq_k fun K278 hK278 => ?_
       have hJ8 : ∀ (p286 : Bool) (a : Act) (w : World), Sl 297 [(0, p0_codev), (3, (fdp b17 0)), (148, (Value.bool p286))] a → Mem Nob w0 w [(false, rd p0_codev (List.map (int IntKind.u8) p0_code)), (true, bx b17 26 [(int i64 r15.1), v16]), (true, ow 3 v16 (List.map (int i64) r15.2)), (false, tabR Tryd.prog tabN)] → S_laws_FnGraphs_j8 F p0_code r15 p286 = some r → K278 a w := by
        intro p286 a w hS hM hF
        unfold S_laws_FnGraphs_j8 at hF
        refine hK278 _ _ ?_
        rcases ite_some hF with ⟨hc, hF⟩ | ⟨hc, hF⟩
        ·refine cond_t hS rfl hc ?_
         refine wp_seq_k fun K287 hK287 => ?_
         refine wp_region_lit ?_
         refine st_val hS rfl rfl (by decide) (rv_assign (hS.ev rfl)) fun a hS => ?_
         refine wpList_nil ?_
         refine hK287 _ _ ?_
         have hS : Sl 297 [(2, (Value.bool false))] a := hS.sub (sub_cons rfl sub_nil)
         have hM := hM.pk [3] (by decide) (pc rfl pn)
         refine wp_ret ?_
         cases hF
         exact hQr _ _ (r_1 hS rfl rfl ⟨rfl, hM.pk [] (by decide) pn⟩)
        ·refine cond_f hS rfl hc ?_
         refine wp_skip ?_
         exact hJ3 _ _ (hS.sub (sub_cons rfl (sub_cons rfl sub_nil))) (hM.pk [0, 1, 2, 3] (by decide) (pc rfl (pc rfl (pc rfl (pc rfl pn))))) hF
       refine an_startB 25 Nob ty_mixed (by kernel_rfl) fun w hf => ?_
       have hM := hM.fra hf
       have hB := hM
       have hM := hB.reg0
       try dsimp only [ro] at hM
       refine tkB hS 0 1 (by as_aux_lemma => kernel_rfl) rfl rfl rfl hQp rfl (fun w' hC' => (rv_move (hS.ev rfl))) hM.fr fun a hS => ?_
       refine tkB hS 1 3 (by as_aux_lemma => kernel_rfl) rfl rfl rfl hQp rfl (fun w' hC' => (rv_not (hS.ev rfl))) hM.fr fun a hS => ?_
       refine tkB hS 2 7 (by as_aux_lemma => kernel_rfl) rfl rfl rfl hQp rfl (fun w' hC' => (rv_move (hS.ev rfl))) hM.fr fun a hS => ?_
       rcases ite_some hF with ⟨hc, hF⟩ | ⟨hc, hF⟩
       ·have hS := hS.setb (t := 126) rfl hc
        refine skB hS [3, 4, 5, 6] [127, 128, 129, 130] 127 18 rfl (by as_aux_lemma => kernel_rfl) hQp hM.fr fun a hS => ?_
        refine tkB hS 7 255 (by as_aux_lemma => kernel_rfl) rfl rfl rfl hQp rfl (fun w' hC' => (rv_pick_t (hS.ev rfl) (hS.ev rfl))) hM.fr fun a hS => ?_
        refine tkB hS 8 511 (by as_aux_lemma => kernel_rfl) rfl rfl rfl hQp rfl (fun w' hC' => (rv_move (hS.ev rfl))) hM.fr fun a hS => ?_
        refine skB hS [9, 10, 11, 12, 13, 14, 15, 16, 17, 18, 19, 20, 21, 22, 23] [133, 134, 135, 136, 137, 138, 139, 140, 141, 142, 143, 144, 145, 146, 147] 16777215 1 rfl (by as_aux_lemma => kernel_rfl) hQp hM.fr fun a hS => ?_
        refine tkB hS 24 33554431 (by as_aux_lemma => kernel_rfl) rfl rfl rfl hQp rfl (fun w' hC' => (rv_pick_t (hS.ev rfl) (hS.ev rfl))) hM.fr fun a hS => ?_
        refine an_done (by as_aux_lemma => kernel_rfl) ?_
        have hN := hM.pk [] (by decide) pn
        have hM := Mem.callo0 hB hN rfl
        exact hJ8 true _ _ (hS.sub (sub_cons rfl (sub_cons rfl (sub_cons rfl sub_nil)))) (hM.pk [2, 3, 4, 7] (by decide) (pc rfl (pc rfl (pc rfl (pc rfl pn))))) hF
       ·have hS := hS.setb (t := 126) rfl hc
        refine tkB hS 3 15 (by as_aux_lemma => kernel_rfl) rfl rfl rfl hQp rfl (fun w' hC' => (rv_load_agg (hS.ev rfl) ty_ag_26 ((hB.fra hC').get 0 rfl) ty_sz_26)) hM.fr fun a hS => ?_
        refine tkB hS 4 31 (by as_aux_lemma => kernel_rfl) rfl rfl rfl hQp rfl (fun w' hC' => (rv_load_agg (hS.ev rfl) ty_ag_26 ((hB.fra hC').get 3 rfl) ty_sz_26)) hM.fr fun a hS => ?_
        obtain ⟨r288, hr, hF⟩ := bind_some hF
        refine an_oneB hS (i := 5) 63 (by as_aux_lemma => kernel_rfl) rfl (by as_aux_lemma => kernel_rfl) rfl ?_
        refine wp_call hS rfl rfl (by decide) fn_ok_28 rfl (c_spec_EqualGraphs F r275.1 r275.2.1 r15.1 r15.2 v276 v16 hr _ (rd_of_ow (hM.get 1 rfl)) (rd_of_ow (hM.get 4 rfl))) fun v w a hK hS => ?_
        obtain ⟨rfl, hN⟩ := hK
        have hM := hM.fra hN.fr
        refine ⟨hM.fr, ?_⟩
        refine tkB hS 6 127 (by as_aux_lemma => kernel_rfl) rfl rfl rfl hQp rfl (fun w' hC' => (rv_not (hS.ev rfl))) hM.fr fun a hS => ?_
        refine tkB hS 7 255 (by as_aux_lemma => kernel_rfl) rfl rfl rfl hQp rfl (fun w' hC' => (rv_pick_f (hS.ev rfl) (hS.ev rfl))) hM.fr fun a hS => ?_
        refine tkB hS 8 511 (by as_aux_lemma => kernel_rfl) rfl rfl rfl hQp rfl (fun w' hC' => (rv_move (hS.ev rfl))) hM.fr fun a hS => ?_
        rcases ite_some hF with ⟨hc, hF⟩ | ⟨hc, hF⟩
        ·have hS := hS.setb (t := 132) rfl hc
         refine skB hS [9, 10, 11, 12, 13, 14, 15, 16, 17, 18, 19, 20, 21, 22, 23] [133, 134, 135, 136, 137, 138, 139, 140, 141, 142, 143, 144, 145, 146, 147] 16777215 1 rfl (by as_aux_lemma => kernel_rfl) hQp hM.fr fun a hS => ?_
         refine tkB hS 24 33554431 (by as_aux_lemma => kernel_rfl) rfl rfl rfl hQp rfl (fun w' hC' => (rv_pick_t (hS.ev rfl) (hS.ev rfl))) hM.fr fun a hS => ?_
         refine an_done (by as_aux_lemma => kernel_rfl) ?_
         have hN := hM.pk [] (by decide) pn
         have hM := Mem.callo0 hB hN rfl
         exact hJ8 true _ _ (hS.sub (sub_cons rfl (sub_cons rfl (sub_cons rfl sub_nil)))) (hM.pk [2, 3, 4, 7] (by decide) (pc rfl (pc rfl (pc rfl (pc rfl pn))))) hF
        ·have hS := hS.setb (t := 132) rfl hc
         refine tkB hS 9 1023 (by as_aux_lemma => kernel_rfl) rfl rfl rfl hQp rfl (fun w' hC' => (rv_load_agg (hS.ev rfl) ty_ag_26 ((hB.fra hC').get 3 rfl) ty_sz_26)) hM.fr fun a hS => ?_
         refine tkB hS 12 5119 (by as_aux_lemma => kernel_rfl) rfl rfl rfl hQp rfl (fun w' hC' => (rv_load_agg (hS.ev rfl) ty_ag_26 ((hB.fra hC').get 5 rfl) ty_sz_26)) hM.fr fun a hS => ?_
         refine tkB hS 16 70655 (by as_aux_lemma => kernel_rfl) rfl rfl rfl hQp rfl (fun w' hC' => (rv_fieldAddr ty_fd_26_0 (hS.ev rfl))) hM.fr fun a hS => ?_
         refine tkB hS 17 201727 (by as_aux_lemma => kernel_rfl) rfl rfl rfl hQp rfl (fun w' hC' => (rv_load_bx (hS.ev rfl) ty_ag_3 ((hB.fra hC').get 3 rfl) rfl)) hM.fr fun a hS => ?_
         refine tkB hS 18 463871 (by as_aux_lemma => kernel_rfl) rfl rfl rfl hQp rfl (fun w' hC' => (rv_fieldAddr ty_fd_26_0 (hS.ev rfl))) hM.fr fun a hS => ?_
         refine tkB hS 19 988159 (by as_aux_lemma => kernel_rfl) rfl rfl rfl hQp rfl (fun w' hC' => (rv_load_bx (hS.ev rfl) ty_ag_3 ((hB.fra hC').get 3 rfl) rfl)) hM.fr fun a hS => ?_
         refine tkB hS 20 2036735 (by as_aux_lemma => kernel_rfl) rfl rfl rfl hQp rfl (fun w' hC' => (rv_sub (hS.ev rfl) (hS.ev rfl))) hM.fr fun a hS => ?_
         refine tkB hS 21 4133887 (by as_aux_lemma => kernel_rfl) rfl rfl rfl hQp rfl (fun w' hC' => (rv_mul (hS.ev rfl) (hS.ev rfl))) hM.fr fun a hS => ?_
         refine tkB hS 22 8328191 (by as_aux_lemma => kernel_rfl) rfl rfl rfl hQp rfl (fun w' hC' => (rv_quo (hS.ev rfl) (hS.ev rfl) (by decide))) hM.fr fun a hS => ?_
         obtain ⟨r289, hr, hF⟩ := bind_some hF
         refine an_oneB hS (i := 10) 8329215 (by as_aux_lemma => kernel_rfl) rfl (by as_aux_lemma => kernel_rfl) rfl ?_
         refine wp_call hS rfl rfl (by decide) fn_ok_29 rfl (c_impl_EdgesOf F r15.1 r15.2 v16 hr _ (rd_of_ow (hM.get 4 rfl))) fun v w a hK hS => ?_
         obtain ⟨v290, hs291, hv0, hN⟩ := hK
         subst v
         have hM := hM.add hN rfl
         refine ⟨hM.fr, ?_⟩
         refine tkB hS 11 8331263 (by as_aux_lemma => kernel_rfl) rfl rfl rfl hQp rfl (fun w' hC' => (rv_len_mxM Tryd.underlying40 (hS.ev rfl) (hM.get 0 rfl))) hM.fr fun a hS => ?_
         obtain ⟨r292, hr, hF⟩ := bind_some hF
         refine an_oneB hS (i := 13) 8339455 (by as_aux_lemma => kernel_rfl) rfl (by as_aux_lemma => kernel_rfl) rfl ?_
         refine wp_call hS rfl rfl (by decide) fn_ok_29 rfl (c_impl_EdgesOf F r84.1 r84.2.1 v85 hr _ (rd_of_ow (hM.get 7 rfl))) fun v w a hK hS => ?_
         obtain ⟨v293, hs294, hv0, hN⟩ := hK
         subst v
         have hM := hM.add hN rfl
         refine ⟨hM.fr, ?_⟩
         refine tkB hS 14 8355839 (by as_aux_lemma => kernel_rfl) rfl rfl rfl hQp rfl (fun w' hC' => (rv_len_mxM Tryd.underlying40 (hS.ev rfl) (hM.get 0 rfl))) hM.fr fun a hS => ?_
         refine tkB hS 15 8388607 (by as_aux_lemma => kernel_rfl) rfl rfl rfl hQp rfl (fun w' hC' => (rv_add (hS.ev rfl) (hS.ev rfl))) hM.fr fun a hS => ?_
         refine tkB hS 23 16777215 (by as_aux_lemma => kernel_rfl) rfl rfl rfl hQp rfl (fun w' hC' => (rv_neq (hS.ev rfl) (hS.ev rfl))) hM.fr fun a hS => ?_
         refine tkB hS 24 33554431 (by as_aux_lemma => kernel_rfl) rfl rfl rfl hQp rfl (fun w' hC' => (rv_pick_f (hS.ev rfl) (hS.ev rfl))) hM.fr fun a hS => ?_
         refine an_done (by as_aux_lemma => kernel_rfl) ?_
         have hN := hM.pk [0, 1] (by decide) (pc rfl (pc rfl pn))
         have hM := Mem.callo0 hB hN rfl
         exact hJ8 ((i64.wrap ((r289.length : Int) + (r292.length : Int))) != (i64.wrap ((i64.wrap (r15.1 * (i64.wrap (r15.1 - 1)))).tdiv 2))) _ _ (hS.sub (sub_cons rfl (sub_cons rfl (sub_cons rfl sub_nil)))) (hM.pk [4, 5, 6, 9] (by decide) (pc rfl (pc rfl (pc rfl (pc rfl pn))))) hF
      ·refine cond_f hS rfl hc ?_
       refine wp_skip ?_
       exact hJ3 _ _ (hS.sub (sub_cons rfl (sub_cons rfl sub_nil))) (hM.pk [0, 1, 2, 5] (by decide) (pc rfl (pc rfl (pc rfl (pc rfl pn))))) hF
    refine wp_region_lit ?_
    refine st_val hS rfl rfl (by decide) (rv_move (hS.ev rfl)) fun a hS => ?_
    refine st_val hS rfl rfl (by decide) (rv_move (hS.ev rfl)) fun a hS => ?_
    refine st_val hS rfl rfl (by decide) (rv_bneq Tryd.underlying4 (hS.ev rfl) (hS.ev rfl)) fun a hS => ?_
    refine st_val hS rfl rfl (by decide) (rv_move (hS.ev rfl)) fun a hS => ?_
    rcases ite_some hF with ⟨hc, hF⟩ | ⟨hc, hF⟩
    ·have hS := hS.setb (t := 112) rfl hc
     refine st_skip hS rfl rfl (by decide) fun a hS => ?_
     refine st_skip hS rfl rfl (by decide) fun a hS => ?_
     refine st_skip hS rfl rfl (by decide) fun a hS => ?_
     refine st_skip hS rfl rfl (by decide) fun a hS => ?_
     refine st_val hS rfl rfl (by decide) (rv_pick_t (hS.ev rfl) (hS.ev rfl)) fun a hS => ?_
     refine wpList_nil ?_
     exact hJ2 true _ _ (hS.sub (sub_cons rfl (sub_cons rfl (sub_cons rfl (sub_cons rfl (sub_cons rfl sub_nil)))))) (hM.pk [4, 5, 6, 0, 1, 7] (by decide) (pc rfl (pc rfl (pc rfl (pc rfl (pc rfl (pc rfl pn))))))) hF
    ·have hS := hS.setb (t := 112) rfl hc
     refine st_val hS rfl rfl (by decide) (rv_load_agg (hS.ev rfl) ty_ag_26 (hM.get 2 rfl) ty_sz_26) fun a hS => ?_
     refine st_val hS rfl rfl (by decide) (rv_load_agg (hS.ev rfl) ty_ag_26 (hM.get 0 rfl) ty_sz_26) fun a hS => ?_
     obtain ⟨r295, hr, hF⟩ := bind_some hF
     refine st_wp hS rfl (wp_call hS rfl rfl (by decide) fn_ok_28 rfl (c_spec_EqualGraphs F r77.1 r77.2.1 r84.1 r84.2.1 v78 v85 hr _ (rd_of_ow (hM.get 3 rfl)) (rd_of_ow (hM.get 1 rfl))) fun v w a hK hS => ?_)
     obtain ⟨rfl, hN⟩ := hK
     have hM := hM.fra hN.fr
     refine st_val hS rfl rfl (by decide) (rv_not (hS.ev rfl)) fun a hS => ?_
     refine st_val hS rfl rfl (by decide) (rv_pick_f (hS.ev rfl) (hS.ev rfl)) fun a hS => ?_
     refine wpList_nil ?_
     exact hJ2 (!r295) _ _ (hS.sub (sub_cons rfl (sub_cons rfl (sub_cons rfl (sub_cons rfl (sub_cons rfl sub_nil)))))) (hM.pk [4, 5, 6, 0, 1, 7] (by decide) (pc rfl (pc rfl (pc rfl (pc rfl (pc rfl (pc rfl pn))))))) hF
  refine an_startB 31 Nob ty_mixed (by kernel_rfl) fun w hf => ?_
  have hM := hM.fra hf
  have hB := hM
  have hM := hB.reg0
  try dsimp only [ro] at hM
  refine tkB hS 0 1 (by as_aux_lemma => kernel_rfl) rfl rfl rfl hQp rfl (fun w' hC' => (rv_move (hS.ev rfl))) hM.fr fun a hS => ?_
  refine tkB hS 1 3 (by as_aux_lemma => kernel_rfl) rfl rfl rfl hQp rfl (fun w' hC' => (rv_load_agg (hS.ev rfl) ty_ag_26 ((hB.fra hC').get 2 rfl) ty_sz_26)) hM.fr fun a hS => ?_
  obtain ⟨r296, hr, hF⟩ := bind_some hF
  refine an_oneB hS (i := 2) 7 (by as_aux_lemma => kernel_rfl) rfl (by as_aux_lemma => kernel_rfl) rfl ?_
  refine wp_call hS rfl rfl (by decide) fn_ok_38 rfl (c_spec_FormatGraph F r15.1 r15.2 v16 hr _ (rd_of_ow (hM.get 3 rfl))) fun v w a hK hS => ?_
  obtain ⟨rfl, hN⟩ := hK
  have hM := hM.fra hN.fr
  refine ⟨hM.fr, ?_⟩
  refine tkB hS 3 15 (by as_aux_lemma => kernel_rfl) rfl rfl rfl hQp rfl (fun w' hC' => (rv_str_neq (hS.ev rfl) (hS.ev rfl))) hM.fr fun a hS => ?_
  refine tkB hS 4 31 (by as_aux_lemma => kernel_rfl) rfl rfl rfl hQp rfl (fun w' hC' => (rv_move (hS.ev rfl))) hM.fr fun a hS => ?_
  rcases ite_some hF with ⟨hc, hF⟩ | ⟨hc, hF⟩
  ·have hS := hS.setb (t := 72) rfl hc
   refine skB hS [5, 6, 7, 8] [73, 74, 75, 76] 511 22 rfl (by as_aux_lemma => kernel_rfl) hQp hM.fr fun a hS => ?_
   refine tkB hS 9 1023 (by as_aux_lemma => kernel_rfl) rfl rfl rfl hQp rfl (fun w' hC' => (rv_pick_t (hS.ev rfl) (hS.ev rfl))) hM.fr fun a hS => ?_
   refine tkB hS 10 2047 (by as_aux_lemma => kernel_rfl) rfl rfl rfl hQp rfl (fun w' hC' => (rv_move (hS.ev rfl))) hM.fr fun a hS => ?_
   refine skB hS [11, 12, 13, 14, 15, 16, 17] [79, 80, 81, 82, 83, 84, 85] 262143 13 rfl (by as_aux_lemma => kernel_rfl) hQp hM.fr fun a hS => ?_
   refine tkB hS 18 524287 (by as_aux_lemma => kernel_rfl) rfl rfl rfl hQp rfl (fun w' hC' => (rv_pick_t (hS.ev rfl) (hS.ev rfl))) hM.fr fun a hS => ?_
   refine tkB hS 19 1048575 (by as_aux_lemma => kernel_rfl) rfl rfl rfl hQp rfl (fun w' hC' => (rv_move (hS.ev rfl))) hM.fr fun a hS => ?_
   refine skB hS [20, 21, 22] [88, 89, 90] 8388607 8 rfl (by as_aux_lemma => kernel_rfl) hQp hM.fr fun a hS => ?_
   refine tkB hS 23 16777215 (by as_aux_lemma => kernel_rfl) rfl rfl rfl hQp rfl (fun w' hC' => (rv_pick_t (hS.ev rfl) (hS.ev rfl))) hM.fr fun a hS => ?_
   refine tkB hS 24 33554431 (by as_aux_lemma => kernel_rfl) rfl rfl rfl hQp rfl (fun w' hC' => (rv_move (hS.ev rfl))) hM.fr fun a hS => ?_
   refine skB hS [25, 26, 27, 28, 29] [93, 94, 95, 96, 97] 1073741823 1 rfl (by as_aux_lemma => kernel_rfl) hQp hM.fr fun a hS => ?_
   refine tkB hS 30 2147483647 (by as_aux_lemma => kernel_rfl) rfl rfl rfl hQp rfl (fun w' hC' => (rv_pick_t (hS.ev rfl) (hS.ev rfl))) hM.fr fun a hS => ?_
   refine an_done (by as_aux_lemma => kernel_rfl) ?_
   have hN := hM.pk [] (by decide) pn
   have hM := Mem.callo0 hB hN rfl
   exact hJ1 true _ _ (hS.sub (sub_cons rfl (sub_cons rfl (sub_cons rfl sub_nil)))) (hM.pk [4, 2, 3, 5] (by decide) (pc rfl (pc rfl (pc rfl (pc rfl pn))))) hF
  ·have hS := hS.setb (t := 72) rfl hc
   refine tkB hS 5 63 (by as_aux_lemma => kernel_rfl) rfl rfl rfl hQp rfl (fun w' hC' => (rv_move (hS.ev rfl))) hM.fr fun a hS => ?_
   refine tkB hS 6 127 (by as_aux_lemma => kernel_rfl) rfl rfl rfl hQp rfl (fun w' hC' => (rv_load_agg (hS.ev rfl) ty_ag_26 ((hB.fra hC').get 2 rfl) ty_sz_26)) hM.fr fun a hS => ?_
   obtain ⟨r297, hr, hF⟩ := bind_some hF
   refine an_oneB hS (i := 7) 255 (by as_aux_lemma => kernel_rfl) rfl (by as_aux_lemma => kernel_rfl) rfl ?_
   refine wp_call hS rfl rfl (by decide) fn_ok_39 rfl (c_spec_IsGraph F r15.1 r15.2 v16 hr _ (rd_of_ow (hM.get 3 rfl))) fun v w a hK hS => ?_
   obtain ⟨rfl, hN⟩ := hK
   have hM := hM.fra hN.fr
   refine ⟨hM.fr, ?_⟩
   refine tkB hS 8 511 (by as_aux_lemma => kernel_rfl) rfl rfl rfl hQp rfl (fun w' hC' => (rv_bneq Tryd.underlying4 (hS.ev rfl) (hS.ev rfl))) hM.fr fun a hS => ?_
   refine tkB hS 9 1023 (by as_aux_lemma => kernel_rfl) rfl rfl rfl hQp rfl (fun w' hC' => (rv_pick_f (hS.ev rfl) (hS.ev rfl))) hM.fr fun a hS => ?_
   refine tkB hS 10 2047 (by as_aux_lemma => kernel_rfl) rfl rfl rfl hQp rfl (fun w' hC' => (rv_move (hS.ev rfl))) hM.fr fun a hS => ?_
   rcases ite_some hF with ⟨hc, hF⟩ | ⟨hc, hF⟩
   ·have hS := hS.setb (t := 78) rfl hc
    refine skB hS [11, 12, 13, 14, 15, 16, 17] [79, 80, 81, 82, 83, 84, 85] 262143 13 rfl (by as_aux_lemma => kernel_rfl) hQp hM.fr fun a hS => ?_
    refine tkB hS 18 524287 (by as_aux_lemma => kernel_rfl) rfl rfl rfl hQp rfl (fun w' hC' => (rv_pick_t (hS.ev rfl) (hS.ev rfl))) hM.fr fun a hS => ?_
    refine tkB hS 19 1048575 (by as_aux_lemma => kernel_rfl) rfl rfl rfl hQp rfl (fun w' hC' => (rv_move (hS.ev rfl))) hM.fr fun a hS => ?_
    refine skB hS [20, 21, 22] [88, 89, 90] 8388607 8 rfl (by as_aux_lemma => kernel_rfl) hQp hM.fr fun a hS => ?_
    refine tkB hS 23 16777215 (by as_aux_lemma => kernel_rfl) rfl rfl rfl hQp rfl (fun w' hC' => (rv_pick_t (hS.ev rfl) (hS.ev rfl))) hM.fr fun a hS => ?_
    refine tkB hS 24 33554431 (by as_aux_lemma => kernel_rfl) rfl rfl rfl hQp rfl (fun w' hC' => (rv_move (hS.ev rfl))) hM.fr fun a hS => ?_
    refine skB hS [25, 26, 27, 28, 29] [93, 94, 95, 96, 97] 1073741823 1 rfl (by as_aux_lemma => kernel_rfl) hQp hM.fr fun a hS => ?_
    refine tkB hS 30 2147483647 (by as_aux_lemma => kernel_rfl) rfl rfl rfl hQp rfl (fun w' hC' => (rv_pick_t (hS.ev rfl) (hS.ev rfl))) hM.fr fun a hS => ?_
    refine an_done (by as_aux_lemma => kernel_rfl) ?_
    have hN := hM.pk [] (by decide) pn
    have hM := Mem.callo0 hB hN rfl
    exact hJ1 true _ _ (hS.sub (sub_cons rfl (sub_cons rfl (sub_cons rfl sub_nil)))) (hM.pk [4, 2, 3, 5] (by decide) (pc rfl (pc rfl (pc rfl (pc rfl pn))))) hF
   ·have hS := hS.setb (t := 78) rfl hc
    refine tkB hS 11 4095 (by as_aux_lemma => kernel_rfl) rfl rfl rfl hQp rfl (fun w' hC' => (rv_move (hS.ev rfl))) hM.fr fun a hS => ?_
    refine tkB hS 12 8191 (by as_aux_lemma => kernel_rfl) rfl rfl rfl hQp rfl (fun w' hC' => (rv_move (hS.ev rfl))) hM.fr fun a hS => ?_
    rcases ite_some hF with ⟨hc, hF⟩ | ⟨hc, hF⟩
    ·have hS := hS.setb (t := 80) rfl hc
     refine tkB hS 13 16383 (by as_aux_lemma => kernel_rfl) rfl rfl rfl hQp rfl (fun w' hC' => (rv_load_agg (hS.ev rfl) ty_ag_26 ((hB.fra hC').get 0 rfl) ty_sz_26)) hM.fr fun a hS => ?_
     refine tkB hS 14 32767 (by as_aux_lemma => kernel_rfl) rfl rfl rfl hQp rfl (fun w' hC' => (rv_load_agg (hS.ev rfl) ty_ag_26 ((hB.fra hC').get 2 rfl) ty_sz_26)) hM.fr fun a hS => ?_
     obtain ⟨r298, hr, hF⟩ := bind_some hF
     refine an_oneB hS (i := 15) 65535 (by as_aux_lemma => kernel_rfl) rfl (by as_aux_lemma => kernel_rfl) rfl ?_
     refine wp_call hS rfl rfl (by decide) fn_ok_28 rfl (c_spec_EqualGraphs F r25.1 r25.2.1 r15.1 r15.2 v26 v16 hr _ (rd_of_ow (hM.get 1 rfl)) (rd_of_ow (hM.get 3 rfl))) fun v w a hK hS => ?_
     obtain ⟨rfl, hN⟩ := hK
     have hM := hM.fra hN.fr
     refine ⟨hM.fr, ?_⟩
     refine tkB hS 16 131071 (by as_aux_lemma => kernel_rfl) rfl rfl rfl hQp rfl (fun w' hC' => (rv_not (hS.ev rfl))) hM.fr fun a hS => ?_
     refine tkB hS 17 262143 (by as_aux_lemma => kernel_rfl) rfl rfl rfl hQp rfl (fun w' hC' => (rv_pick_t (hS.ev rfl) (hS.ev rfl))) hM.fr fun a hS => ?_
     refine tkB hS 18 524287 (by as_aux_lemma => kernel_rfl) rfl rfl rfl hQp rfl (fun w' hC' => (rv_pick_f (hS.ev rfl) (hS.ev rfl))) hM.fr fun a hS => ?_
     refine tkB hS 19 1048575 (by as_aux_lemma => kernel_rfl) rfl rfl rfl hQp rfl (fun w' hC' => (rv_move (hS.ev rfl))) hM.fr fun a hS => ?_
     rcases ite_some hF with ⟨hc, hF⟩ | ⟨hc, hF⟩
     ·have hS := hS.setb (t := 87) rfl hc
      refine skB hS [20, 21, 22] [88, 89, 90] 8388607 8 rfl (by as_aux_lemma => kernel_rfl) hQp hM.fr fun a hS => ?_
      refine tkB hS 23 16777215 (by as_aux_lemma => kernel_rfl) rfl rfl rfl hQp rfl (fun w' hC' => (rv_pick_t (hS.ev rfl) (hS.ev rfl))) hM.fr fun a hS => ?_
      refine tkB hS 24 33554431 (by as_aux_lemma => kernel_rfl) rfl rfl rfl hQp rfl (fun w' hC' => (rv_move (hS.ev rfl))) hM.fr fun a hS => ?_
      refine skB hS [25, 26, 27, 28, 29] [93, 94, 95, 96, 97] 1073741823 1 rfl (by as_aux_lemma => kernel_rfl) hQp hM.fr fun a hS => ?_
      refine tkB hS 30 2147483647 (by as_aux_lemma => kernel_rfl) rfl rfl rfl hQp rfl (fun w' hC' => (rv_pick_t (hS.ev rfl) (hS.ev rfl))) hM.fr fun a hS => ?_
      refine an_done (by as_aux_lemma => kernel_rfl) ?_
      have hN := hM.pk [] (by decide) pn
      have hM := Mem.callo0 hB hN rfl
      exact hJ1 true _ _ (hS.sub (sub_cons rfl (sub_cons rfl (sub_cons rfl sub_nil)))) (hM.pk [4, 2, 3, 5] (by decide) (pc rfl (pc rfl (pc rfl (pc rfl pn))))) hF
     ·have hS := hS.setb (t := 87) rfl hc
      refine tkB hS 20 2097151 (by as_aux_lemma => kernel_rfl) rfl rfl rfl hQp rfl (fun w' hC' => (rv_move (hS.ev rfl))) hM.fr fun a hS => ?_
      refine tkB hS 21 4194303 (by as_aux_lemma => kernel_rfl) rfl rfl rfl hQp rfl (fun w' hC' => (rv_move (hS.ev rfl))) hM.fr fun a hS => ?_
      refine tkB hS 22 8388607 (by as_aux_lemma => kernel_rfl) rfl rfl rfl hQp rfl (fun w' hC' => (rv_bneq Tryd.underlying4 (hS.ev rfl) (hS.ev rfl))) hM.fr fun a hS => ?_
      refine tkB hS 23 16777215 (by as_aux_lemma => kernel_rfl) rfl rfl rfl hQp rfl (fun w' hC' => (rv_pick_f (hS.ev rfl) (hS.ev rfl))) hM.fr fun a hS => ?_
      refine tkB hS 24 33554431 (by as_aux_lemma => kernel_rfl) rfl rfl rfl hQp rfl (fun w' hC' => (rv_move (hS.ev rfl))) hM.fr fun a hS => ?_
      rcases ite_some hF with ⟨hc, hF⟩ | ⟨hc, hF⟩
      ·have hS := hS.setb (t := 92) rfl hc
       refine skB hS [25, 26, 27, 28, 29] [93, 94, 95, 96, 97] 1073741823 1 rfl (by as_aux_lemma => kernel_rfl) hQp hM.fr fun a hS => ?_
       refine tkB hS 30 2147483647 (by as_aux_lemma => kernel_rfl) rfl rfl rfl hQp rfl (fun w' hC' => (rv_pick_t (hS.ev rfl) (hS.ev rfl))) hM.fr fun a hS => ?_
       refine an_done (by as_aux_lemma => kernel_rfl) ?_
       have hN := hM.pk [] (by decide) pn
       have hM := Mem.callo0 hB hN rfl
       exact hJ1 true _ _ (hS.sub (sub_cons rfl (sub_cons rfl (sub_cons rfl sub_nil)))) (hM.pk [4, 2, 3, 5] (by decide) (pc rfl (pc rfl (pc rfl (pc rfl pn))))) hF
      ·have hS := hS.setb (t := 92) rfl hc
       refine tkB hS 25 67108863 (by as_aux_lemma => kernel_rfl) rfl rfl rfl hQp rfl (fun w' hC' => (rv_load_agg (hS.ev rfl) ty_ag_26 ((hB.fra hC').get 2 rfl) ty_sz_26)) hM.fr fun a hS => ?_
       refine tkB hS 27 201326591 (by as_aux_lemma => kernel_rfl) rfl rfl rfl hQp rfl (fun w' hC' => (rv_load_agg (hS.ev rfl) ty_ag_26 ((hB.fra hC').get 2 rfl) ty_sz_26)) hM.fr fun a hS => ?_
       obtain ⟨r299, hr, hF⟩ := bind_some hF
       refine an_oneB hS (i := 26) 268435455 (by as_aux_lemma => kernel_rfl) rfl (by as_aux_lemma => kernel_rfl) rfl ?_
       refine wp_call hS rfl rfl (by decide) fn_ok_40 rfl (c_impl_IsGraph F r15.1 r15.2 v16 hr _ (rd_of_ow (hM.get 3 rfl))) fun v w a hK hS => ?_
       obtain ⟨rfl, hN⟩ := hK
       have hM := hM.fra hN.fr
       refine ⟨hM.fr, ?_⟩
       obtain ⟨r300, hr, hF⟩ := bind_some hF
       refine an_oneB hS (i := 28) 536870911 (by as_aux_lemma => kernel_rfl) rfl (by as_aux_lemma => kernel_rfl) rfl ?_
       refine wp_call hS rfl rfl (by decide) fn_ok_39 rfl (c_spec_IsGraph F r15.1 r15.2 v16 hr _ (rd_of_ow (hM.get 3 rfl))) fun v w a hK hS => ?_
       obtain ⟨rfl, hN⟩ := hK
       have hM := hM.fra hN.fr
       refine ⟨hM.fr, ?_⟩
       refine tkB hS 29 1073741823 (by as_aux_lemma => kernel_rfl) rfl rfl rfl hQp rfl (fun w' hC' => (rv_bneq Tryd.underlying4 (hS.ev rfl) (hS.ev rfl))) hM.fr fun a hS => ?_
       refine tkB hS 30 2147483647 (by as_aux_lemma => kernel_rfl) rfl rfl rfl hQp rfl (fun w' hC' => (rv_pick_f (hS.ev rfl) (hS.ev rfl))) hM.fr fun a hS => ?_
       refine an_done (by as_aux_lemma => kernel_rfl) ?_
       have hN := hM.pk [] (by decide) pn
       have hM := Mem.callo0 hB hN rfl
       exact hJ1 (r299 != r300) _ _ (hS.sub (sub_cons rfl (sub_cons rfl (sub_cons rfl sub_nil)))) (hM.pk [4, 2, 3, 5] (by decide) (pc rfl (pc rfl (pc rfl (pc rfl pn))))) hF
    ·have hS := hS.setb (t := 80) rfl hc
     refine skB hS [13, 14, 15, 16] [81, 82, 83, 84] 131071 14 rfl (by as_aux_lemma => kernel_rfl) hQp hM.fr fun a hS => ?_
     refine tkB hS 17 262143 (by as_aux_lemma => kernel_rfl) rfl rfl rfl hQp rfl (fun w' hC' => (rv_pick_f (hS.ev rfl) (hS.ev rfl))) hM.fr fun a hS => ?_
     refine tkB hS 18 524287 (by as_aux_lemma => kernel_rfl) rfl rfl rfl hQp rfl (fun w' hC' => (rv_pick_f (hS.ev rfl) (hS.ev rfl))) hM.fr fun a hS => ?_
     refine tkB hS 19 1048575 (by as_aux_lemma => kernel_rfl) rfl rfl rfl hQp rfl (fun w' hC' => (rv_move (hS.ev rfl))) hM.fr fun a hS => ?_
     refine tkB hS 20 2097151 (by as_aux_lemma => kernel_rfl) rfl rfl rfl hQp rfl (fun w' hC' => (rv_move (hS.ev rfl))) hM.fr fun a hS => ?_
     refine tkB hS 21 4194303 (by as_aux_lemma => kernel_rfl) rfl rfl rfl hQp rfl (fun w' hC' => (rv_move (hS.ev rfl))) hM.fr fun a hS => ?_
     refine tkB hS 22 8388607 (by as_aux_lemma => kernel_rfl) rfl rfl rfl hQp rfl (fun w' hC' => (rv_bneq Tryd.underlying4 (hS.ev rfl) (hS.ev rfl))) hM.fr fun a hS => ?_
     refine tkB hS 23 16777215 (by as_aux_lemma => kernel_rfl) rfl rfl rfl hQp rfl (fun w' hC' => (rv_pick_f (hS.ev rfl) (hS.ev rfl))) hM.fr fun a hS => ?_
     refine tkB hS 24 33554431 (by as_aux_lemma => kernel_rfl) rfl rfl rfl hQp rfl (fun w' hC' => (rv_move (hS.ev rfl))) hM.fr fun a hS => ?_
     rcases ite_some hF with ⟨hc, hF⟩ | ⟨hc, hF⟩
     ·have hS := hS.setb (t := 92) rfl hc
      refine skB hS [25, 26, 27, 28, 29] [93, 94, 95, 96, 97] 1073741823 1 rfl (by as_aux_lemma => kernel_rfl) hQp hM.fr fun a hS => ?_
      refine tkB hS 30 2147483647 (by as_aux_lemma => kernel_rfl) rfl rfl rfl hQp rfl (fun w' hC' => (rv_pick_t (hS.ev rfl) (hS.ev rfl))) hM.fr fun a hS => ?_
      refine an_done (by as_aux_lemma => kernel_rfl) ?_
      have hN := hM.pk [] (by decide) pn
      have hM := Mem.callo0 hB hN rfl
      exact hJ1 true _ _ (hS.sub (sub_cons rfl (sub_cons rfl (sub_cons rfl sub_nil)))) (hM.pk [4, 2, 3, 5] (by decide) (pc rfl (pc rfl (pc rfl (pc rfl pn))))) hF
     ·have hS := hS.setb (t := 92) rfl hc
      refine tkB hS 25 67108863 (by as_aux_lemma => kernel_rfl) rfl rfl rfl hQp rfl (fun w' hC' => (rv_load_agg (hS.ev rfl) ty_ag_26 ((hB.fra hC').get 2 rfl) ty_sz_26)) hM.fr fun a hS => ?_
      refine tkB hS 27 201326591 (by as_aux_lemma => kernel_rfl) rfl rfl rfl hQp rfl (fun w' hC' => (rv_load_agg (hS.ev rfl) ty_ag_26 ((hB.fra hC').get 2 rfl) ty_sz_26)) hM.fr fun a hS => ?_
      obtain ⟨r301, hr, hF⟩ := bind_some hF
      refine an_oneB hS (i := 26) 268435455 (by as_aux_lemma => kernel_rfl) rfl (by as_aux_lemma => kernel_rfl) rfl ?_
      refine wp_call hS rfl rfl (by decide) fn_ok_40 rfl (c_impl_IsGraph F r15.1 r15.2 v16 hr _ (rd_of_ow (hM.get 3 rfl))) fun v w a hK hS => ?_
      obtain ⟨rfl, hN⟩ := hK
      have hM := hM.fra hN.fr
      refine ⟨hM.fr, ?_⟩
      obtain ⟨r302, hr, hF⟩ := bind_some hF
      refine an_oneB hS (i := 28) 536870911 (by as_aux_lemma => kernel_rfl) rfl (by as_aux_lemma => kernel_rfl) rfl ?_
      refine wp_call hS rfl rfl (by decide) fn_ok_39 rfl (c_spec_IsGraph F r15.1 r15.2 v16 hr _ (rd_of_ow (hM.get 3 rfl))) fun v w a hK hS => ?_
      obtain ⟨rfl, hN⟩ := hK
      have hM := hM.fra hN.fr
      refine ⟨hM.fr, ?_⟩
      refine tkB hS 29 1073741823 (by as_aux_lemma => kernel_rfl) rfl rfl rfl hQp rfl (fun w' hC' => (rv_bneq Tryd.underlying4 (hS.ev rfl) (hS.ev rfl))) hM.fr fun a hS => ?_
      refine tkB hS 30 2147483647 (by as_aux_lemma => kernel_rfl) rfl rfl rfl hQp rfl (fun w' hC' => (rv_pick_f (hS.ev rfl) (hS.ev rfl))) hM.fr fun a hS => ?_
      refine an_done (by as_aux_lemma => kernel_rfl) ?_
      have hN := hM.pk [] (by decide) pn
      have hM := Mem.callo0 hB hN rfl
      exact hJ1 (r301 != r302) _ _ (hS.sub (sub_cons rfl (sub_cons rfl (sub_cons rfl sub_nil)))) (hM.pk [4, 2, 3, 5] (by decide) (pc rfl (pc rfl (pc rfl (pc rfl pn))))) hF


end Go.Proofs.YtdalcpadcggklaaDoor
