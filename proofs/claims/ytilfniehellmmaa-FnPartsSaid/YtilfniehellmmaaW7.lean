/- Proved here: that each Go function does what its shallow function says -/
import Derived.Test.YtilfniehellmmaaSh
import Derived.Test.YtilfniehellmmaaTy
import Derived.Test.YtilfniehellmmaaK13
import Derived.Test.YtilfniehellmmaaW0
import Derived.Test.YtilfniehellmmaaW1
import Derived.Test.YtilfniehellmmaaW2
import Derived.Test.YtilfniehellmmaaW3
import Derived.Test.YtilfniehellmmaaW4
import Derived.Test.YtilfniehellmmaaW5
import Derived.Test.YtilfniehellmmaaW6
namespace Go.Proofs.Ytilfniehellmmaa
open Go Go.RowKit
set_option linter.unusedVariables false
set_option linter.unusedSimpArgs false
set_option maxRecDepth 100000
set_option maxHeartbeats 40000000

open Go.IntKind (i64)
open Go.Value (int)
theorem c_laws_FnParts (F : Nat) (p0_code : List Int) (p0_codev : Value) {r : Bool} (hF : S_laws_FnParts F p0_code = some r) (w0 : World) (h0 : RdRow w0 p0_codev (List.map (int IntKind.u8) p0_code)) :
    Calls Try.prog 7 [p0_codev].toArray w0 (retPost fun v w' => v = (Value.bool r) ∧ Mem Nob w0 w' []) := by
 have hM : Mem Nob w0 w0 [(false, rd p0_codev (List.map (int IntKind.u8) p0_code))] := (Mem.rcons (Mem.nil w0) h0 (by simp))
 refine enter2 Try.func7 rfl rfl rfl fun Q a hQr hQn hQp hS => ?_
 have hS : Sl 282 [(0, p0_codev)] a := hS
 unfold S_laws_FnParts at hF
 refine wp_seq_k fun K1 hK1 => ?_
 refine wp_region_lit ?_
 refine st_val hS rfl rfl (by decide) (rv_assign (hS.ev rfl)) fun a hS => ?_
 refine wpList_nil ?_
 refine hK1 _ _ ?_
 refine wp_seq_k fun K2 hK2 => ?_
 refine wp_seq_k fun K7 hK7 => ?_
 refine wp_region_lit ?_
 refine st_val hS rfl rfl (by decide) (rv_move (hS.ev rfl)) fun a hS => ?_
 obtain ⟨r9, hr, hF⟩ := bind_some hF
 refine st_wp hS rfl (wp_call hS rfl rfl (by decide) fn_ok_24 rfl (c_laws_big F p0_code p0_codev hr _ (hM.get 0 rfl)) fun v w a hK hS => ?_)
 obtain ⟨rfl, hN⟩ := hK
 have hM := hM.fra hN.fr
 refine wpList_nil ?_
 refine hK7 _ _ ?_
 rcases ite_some hF with ⟨hc, hF⟩ | ⟨hc, hF⟩
 ·refine cond_t hS rfl hc ?_
  refine wp_seq_k fun K10 hK10 => ?_
  refine wp_region_lit ?_
  refine st_val hS rfl rfl (by decide) (rv_assign (hS.ev rfl)) fun a hS => ?_
  refine wpList_nil ?_
  refine hK10 _ _ ?_
  refine wp_ret ?_
  cases hF
  exact hQr _ _ (r_1 hS rfl rfl ⟨rfl, hM.pick [] (by decide) rfl⟩)
 ·refine cond_f hS rfl hc ?_
  refine wp_skip ?_
  refine hK2 _ _ ?_
  refine wp_seq_k fun K11 hK11 => ?_
  refine wp_region_lit ?_
  refine st_val hS rfl rfl (by decide) (rv_move (hS.ev rfl)) fun a hS => ?_
  obtain ⟨r15, hr, hF⟩ := bind_some hF
  refine st_wp hS rfl (wp_call hS rfl rfl (by decide) fn_ok_25 rfl (c_spec_DrawFindHole F p0_code p0_codev hr _ (hM.get 0 rfl)) fun v w a hK hS => ?_)
  obtain ⟨v16, rfl, hN⟩ := hK
  have hM := hM.add hN rfl
  obtain ⟨b17, w, hr, hM⟩ := hM.allocE (ρ := a.eval) (dst := some 3) (ty := _) (pos := _) (af := _) (gd := _) (T := 28) (P := Try.prog) [(int i64 0), (Value.slice none 0 0)] ty_zr_28 rfl
  refine st_val hS rfl rfl (by decide) hr fun a hS => ?_
  have hM := hM.addNil 3
  have hM := hM.pick [1, 0, 2, 3] (by decide) rfl
  obtain ⟨w, hr, hM⟩ := hM.st_agg (us := [(int i64 r15.1), v16]) (ρ := a.eval) (dst := none) (ty := _) (pos := _) (af := _) (gd := _) (x := .tmp 3) (y := .tmp 40) (hS.ev rfl) (hS.ev rfl) ty_sz_28 (all1_cons rfl (all1_cons (rd_one (rd_of_ow (hM.get 2 rfl))) all1_nil)) rfl
  refine st_unit hS rfl rfl hr ?_
  refine wpList_nil ?_
  refine hK11 _ _ ?_
  refine wp_seq_k fun K18 hK18 => ?_
  refine wp_region_lit ?_
  refine st_val hS rfl rfl (by decide) (rv_load_agg (hS.ev rfl) ty_ag_28 (hM.get 0 rfl) ty_sz_28) fun a hS => ?_
  obtain ⟨r21, hr, hF⟩ := bind_some hF
  refine st_wp hS rfl (wp_call hS rfl rfl (by decide) fn_ok_23 rfl (c_impl_FindHole F r15.1 r15.2 v16 hr _ (rd_of_ow (hM.get 2 rfl))) fun v w a hK hS => ?_)
  obtain ⟨v22, rfl, hN⟩ := hK
  have hM := hM.add hN rfl
  refine st_val hS rfl rfl (by decide) (rv_move (hS.ev rfl)) fun a hS => ?_
  refine st_val hS rfl rfl (by decide) (rv_extract (hS.ev rfl) rfl) fun a hS => ?_
  refine st_val hS rfl rfl (by decide) (rv_extract (hS.ev rfl) rfl) fun a hS => ?_
  refine st_val hS rfl rfl (by decide) (rv_assign (hS.ev rfl)) fun a hS => ?_
  refine st_val hS rfl rfl (by decide) (rv_assign (hS.ev rfl)) fun a hS => ?_
  refine wpList_nil ?_
  refine hK18 _ _ ?_
  have hS : Sl 282 [(0, p0_codev), (3, (fdp b17 0)), (4, v22), (5, (Value.bool r21.2))] a := hS.sub (sub_cons rfl (sub_cons rfl (sub_cons rfl (sub_cons rfl sub_nil))))
  have hM := hM.pick [0, 1, 3, 4] (by decide) rfl
  refine wp_seq_k fun K23 hK23 => ?_
  refine wp_region_lit ?_
  refine st_val hS rfl rfl (by decide) (rv_load_agg (hS.ev rfl) ty_ag_28 (hM.get 1 rfl) ty_sz_28) fun a hS => ?_
  obtain ⟨r26, hr, hF⟩ := bind_some hF
  refine st_wp hS rfl (wp_call hS rfl rfl (by decide) fn_ok_22 rfl (c_spec_FindHole F r15.1 r15.2 v16 hr _ (rd_of_ow (hM.get 2 rfl))) fun v w a hK hS => ?_)
  obtain ⟨v27, rfl, hN⟩ := hK
  have hM := hM.add hN rfl
  refine st_val hS rfl rfl (by decide) (rv_move (hS.ev rfl)) fun a hS => ?_
  refine st_val hS rfl rfl (by decide) (rv_extract (hS.ev rfl) rfl) fun a hS => ?_
  refine st_val hS rfl rfl (by decide) (rv_extract (hS.ev rfl) rfl) fun a hS => ?_
  refine st_val hS rfl rfl (by decide) (rv_assign (hS.ev rfl)) fun a hS => ?_
  refine st_val hS rfl rfl (by decide) (rv_assign (hS.ev rfl)) fun a hS => ?_
  refine wpList_nil ?_
  refine hK23 _ _ ?_
  refine wp_seq_k fun K28 hK28 => ?_
  refine wp_seq_k fun K42 hK42 => ?_
  have hJ1 : ∀ (p48 : Bool) (a : Act) (w : World), Sl 282 [(0, p0_codev), (75, (Value.bool p48))] a → Mem Nob w0 w [(false, rd p0_codev (List.map (int IntKind.u8) p0_code))] → S_laws_FnParts_j1 F p0_code p48 = some r → K42 a w := by
   intro p48 a w hS hM hF
   unfold S_laws_FnParts_j1 at hF
   refine hK42 _ _ ?_
   rcases ite_some hF with ⟨hc, hF⟩ | ⟨hc, hF⟩
   ·refine cond_t hS rfl hc ?_
    refine wp_seq_k fun K49 hK49 => ?_
    refine wp_region_lit ?_
    refine st_val hS rfl rfl (by decide) (rv_assign (hS.ev rfl)) fun a hS => ?_
    refine wpList_nil ?_
    refine hK49 _ _ ?_
    refine wp_ret ?_
    cases hF
    exact hQr _ _ (r_1 hS rfl rfl ⟨rfl, hM.pick [] (by decide) rfl⟩)
   ·refine cond_f hS rfl hc ?_
    refine wp_skip ?_
    refine hK28 _ _ ?_
    refine wp_seq_k fun K50 hK50 => ?_
    refine wp_region_lit ?_
    refine st_val hS rfl rfl (by decide) (rv_move (hS.ev rfl)) fun a hS => ?_
    obtain ⟨r54, hr, hF⟩ := bind_some hF
    refine st_wp hS rfl (wp_call hS rfl rfl (by decide) fn_ok_29 rfl (c_spec_DrawFindInducedPath F p0_code p0_codev hr _ (hM.get 0 rfl)) fun v w a hK hS => ?_)
    obtain ⟨v55, rfl, hN⟩ := hK
    have hM := hM.add hN rfl
    refine st_val hS rfl rfl (by decide) (rv_move (hS.ev rfl)) fun a hS => ?_
    refine st_val hS rfl rfl (by decide) (rv_extract (hS.ev rfl) rfl) fun a hS => ?_
    refine st_val hS rfl rfl (by decide) (rv_extract (hS.ev rfl) rfl) fun a hS => ?_
    obtain ⟨b56, w, hr, hM⟩ := hM.allocE (ρ := a.eval) (dst := some 8) (ty := _) (pos := _) (af := _) (gd := _) (T := 28) (P := Try.prog) [(int i64 0), (Value.slice none 0 0)] ty_zr_28 rfl
    refine st_val hS rfl rfl (by decide) hr fun a hS => ?_
    have hM := hM.addNil 3
    have hM := hM.pick [1, 0, 2, 3] (by decide) rfl
    obtain ⟨w, hr, hM⟩ := hM.st_agg (us := [(int i64 r54.1), v55]) (ρ := a.eval) (dst := none) (ty := _) (pos := _) (af := _) (gd := _) (x := .tmp 8) (y := .tmp 79) (hS.ev rfl) (hS.ev rfl) ty_sz_28 (all1_cons rfl (all1_cons (rd_one (rd_of_ow (hM.get 2 rfl))) all1_nil)) rfl
    refine st_unit hS rfl rfl hr ?_
    refine st_val hS rfl rfl (by decide) (rv_assign (hS.ev rfl)) fun a hS => ?_
    refine wpList_nil ?_
    refine hK50 _ _ ?_
    refine wp_seq_k fun K57 hK57 => ?_
    refine wp_region_lit ?_
    refine st_val hS rfl rfl (by decide) (rv_load_agg (hS.ev rfl) ty_ag_28 (hM.get 0 rfl) ty_sz_28) fun a hS => ?_
    refine st_val hS rfl rfl (by decide) (rv_move (hS.ev rfl)) fun a hS => ?_
    obtain ⟨r60, hr, hF⟩ := bind_some hF
    refine st_wp hS rfl (wp_call hS rfl rfl (by decide) fn_ok_21 rfl (c_impl_FindInducedPath F r54.1 r54.2.1 r54.2.2 v55 hr _ (rd_of_ow (hM.get 2 rfl))) fun v w a hK hS => ?_)
    obtain ⟨v61, rfl, hN⟩ := hK
    have hM := hM.add hN rfl
    refine st_val hS rfl rfl (by decide) (rv_move (hS.ev rfl)) fun a hS => ?_
    refine st_val hS rfl rfl (by decide) (rv_extract (hS.ev rfl) rfl) fun a hS => ?_
    refine st_val hS rfl rfl (by decide) (rv_extract (hS.ev rfl) rfl) fun a hS => ?_
    refine st_val hS rfl rfl (by decide) (rv_assign (hS.ev rfl)) fun a hS => ?_
    refine st_val hS rfl rfl (by decide) (rv_assign (hS.ev rfl)) fun a hS => ?_
    refine wpList_nil ?_
    refine hK57 _ _ ?_
    have hS : Sl 282 [(0, p0_codev), (8, (fdp b56 0)), (9, (int i64 r54.2.2)), (10, v61), (11, (Value.bool r60.2))] a := hS.sub (sub_cons rfl (sub_cons rfl (sub_cons rfl (sub_cons rfl (sub_cons rfl sub_nil)))))
    have hM := hM.pick [0, 1, 3, 4] (by decide) rfl
    refine wp_seq_k fun K62 hK62 => ?_
    refine wp_region_lit ?_
    refine st_val hS rfl rfl (by decide) (rv_load_agg (hS.ev rfl) ty_ag_28 (hM.get 1 rfl) ty_sz_28) fun a hS => ?_
    refine st_val hS rfl rfl (by decide) (rv_move (hS.ev rfl)) fun a hS => ?_
    obtain ⟨r65, hr, hF⟩ := bind_some hF
    refine st_wp hS rfl (wp_call hS rfl rfl (by decide) fn_ok_20 rfl (c_spec_FindInducedPath F r54.1 r54.2.1 r54.2.2 v55 hr _ (rd_of_ow (hM.get 2 rfl))) fun v w a hK hS => ?_)
    obtain ⟨v66, rfl, hN⟩ := hK
    have hM := hM.add hN rfl
    refine st_val hS rfl rfl (by decide) (rv_move (hS.ev rfl)) fun a hS => ?_
    refine st_val hS rfl rfl (by decide) (rv_extract (hS.ev rfl) rfl) fun a hS => ?_
    refine st_val hS rfl rfl (by decide) (rv_extract (hS.ev rfl) rfl) fun a hS => ?_
    refine st_val hS rfl rfl (by decide) (rv_assign (hS.ev rfl)) fun a hS => ?_
    refine st_val hS rfl rfl (by decide) (rv_assign (hS.ev rfl)) fun a hS => ?_
    refine wpList_nil ?_
    refine hK62 _ _ ?_
    refine wp_seq_k fun K67 hK67 => ?_
    refine wp_seq_k fun K75 hK75 => ?_
    have hJ2 : ∀ (p78 : Bool) (a : Act) (w : World), Sl 282 [(0, p0_codev), (8, (fdp b56 0)), (9, (int i64 r54.2.2)), (11, (Value.bool r60.2)), (116, (Value.bool p78))] a → Mem Nob w0 w [(false, rd p0_codev (List.map (int IntKind.u8) p0_code)), (true, bx b56 28 [(int i64 r54.1), v55]), (true, ow 3 v55 (List.map (int i64) r54.2.1))] → S_laws_FnParts_j2 F p0_code r54 r60 p78 = some r → K75 a w := by
     intro p78 a w hS hM hF
     unfold S_laws_FnParts_j2 at hF
     refine hK75 _ _ ?_
     rcases ite_some hF with ⟨hc, hF⟩ | ⟨hc, hF⟩
     ·refine cond_t hS rfl hc ?_
      refine wp_seq_k fun K79 hK79 => ?_
      refine wp_region_lit ?_
      refine st_val hS rfl rfl (by decide) (rv_assign (hS.ev rfl)) fun a hS => ?_
      refine wpList_nil ?_
      refine hK79 _ _ ?_
      have hS : Sl 282 [(2, (Value.bool false))] a := hS.sub (sub_cons rfl sub_nil)
      have hM := hM.pick [] (by decide) rfl
      refine wp_ret ?_
      cases hF
      exact hQr _ _ (r_1 hS rfl rfl ⟨rfl, hM.pick [] (by decide) rfl⟩)
     ·refine cond_f hS rfl hc ?_
      refine wp_skip ?_
      refine hK67 _ _ ?_
      refine wp_seq_k fun K80 hK80 => ?_
      refine wp_region_lit ?_
      refine st_val hS rfl rfl (by decide) (rv_load_agg (hS.ev rfl) ty_ag_28 (hM.get 1 rfl) ty_sz_28) fun a hS => ?_
      refine st_val hS rfl rfl (by decide) (rv_move (hS.ev rfl)) fun a hS => ?_
      refine st_val hS rfl rfl (by decide) (rv_add (hS.ev rfl) (hS.ev rfl)) fun a hS => ?_
      obtain ⟨r83, hr, hF⟩ := bind_some hF
      refine st_wp hS rfl (wp_call hS rfl rfl (by decide) fn_ok_20 rfl (c_spec_FindInducedPath F r54.1 r54.2.1 (i64.wrap (r54.2.2 + 1)) v55 hr _ (rd_of_ow (hM.get 2 rfl))) fun v w a hK hS => ?_)
      obtain ⟨v84, rfl, hN⟩ := hK
      have hM := hM.add hN rfl
      refine st_val hS rfl rfl (by decide) (rv_move (hS.ev rfl)) fun a hS => ?_
      refine st_val hS rfl rfl (by decide) (rv_extract (hS.ev rfl) rfl) fun a hS => ?_
      refine st_val hS rfl rfl (by decide) (rv_extract (hS.ev rfl) rfl) fun a hS => ?_
      refine st_val hS rfl rfl (by decide) (rv_assign (hS.ev rfl)) fun a hS => ?_
      refine st_val hS rfl rfl (by decide) (rv_assign (hS.ev rfl)) fun a hS => ?_
      refine wpList_nil ?_
      refine hK80 _ _ ?_
      have hS : Sl 282 [(0, p0_codev), (9, (int i64 r54.2.2)), (11, (Value.bool r60.2)), (15, (Value.bool r83.2))] a := hS.sub (sub_cons rfl (sub_cons rfl (sub_cons rfl (sub_cons rfl sub_nil))))
      have hM := hM.pick [1] (by decide) rfl
      refine wp_seq_k fun K85 hK85 => ?_
      refine wp_seq_k fun K89 hK89 => ?_
      have hJ3 : ∀ (p90 : Bool) (a : Act) (w : World), Sl 282 [(0, p0_codev), (132, (Value.bool p90))] a → Mem Nob w0 w [(false, rd p0_codev (List.map (int IntKind.u8) p0_code))] → S_laws_FnParts_j3 F p0_code p90 = some r → K89 a w := by
       intro p90 a w hS hM hF
       unfold S_laws_FnParts_j3 at hF
       refine hK89 _ _ ?_
       rcases ite_some hF with ⟨hc, hF⟩ | ⟨hc, hF⟩
       ·refine cond_t hS rfl hc ?_
        refine wp_seq_k fun K91 hK91 => ?_
        refine wp_region_lit ?_
        refine st_val hS rfl rfl (by decide) (rv_assign (hS.ev rfl)) fun a hS => ?_
        refine wpList_nil ?_
        refine hK91 _ _ ?_
        refine wp_ret ?_
        cases hF
        exact hQr _ _ (r_1 hS rfl rfl ⟨rfl, hM.pick [] (by decide) rfl⟩)
       ·refine cond_f hS rfl hc ?_
        refine wp_skip ?_
        refine hK85 _ _ ?_
        refine wp_seq_k fun K92 hK92 => ?_
        refine wp_region_lit ?_
        refine st_val hS rfl rfl (by decide) (rv_move (hS.ev rfl)) fun a hS => ?_
        obtain ⟨r96, hr, hF⟩ := bind_some hF
        refine st_wp hS rfl (wp_call hS rfl rfl (by decide) fn_ok_31 rfl (c_spec_DrawFindTwoEdges F p0_code p0_codev hr _ (hM.get 0 rfl)) fun v w a hK hS => ?_)
        obtain ⟨v97, rfl, hN⟩ := hK
        have hM := hM.add hN rfl
        obtain ⟨b98, w, hr, hM⟩ := hM.allocE (ρ := a.eval) (dst := some 16) (ty := _) (pos := _) (af := _) (gd := _) (T := 28) (P := Try.prog) [(int i64 0), (Value.slice none 0 0)] ty_zr_28 rfl
        refine st_val hS rfl rfl (by decide) hr fun a hS => ?_
        have hM := hM.addNil 3
        have hM := hM.pick [1, 0, 2, 3] (by decide) rfl
        obtain ⟨w, hr, hM⟩ := hM.st_agg (us := [(int i64 r96.1), v97]) (ρ := a.eval) (dst := none) (ty := _) (pos := _) (af := _) (gd := _) (x := .tmp 16) (y := .tmp 134) (hS.ev rfl) (hS.ev rfl) ty_sz_28 (all1_cons rfl (all1_cons (rd_one (rd_of_ow (hM.get 2 rfl))) all1_nil)) rfl
        refine st_unit hS rfl rfl hr ?_
        refine wpList_nil ?_
        refine hK92 _ _ ?_
        refine wp_seq_k fun K99 hK99 => ?_
        refine wp_region_lit ?_
        refine st_val hS rfl rfl (by decide) (rv_load_agg (hS.ev rfl) ty_ag_28 (hM.get 0 rfl) ty_sz_28) fun a hS => ?_
        obtain ⟨r102, hr, hF⟩ := bind_some hF
        refine st_wp hS rfl (wp_call hS rfl rfl (by decide) fn_ok_19 rfl (c_impl_FindTwoEdges F r96.1 r96.2 v97 hr _ (rd_of_ow (hM.get 2 rfl))) fun v w a hK hS => ?_)
        obtain ⟨v103, rfl, hN⟩ := hK
        have hM := hM.add hN rfl
        refine st_val hS rfl rfl (by decide) (rv_move (hS.ev rfl)) fun a hS => ?_
        refine st_val hS rfl rfl (by decide) (rv_extract (hS.ev rfl) rfl) fun a hS => ?_
        refine st_val hS rfl rfl (by decide) (rv_extract (hS.ev rfl) rfl) fun a hS => ?_
        refine st_val hS rfl rfl (by decide) (rv_assign (hS.ev rfl)) fun a hS => ?_
        refine st_val hS rfl rfl (by decide) (rv_assign (hS.ev rfl)) fun a hS => ?_
        refine wpList_nil ?_
        refine hK99 _ _ ?_
        have hS : Sl 282 [(0, p0_codev), (16, (fdp b98 0)), (17, v103), (18, (Value.bool r102.2))] a := hS.sub (sub_cons rfl (sub_cons rfl (sub_cons rfl (sub_cons rfl sub_nil))))
        have hM := hM.pick [0, 1, 3, 4] (by decide) rfl
        refine wp_seq_k fun K104 hK104 => ?_
        refine wp_region_lit ?_
        refine st_val hS rfl rfl (by decide) (rv_load_agg (hS.ev rfl) ty_ag_28 (hM.get 1 rfl) ty_sz_28) fun a hS => ?_
        obtain ⟨r107, hr, hF⟩ := bind_some hF
        refine st_wp hS rfl (wp_call hS rfl rfl (by decide) fn_ok_18 rfl (c_spec_FindTwoEdges F r96.1 r96.2 v97 hr _ (rd_of_ow (hM.get 2 rfl))) fun v w a hK hS => ?_)
        obtain ⟨v108, rfl, hN⟩ := hK
        have hM := hM.add hN rfl
        refine st_val hS rfl rfl (by decide) (rv_move (hS.ev rfl)) fun a hS => ?_
        refine st_val hS rfl rfl (by decide) (rv_extract (hS.ev rfl) rfl) fun a hS => ?_
        refine st_val hS rfl rfl (by decide) (rv_extract (hS.ev rfl) rfl) fun a hS => ?_
        refine st_val hS rfl rfl (by decide) (rv_assign (hS.ev rfl)) fun a hS => ?_
        refine st_val hS rfl rfl (by decide) (rv_assign (hS.ev rfl)) fun a hS => ?_
        refine wpList_nil ?_
        refine hK104 _ _ ?_
        refine wp_seq_k fun K109 hK109 => ?_
        refine wp_region_lit ?_
        refine st_val hS rfl rfl (by decide) (rv_load_agg (hS.ev rfl) ty_ag_28 (hM.get 2 rfl) ty_sz_28) fun a hS => ?_
        obtain ⟨r113, hr, hF⟩ := bind_some hF
        refine st_wp hS rfl (wp_call hS rfl rfl (by decide) fn_ok_32 rfl (c_spec_ComplementOf F r96.1 r96.2 v97 hr _ (rd_of_ow (hM.get 3 rfl))) fun v w a hK hS => ?_)
        obtain ⟨v114, rfl, hN⟩ := hK
        have hM := hM.add hN rfl
        refine st_val hS rfl rfl (by decide) (rv_move (hS.ev rfl)) fun a hS => ?_
        refine st_val hS rfl rfl (by decide) (rv_extract (hS.ev rfl) rfl) fun a hS => ?_
        refine st_val hS rfl rfl (by decide) (rv_extract (hS.ev rfl) rfl) fun a hS => ?_
        obtain ⟨b115, w, hr, hM⟩ := hM.allocE (ρ := a.eval) (dst := some 21) (ty := _) (pos := _) (af := _) (gd := _) (T := 28) (P := Try.prog) [(int i64 0), (Value.slice none 0 0)] ty_zr_28 rfl
        refine st_val hS rfl rfl (by decide) hr fun a hS => ?_
        have hM := hM.addNil 3
        have hM := hM.pick [1, 0, 2, 3, 4, 5, 6, 7] (by decide) rfl
        obtain ⟨w, hr, hM⟩ := hM.st_agg (us := [(int i64 r113.1), v114]) (ρ := a.eval) (dst := none) (ty := _) (pos := _) (af := _) (gd := _) (x := .tmp 21) (y := .tmp 148) (hS.ev rfl) (hS.ev rfl) ty_sz_28 (all1_cons rfl (all1_cons (rd_one (rd_of_ow (hM.get 2 rfl))) all1_nil)) rfl
        refine st_unit hS rfl rfl hr ?_
        refine st_val hS rfl rfl (by decide) (rv_assign (hS.ev rfl)) fun a hS => ?_
        refine wpList_nil ?_
        refine hK109 _ _ ?_
        have hS : Sl 282 [(0, p0_codev), (16, (fdp b98 0)), (17, v103), (18, (Value.bool r102.2)), (19, v108), (20, (Value.bool r107.2)), (21, (fdp b115 0)), (22, (Value.bool r113.2.2))] a := hS.sub (sub_cons rfl (sub_cons rfl (sub_cons rfl (sub_cons rfl (sub_cons rfl (sub_cons rfl (sub_cons rfl (sub_cons rfl sub_nil))))))))
        have hM := hM.pick [0, 2, 3, 4, 5, 6, 7] (by decide) rfl
        refine wp_seq_k fun K116 hK116 => ?_
        refine wp_seq_k fun K136 hK136 => ?_
        have hJ4 : ∀ (p145 : Bool) (a : Act) (w : World), Sl 282 [(0, p0_codev), (188, (Value.bool p145))] a → Mem Nob w0 w [(false, rd p0_codev (List.map (int IntKind.u8) p0_code))] → S_laws_FnParts_j4 F p0_code p145 = some r → K136 a w := by
         intro p145 a w hS hM hF
         unfold S_laws_FnParts_j4 at hF
         refine hK136 _ _ ?_
         rcases ite_some hF with ⟨hc, hF⟩ | ⟨hc, hF⟩
         ·refine cond_t hS rfl hc ?_
          refine wp_seq_k fun K146 hK146 => ?_
          refine wp_region_lit ?_
          refine st_val hS rfl rfl (by decide) (rv_assign (hS.ev rfl)) fun a hS => ?_
          refine wpList_nil ?_
          refine hK146 _ _ ?_
          refine wp_ret ?_
          cases hF
          exact hQr _ _ (r_1 hS rfl rfl ⟨rfl, hM.pick [] (by decide) rfl⟩)
         ·refine cond_f hS rfl hc ?_
          refine wp_skip ?_
          refine hK116 _ _ ?_
          refine wp_seq_k fun K147 hK147 => ?_
          refine wp_region_lit ?_
          refine st_val hS rfl rfl (by decide) (rv_move (hS.ev rfl)) fun a hS => ?_
          obtain ⟨r151, hr, hF⟩ := bind_some hF
          refine st_wp hS rfl (wp_call hS rfl rfl (by decide) fn_ok_34 rfl (c_spec_DrawFindClaw F p0_code p0_codev hr _ (hM.get 0 rfl)) fun v w a hK hS => ?_)
          obtain ⟨v152, rfl, hN⟩ := hK
          have hM := hM.add hN rfl
          obtain ⟨b153, w, hr, hM⟩ := hM.allocE (ρ := a.eval) (dst := some 23) (ty := _) (pos := _) (af := _) (gd := _) (T := 28) (P := Try.prog) [(int i64 0), (Value.slice none 0 0)] ty_zr_28 rfl
          refine st_val hS rfl rfl (by decide) hr fun a hS => ?_
          have hM := hM.addNil 3
          have hM := hM.pick [1, 0, 2, 3] (by decide) rfl
          obtain ⟨w, hr, hM⟩ := hM.st_agg (us := [(int i64 r151.1), v152]) (ρ := a.eval) (dst := none) (ty := _) (pos := _) (af := _) (gd := _) (x := .tmp 23) (y := .tmp 190) (hS.ev rfl) (hS.ev rfl) ty_sz_28 (all1_cons rfl (all1_cons (rd_one (rd_of_ow (hM.get 2 rfl))) all1_nil)) rfl
          refine st_unit hS rfl rfl hr ?_
          refine wpList_nil ?_
          refine hK147 _ _ ?_
          refine wp_seq_k fun K154 hK154 => ?_
          refine wp_region_lit ?_
          refine st_val hS rfl rfl (by decide) (rv_load_agg (hS.ev rfl) ty_ag_28 (hM.get 0 rfl) ty_sz_28) fun a hS => ?_
          obtain ⟨r157, hr, hF⟩ := bind_some hF
          refine st_wp hS rfl (wp_call hS rfl rfl (by decide) fn_ok_12 rfl (c_impl_FindClaw F r151.1 r151.2 v152 hr _ (rd_of_ow (hM.get 2 rfl))) fun v w a hK hS => ?_)
          obtain ⟨v158, rfl, hN⟩ := hK
          have hM := hM.add hN rfl
          refine st_val hS rfl rfl (by decide) (rv_move (hS.ev rfl)) fun a hS => ?_
          refine st_val hS rfl rfl (by decide) (rv_extract (hS.ev rfl) rfl) fun a hS => ?_
          refine st_val hS rfl rfl (by decide) (rv_extract (hS.ev rfl) rfl) fun a hS => ?_
          refine st_val hS rfl rfl (by decide) (rv_assign (hS.ev rfl)) fun a hS => ?_
          refine st_val hS rfl rfl (by decide) (rv_assign (hS.ev rfl)) fun a hS => ?_
          refine wpList_nil ?_
          refine hK154 _ _ ?_
          have hS : Sl 282 [(0, p0_codev), (23, (fdp b153 0)), (24, v158), (25, (Value.bool r157.2))] a := hS.sub (sub_cons rfl (sub_cons rfl (sub_cons rfl (sub_cons rfl sub_nil))))
          have hM := hM.pick [0, 1, 3, 4] (by decide) rfl
          refine wp_seq_k fun K159 hK159 => ?_
          refine wp_region_lit ?_
          refine st_val hS rfl rfl (by decide) (rv_load_agg (hS.ev rfl) ty_ag_28 (hM.get 1 rfl) ty_sz_28) fun a hS => ?_
          obtain ⟨r162, hr, hF⟩ := bind_some hF
          refine st_wp hS rfl (wp_call hS rfl rfl (by decide) fn_ok_10 rfl (c_spec_FindClaw F r151.1 r151.2 v152 hr _ (rd_of_ow (hM.get 2 rfl))) fun v w a hK hS => ?_)
          obtain ⟨v163, rfl, hN⟩ := hK
          have hM := hM.add hN rfl
          refine st_val hS rfl rfl (by decide) (rv_move (hS.ev rfl)) fun a hS => ?_
          refine st_val hS rfl rfl (by decide) (rv_extract (hS.ev rfl) rfl) fun a hS => ?_
          refine st_val hS rfl rfl (by decide) (rv_extract (hS.ev rfl) rfl) fun a hS => ?_
          refine st_val hS rfl rfl (by decide) (rv_assign (hS.ev rfl)) fun a hS => ?_
          refine st_val hS rfl rfl (by decide) (rv_assign (hS.ev rfl)) fun a hS => ?_
          refine wpList_nil ?_
          refine hK159 _ _ ?_
          refine wp_seq_k fun K164 hK164 => ?_
          refine wp_seq_k fun K172 hK172 => ?_
          have hJ5 : ∀ (p175 : Bool) (a : Act) (w : World), Sl 282 [(0, p0_codev), (218, (Value.bool p175))] a → Mem Nob w0 w [(false, rd p0_codev (List.map (int IntKind.u8) p0_code))] → S_laws_FnParts_j5 F p0_code p175 = some r → K172 a w := by
           intro p175 a w hS hM hF
           unfold S_laws_FnParts_j5 at hF
           refine hK172 _ _ ?_
           rcases ite_some hF with ⟨hc, hF⟩ | ⟨hc, hF⟩
           ·refine cond_t hS rfl hc ?_
            refine wp_seq_k fun K176 hK176 => ?_
            refine wp_region_lit ?_
            refine st_val hS rfl rfl (by decide) (rv_assign (hS.ev rfl)) fun a hS => ?_
            refine wpList_nil ?_
            refine hK176 _ _ ?_
            refine wp_ret ?_
            cases hF
            exact hQr _ _ (r_1 hS rfl rfl ⟨rfl, hM.pick [] (by decide) rfl⟩)
           ·refine cond_f hS rfl hc ?_
            refine wp_skip ?_
            refine hK164 _ _ ?_
            refine wp_seq_k fun K177 hK177 => ?_
            refine wp_region_lit ?_
            refine st_val hS rfl rfl (by decide) (rv_move (hS.ev rfl)) fun a hS => ?_
            obtain ⟨r182, hr, hF⟩ := bind_some hF
            refine st_wp hS rfl (wp_call hS rfl rfl (by decide) fn_ok_36 rfl (c_spec_DrawIsInducedPath F p0_code p0_codev hr _ (hM.get 0 rfl)) fun v w a hK hS => ?_)
            obtain ⟨v183, v184, rfl, hN⟩ := hK
            have hM := hM.add hN rfl
            refine st_val hS rfl rfl (by decide) (rv_move (hS.ev rfl)) fun a hS => ?_
            refine st_val hS rfl rfl (by decide) (rv_extract (hS.ev rfl) rfl) fun a hS => ?_
            refine st_val hS rfl rfl (by decide) (rv_extract (hS.ev rfl) rfl) fun a hS => ?_
            obtain ⟨b185, w, hr, hM⟩ := hM.allocE (ρ := a.eval) (dst := some 28) (ty := _) (pos := _) (af := _) (gd := _) (T := 28) (P := Try.prog) [(int i64 0), (Value.slice none 0 0)] ty_zr_28 rfl
            refine st_val hS rfl rfl (by decide) hr fun a hS => ?_
            have hM := hM.addNil 3
            have hM := hM.pick [1, 0, 2, 3, 4] (by decide) rfl
            obtain ⟨w, hr, hM⟩ := hM.st_agg (us := [(int i64 r182.1), v183]) (ρ := a.eval) (dst := none) (ty := _) (pos := _) (af := _) (gd := _) (x := .tmp 28) (y := .tmp 222) (hS.ev rfl) (hS.ev rfl) ty_sz_28 (all1_cons rfl (all1_cons (rd_one (rd_of_ow (hM.get 2 rfl))) all1_nil)) rfl
            refine st_unit hS rfl rfl hr ?_
            refine st_val hS rfl rfl (by decide) (rv_assign (hS.ev rfl)) fun a hS => ?_
            refine wpList_nil ?_
            refine hK177 _ _ ?_
            refine wp_seq_k fun K186 hK186 => ?_
            refine wp_region_lit ?_
            refine st_val hS rfl rfl (by decide) (rv_move (hS.ev rfl)) fun a hS => ?_
            obtain ⟨r191, hr, hF⟩ := bind_some hF
            refine st_wp hS rfl (wp_call hS rfl rfl (by decide) fn_ok_37 rfl (c_spec_DrawIsHole F p0_code p0_codev hr _ (hM.get 4 rfl)) fun v w a hK hS => ?_)
            obtain ⟨v192, v193, rfl, hN⟩ := hK
            have hM := hM.add hN rfl
            refine st_val hS rfl rfl (by decide) (rv_move (hS.ev rfl)) fun a hS => ?_
            refine st_val hS rfl rfl (by decide) (rv_extract (hS.ev rfl) rfl) fun a hS => ?_
            refine st_val hS rfl rfl (by decide) (rv_extract (hS.ev rfl) rfl) fun a hS => ?_
            obtain ⟨b194, w, hr, hM⟩ := hM.allocE (ρ := a.eval) (dst := some 30) (ty := _) (pos := _) (af := _) (gd := _) (T := 28) (P := Try.prog) [(int i64 0), (Value.slice none 0 0)] ty_zr_28 rfl
            refine st_val hS rfl rfl (by decide) hr fun a hS => ?_
            have hM := hM.addNil 3
            have hM := hM.pick [1, 0, 2, 3, 4, 5, 6, 7, 8] (by decide) rfl
            obtain ⟨w, hr, hM⟩ := hM.st_agg (us := [(int i64 r191.1), v192]) (ρ := a.eval) (dst := none) (ty := _) (pos := _) (af := _) (gd := _) (x := .tmp 30) (y := .tmp 227) (hS.ev rfl) (hS.ev rfl) ty_sz_28 (all1_cons rfl (all1_cons (rd_one (rd_of_ow (hM.get 2 rfl))) all1_nil)) rfl
            refine st_unit hS rfl rfl hr ?_
            refine st_val hS rfl rfl (by decide) (rv_assign (hS.ev rfl)) fun a hS => ?_
            refine wpList_nil ?_
            refine hK186 _ _ ?_
            have hS : Sl 282 [(0, p0_codev), (28, (fdp b185 0)), (29, v184), (30, (fdp b194 0)), (31, v193)] a := hS.sub (sub_cons rfl (sub_cons rfl (sub_cons rfl (sub_cons rfl (sub_cons rfl sub_nil)))))
            have hM := hM.pick [0, 2, 3, 4, 6, 7, 8] (by decide) rfl
            refine wp_seq_k fun K195 hK195 => ?_
            refine wp_region_lit ?_
            refine st_val hS rfl rfl (by decide) (rv_move (hS.ev rfl)) fun a hS => ?_
            obtain ⟨r200, hr, hF⟩ := bind_some hF
            refine st_wp hS rfl (wp_call hS rfl rfl (by decide) fn_ok_38 rfl (c_spec_DrawIsClaw F p0_code p0_codev hr _ (hM.get 6 rfl)) fun v w a hK hS => ?_)
            obtain ⟨v201, v202, rfl, hN⟩ := hK
            have hM := hM.add hN rfl
            refine st_val hS rfl rfl (by decide) (rv_move (hS.ev rfl)) fun a hS => ?_
            refine st_val hS rfl rfl (by decide) (rv_extract (hS.ev rfl) rfl) fun a hS => ?_
            refine st_val hS rfl rfl (by decide) (rv_extract (hS.ev rfl) rfl) fun a hS => ?_
            obtain ⟨b203, w, hr, hM⟩ := hM.allocE (ρ := a.eval) (dst := some 32) (ty := _) (pos := _) (af := _) (gd := _) (T := 28) (P := Try.prog) [(int i64 0), (Value.slice none 0 0)] ty_zr_28 rfl
            refine st_val hS rfl rfl (by decide) hr fun a hS => ?_
            have hM := hM.addNil 3
            have hM := hM.pick [1, 0, 2, 3, 4, 5, 6, 7, 8, 9, 10] (by decide) rfl
            obtain ⟨w, hr, hM⟩ := hM.st_agg (us := [(int i64 r200.1), v201]) (ρ := a.eval) (dst := none) (ty := _) (pos := _) (af := _) (gd := _) (x := .tmp 32) (y := .tmp 232) (hS.ev rfl) (hS.ev rfl) ty_sz_28 (all1_cons rfl (all1_cons (rd_one (rd_of_ow (hM.get 2 rfl))) all1_nil)) rfl
            refine st_unit hS rfl rfl hr ?_
            refine st_val hS rfl rfl (by decide) (rv_assign (hS.ev rfl)) fun a hS => ?_
            refine wpList_nil ?_
            refine hK195 _ _ ?_
            refine wp_seq_k fun K204 hK204 => ?_
            refine wp_region_lit ?_
            refine st_val hS rfl rfl (by decide) (rv_move (hS.ev rfl)) fun a hS => ?_
            obtain ⟨r209, hr, hF⟩ := bind_some hF
            refine st_wp hS rfl (wp_call hS rfl rfl (by decide) fn_ok_39 rfl (c_spec_DrawIsTwoEdges F p0_code p0_codev hr _ (hM.get 10 rfl)) fun v w a hK hS => ?_)
            obtain ⟨v210, v211, rfl, hN⟩ := hK
            have hM := hM.add hN rfl
            refine st_val hS rfl rfl (by decide) (rv_move (hS.ev rfl)) fun a hS => ?_
            refine st_val hS rfl rfl (by decide) (rv_extract (hS.ev rfl) rfl) fun a hS => ?_
            refine st_val hS rfl rfl (by decide) (rv_extract (hS.ev rfl) rfl) fun a hS => ?_
            obtain ⟨b212, w, hr, hM⟩ := hM.allocE (ρ := a.eval) (dst := some 34) (ty := _) (pos := _) (af := _) (gd := _) (T := 28) (P := Try.prog) [(int i64 0), (Value.slice none 0 0)] ty_zr_28 rfl
            refine st_val hS rfl rfl (by decide) hr fun a hS => ?_
            have hM := hM.addNil 3
            have hM := hM.pick [1, 0, 2, 3, 4, 5, 6, 7, 8, 9, 10, 11, 12, 13, 14] (by decide) rfl
            obtain ⟨w, hr, hM⟩ := hM.st_agg (us := [(int i64 r209.1), v210]) (ρ := a.eval) (dst := none) (ty := _) (pos := _) (af := _) (gd := _) (x := .tmp 34) (y := .tmp 237) (hS.ev rfl) (hS.ev rfl) ty_sz_28 (all1_cons rfl (all1_cons (rd_one (rd_of_ow (hM.get 2 rfl))) all1_nil)) rfl
            refine st_unit hS rfl rfl hr ?_
            refine st_val hS rfl rfl (by decide) (rv_assign (hS.ev rfl)) fun a hS => ?_
            refine wpList_nil ?_
            refine hK204 _ _ ?_
            have hS : Sl 282 [(0, p0_codev), (28, (fdp b185 0)), (29, v184), (30, (fdp b194 0)), (31, v193), (32, (fdp b203 0)), (33, v202), (34, (fdp b212 0)), (35, v211)] a := hS.sub (sub_cons rfl (sub_cons rfl (sub_cons rfl (sub_cons rfl (sub_cons rfl (sub_cons rfl (sub_cons rfl (sub_cons rfl (sub_cons rfl sub_nil)))))))))
            have hM := hM.pick [0, 2, 3, 4, 6, 7, 8, 9, 10, 11, 12, 13, 14] (by decide) rfl
            refine wp_seq_k fun K213 hK213 => ?_
            refine wp_region_lit ?_
            refine st_val hS rfl rfl (by decide) (rv_move (hS.ev rfl)) fun a hS => ?_
            obtain ⟨r216, hr, hF⟩ := bind_some hF
            refine st_wp hS rfl (wp_call hS rfl rfl (by decide) fn_ok_40 rfl (c_spec_DrawCanonicalCycle F p0_code p0_codev hr _ (hM.get 12 rfl)) fun v217 w a hK hS => ?_)
            have hN := hK
            have hM := hM.add hN rfl
            refine st_val hS rfl rfl (by decide) (rv_assign (hS.ev rfl)) fun a hS => ?_
            refine wpList_nil ?_
            refine hK213 _ _ ?_
            refine wp_seq_k fun K218 hK218 => ?_
            have hJ6 : ∀ (p232 : Bool) (a : Act) (w : World), Sl 282 [(2, (Value.bool p232))] a → Mem Nob w0 w [] → S_laws_FnParts_j6 F p232 = some r → K218 a w := by
             intro p232 a w hS hM hF
             unfold S_laws_FnParts_j6 at hF
             refine hK218 _ _ ?_
             refine wp_ret ?_
             cases hF
             exact hQr _ _ (r_1 hS rfl rfl ⟨rfl, hM.pick [] (by decide) rfl⟩)
            refine an_startB 42 Nob ty_mixed (by kernel_rfl) fun w hf => ?_
            have hM := hM.fra hf
            have hB := hM
            have hM := hB.reg0
            refine tkB hS 0 1 (by as_aux_lemma => kernel_rfl) rfl rfl rfl hQp rfl (fun w' hC' => (rv_load_agg (hS.ev rfl) ty_ag_28 ((hB.fra hC').get 10 rfl) ty_sz_28)) hM.fr fun a hS => ?_
            refine tkB hS 1 3 (by as_aux_lemma => kernel_rfl) rfl rfl rfl hQp rfl (fun w' hC' => (rv_move (hS.ev rfl))) hM.fr fun a hS => ?_
            refine tkB hS 3 11 (by as_aux_lemma => kernel_rfl) rfl rfl rfl hQp rfl (fun w' hC' => (rv_load_agg (hS.ev rfl) ty_ag_28 ((hB.fra hC').get 10 rfl) ty_sz_28)) hM.fr fun a hS => ?_
            refine tkB hS 4 27 (by as_aux_lemma => kernel_rfl) rfl rfl rfl hQp rfl (fun w' hC' => (rv_move (hS.ev rfl))) hM.fr fun a hS => ?_
            obtain ⟨r233, hr, hF⟩ := bind_some hF
            refine an_oneB hS (i := 2) 31 (by as_aux_lemma => kernel_rfl) rfl (by as_aux_lemma => kernel_rfl) rfl ?_
            refine wp_call hS rfl rfl (by decide) fn_ok_30 rfl (c_impl_IsInducedPath F r182.1 r182.2.1 r182.2.2 v183 v184 hr _ (rd_of_ow (hM.get 11 rfl)) (rd_of_ow (hM.get 12 rfl))) fun v w a hK hS => ?_
            obtain ⟨rfl, hN⟩ := hK
            have hM := hM.fra hN.fr
            refine ⟨hM.fr, ?_⟩
            obtain ⟨r234, hr, hF⟩ := bind_some hF
            refine an_oneB hS (i := 5) 63 (by as_aux_lemma => kernel_rfl) rfl (by as_aux_lemma => kernel_rfl) rfl ?_
            refine wp_call hS rfl rfl (by decide) fn_ok_41 rfl (c_spec_IsInducedPath F r182.1 r182.2.1 r182.2.2 v183 v184 hr _ (rd_of_ow (hM.get 11 rfl)) (rd_of_ow (hM.get 12 rfl))) fun v w a hK hS => ?_
            obtain ⟨rfl, hN⟩ := hK
            have hM := hM.fra hN.fr
            refine ⟨hM.fr, ?_⟩
            refine tkB hS 6 127 (by as_aux_lemma => kernel_rfl) rfl rfl rfl hQp rfl (fun w' hC' => (rv_beql Try.underlying4 (hS.ev rfl) (hS.ev rfl))) hM.fr fun a hS => ?_
            refine tkB hS 7 255 (by as_aux_lemma => kernel_rfl) rfl rfl rfl hQp rfl (fun w' hC' => (rv_move (hS.ev rfl))) hM.fr fun a hS => ?_
            rcases ite_some hF with ⟨hc, hF⟩ | ⟨hc, hF⟩
            ·have hS := hS.setb (t := 248) rfl hc
             refine tkB hS 8 511 (by as_aux_lemma => kernel_rfl) rfl rfl rfl hQp rfl (fun w' hC' => (rv_load_agg (hS.ev rfl) ty_ag_28 ((hB.fra hC').get 7 rfl) ty_sz_28)) hM.fr fun a hS => ?_
             refine tkB hS 9 1023 (by as_aux_lemma => kernel_rfl) rfl rfl rfl hQp rfl (fun w' hC' => (rv_move (hS.ev rfl))) hM.fr fun a hS => ?_
             refine tkB hS 11 3071 (by as_aux_lemma => kernel_rfl) rfl rfl rfl hQp rfl (fun w' hC' => (rv_load_agg (hS.ev rfl) ty_ag_28 ((hB.fra hC').get 7 rfl) ty_sz_28)) hM.fr fun a hS => ?_
             refine tkB hS 12 7167 (by as_aux_lemma => kernel_rfl) rfl rfl rfl hQp rfl (fun w' hC' => (rv_move (hS.ev rfl))) hM.fr fun a hS => ?_
             obtain ⟨r235, hr, hF⟩ := bind_some hF
             refine an_oneB hS (i := 10) 8191 (by as_aux_lemma => kernel_rfl) rfl (by as_aux_lemma => kernel_rfl) rfl ?_
             refine wp_call hS rfl rfl (by decide) fn_ok_27 rfl (c_impl_IsHole F r191.1 r191.2.1 r191.2.2 v192 v193 hr _ (rd_of_ow (hM.get 8 rfl)) (rd_of_ow (hM.get 9 rfl))) fun v w a hK hS => ?_
             obtain ⟨rfl, hN⟩ := hK
             have hM := hM.fra hN.fr
             refine ⟨hM.fr, ?_⟩
             obtain ⟨r236, hr, hF⟩ := bind_some hF
             refine an_oneB hS (i := 13) 16383 (by as_aux_lemma => kernel_rfl) rfl (by as_aux_lemma => kernel_rfl) rfl ?_
             refine wp_call hS rfl rfl (by decide) fn_ok_42 rfl (c_spec_IsHole F r191.1 r191.2.1 r191.2.2 v192 v193 hr _ (rd_of_ow (hM.get 8 rfl)) (rd_of_ow (hM.get 9 rfl))) fun v w a hK hS => ?_
             obtain ⟨rfl, hN⟩ := hK
             have hM := hM.fra hN.fr
             refine ⟨hM.fr, ?_⟩
             refine tkB hS 14 32767 (by as_aux_lemma => kernel_rfl) rfl rfl rfl hQp rfl (fun w' hC' => (rv_beql Try.underlying4 (hS.ev rfl) (hS.ev rfl))) hM.fr fun a hS => ?_
             refine tkB hS 15 65535 (by as_aux_lemma => kernel_rfl) rfl rfl rfl hQp rfl (fun w' hC' => (rv_pick_t (hS.ev rfl) (hS.ev rfl))) hM.fr fun a hS => ?_
             refine tkB hS 16 131071 (by as_aux_lemma => kernel_rfl) rfl rfl rfl hQp rfl (fun w' hC' => (rv_move (hS.ev rfl))) hM.fr fun a hS => ?_
             rcases ite_some hF with ⟨hc, hF⟩ | ⟨hc, hF⟩
             ·have hS := hS.setb (t := 257) rfl hc
              refine tkB hS 17 262143 (by as_aux_lemma => kernel_rfl) rfl rfl rfl hQp rfl (fun w' hC' => (rv_load_agg (hS.ev rfl) ty_ag_28 ((hB.fra hC').get 4 rfl) ty_sz_28)) hM.fr fun a hS => ?_
              refine tkB hS 18 524287 (by as_aux_lemma => kernel_rfl) rfl rfl rfl hQp rfl (fun w' hC' => (rv_move (hS.ev rfl))) hM.fr fun a hS => ?_
              refine tkB hS 20 1572863 (by as_aux_lemma => kernel_rfl) rfl rfl rfl hQp rfl (fun w' hC' => (rv_load_agg (hS.ev rfl) ty_ag_28 ((hB.fra hC').get 4 rfl) ty_sz_28)) hM.fr fun a hS => ?_
              refine tkB hS 21 3670015 (by as_aux_lemma => kernel_rfl) rfl rfl rfl hQp rfl (fun w' hC' => (rv_move (hS.ev rfl))) hM.fr fun a hS => ?_
              obtain ⟨r237, hr, hF⟩ := bind_some hF
              refine an_oneB hS (i := 19) 4194303 (by as_aux_lemma => kernel_rfl) rfl (by as_aux_lemma => kernel_rfl) rfl ?_
              refine wp_call hS rfl rfl (by decide) fn_ok_35 rfl (c_impl_IsClaw F r200.1 r200.2.1 r200.2.2 v201 v202 hr _ (rd_of_ow (hM.get 5 rfl)) (rd_of_ow (hM.get 6 rfl))) fun v w a hK hS => ?_
              obtain ⟨rfl, hN⟩ := hK
              have hM := hM.fra hN.fr
              refine ⟨hM.fr, ?_⟩
              obtain ⟨r238, hr, hF⟩ := bind_some hF
              refine an_oneB hS (i := 22) 8388607 (by as_aux_lemma => kernel_rfl) rfl (by as_aux_lemma => kernel_rfl) rfl ?_
              refine wp_call hS rfl rfl (by decide) fn_ok_43 rfl (c_spec_IsClaw F r200.1 r200.2.1 r200.2.2 v201 v202 hr _ (rd_of_ow (hM.get 5 rfl)) (rd_of_ow (hM.get 6 rfl))) fun v w a hK hS => ?_
              obtain ⟨rfl, hN⟩ := hK
              have hM := hM.fra hN.fr
              refine ⟨hM.fr, ?_⟩
              refine tkB hS 23 16777215 (by as_aux_lemma => kernel_rfl) rfl rfl rfl hQp rfl (fun w' hC' => (rv_beql Try.underlying4 (hS.ev rfl) (hS.ev rfl))) hM.fr fun a hS => ?_
              refine tkB hS 24 33554431 (by as_aux_lemma => kernel_rfl) rfl rfl rfl hQp rfl (fun w' hC' => (rv_pick_t (hS.ev rfl) (hS.ev rfl))) hM.fr fun a hS => ?_
              refine tkB hS 25 67108863 (by as_aux_lemma => kernel_rfl) rfl rfl rfl hQp rfl (fun w' hC' => (rv_move (hS.ev rfl))) hM.fr fun a hS => ?_
              rcases ite_some hF with ⟨hc, hF⟩ | ⟨hc, hF⟩
              ·have hS := hS.setb (t := 266) rfl hc
               refine tkB hS 26 134217727 (by as_aux_lemma => kernel_rfl) rfl rfl rfl hQp rfl (fun w' hC' => (rv_load_agg (hS.ev rfl) ty_ag_28 ((hB.fra hC').get 1 rfl) ty_sz_28)) hM.fr fun a hS => ?_
               refine tkB hS 27 268435455 (by as_aux_lemma => kernel_rfl) rfl rfl rfl hQp rfl (fun w' hC' => (rv_move (hS.ev rfl))) hM.fr fun a hS => ?_
               refine tkB hS 29 805306367 (by as_aux_lemma => kernel_rfl) rfl rfl rfl hQp rfl (fun w' hC' => (rv_load_agg (hS.ev rfl) ty_ag_28 ((hB.fra hC').get 1 rfl) ty_sz_28)) hM.fr fun a hS => ?_
               refine tkB hS 30 1879048191 (by as_aux_lemma => kernel_rfl) rfl rfl rfl hQp rfl (fun w' hC' => (rv_move (hS.ev rfl))) hM.fr fun a hS => ?_
               obtain ⟨r239, hr, hF⟩ := bind_some hF
               refine an_oneB hS (i := 28) 2147483647 (by as_aux_lemma => kernel_rfl) rfl (by as_aux_lemma => kernel_rfl) rfl ?_
               refine wp_call hS rfl rfl (by decide) fn_ok_33 rfl (c_impl_IsTwoEdges F r209.1 r209.2.1 r209.2.2 v210 v211 hr _ (rd_of_ow (hM.get 2 rfl)) (rd_of_ow (hM.get 3 rfl))) fun v w a hK hS => ?_
               obtain ⟨rfl, hN⟩ := hK
               have hM := hM.fra hN.fr
               refine ⟨hM.fr, ?_⟩
               obtain ⟨r240, hr, hF⟩ := bind_some hF
               refine an_oneB hS (i := 31) 4294967295 (by as_aux_lemma => kernel_rfl) rfl (by as_aux_lemma => kernel_rfl) rfl ?_
               refine wp_call hS rfl rfl (by decide) fn_ok_44 rfl (c_spec_IsTwoEdges F r209.1 r209.2.1 r209.2.2 v210 v211 hr _ (rd_of_ow (hM.get 2 rfl)) (rd_of_ow (hM.get 3 rfl))) fun v w a hK hS => ?_
               obtain ⟨rfl, hN⟩ := hK
               have hM := hM.fra hN.fr
               refine ⟨hM.fr, ?_⟩
               refine tkB hS 32 8589934591 (by as_aux_lemma => kernel_rfl) rfl rfl rfl hQp rfl (fun w' hC' => (rv_beql Try.underlying4 (hS.ev rfl) (hS.ev rfl))) hM.fr fun a hS => ?_
               refine tkB hS 33 17179869183 (by as_aux_lemma => kernel_rfl) rfl rfl rfl hQp rfl (fun w' hC' => (rv_pick_t (hS.ev rfl) (hS.ev rfl))) hM.fr fun a hS => ?_
               refine tkB hS 34 34359738367 (by as_aux_lemma => kernel_rfl) rfl rfl rfl hQp rfl (fun w' hC' => (rv_move (hS.ev rfl))) hM.fr fun a hS => ?_
               rcases ite_some hF with ⟨hc, hF⟩ | ⟨hc, hF⟩
               ·have hS := hS.setb (t := 275) rfl hc
                refine tkB hS 35 68719476735 (by as_aux_lemma => kernel_rfl) rfl rfl rfl hQp rfl (fun w' hC' => (rv_move (hS.ev rfl))) hM.fr fun a hS => ?_
                refine tkB hS 37 206158430207 (by as_aux_lemma => kernel_rfl) rfl rfl rfl hQp rfl (fun w' hC' => (rv_move (hS.ev rfl))) hM.fr fun a hS => ?_
                obtain ⟨r241, hr, hF⟩ := bind_some hF
                refine an_oneB hS (i := 36) 274877906943 (by as_aux_lemma => kernel_rfl) rfl (by as_aux_lemma => kernel_rfl) rfl ?_
                refine wp_call hS rfl rfl (by decide) fn_ok_28 rfl (c_impl_CanonicalCycle F r216 v217 hr _ (rd_of_ow (hM.get 0 rfl))) fun v242 w a hK hS => ?_
                have hN := hK
                have hM := hM.add hN rfl
                refine ⟨hM.fr, ?_⟩
                obtain ⟨r243, hr, hF⟩ := bind_some hF
                refine an_oneB hS (i := 38) 549755813887 (by as_aux_lemma => kernel_rfl) rfl (by as_aux_lemma => kernel_rfl) rfl ?_
                refine wp_call hS rfl rfl (by decide) fn_ok_45 rfl (c_spec_CanonicalCycle F r216 v217 hr _ (rd_of_ow (hM.get 1 rfl))) fun v244 w a hK hS => ?_
                have hN := hK
                have hM := hM.add hN rfl
                refine ⟨hM.fr, ?_⟩
                obtain ⟨r245, hr, hF⟩ := bind_some hF
                refine an_oneB hS (i := 39) 1099511627775 (by as_aux_lemma => kernel_rfl) rfl (by as_aux_lemma => kernel_rfl) rfl ?_
                refine wp_call hS rfl rfl (by decide) fn_ok_26 rfl (c_laws_sameInts F r241 r243 v242 v244 hr _ (rd_of_ow (hM.get 1 rfl)) (rd_of_ow (hM.get 0 rfl))) fun v w a hK hS => ?_
                obtain ⟨rfl, hN⟩ := hK
                have hM := hM.fra hN.fr
                refine ⟨hM.fr, ?_⟩
                refine tkB hS 40 2199023255551 (by as_aux_lemma => kernel_rfl) rfl rfl rfl hQp rfl (fun w' hC' => (rv_pick_t (hS.ev rfl) (hS.ev rfl))) hM.fr fun a hS => ?_
                refine tkB hS 41 4398046511103 (by as_aux_lemma => kernel_rfl) rfl rfl rfl hQp rfl (fun w' hC' => (rv_assign (hS.ev rfl))) hM.fr fun a hS => ?_
                refine an_done (by as_aux_lemma => kernel_rfl) ?_
                have hN := hM.pick [0, 1] (by decide) rfl
                have hM := Mem.callo0 hB hN rfl
                exact hJ6 r245 _ _ (hS.sub (sub_cons rfl sub_nil)) (hM.pick [] (by decide) rfl) hF
               ·have hS := hS.setb (t := 275) rfl hc
                refine skB hS [35, 36, 37, 38, 39] [276, 277, 278, 279, 280] 1099511627775 2 rfl (by as_aux_lemma => kernel_rfl) hQp hM.fr fun a hS => ?_
                refine tkB hS 40 2199023255551 (by as_aux_lemma => kernel_rfl) rfl rfl rfl hQp rfl (fun w' hC' => (rv_pick_f (hS.ev rfl) (hS.ev rfl))) hM.fr fun a hS => ?_
                refine tkB hS 41 4398046511103 (by as_aux_lemma => kernel_rfl) rfl rfl rfl hQp rfl (fun w' hC' => (rv_assign (hS.ev rfl))) hM.fr fun a hS => ?_
                refine an_done (by as_aux_lemma => kernel_rfl) ?_
                have hN := hM.pick [] (by decide) rfl
                have hM := Mem.callo0 hB hN rfl
                exact hJ6 false _ _ (hS.sub (sub_cons rfl sub_nil)) (hM.pick [] (by decide) rfl) hF
              ·have hS := hS.setb (t := 266) rfl hc
               refine skB hS [26, 27, 28, 29, 30, 31, 32] [267, 268, 269, 270, 271, 272, 273] 8589934591 9 rfl (by as_aux_lemma => kernel_rfl) hQp hM.fr fun a hS => ?_
               refine tkB hS 33 17179869183 (by as_aux_lemma => kernel_rfl) rfl rfl rfl hQp rfl (fun w' hC' => (rv_pick_f (hS.ev rfl) (hS.ev rfl))) hM.fr fun a hS => ?_
               refine tkB hS 34 34359738367 (by as_aux_lemma => kernel_rfl) rfl rfl rfl hQp rfl (fun w' hC' => (rv_move (hS.ev rfl))) hM.fr fun a hS => ?_
               refine skB hS [35, 36, 37, 38, 39] [276, 277, 278, 279, 280] 1099511627775 2 rfl (by as_aux_lemma => kernel_rfl) hQp hM.fr fun a hS => ?_
               refine tkB hS 40 2199023255551 (by as_aux_lemma => kernel_rfl) rfl rfl rfl hQp rfl (fun w' hC' => (rv_pick_f (hS.ev rfl) (hS.ev rfl))) hM.fr fun a hS => ?_
               refine tkB hS 41 4398046511103 (by as_aux_lemma => kernel_rfl) rfl rfl rfl hQp rfl (fun w' hC' => (rv_assign (hS.ev rfl))) hM.fr fun a hS => ?_
               refine an_done (by as_aux_lemma => kernel_rfl) ?_
               have hN := hM.pick [] (by decide) rfl
               have hM := Mem.callo0 hB hN rfl
               exact hJ6 false _ _ (hS.sub (sub_cons rfl sub_nil)) (hM.pick [] (by decide) rfl) hF
             ·have hS := hS.setb (t := 257) rfl hc
              refine skB hS [17, 18, 19, 20, 21, 22, 23] [258, 259, 260, 261, 262, 263, 264] 16777215 18 rfl (by as_aux_lemma => kernel_rfl) hQp hM.fr fun a hS => ?_
              refine tkB hS 24 33554431 (by as_aux_lemma => kernel_rfl) rfl rfl rfl hQp rfl (fun w' hC' => (rv_pick_f (hS.ev rfl) (hS.ev rfl))) hM.fr fun a hS => ?_
              refine tkB hS 25 67108863 (by as_aux_lemma => kernel_rfl) rfl rfl rfl hQp rfl (fun w' hC' => (rv_move (hS.ev rfl))) hM.fr fun a hS => ?_
              refine skB hS [26, 27, 28, 29, 30, 31, 32] [267, 268, 269, 270, 271, 272, 273] 8589934591 9 rfl (by as_aux_lemma => kernel_rfl) hQp hM.fr fun a hS => ?_
              refine tkB hS 33 17179869183 (by as_aux_lemma => kernel_rfl) rfl rfl rfl hQp rfl (fun w' hC' => (rv_pick_f (hS.ev rfl) (hS.ev rfl))) hM.fr fun a hS => ?_
              refine tkB hS 34 34359738367 (by as_aux_lemma => kernel_rfl) rfl rfl rfl hQp rfl (fun w' hC' => (rv_move (hS.ev rfl))) hM.fr fun a hS => ?_
              refine skB hS [35, 36, 37, 38, 39] [276, 277, 278, 279, 280] 1099511627775 2 rfl (by as_aux_lemma => kernel_rfl) hQp hM.fr fun a hS => ?_
              refine tkB hS 40 2199023255551 (by as_aux_lemma => kernel_rfl) rfl rfl rfl hQp rfl (fun w' hC' => (rv_pick_f (hS.ev rfl) (hS.ev rfl))) hM.fr fun a hS => ?_
              refine tkB hS 41 4398046511103 (by as_aux_lemma => kernel_rfl) rfl rfl rfl hQp rfl (fun w' hC' => (rv_assign (hS.ev rfl))) hM.fr fun a hS => ?_
              refine an_done (by as_aux_lemma => kernel_rfl) ?_
              have hN := hM.pick [] (by decide) rfl
              have hM := Mem.callo0 hB hN rfl
              exact hJ6 false _ _ (hS.sub (sub_cons rfl sub_nil)) (hM.pick [] (by decide) rfl) hF
            ·have hS := hS.setb (t := 248) rfl hc
             refine skB hS [8, 9, 10, 11, 12, 13, 14] [249, 250, 251, 252, 253, 254, 255] 32767 27 rfl (by as_aux_lemma => kernel_rfl) hQp hM.fr fun a hS => ?_
             refine tkB hS 15 65535 (by as_aux_lemma => kernel_rfl) rfl rfl rfl hQp rfl (fun w' hC' => (rv_pick_f (hS.ev rfl) (hS.ev rfl))) hM.fr fun a hS => ?_
             refine tkB hS 16 131071 (by as_aux_lemma => kernel_rfl) rfl rfl rfl hQp rfl (fun w' hC' => (rv_move (hS.ev rfl))) hM.fr fun a hS => ?_
             refine skB hS [17, 18, 19, 20, 21, 22, 23] [258, 259, 260, 261, 262, 263, 264] 16777215 18 rfl (by as_aux_lemma => kernel_rfl) hQp hM.fr fun a hS => ?_
             refine tkB hS 24 33554431 (by as_aux_lemma => kernel_rfl) rfl rfl rfl hQp rfl (fun w' hC' => (rv_pick_f (hS.ev rfl) (hS.ev rfl))) hM.fr fun a hS => ?_
             refine tkB hS 25 67108863 (by as_aux_lemma => kernel_rfl) rfl rfl rfl hQp rfl (fun w' hC' => (rv_move (hS.ev rfl))) hM.fr fun a hS => ?_
             refine skB hS [26, 27, 28, 29, 30, 31, 32] [267, 268, 269, 270, 271, 272, 273] 8589934591 9 rfl (by as_aux_lemma => kernel_rfl) hQp hM.fr fun a hS => ?_
             refine tkB hS 33 17179869183 (by as_aux_lemma => kernel_rfl) rfl rfl rfl hQp rfl (fun w' hC' => (rv_pick_f (hS.ev rfl) (hS.ev rfl))) hM.fr fun a hS => ?_
             refine tkB hS 34 34359738367 (by as_aux_lemma => kernel_rfl) rfl rfl rfl hQp rfl (fun w' hC' => (rv_move (hS.ev rfl))) hM.fr fun a hS => ?_
             refine skB hS [35, 36, 37, 38, 39] [276, 277, 278, 279, 280] 1099511627775 2 rfl (by as_aux_lemma => kernel_rfl) hQp hM.fr fun a hS => ?_
             refine tkB hS 40 2199023255551 (by as_aux_lemma => kernel_rfl) rfl rfl rfl hQp rfl (fun w' hC' => (rv_pick_f (hS.ev rfl) (hS.ev rfl))) hM.fr fun a hS => ?_
             refine tkB hS 41 4398046511103 (by as_aux_lemma => kernel_rfl) rfl rfl rfl hQp rfl (fun w' hC' => (rv_assign (hS.ev rfl))) hM.fr fun a hS => ?_
             refine an_done (by as_aux_lemma => kernel_rfl) ?_
             have hN := hM.pick [] (by decide) rfl
             have hM := Mem.callo0 hB hN rfl
             exact hJ6 false _ _ (hS.sub (sub_cons rfl sub_nil)) (hM.pick [] (by decide) rfl) hF
          refine wp_region_lit ?_
          refine st_val hS rfl rfl (by decide) (rv_move (hS.ev rfl)) fun a hS => ?_
          refine st_val hS rfl rfl (by decide) (rv_move (hS.ev rfl)) fun a hS => ?_
          refine st_val hS rfl rfl (by decide) (rv_bneq Try.underlying4 (hS.ev rfl) (hS.ev rfl)) fun a hS => ?_
          refine st_val hS rfl rfl (by decide) (rv_move (hS.ev rfl)) fun a hS => ?_
          rcases ite_some hF with ⟨hc, hF⟩ | ⟨hc, hF⟩
          ·have hS := hS.setb (t := 204) rfl hc
           refine st_skip hS rfl rfl (by decide) fun a hS => ?_
           refine st_skip hS rfl rfl (by decide) fun a hS => ?_
           refine st_skip hS rfl rfl (by decide) fun a hS => ?_
           refine st_skip hS rfl rfl (by decide) fun a hS => ?_
           refine st_val hS rfl rfl (by decide) (rv_pick_t (hS.ev rfl) (hS.ev rfl)) fun a hS => ?_
           refine st_val hS rfl rfl (by decide) (rv_move (hS.ev rfl)) fun a hS => ?_
           refine st_skip hS rfl rfl (by decide) fun a hS => ?_
           refine st_skip hS rfl rfl (by decide) fun a hS => ?_
           refine st_skip hS rfl rfl (by decide) fun a hS => ?_
           refine st_skip hS rfl rfl (by decide) fun a hS => ?_
           refine st_skip hS rfl rfl (by decide) fun a hS => ?_
           refine st_skip hS rfl rfl (by decide) fun a hS => ?_
           refine st_skip hS rfl rfl (by decide) fun a hS => ?_
           refine st_val hS rfl rfl (by decide) (rv_pick_t (hS.ev rfl) (hS.ev rfl)) fun a hS => ?_
           refine wpList_nil ?_
           exact hJ5 true _ _ (hS.sub (sub_cons rfl (sub_cons rfl sub_nil))) (hM.pick [4] (by decide) rfl) hF
          ·have hS := hS.setb (t := 204) rfl hc
           refine st_val hS rfl rfl (by decide) (rv_move (hS.ev rfl)) fun a hS => ?_
           refine st_val hS rfl rfl (by decide) (rv_move (hS.ev rfl)) fun a hS => ?_
           obtain ⟨r246, hr, hF⟩ := bind_some hF
           refine st_wp hS rfl (wp_call hS rfl rfl (by decide) fn_ok_26 rfl (c_laws_sameInts F r157.1 r162.1 v158 v163 hr _ (rd_of_ow (hM.get 1 rfl)) (rd_of_ow (hM.get 0 rfl))) fun v w a hK hS => ?_)
           obtain ⟨rfl, hN⟩ := hK
           have hM := hM.fra hN.fr
           refine st_val hS rfl rfl (by decide) (rv_not (hS.ev rfl)) fun a hS => ?_
           refine st_val hS rfl rfl (by decide) (rv_pick_f (hS.ev rfl) (hS.ev rfl)) fun a hS => ?_
           refine st_val hS rfl rfl (by decide) (rv_move (hS.ev rfl)) fun a hS => ?_
           rcases ite_some hF with ⟨hc, hF⟩ | ⟨hc, hF⟩
           ·have hS := hS.setb (t := 210) rfl hc
            refine st_skip hS rfl rfl (by decide) fun a hS => ?_
            refine st_skip hS rfl rfl (by decide) fun a hS => ?_
            refine st_skip hS rfl rfl (by decide) fun a hS => ?_
            refine st_skip hS rfl rfl (by decide) fun a hS => ?_
            refine st_skip hS rfl rfl (by decide) fun a hS => ?_
            refine st_skip hS rfl rfl (by decide) fun a hS => ?_
            refine st_skip hS rfl rfl (by decide) fun a hS => ?_
            refine st_val hS rfl rfl (by decide) (rv_pick_t (hS.ev rfl) (hS.ev rfl)) fun a hS => ?_
            refine wpList_nil ?_
            exact hJ5 true _ _ (hS.sub (sub_cons rfl (sub_cons rfl sub_nil))) (hM.pick [4] (by decide) rfl) hF
           ·have hS := hS.setb (t := 210) rfl hc
            refine st_val hS rfl rfl (by decide) (rv_move (hS.ev rfl)) fun a hS => ?_
            refine st_val hS rfl rfl (by decide) (rv_move (hS.ev rfl)) fun a hS => ?_
            rcases ite_some hF with ⟨hc, hF⟩ | ⟨hc, hF⟩
            ·have hS := hS.setb (t := 212) rfl hc
             refine st_val hS rfl rfl (by decide) (rv_load_agg (hS.ev rfl) ty_ag_28 (hM.get 2 rfl) ty_sz_28) fun a hS => ?_
             refine st_val hS rfl rfl (by decide) (rv_move (hS.ev rfl)) fun a hS => ?_
             obtain ⟨r247, hr, hF⟩ := bind_some hF
             refine st_wp hS rfl (wp_call hS rfl rfl (by decide) fn_ok_35 rfl (c_impl_IsClaw F r151.1 r151.2 r162.1 v152 v163 hr _ (rd_of_ow (hM.get 3 rfl)) (rd_of_ow (hM.get 0 rfl))) fun v w a hK hS => ?_)
             obtain ⟨rfl, hN⟩ := hK
             have hM := hM.fra hN.fr
             refine st_val hS rfl rfl (by decide) (rv_not (hS.ev rfl)) fun a hS => ?_
             refine st_val hS rfl rfl (by decide) (rv_pick_t (hS.ev rfl) (hS.ev rfl)) fun a hS => ?_
             refine st_val hS rfl rfl (by decide) (rv_pick_f (hS.ev rfl) (hS.ev rfl)) fun a hS => ?_
             refine wpList_nil ?_
             exact hJ5 (!r247) _ _ (hS.sub (sub_cons rfl (sub_cons rfl sub_nil))) (hM.pick [4] (by decide) rfl) hF
            ·have hS := hS.setb (t := 212) rfl hc
             refine st_skip hS rfl rfl (by decide) fun a hS => ?_
             refine st_skip hS rfl rfl (by decide) fun a hS => ?_
             refine st_skip hS rfl rfl (by decide) fun a hS => ?_
             refine st_skip hS rfl rfl (by decide) fun a hS => ?_
             refine st_val hS rfl rfl (by decide) (rv_pick_f (hS.ev rfl) (hS.ev rfl)) fun a hS => ?_
             refine st_val hS rfl rfl (by decide) (rv_pick_f (hS.ev rfl) (hS.ev rfl)) fun a hS => ?_
             refine wpList_nil ?_
             exact hJ5 false _ _ (hS.sub (sub_cons rfl (sub_cons rfl sub_nil))) (hM.pick [4] (by decide) rfl) hF
        refine an_startB 39 Nob ty_mixed (by kernel_rfl) fun w hf => ?_
        have hM := hM.fra hf
        have hB := hM
        have hM := hB.reg0
        refine tkB hS 0 1 (by as_aux_lemma => kernel_rfl) rfl rfl rfl hQp rfl (fun w' hC' => (rv_move (hS.ev rfl))) hM.fr fun a hS => ?_
        refine tkB hS 1 3 (by as_aux_lemma => kernel_rfl) rfl rfl rfl hQp rfl (fun w' hC' => (rv_move (hS.ev rfl))) hM.fr fun a hS => ?_
        refine tkB hS 2 7 (by as_aux_lemma => kernel_rfl) rfl rfl rfl hQp rfl (fun w' hC' => (rv_bneq Try.underlying4 (hS.ev rfl) (hS.ev rfl))) hM.fr fun a hS => ?_
        refine tkB hS 3 15 (by as_aux_lemma => kernel_rfl) rfl rfl rfl hQp rfl (fun w' hC' => (rv_move (hS.ev rfl))) hM.fr fun a hS => ?_
        rcases ite_some hF with ⟨hc, hF⟩ | ⟨hc, hF⟩
        ·have hS := hS.setb (t := 153) rfl hc
         refine skB hS [4, 5, 6, 7] [154, 155, 156, 157] 255 31 rfl (by as_aux_lemma => kernel_rfl) hQp hM.fr fun a hS => ?_
         refine tkB hS 8 511 (by as_aux_lemma => kernel_rfl) rfl rfl rfl hQp rfl (fun w' hC' => (rv_pick_t (hS.ev rfl) (hS.ev rfl))) hM.fr fun a hS => ?_
         refine tkB hS 9 1023 (by as_aux_lemma => kernel_rfl) rfl rfl rfl hQp rfl (fun w' hC' => (rv_move (hS.ev rfl))) hM.fr fun a hS => ?_
         refine skB hS [10, 11, 12, 13, 14, 15, 16, 17, 18, 19, 20, 21, 22, 23, 24, 25, 26, 27, 28, 29, 30, 31, 32, 33, 34, 35, 36, 37] [160, 161, 162, 163, 164, 165, 166, 167, 168, 169, 170, 171, 172, 173, 174, 175, 176, 177, 178, 179, 180, 181, 182, 183, 184, 185, 186, 187] 274877906943 1 rfl (by as_aux_lemma => kernel_rfl) hQp hM.fr fun a hS => ?_
         refine tkB hS 38 549755813887 (by as_aux_lemma => kernel_rfl) rfl rfl rfl hQp rfl (fun w' hC' => (rv_pick_t (hS.ev rfl) (hS.ev rfl))) hM.fr fun a hS => ?_
         refine an_done (by as_aux_lemma => kernel_rfl) ?_
         have hN := hM.pick [] (by decide) rfl
         have hM := Mem.callo0 hB hN rfl
         exact hJ4 true _ _ (hS.sub (sub_cons rfl (sub_cons rfl sub_nil))) (hM.pick [6] (by decide) rfl) hF
        ·have hS := hS.setb (t := 153) rfl hc
         refine tkB hS 4 31 (by as_aux_lemma => kernel_rfl) rfl rfl rfl hQp rfl (fun w' hC' => (rv_move (hS.ev rfl))) hM.fr fun a hS => ?_
         refine tkB hS 5 63 (by as_aux_lemma => kernel_rfl) rfl rfl rfl hQp rfl (fun w' hC' => (rv_move (hS.ev rfl))) hM.fr fun a hS => ?_
         obtain ⟨r248, hr, hF⟩ := bind_some hF
         refine an_oneB hS (i := 6) 127 (by as_aux_lemma => kernel_rfl) rfl (by as_aux_lemma => kernel_rfl) rfl ?_
         refine wp_call hS rfl rfl (by decide) fn_ok_26 rfl (c_laws_sameInts F r102.1 r107.1 v103 v108 hr _ (rd_of_ow (hM.get 3 rfl)) (rd_of_ow (hM.get 2 rfl))) fun v w a hK hS => ?_
         obtain ⟨rfl, hN⟩ := hK
         have hM := hM.fra hN.fr
         refine ⟨hM.fr, ?_⟩
         refine tkB hS 7 255 (by as_aux_lemma => kernel_rfl) rfl rfl rfl hQp rfl (fun w' hC' => (rv_not (hS.ev rfl))) hM.fr fun a hS => ?_
         refine tkB hS 8 511 (by as_aux_lemma => kernel_rfl) rfl rfl rfl hQp rfl (fun w' hC' => (rv_pick_f (hS.ev rfl) (hS.ev rfl))) hM.fr fun a hS => ?_
         refine tkB hS 9 1023 (by as_aux_lemma => kernel_rfl) rfl rfl rfl hQp rfl (fun w' hC' => (rv_move (hS.ev rfl))) hM.fr fun a hS => ?_
         rcases ite_some hF with ⟨hc, hF⟩ | ⟨hc, hF⟩
         ·have hS := hS.setb (t := 159) rfl hc
          refine skB hS [10, 11, 12, 13, 14, 15, 16, 17, 18, 19, 20, 21, 22, 23, 24, 25, 26, 27, 28, 29, 30, 31, 32, 33, 34, 35, 36, 37] [160, 161, 162, 163, 164, 165, 166, 167, 168, 169, 170, 171, 172, 173, 174, 175, 176, 177, 178, 179, 180, 181, 182, 183, 184, 185, 186, 187] 274877906943 1 rfl (by as_aux_lemma => kernel_rfl) hQp hM.fr fun a hS => ?_
          refine tkB hS 38 549755813887 (by as_aux_lemma => kernel_rfl) rfl rfl rfl hQp rfl (fun w' hC' => (rv_pick_t (hS.ev rfl) (hS.ev rfl))) hM.fr fun a hS => ?_
          refine an_done (by as_aux_lemma => kernel_rfl) ?_
          have hN := hM.pick [] (by decide) rfl
          have hM := Mem.callo0 hB hN rfl
          exact hJ4 true _ _ (hS.sub (sub_cons rfl (sub_cons rfl sub_nil))) (hM.pick [6] (by decide) rfl) hF
         ·have hS := hS.setb (t := 159) rfl hc
          refine tkB hS 10 2047 (by as_aux_lemma => kernel_rfl) rfl rfl rfl hQp rfl (fun w' hC' => (rv_move (hS.ev rfl))) hM.fr fun a hS => ?_
          refine tkB hS 11 4095 (by as_aux_lemma => kernel_rfl) rfl rfl rfl hQp rfl (fun w' hC' => (rv_move (hS.ev rfl))) hM.fr fun a hS => ?_
          rcases ite_some hF with ⟨hc, hF⟩ | ⟨hc, hF⟩
          ·have hS := hS.setb (t := 161) rfl hc
           refine tkB hS 12 8191 (by as_aux_lemma => kernel_rfl) rfl rfl rfl hQp rfl (fun w' hC' => (rv_load_agg (hS.ev rfl) ty_ag_28 ((hB.fra hC').get 4 rfl) ty_sz_28)) hM.fr fun a hS => ?_
           refine tkB hS 13 16383 (by as_aux_lemma => kernel_rfl) rfl rfl rfl hQp rfl (fun w' hC' => (rv_move (hS.ev rfl))) hM.fr fun a hS => ?_
           obtain ⟨r249, hr, hF⟩ := bind_some hF
           refine an_oneB hS (i := 14) 32767 (by as_aux_lemma => kernel_rfl) rfl (by as_aux_lemma => kernel_rfl) rfl ?_
           refine wp_call hS rfl rfl (by decide) fn_ok_33 rfl (c_impl_IsTwoEdges F r96.1 r96.2 r107.1 v97 v108 hr _ (rd_of_ow (hM.get 5 rfl)) (rd_of_ow (hM.get 2 rfl))) fun v w a hK hS => ?_
           obtain ⟨rfl, hN⟩ := hK
           have hM := hM.fra hN.fr
           refine ⟨hM.fr, ?_⟩
           refine tkB hS 15 65535 (by as_aux_lemma => kernel_rfl) rfl rfl rfl hQp rfl (fun w' hC' => (rv_not (hS.ev rfl))) hM.fr fun a hS => ?_
           refine tkB hS 16 131071 (by as_aux_lemma => kernel_rfl) rfl rfl rfl hQp rfl (fun w' hC' => (rv_move (hS.ev rfl))) hM.fr fun a hS => ?_
           rcases ite_some hF with ⟨hc, hF⟩ | ⟨hc, hF⟩
           ·have hS := hS.setb (t := 166) rfl hc
            refine skB hS [17, 18, 19, 20, 21, 22, 23, 24, 25, 26, 27, 28, 29, 30, 31, 32, 33, 34, 35] [167, 168, 169, 170, 171, 172, 173, 174, 175, 176, 177, 178, 179, 180, 181, 182, 183, 184, 185] 68719476735 3 rfl (by as_aux_lemma => kernel_rfl) hQp hM.fr fun a hS => ?_
            refine tkB hS 36 137438953471 (by as_aux_lemma => kernel_rfl) rfl rfl rfl hQp rfl (fun w' hC' => (rv_pick_t (hS.ev rfl) (hS.ev rfl))) hM.fr fun a hS => ?_
            refine tkB hS 37 274877906943 (by as_aux_lemma => kernel_rfl) rfl rfl rfl hQp rfl (fun w' hC' => (rv_pick_t (hS.ev rfl) (hS.ev rfl))) hM.fr fun a hS => ?_
            refine tkB hS 38 549755813887 (by as_aux_lemma => kernel_rfl) rfl rfl rfl hQp rfl (fun w' hC' => (rv_pick_f (hS.ev rfl) (hS.ev rfl))) hM.fr fun a hS => ?_
            refine an_done (by as_aux_lemma => kernel_rfl) ?_
            have hN := hM.pick [] (by decide) rfl
            have hM := Mem.callo0 hB hN rfl
            exact hJ4 true _ _ (hS.sub (sub_cons rfl (sub_cons rfl sub_nil))) (hM.pick [6] (by decide) rfl) hF
           ·have hS := hS.setb (t := 166) rfl hc
            refine tkB hS 17 262143 (by as_aux_lemma => kernel_rfl) rfl rfl rfl hQp rfl (fun w' hC' => (rv_move (hS.ev rfl))) hM.fr fun a hS => ?_
            refine tkB hS 18 524287 (by as_aux_lemma => kernel_rfl) rfl rfl rfl hQp rfl (fun w' hC' => (rv_move (hS.ev rfl))) hM.fr fun a hS => ?_
            rcases ite_some hF with ⟨hc, hF⟩ | ⟨hc, hF⟩
            ·have hS := hS.setb (t := 168) rfl hc
             refine tkB hS 19 1048575 (by as_aux_lemma => kernel_rfl) rfl rfl rfl hQp rfl (fun w' hC' => (rv_load_agg (hS.ev rfl) ty_ag_28 ((hB.fra hC').get 0 rfl) ty_sz_28)) hM.fr fun a hS => ?_
             refine tkB hS 20 2097151 (by as_aux_lemma => kernel_rfl) rfl rfl rfl hQp rfl (fun w' hC' => (rv_move (hS.ev rfl))) hM.fr fun a hS => ?_
             obtain ⟨x250, hx, hF⟩ := bind_some hF
             obtain ⟨hi0, hi1, hex250⟩ := idxL_some hx
             refine tkB hS 21 4194303 (by as_aux_lemma => kernel_rfl) rfl rfl rfl hQp rfl (fun w' hC' => (rv_indexAddr Try.underlying22 ty_el_3 (hS.ev rfl) (hS.ev rfl) (rd_of_ow (hM.get 2 rfl)) hi0 (map_len hi1))) hM.fr fun a hS => ?_
             refine tkB hS 22 8388607 (by as_aux_lemma => kernel_rfl) rfl rfl rfl hQp rfl (fun w' hC' => (rv_load_el (hS.ev rfl) ty_ag_3 (rd_of_ow ((hB.fra hC').get 2 rfl)) (mget hex250))) hM.fr fun a hS => ?_
             refine tkB hS 23 16777215 (by as_aux_lemma => kernel_rfl) rfl rfl rfl hQp rfl (fun w' hC' => (rv_move (hS.ev rfl))) hM.fr fun a hS => ?_
             obtain ⟨x251, hx, hF⟩ := bind_some hF
             obtain ⟨hi0, hi1, hex251⟩ := idxL_some hx
             refine tkB hS 24 33554431 (by as_aux_lemma => kernel_rfl) rfl rfl rfl hQp rfl (fun w' hC' => (rv_indexAddr Try.underlying22 ty_el_3 (hS.ev rfl) (hS.ev rfl) (rd_of_ow (hM.get 2 rfl)) hi0 (map_len hi1))) hM.fr fun a hS => ?_
             refine tkB hS 25 67108863 (by as_aux_lemma => kernel_rfl) rfl rfl rfl hQp rfl (fun w' hC' => (rv_load_el (hS.ev rfl) ty_ag_3 (rd_of_ow ((hB.fra hC').get 2 rfl)) (mget hex251))) hM.fr fun a hS => ?_
             refine tkB hS 26 134217727 (by as_aux_lemma => kernel_rfl) rfl rfl rfl hQp rfl (fun w' hC' => (rv_move (hS.ev rfl))) hM.fr fun a hS => ?_
             obtain ⟨x252, hx, hF⟩ := bind_some hF
             obtain ⟨hi0, hi1, hex252⟩ := idxL_some hx
             refine tkB hS 27 268435455 (by as_aux_lemma => kernel_rfl) rfl rfl rfl hQp rfl (fun w' hC' => (rv_indexAddr Try.underlying22 ty_el_3 (hS.ev rfl) (hS.ev rfl) (rd_of_ow (hM.get 2 rfl)) hi0 (map_len hi1))) hM.fr fun a hS => ?_
             refine tkB hS 28 536870911 (by as_aux_lemma => kernel_rfl) rfl rfl rfl hQp rfl (fun w' hC' => (rv_load_el (hS.ev rfl) ty_ag_3 (rd_of_ow ((hB.fra hC').get 2 rfl)) (mget hex252))) hM.fr fun a hS => ?_
             refine tkB hS 29 1073741823 (by as_aux_lemma => kernel_rfl) rfl rfl rfl hQp rfl (fun w' hC' => (rv_move (hS.ev rfl))) hM.fr fun a hS => ?_
             obtain ⟨x253, hx, hF⟩ := bind_some hF
             obtain ⟨hi0, hi1, hex253⟩ := idxL_some hx
             refine tkB hS 30 2147483647 (by as_aux_lemma => kernel_rfl) rfl rfl rfl hQp rfl (fun w' hC' => (rv_indexAddr Try.underlying22 ty_el_3 (hS.ev rfl) (hS.ev rfl) (rd_of_ow (hM.get 2 rfl)) hi0 (map_len hi1))) hM.fr fun a hS => ?_
             refine tkB hS 31 4294967295 (by as_aux_lemma => kernel_rfl) rfl rfl rfl hQp rfl (fun w' hC' => (rv_load_el (hS.ev rfl) ty_ag_3 (rd_of_ow ((hB.fra hC').get 2 rfl)) (mget hex253))) hM.fr fun a hS => ?_
             obtain ⟨v254, w, hr, hM⟩ := Mem.litE (f := (int i64)) (dst := some 182) (ty := _) (pos := _) (af := _) (gd := _) (ps := [(0, .tmp 172), (1, .tmp 175), (2, .tmp 178), (3, .tmp 181)]) ([x250, x251, x252, x253] : List (Int)) i64_one hM hS Try.underlying22 ty_el_3 rfl rfl rfl rfl
             refine an_oneB hS (i := 32) 8589934591 (by as_aux_lemma => kernel_rfl) rfl (by as_aux_lemma => kernel_rfl) rfl ?_
             refine wp_val hS rfl (by decide) hr fun a hS => ⟨hM.fr, ?_⟩
             obtain ⟨r255, hr, hF⟩ := bind_some hF
             refine an_oneB hS (i := 33) 17179869183 (by as_aux_lemma => kernel_rfl) rfl (by as_aux_lemma => kernel_rfl) rfl ?_
             refine wp_call hS rfl rfl (by decide) fn_ok_27 rfl (c_impl_IsHole F r113.1 r113.2.1 ([x250, x251, x252, x253] : List (Int)) v114 v254 hr _ (rd_of_ow (hM.get 2 rfl)) (rd_of_ow (hM.get 0 rfl))) fun v w a hK hS => ?_
             obtain ⟨rfl, hN⟩ := hK
             have hM := hM.fra hN.fr
             refine ⟨hM.fr, ?_⟩
             refine tkB hS 34 34359738367 (by as_aux_lemma => kernel_rfl) rfl rfl rfl hQp rfl (fun w' hC' => (rv_not (hS.ev rfl))) hM.fr fun a hS => ?_
             refine tkB hS 35 68719476735 (by as_aux_lemma => kernel_rfl) rfl rfl rfl hQp rfl (fun w' hC' => (rv_pick_t (hS.ev rfl) (hS.ev rfl))) hM.fr fun a hS => ?_
             refine tkB hS 36 137438953471 (by as_aux_lemma => kernel_rfl) rfl rfl rfl hQp rfl (fun w' hC' => (rv_pick_f (hS.ev rfl) (hS.ev rfl))) hM.fr fun a hS => ?_
             refine tkB hS 37 274877906943 (by as_aux_lemma => kernel_rfl) rfl rfl rfl hQp rfl (fun w' hC' => (rv_pick_t (hS.ev rfl) (hS.ev rfl))) hM.fr fun a hS => ?_
             refine tkB hS 38 549755813887 (by as_aux_lemma => kernel_rfl) rfl rfl rfl hQp rfl (fun w' hC' => (rv_pick_f (hS.ev rfl) (hS.ev rfl))) hM.fr fun a hS => ?_
             refine an_done (by as_aux_lemma => kernel_rfl) ?_
             have hN := hM.pick [0] (by decide) rfl
             have hM := Mem.callo0 hB hN rfl
             exact hJ4 (!r255) _ _ (hS.sub (sub_cons rfl (sub_cons rfl sub_nil))) (hM.pick [7] (by decide) rfl) hF
            ·have hS := hS.setb (t := 168) rfl hc
             refine skB hS [19, 20, 21, 22, 23, 24, 25, 26, 27, 28, 29, 30, 31, 32, 33, 34] [169, 170, 171, 172, 173, 174, 175, 176, 177, 178, 179, 180, 181, 182, 183, 184] 34359738367 4 rfl (by as_aux_lemma => kernel_rfl) hQp hM.fr fun a hS => ?_
             refine tkB hS 35 68719476735 (by as_aux_lemma => kernel_rfl) rfl rfl rfl hQp rfl (fun w' hC' => (rv_pick_f (hS.ev rfl) (hS.ev rfl))) hM.fr fun a hS => ?_
             refine tkB hS 36 137438953471 (by as_aux_lemma => kernel_rfl) rfl rfl rfl hQp rfl (fun w' hC' => (rv_pick_f (hS.ev rfl) (hS.ev rfl))) hM.fr fun a hS => ?_
             refine tkB hS 37 274877906943 (by as_aux_lemma => kernel_rfl) rfl rfl rfl hQp rfl (fun w' hC' => (rv_pick_t (hS.ev rfl) (hS.ev rfl))) hM.fr fun a hS => ?_
             refine tkB hS 38 549755813887 (by as_aux_lemma => kernel_rfl) rfl rfl rfl hQp rfl (fun w' hC' => (rv_pick_f (hS.ev rfl) (hS.ev rfl))) hM.fr fun a hS => ?_
             refine an_done (by as_aux_lemma => kernel_rfl) ?_
             have hN := hM.pick [] (by decide) rfl
             have hM := Mem.callo0 hB hN rfl
             exact hJ4 false _ _ (hS.sub (sub_cons rfl (sub_cons rfl sub_nil))) (hM.pick [6] (by decide) rfl) hF
          ·have hS := hS.setb (t := 161) rfl hc
           refine skB hS [12, 13, 14, 15, 16, 17, 18, 19, 20, 21, 22, 23, 24, 25, 26, 27, 28, 29, 30, 31, 32, 33, 34, 35, 36] [162, 163, 164, 165, 166, 167, 168, 169, 170, 171, 172, 173, 174, 175, 176, 177, 178, 179, 180, 181, 182, 183, 184, 185, 186] 137438953471 2 rfl (by as_aux_lemma => kernel_rfl) hQp hM.fr fun a hS => ?_
           refine tkB hS 37 274877906943 (by as_aux_lemma => kernel_rfl) rfl rfl rfl hQp rfl (fun w' hC' => (rv_pick_f (hS.ev rfl) (hS.ev rfl))) hM.fr fun a hS => ?_
           refine tkB hS 38 549755813887 (by as_aux_lemma => kernel_rfl) rfl rfl rfl hQp rfl (fun w' hC' => (rv_pick_f (hS.ev rfl) (hS.ev rfl))) hM.fr fun a hS => ?_
           refine an_done (by as_aux_lemma => kernel_rfl) ?_
           have hN := hM.pick [] (by decide) rfl
           have hM := Mem.callo0 hB hN rfl
           exact hJ4 false _ _ (hS.sub (sub_cons rfl (sub_cons rfl sub_nil))) (hM.pick [6] (by decide) rfl) hF
      refine wp_region_lit ?_
      refine st_val hS rfl rfl (by decide) (rv_move (hS.ev rfl)) fun a hS => ?_
      refine st_val hS rfl rfl (by decide) (rv_move (hS.ev rfl)) fun a hS => ?_
      rcases ite_some hF with ⟨hc, hF⟩ | ⟨hc, hF⟩
      ·have hS := hS.setb (t := 125) rfl hc
       refine st_val hS rfl rfl (by decide) (rv_move (hS.ev rfl)) fun a hS => ?_
       refine st_val hS rfl rfl (by decide) (rv_not (hS.ev rfl)) fun a hS => ?_
       refine st_val hS rfl rfl (by decide) (rv_pick_t (hS.ev rfl) (hS.ev rfl)) fun a hS => ?_
       refine st_val hS rfl rfl (by decide) (rv_move (hS.ev rfl)) fun a hS => ?_
       rcases ite_some hF with ⟨hc, hF⟩ | ⟨hc, hF⟩
       ·have hS := hS.setb (t := 129) rfl hc
        refine st_val hS rfl rfl (by decide) (rv_move (hS.ev rfl)) fun a hS => ?_
        refine st_val hS rfl rfl (by decide) (rv_geq (hS.ev rfl) (hS.ev rfl)) fun a hS => ?_
        refine st_val hS rfl rfl (by decide) (rv_pick_t (hS.ev rfl) (hS.ev rfl)) fun a hS => ?_
        refine wpList_nil ?_
        exact hJ3 (decide ((1 : Int) ≤ r54.2.2)) _ _ (hS.sub (sub_cons rfl (sub_cons rfl sub_nil))) (hM.pick [0] (by decide) rfl) hF
       ·have hS := hS.setb (t := 129) rfl hc
        refine st_skip hS rfl rfl (by decide) fun a hS => ?_
        refine st_skip hS rfl rfl (by decide) fun a hS => ?_
        refine st_val hS rfl rfl (by decide) (rv_pick_f (hS.ev rfl) (hS.ev rfl)) fun a hS => ?_
        refine wpList_nil ?_
        exact hJ3 false _ _ (hS.sub (sub_cons rfl (sub_cons rfl sub_nil))) (hM.pick [0] (by decide) rfl) hF
      ·have hS := hS.setb (t := 125) rfl hc
       refine st_skip hS rfl rfl (by decide) fun a hS => ?_
       refine st_skip hS rfl rfl (by decide) fun a hS => ?_
       refine st_val hS rfl rfl (by decide) (rv_pick_f (hS.ev rfl) (hS.ev rfl)) fun a hS => ?_
       refine st_val hS rfl rfl (by decide) (rv_move (hS.ev rfl)) fun a hS => ?_
       refine st_skip hS rfl rfl (by decide) fun a hS => ?_
       refine st_skip hS rfl rfl (by decide) fun a hS => ?_
       refine st_val hS rfl rfl (by decide) (rv_pick_f (hS.ev rfl) (hS.ev rfl)) fun a hS => ?_
       refine wpList_nil ?_
       exact hJ3 false _ _ (hS.sub (sub_cons rfl (sub_cons rfl sub_nil))) (hM.pick [0] (by decide) rfl) hF
    refine wp_region_lit ?_
    refine st_val hS rfl rfl (by decide) (rv_move (hS.ev rfl)) fun a hS => ?_
    refine st_val hS rfl rfl (by decide) (rv_move (hS.ev rfl)) fun a hS => ?_
    refine st_val hS rfl rfl (by decide) (rv_bneq Try.underlying4 (hS.ev rfl) (hS.ev rfl)) fun a hS => ?_
    refine st_val hS rfl rfl (by decide) (rv_move (hS.ev rfl)) fun a hS => ?_
    rcases ite_some hF with ⟨hc, hF⟩ | ⟨hc, hF⟩
    ·have hS := hS.setb (t := 96) rfl hc
     refine st_skip hS rfl rfl (by decide) fun a hS => ?_
     refine st_skip hS rfl rfl (by decide) fun a hS => ?_
     refine st_skip hS rfl rfl (by decide) fun a hS => ?_
     refine st_skip hS rfl rfl (by decide) fun a hS => ?_
     refine st_val hS rfl rfl (by decide) (rv_pick_t (hS.ev rfl) (hS.ev rfl)) fun a hS => ?_
     refine st_val hS rfl rfl (by decide) (rv_move (hS.ev rfl)) fun a hS => ?_
     refine st_skip hS rfl rfl (by decide) fun a hS => ?_
     refine st_skip hS rfl rfl (by decide) fun a hS => ?_
     refine st_skip hS rfl rfl (by decide) fun a hS => ?_
     refine st_skip hS rfl rfl (by decide) fun a hS => ?_
     refine st_skip hS rfl rfl (by decide) fun a hS => ?_
     refine st_skip hS rfl rfl (by decide) fun a hS => ?_
     refine st_skip hS rfl rfl (by decide) fun a hS => ?_
     refine st_skip hS rfl rfl (by decide) fun a hS => ?_
     refine st_skip hS rfl rfl (by decide) fun a hS => ?_
     refine st_skip hS rfl rfl (by decide) fun a hS => ?_
     refine st_skip hS rfl rfl (by decide) fun a hS => ?_
     refine st_skip hS rfl rfl (by decide) fun a hS => ?_
     refine st_skip hS rfl rfl (by decide) fun a hS => ?_
     refine st_val hS rfl rfl (by decide) (rv_pick_t (hS.ev rfl) (hS.ev rfl)) fun a hS => ?_
     refine wpList_nil ?_
     exact hJ2 true _ _ (hS.sub (sub_cons rfl (sub_cons rfl (sub_cons rfl (sub_cons rfl (sub_cons rfl sub_nil)))))) (hM.pick [4, 2, 3] (by decide) rfl) hF
    ·have hS := hS.setb (t := 96) rfl hc
     refine st_val hS rfl rfl (by decide) (rv_move (hS.ev rfl)) fun a hS => ?_
     refine st_val hS rfl rfl (by decide) (rv_move (hS.ev rfl)) fun a hS => ?_
     obtain ⟨r256, hr, hF⟩ := bind_some hF
     refine st_wp hS rfl (wp_call hS rfl rfl (by decide) fn_ok_26 rfl (c_laws_sameInts F r60.1 r65.1 v61 v66 hr _ (rd_of_ow (hM.get 1 rfl)) (rd_of_ow (hM.get 0 rfl))) fun v w a hK hS => ?_)
     obtain ⟨rfl, hN⟩ := hK
     have hM := hM.fra hN.fr
     refine st_val hS rfl rfl (by decide) (rv_not (hS.ev rfl)) fun a hS => ?_
     refine st_val hS rfl rfl (by decide) (rv_pick_f (hS.ev rfl) (hS.ev rfl)) fun a hS => ?_
     refine st_val hS rfl rfl (by decide) (rv_move (hS.ev rfl)) fun a hS => ?_
     rcases ite_some hF with ⟨hc, hF⟩ | ⟨hc, hF⟩
     ·have hS := hS.setb (t := 102) rfl hc
      refine st_skip hS rfl rfl (by decide) fun a hS => ?_
      refine st_skip hS rfl rfl (by decide) fun a hS => ?_
      refine st_skip hS rfl rfl (by decide) fun a hS => ?_
      refine st_skip hS rfl rfl (by decide) fun a hS => ?_
      refine st_skip hS rfl rfl (by decide) fun a hS => ?_
      refine st_skip hS rfl rfl (by decide) fun a hS => ?_
      refine st_skip hS rfl rfl (by decide) fun a hS => ?_
      refine st_skip hS rfl rfl (by decide) fun a hS => ?_
      refine st_skip hS rfl rfl (by decide) fun a hS => ?_
      refine st_skip hS rfl rfl (by decide) fun a hS => ?_
      refine st_skip hS rfl rfl (by decide) fun a hS => ?_
      refine st_skip hS rfl rfl (by decide) fun a hS => ?_
      refine st_skip hS rfl rfl (by decide) fun a hS => ?_
      refine st_val hS rfl rfl (by decide) (rv_pick_t (hS.ev rfl) (hS.ev rfl)) fun a hS => ?_
      refine wpList_nil ?_
      exact hJ2 true _ _ (hS.sub (sub_cons rfl (sub_cons rfl (sub_cons rfl (sub_cons rfl (sub_cons rfl sub_nil)))))) (hM.pick [4, 2, 3] (by decide) rfl) hF
     ·have hS := hS.setb (t := 102) rfl hc
      refine st_val hS rfl rfl (by decide) (rv_move (hS.ev rfl)) fun a hS => ?_
      refine st_val hS rfl rfl (by decide) (rv_move (hS.ev rfl)) fun a hS => ?_
      rcases ite_some hF with ⟨hc, hF⟩ | ⟨hc, hF⟩
      ·have hS := hS.setb (t := 104) rfl hc
       refine st_val hS rfl rfl (by decide) (rv_load_agg (hS.ev rfl) ty_ag_28 (hM.get 2 rfl) ty_sz_28) fun a hS => ?_
       refine st_val hS rfl rfl (by decide) (rv_move (hS.ev rfl)) fun a hS => ?_
       obtain ⟨r257, hr, hF⟩ := bind_some hF
       refine st_wp hS rfl (wp_call hS rfl rfl (by decide) fn_ok_30 rfl (c_impl_IsInducedPath F r54.1 r54.2.1 r65.1 v55 v66 hr _ (rd_of_ow (hM.get 3 rfl)) (rd_of_ow (hM.get 0 rfl))) fun v w a hK hS => ?_)
       obtain ⟨rfl, hN⟩ := hK
       have hM := hM.fra hN.fr
       refine st_val hS rfl rfl (by decide) (rv_not (hS.ev rfl)) fun a hS => ?_
       refine st_val hS rfl rfl (by decide) (rv_move (hS.ev rfl)) fun a hS => ?_
       rcases ite_some hF with ⟨hc, hF⟩ | ⟨hc, hF⟩
       ·have hS := hS.setb (t := 109) rfl hc
        refine st_skip hS rfl rfl (by decide) fun a hS => ?_
        refine st_skip hS rfl rfl (by decide) fun a hS => ?_
        refine st_skip hS rfl rfl (by decide) fun a hS => ?_
        refine st_skip hS rfl rfl (by decide) fun a hS => ?_
        refine st_val hS rfl rfl (by decide) (rv_pick_t (hS.ev rfl) (hS.ev rfl)) fun a hS => ?_
        refine st_val hS rfl rfl (by decide) (rv_pick_t (hS.ev rfl) (hS.ev rfl)) fun a hS => ?_
        refine st_val hS rfl rfl (by decide) (rv_pick_f (hS.ev rfl) (hS.ev rfl)) fun a hS => ?_
        refine wpList_nil ?_
        exact hJ2 true _ _ (hS.sub (sub_cons rfl (sub_cons rfl (sub_cons rfl (sub_cons rfl (sub_cons rfl sub_nil)))))) (hM.pick [4, 2, 3] (by decide) rfl) hF
       ·have hS := hS.setb (t := 109) rfl hc
        refine st_val hS rfl rfl (by decide) (rv_move (hS.ev rfl)) fun a hS => ?_
        refine st_val hS rfl rfl (by decide) (rv_len_rowM Try.underlying22 (hS.ev rfl) (rd_of_ow (hM.get 0 rfl))) fun a hS => ?_
        refine st_val hS rfl rfl (by decide) (rv_move (hS.ev rfl)) fun a hS => ?_
        refine st_val hS rfl rfl (by decide) (rv_neq (hS.ev rfl) (hS.ev rfl)) fun a hS => ?_
        refine st_val hS rfl rfl (by decide) (rv_pick_f (hS.ev rfl) (hS.ev rfl)) fun a hS => ?_
        refine st_val hS rfl rfl (by decide) (rv_pick_t (hS.ev rfl) (hS.ev rfl)) fun a hS => ?_
        refine st_val hS rfl rfl (by decide) (rv_pick_f (hS.ev rfl) (hS.ev rfl)) fun a hS => ?_
        refine wpList_nil ?_
        exact hJ2 ((r65.1.length : Int) != r54.2.2) _ _ (hS.sub (sub_cons rfl (sub_cons rfl (sub_cons rfl (sub_cons rfl (sub_cons rfl sub_nil)))))) (hM.pick [4, 2, 3] (by decide) rfl) hF
      ·have hS := hS.setb (t := 104) rfl hc
       refine st_skip hS rfl rfl (by decide) fun a hS => ?_
       refine st_skip hS rfl rfl (by decide) fun a hS => ?_
       refine st_skip hS rfl rfl (by decide) fun a hS => ?_
       refine st_skip hS rfl rfl (by decide) fun a hS => ?_
       refine st_skip hS rfl rfl (by decide) fun a hS => ?_
       refine st_skip hS rfl rfl (by decide) fun a hS => ?_
       refine st_skip hS rfl rfl (by decide) fun a hS => ?_
       refine st_skip hS rfl rfl (by decide) fun a hS => ?_
       refine st_skip hS rfl rfl (by decide) fun a hS => ?_
       refine st_skip hS rfl rfl (by decide) fun a hS => ?_
       refine st_val hS rfl rfl (by decide) (rv_pick_f (hS.ev rfl) (hS.ev rfl)) fun a hS => ?_
       refine st_val hS rfl rfl (by decide) (rv_pick_f (hS.ev rfl) (hS.ev rfl)) fun a hS => ?_
       refine wpList_nil ?_
       exact hJ2 false _ _ (hS.sub (sub_cons rfl (sub_cons rfl (sub_cons rfl (sub_cons rfl (sub_cons rfl sub_nil)))))) (hM.pick [4, 2, 3] (by decide) rfl) hF
  refine an_startB 25 Nob ty_mixed (by kernel_rfl) fun w hf => ?_
  have hM := hM.fra hf
  have hB := hM
  have hM := hB.reg0
  refine tkB hS 0 1 (by as_aux_lemma => kernel_rfl) rfl rfl rfl hQp rfl (fun w' hC' => (rv_move (hS.ev rfl))) hM.fr fun a hS => ?_
  refine tkB hS 1 3 (by as_aux_lemma => kernel_rfl) rfl rfl rfl hQp rfl (fun w' hC' => (rv_move (hS.ev rfl))) hM.fr fun a hS => ?_
  refine tkB hS 2 7 (by as_aux_lemma => kernel_rfl) rfl rfl rfl hQp rfl (fun w' hC' => (rv_bneq Try.underlying4 (hS.ev rfl) (hS.ev rfl))) hM.fr fun a hS => ?_
  refine tkB hS 3 15 (by as_aux_lemma => kernel_rfl) rfl rfl rfl hQp rfl (fun w' hC' => (rv_move (hS.ev rfl))) hM.fr fun a hS => ?_
  rcases ite_some hF with ⟨hc, hF⟩ | ⟨hc, hF⟩
  ·have hS := hS.setb (t := 54) rfl hc
   refine skB hS [4, 5, 6, 7] [55, 56, 57, 58] 255 17 rfl (by as_aux_lemma => kernel_rfl) hQp hM.fr fun a hS => ?_
   refine tkB hS 8 511 (by as_aux_lemma => kernel_rfl) rfl rfl rfl hQp rfl (fun w' hC' => (rv_pick_t (hS.ev rfl) (hS.ev rfl))) hM.fr fun a hS => ?_
   refine tkB hS 9 1023 (by as_aux_lemma => kernel_rfl) rfl rfl rfl hQp rfl (fun w' hC' => (rv_move (hS.ev rfl))) hM.fr fun a hS => ?_
   refine skB hS [10, 11, 12, 13, 14, 15, 16, 17, 18, 19, 20, 21, 22, 23] [61, 62, 63, 64, 65, 66, 67, 68, 69, 70, 71, 72, 73, 74] 16777215 1 rfl (by as_aux_lemma => kernel_rfl) hQp hM.fr fun a hS => ?_
   refine tkB hS 24 33554431 (by as_aux_lemma => kernel_rfl) rfl rfl rfl hQp rfl (fun w' hC' => (rv_pick_t (hS.ev rfl) (hS.ev rfl))) hM.fr fun a hS => ?_
   refine an_done (by as_aux_lemma => kernel_rfl) ?_
   have hN := hM.pick [] (by decide) rfl
   have hM := Mem.callo0 hB hN rfl
   exact hJ1 true _ _ (hS.sub (sub_cons rfl (sub_cons rfl sub_nil))) (hM.pick [4] (by decide) rfl) hF
  ·have hS := hS.setb (t := 54) rfl hc
   refine tkB hS 4 31 (by as_aux_lemma => kernel_rfl) rfl rfl rfl hQp rfl (fun w' hC' => (rv_move (hS.ev rfl))) hM.fr fun a hS => ?_
   refine tkB hS 5 63 (by as_aux_lemma => kernel_rfl) rfl rfl rfl hQp rfl (fun w' hC' => (rv_move (hS.ev rfl))) hM.fr fun a hS => ?_
   obtain ⟨r258, hr, hF⟩ := bind_some hF
   refine an_oneB hS (i := 6) 127 (by as_aux_lemma => kernel_rfl) rfl (by as_aux_lemma => kernel_rfl) rfl ?_
   refine wp_call hS rfl rfl (by decide) fn_ok_26 rfl (c_laws_sameInts F r21.1 r26.1 v22 v27 hr _ (rd_of_ow (hM.get 1 rfl)) (rd_of_ow (hM.get 0 rfl))) fun v w a hK hS => ?_
   obtain ⟨rfl, hN⟩ := hK
   have hM := hM.fra hN.fr
   refine ⟨hM.fr, ?_⟩
   refine tkB hS 7 255 (by as_aux_lemma => kernel_rfl) rfl rfl rfl hQp rfl (fun w' hC' => (rv_not (hS.ev rfl))) hM.fr fun a hS => ?_
   refine tkB hS 8 511 (by as_aux_lemma => kernel_rfl) rfl rfl rfl hQp rfl (fun w' hC' => (rv_pick_f (hS.ev rfl) (hS.ev rfl))) hM.fr fun a hS => ?_
   refine tkB hS 9 1023 (by as_aux_lemma => kernel_rfl) rfl rfl rfl hQp rfl (fun w' hC' => (rv_move (hS.ev rfl))) hM.fr fun a hS => ?_
   rcases ite_some hF with ⟨hc, hF⟩ | ⟨hc, hF⟩
   ·have hS := hS.setb (t := 60) rfl hc
    refine skB hS [10, 11, 12, 13, 14, 15, 16, 17, 18, 19, 20, 21, 22, 23] [61, 62, 63, 64, 65, 66, 67, 68, 69, 70, 71, 72, 73, 74] 16777215 1 rfl (by as_aux_lemma => kernel_rfl) hQp hM.fr fun a hS => ?_
    refine tkB hS 24 33554431 (by as_aux_lemma => kernel_rfl) rfl rfl rfl hQp rfl (fun w' hC' => (rv_pick_t (hS.ev rfl) (hS.ev rfl))) hM.fr fun a hS => ?_
    refine an_done (by as_aux_lemma => kernel_rfl) ?_
    have hN := hM.pick [] (by decide) rfl
    have hM := Mem.callo0 hB hN rfl
    exact hJ1 true _ _ (hS.sub (sub_cons rfl (sub_cons rfl sub_nil))) (hM.pick [4] (by decide) rfl) hF
   ·have hS := hS.setb (t := 60) rfl hc
    refine tkB hS 10 2047 (by as_aux_lemma => kernel_rfl) rfl rfl rfl hQp rfl (fun w' hC' => (rv_move (hS.ev rfl))) hM.fr fun a hS => ?_
    refine tkB hS 11 4095 (by as_aux_lemma => kernel_rfl) rfl rfl rfl hQp rfl (fun w' hC' => (rv_move (hS.ev rfl))) hM.fr fun a hS => ?_
    rcases ite_some hF with ⟨hc, hF⟩ | ⟨hc, hF⟩
    ·have hS := hS.setb (t := 62) rfl hc
     refine tkB hS 12 8191 (by as_aux_lemma => kernel_rfl) rfl rfl rfl hQp rfl (fun w' hC' => (rv_load_agg (hS.ev rfl) ty_ag_28 ((hB.fra hC').get 2 rfl) ty_sz_28)) hM.fr fun a hS => ?_
     refine tkB hS 13 16383 (by as_aux_lemma => kernel_rfl) rfl rfl rfl hQp rfl (fun w' hC' => (rv_move (hS.ev rfl))) hM.fr fun a hS => ?_
     obtain ⟨r259, hr, hF⟩ := bind_some hF
     refine an_oneB hS (i := 14) 32767 (by as_aux_lemma => kernel_rfl) rfl (by as_aux_lemma => kernel_rfl) rfl ?_
     refine wp_call hS rfl rfl (by decide) fn_ok_27 rfl (c_impl_IsHole F r15.1 r15.2 r26.1 v16 v27 hr _ (rd_of_ow (hM.get 3 rfl)) (rd_of_ow (hM.get 0 rfl))) fun v w a hK hS => ?_
     obtain ⟨rfl, hN⟩ := hK
     have hM := hM.fra hN.fr
     refine ⟨hM.fr, ?_⟩
     refine tkB hS 15 65535 (by as_aux_lemma => kernel_rfl) rfl rfl rfl hQp rfl (fun w' hC' => (rv_not (hS.ev rfl))) hM.fr fun a hS => ?_
     refine tkB hS 16 131071 (by as_aux_lemma => kernel_rfl) rfl rfl rfl hQp rfl (fun w' hC' => (rv_move (hS.ev rfl))) hM.fr fun a hS => ?_
     rcases ite_some hF with ⟨hc, hF⟩ | ⟨hc, hF⟩
     ·have hS := hS.setb (t := 67) rfl hc
      refine skB hS [17, 18, 19, 20, 21] [68, 69, 70, 71, 72] 4194303 3 rfl (by as_aux_lemma => kernel_rfl) hQp hM.fr fun a hS => ?_
      refine tkB hS 22 8388607 (by as_aux_lemma => kernel_rfl) rfl rfl rfl hQp rfl (fun w' hC' => (rv_pick_t (hS.ev rfl) (hS.ev rfl))) hM.fr fun a hS => ?_
      refine tkB hS 23 16777215 (by as_aux_lemma => kernel_rfl) rfl rfl rfl hQp rfl (fun w' hC' => (rv_pick_t (hS.ev rfl) (hS.ev rfl))) hM.fr fun a hS => ?_
      refine tkB hS 24 33554431 (by as_aux_lemma => kernel_rfl) rfl rfl rfl hQp rfl (fun w' hC' => (rv_pick_f (hS.ev rfl) (hS.ev rfl))) hM.fr fun a hS => ?_
      refine an_done (by as_aux_lemma => kernel_rfl) ?_
      have hN := hM.pick [] (by decide) rfl
      have hM := Mem.callo0 hB hN rfl
      exact hJ1 true _ _ (hS.sub (sub_cons rfl (sub_cons rfl sub_nil))) (hM.pick [4] (by decide) rfl) hF
     ·have hS := hS.setb (t := 67) rfl hc
      refine tkB hS 17 262143 (by as_aux_lemma => kernel_rfl) rfl rfl rfl hQp rfl (fun w' hC' => (rv_load_agg (hS.ev rfl) ty_ag_28 ((hB.fra hC').get 2 rfl) ty_sz_28)) hM.fr fun a hS => ?_
      refine tkB hS 18 524287 (by as_aux_lemma => kernel_rfl) rfl rfl rfl hQp rfl (fun w' hC' => (rv_move (hS.ev rfl))) hM.fr fun a hS => ?_
      obtain ⟨r260, hr, hF⟩ := bind_some hF
      refine an_oneB hS (i := 19) 1048575 (by as_aux_lemma => kernel_rfl) rfl (by as_aux_lemma => kernel_rfl) rfl ?_
      refine wp_call hS rfl rfl (by decide) fn_ok_28 rfl (c_impl_CanonicalCycle F r26.1 v27 hr _ (rd_of_ow (hM.get 0 rfl))) fun v261 w a hK hS => ?_
      have hN := hK
      have hM := hM.add hN rfl
      refine ⟨hM.fr, ?_⟩
      obtain ⟨r262, hr, hF⟩ := bind_some hF
      refine an_oneB hS (i := 20) 2097151 (by as_aux_lemma => kernel_rfl) rfl (by as_aux_lemma => kernel_rfl) rfl ?_
      refine wp_call hS rfl rfl (by decide) fn_ok_27 rfl (c_impl_IsHole F r15.1 r15.2 r260 v16 v261 hr _ (rd_of_ow (hM.get 4 rfl)) (rd_of_ow (hM.get 0 rfl))) fun v w a hK hS => ?_
      obtain ⟨rfl, hN⟩ := hK
      have hM := hM.fra hN.fr
      refine ⟨hM.fr, ?_⟩
      refine tkB hS 21 4194303 (by as_aux_lemma => kernel_rfl) rfl rfl rfl hQp rfl (fun w' hC' => (rv_not (hS.ev rfl))) hM.fr fun a hS => ?_
      refine tkB hS 22 8388607 (by as_aux_lemma => kernel_rfl) rfl rfl rfl hQp rfl (fun w' hC' => (rv_pick_f (hS.ev rfl) (hS.ev rfl))) hM.fr fun a hS => ?_
      refine tkB hS 23 16777215 (by as_aux_lemma => kernel_rfl) rfl rfl rfl hQp rfl (fun w' hC' => (rv_pick_t (hS.ev rfl) (hS.ev rfl))) hM.fr fun a hS => ?_
      refine tkB hS 24 33554431 (by as_aux_lemma => kernel_rfl) rfl rfl rfl hQp rfl (fun w' hC' => (rv_pick_f (hS.ev rfl) (hS.ev rfl))) hM.fr fun a hS => ?_
      refine an_done (by as_aux_lemma => kernel_rfl) ?_
      have hN := hM.pick [0] (by decide) rfl
      have hM := Mem.callo0 hB hN rfl
      exact hJ1 (!r262) _ _ (hS.sub (sub_cons rfl (sub_cons rfl sub_nil))) (hM.pick [5] (by decide) rfl) hF
    ·have hS := hS.setb (t := 62) rfl hc
     refine skB hS [12, 13, 14, 15, 16, 17, 18, 19, 20, 21, 22] [63, 64, 65, 66, 67, 68, 69, 70, 71, 72, 73] 8388607 2 rfl (by as_aux_lemma => kernel_rfl) hQp hM.fr fun a hS => ?_
     refine tkB hS 23 16777215 (by as_aux_lemma => kernel_rfl) rfl rfl rfl hQp rfl (fun w' hC' => (rv_pick_f (hS.ev rfl) (hS.ev rfl))) hM.fr fun a hS => ?_
     refine tkB hS 24 33554431 (by as_aux_lemma => kernel_rfl) rfl rfl rfl hQp rfl (fun w' hC' => (rv_pick_f (hS.ev rfl) (hS.ev rfl))) hM.fr fun a hS => ?_
     refine an_done (by as_aux_lemma => kernel_rfl) ?_
     have hN := hM.pick [] (by decide) rfl
     have hM := Mem.callo0 hB hN rfl
     exact hJ1 false _ _ (hS.sub (sub_cons rfl (sub_cons rfl sub_nil))) (hM.pick [4] (by decide) rfl) hF


end Go.Proofs.Ytilfniehellmmaa
