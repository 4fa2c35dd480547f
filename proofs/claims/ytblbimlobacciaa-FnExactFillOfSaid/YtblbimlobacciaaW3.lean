/- Proved here: that each Go function does what its shallow function says -/
import Derived.Test.YtblbimlobacciaaSh
import Derived.Test.YtblbimlobacciaaTy
import Derived.Test.YtblbimlobacciaaK13
import Derived.Test.YtblbimlobacciaaW0
import Derived.Test.YtblbimlobacciaaW1
import Derived.Test.YtblbimlobacciaaW2
namespace Go.Proofs.Ytblbimlobacciaa
open Go Go.RowKit
set_option linter.unusedVariables false
set_option linter.unusedSimpArgs false
set_option maxRecDepth 100000
set_option maxHeartbeats 40000000

open Go.IntKind (i64)
open Go.Value (int)
theorem c_laws_FnExactFillOf (F : Nat) (p0_aG_Size : Int) (p0_aG_Rows : List Int) (p1_aOrder : List Int) (p0_aG_Rowsv : Value) (p1_aOrderv : Value) {r : Bool} (hF : S_laws_FnExactFillOf F p0_aG_Size p0_aG_Rows p1_aOrder = some r) (w0 : World) (h0 : RdRow w0 p0_aG_Rowsv (List.map (int i64) p0_aG_Rows)) (h1 : RdRow w0 p1_aOrderv (List.map (int i64) p1_aOrder)) :
    Calls Try.prog 3 [(Value.agg #[(int i64 p0_aG_Size), p0_aG_Rowsv]), p1_aOrderv].toArray w0 (retPost fun v w' => v = (Value.bool r) ∧ Mem Nob w0 w' []) := by
 have hM : Mem Nob w0 w0 [(false, rd p0_aG_Rowsv (List.map (int i64) p0_aG_Rows)), (false, rd p1_aOrderv (List.map (int i64) p1_aOrder))] := (Mem.rcons (Mem.rcons (Mem.nil w0) h1 (by simp)) h0 (by simp))
 refine enter2 Try.func3 rfl rfl rfl fun Q a hQr hQn hQp hS => ?_
 have hS : Sl 117 [(0, (Value.agg #[(int i64 p0_aG_Size), p0_aG_Rowsv])), (1, p1_aOrderv)] a := hS
 unfold S_laws_FnExactFillOf at hF
 refine wp_seq_k fun K1 hK1 => ?_
 refine wp_region_lit ?_
 obtain ⟨b3, w, hr, hM⟩ := hM.boxE (ρ := a.eval) (dst := some 2) (ty := _) (pos := _) (af := _) (gd := _) (x := .tmp 0) (T := 24) [(int i64 p0_aG_Size), p0_aG_Rowsv] (hS.ev rfl) rfl
 refine st_val hS rfl rfl (by decide) hr fun a hS => ?_
 refine st_val hS rfl rfl (by decide) (rv_assign (hS.ev rfl)) fun a hS => ?_
 refine wpList_nil ?_
 refine hK1 _ _ ?_
 refine wp_seq_k fun K4 hK4 => ?_
 refine wp_seq_k fun K7 hK7 => ?_
 refine wp_region_lit ?_
 refine st_val hS rfl rfl (by decide) (rv_move (hS.ev rfl)) fun a hS => ?_
 refine st_val hS rfl rfl (by decide) (rv_len_rowM Try.underlying22 (hS.ev rfl) (hM.get 2 rfl)) fun a hS => ?_
 refine st_val hS rfl rfl (by decide) (rv_gtr (hS.ev rfl) (hS.ev rfl)) fun a hS => ?_
 refine wpList_nil ?_
 refine hK7 _ _ ?_
 rcases ite_some hF with ⟨hc, hF⟩ | ⟨hc, hF⟩
 ·refine cond_t hS rfl hc ?_
  refine wp_seq_k fun K8 hK8 => ?_
  refine wp_region_lit ?_
  refine st_val hS rfl rfl (by decide) (rv_assign (hS.ev rfl)) fun a hS => ?_
  refine wpList_nil ?_
  refine hK8 _ _ ?_
  have hS : Sl 117 [(4, (Value.bool true))] a := hS.sub (sub_cons rfl sub_nil)
  have hM := hM.pk [] (by decide) pn
  refine wp_ret ?_
  cases hF
  exact hQr _ _ (r_1 hS rfl rfl ⟨rfl, hM.pk [] (by decide) pn⟩)
 ·refine cond_f hS rfl hc ?_
  refine wp_skip ?_
  refine hK4 _ _ ?_
  refine wp_seq_k fun K9 hK9 => ?_
  refine wp_region_lit ?_
  refine st_val hS rfl rfl (by decide) (rv_assign (hS.ev rfl)) fun a hS => ?_
  refine wpList_nil ?_
  refine hK9 _ _ ?_
  refine wp_seq_k fun K10 hK10 => ?_
  refine wp_region_lit ?_
  refine st_val hS rfl rfl (by decide) (rv_load_agg (hS.ev rfl) ty_ag_24 (hM.get 0 rfl) ty_sz_24) fun a hS => ?_
  refine st_val hS rfl rfl (by decide) (rv_move (hS.ev rfl)) fun a hS => ?_
  obtain ⟨r12, hr, hF⟩ := bind_some hF
  refine st_wp hS rfl (wp_call hS rfl rfl (by decide) fn_ok_4 rfl (c_laws_szGraph F p0_aG_Size p0_aG_Rows 1048576 p0_aG_Rowsv hr _ (hM.get 1 rfl)) fun v w a hK hS => ?_)
  obtain ⟨rfl, hN⟩ := hK
  have hM := hM.fra hN.fr
  refine st_val hS rfl rfl (by decide) (rv_assign (hS.ev rfl)) fun a hS => ?_
  refine wpList_nil ?_
  refine hK10 _ _ ?_
  have hS : Sl 117 [(1, p1_aOrderv), (2, (fdp b3 0)), (5, (int i64 r12))] a := hS.sub (sub_cons rfl (sub_cons rfl (sub_cons rfl sub_nil)))
  refine wp_seq_k fun K13 hK13 => ?_
  refine wp_seq_k fun K16 hK16 => ?_
  refine wp_region_lit ?_
  refine st_val hS rfl rfl (by decide) (rv_move (hS.ev rfl)) fun a hS => ?_
  refine st_val hS rfl rfl (by decide) (rv_lss (hS.ev rfl) (hS.ev rfl)) fun a hS => ?_
  refine wpList_nil ?_
  refine hK16 _ _ ?_
  rcases ite_some hF with ⟨hc, hF⟩ | ⟨hc, hF⟩
  ·refine cond_t hS rfl hc ?_
   refine wp_seq_k fun K17 hK17 => ?_
   refine wp_region_lit ?_
   refine st_val hS rfl rfl (by decide) (rv_assign (hS.ev rfl)) fun a hS => ?_
   refine wpList_nil ?_
   refine hK17 _ _ ?_
   have hS : Sl 117 [(4, (Value.bool true))] a := hS.sub (sub_cons rfl sub_nil)
   have hM := hM.pk [] (by decide) pn
   refine wp_ret ?_
   cases hF
   exact hQr _ _ (r_1 hS rfl rfl ⟨rfl, hM.pk [] (by decide) pn⟩)
  ·refine cond_f hS rfl hc ?_
   refine wp_skip ?_
   refine hK13 _ _ ?_
   refine wp_seq_k fun K18 hK18 => ?_
   refine wp_region_lit ?_
   refine st_val hS rfl rfl (by decide) (rv_load_agg (hS.ev rfl) ty_ag_24 (hM.get 0 rfl) ty_sz_24) fun a hS => ?_
   obtain ⟨r26, hr, hF⟩ := bind_some hF
   refine st_wp hS rfl (wp_call hS rfl rfl (by decide) fn_ok_6 rfl (c_laws_toGraph F p0_aG_Size p0_aG_Rows p0_aG_Rowsv hr _ (hM.get 1 rfl)) fun v w a hK hS => ?_)
   obtain ⟨v27, rfl, hN⟩ := hK
   have hM := hM.add hN rfl
   refine st_val hS rfl rfl (by decide) (rv_move (hS.ev rfl)) fun a hS => ?_
   obtain ⟨r28, hr, hF⟩ := bind_some hF
   refine st_wp hS rfl (wp_call hS rfl rfl (by decide) fn_ok_7 rfl (c_laws_toIntS F p1_aOrder p1_aOrderv hr _ (hM.get 3 rfl)) fun v29 w a hK hS => ?_)
   have hN := hK
   have hM := hM.add hN rfl
   obtain ⟨r30, hr, hF⟩ := bind_some hF
   refine st_wp hS rfl (wp_call hS rfl rfl (by decide) fn_ok_5 rfl (c_spec_FillOf F r26.1 r26.2 r28 v27 v29 hr _ (rd_of_ow (hM.get 1 rfl)) (rd_of_ow (hM.get 0 rfl))) fun v w a hK hS => ?_)
   obtain ⟨v31, hs32, rfl, hN⟩ := hK
   have hM := hM.add hN rfl
   refine st_val hS rfl rfl (by decide) (rv_move (hS.ev rfl)) fun a hS => ?_
   refine st_val hS rfl rfl (by decide) (rv_extract (hS.ev rfl) rfl) fun a hS => ?_
   refine st_val hS rfl rfl (by decide) (rv_extract (hS.ev rfl) rfl) fun a hS => ?_
   refine st_val hS rfl rfl (by decide) (rv_assign (hS.ev rfl)) fun a hS => ?_
   refine st_val hS rfl rfl (by decide) (rv_assign (hS.ev rfl)) fun a hS => ?_
   refine wpList_nil ?_
   refine hK18 _ _ ?_
   have hS : Sl 117 [(1, p1_aOrderv), (2, (fdp b3 0)), (6, v31), (7, (Value.bool r30.2))] a := hS.sub (sub_cons rfl (sub_cons rfl (sub_cons rfl (sub_cons rfl sub_nil))))
   have hM := hM.pk [0, 3, 4, 5] (by decide) (pc rfl (pc rfl (pc rfl (pc rfl pn))))
   refine wp_seq_k fun K33 hK33 => ?_
   refine wp_region_lit ?_
   refine st_val hS rfl rfl (by decide) (rv_load_agg (hS.ev rfl) ty_ag_24 (hM.get 1 rfl) ty_sz_24) fun a hS => ?_
   obtain ⟨r37, hr, hF⟩ := bind_some hF
   refine st_wp hS rfl (wp_call hS rfl rfl (by decide) fn_ok_6 rfl (c_laws_toGraph F p0_aG_Size p0_aG_Rows p0_aG_Rowsv hr _ (hM.get 2 rfl)) fun v w a hK hS => ?_)
   obtain ⟨v38, rfl, hN⟩ := hK
   have hM := hM.add hN rfl
   obtain ⟨b39, w, hr, hM⟩ := hM.allocE (ρ := a.eval) (dst := some 8) (ty := _) (pos := _) (af := _) (gd := _) (T := 29) (P := Try.prog) [(int i64 0), (Value.slice none 0 0)] ty_zr_29 rfl
   refine st_val hS rfl rfl (by decide) hr fun a hS => ?_
   have hM := hM.addNil 3
   have hM := hM.pk [1, 0, 2, 3, 4, 5, 6] (by decide) (pc rfl (pc rfl (pc rfl (pc rfl (pc rfl (pc rfl (pc rfl pn)))))))
   obtain ⟨w, hr, hM⟩ := hM.st_agg (us := [(int i64 r37.1), v38]) (ρ := a.eval) (dst := none) (ty := _) (pos := _) (af := _) (gd := _) (x := .tmp 8) (y := .tmp 34) (hS.ev rfl) (hS.ev rfl) ty_sz_29 (all1_cons rfl (all1_cons (rd_one (rd_of_ow (hM.get 2 rfl))) all1_nil)) rfl
   refine st_unit hS rfl rfl hr ?_
   refine wpList_nil ?_
   refine hK33 _ _ ?_
   refine wp_seq_k fun K40 hK40 => ?_
   refine wp_region_lit ?_
   refine st_val hS rfl rfl (by decide) (rv_move (hS.ev rfl)) fun a hS => ?_
   obtain ⟨r43, hr, hF⟩ := bind_some hF
   refine st_wp hS rfl (wp_call hS rfl rfl (by decide) fn_ok_7 rfl (c_laws_toIntS F p1_aOrder p1_aOrderv hr _ (hM.get 6 rfl)) fun v44 w a hK hS => ?_)
   have hN := hK
   have hM := hM.add hN rfl
   refine st_val hS rfl rfl (by decide) (rv_assign (hS.ev rfl)) fun a hS => ?_
   refine wpList_nil ?_
   refine hK40 _ _ ?_
   refine wp_seq_k fun K45 hK45 => ?_
   refine wp_region_lit ?_
   refine st_val hS rfl rfl (by decide) (rv_load_agg (hS.ev rfl) ty_ag_29 (hM.get 1 rfl) ty_sz_29) fun a hS => ?_
   refine st_val hS rfl rfl (by decide) (rv_move (hS.ev rfl)) fun a hS => ?_
   obtain ⟨r49, hr, hF⟩ := bind_some hF
   refine st_wp hS rfl (wp_call hS rfl rfl (by decide) fn_ok_8 rfl (c_impl_FillOf F r37.1 r37.2 r43 v38 v44 hr _ (rd_of_ow (hM.get 3 rfl)) (rd_of_ow (hM.get 0 rfl))) fun v w a hK hS => ?_)
   obtain ⟨v50, hs51, rfl, hN⟩ := hK
   have hM := hM.add hN rfl
   refine st_val hS rfl rfl (by decide) (rv_move (hS.ev rfl)) fun a hS => ?_
   refine st_val hS rfl rfl (by decide) (rv_extract (hS.ev rfl) rfl) fun a hS => ?_
   refine st_val hS rfl rfl (by decide) (rv_extract (hS.ev rfl) rfl) fun a hS => ?_
   refine st_val hS rfl rfl (by decide) (rv_assign (hS.ev rfl)) fun a hS => ?_
   refine st_val hS rfl rfl (by decide) (rv_assign (hS.ev rfl)) fun a hS => ?_
   refine wpList_nil ?_
   refine hK45 _ _ ?_
   have hS : Sl 117 [(1, p1_aOrderv), (2, (fdp b3 0)), (6, v31), (7, (Value.bool r30.2)), (8, (fdp b39 0)), (9, v44), (10, v50), (11, (Value.bool r49.2))] a := hS.sub (sub_cons rfl (sub_cons rfl (sub_cons rfl (sub_cons rfl (sub_cons rfl (sub_cons rfl (sub_cons rfl (sub_cons rfl sub_nil))))))))
   have hM := hM.pk [0, 1, 2, 4, 5, 6, 7, 8] (by decide) (pc rfl (pc rfl (pc rfl (pc rfl (pc rfl (pc rfl (pc rfl (pc rfl pn))))))))
   refine wp_seq_k fun K52 hK52 => ?_
   refine wp_seq_k fun K58 hK58 => ?_
   have hJ1 : ∀ (p60 : Bool) (a : Act) (w : World), Sl 117 [(1, p1_aOrderv), (2, (fdp b3 0)), (6, v31), (7, (Value.bool r30.2)), (8, (fdp b39 0)), (9, v44), (10, v50), (11, (Value.bool r49.2)), (51, (Value.bool p60))] a → Mem Nob w0 w [(false, rd p1_aOrderv (List.map (int i64) p1_aOrder)), (true, bx b3 24 [(int i64 p0_aG_Size), p0_aG_Rowsv]), (false, rd p0_aG_Rowsv (List.map (int i64) p0_aG_Rows)), (true, mx 22 3 v31 hs32 (List.map (List.map (int i64)) r30.1)), (true, bx b39 29 [(int i64 r37.1), v38]), (true, ow 3 v38 (List.map (int i64) r37.2)), (true, ow 3 v44 (List.map (int i64) r43)), (true, mx 22 3 v50 hs51 (List.map (List.map (int i64)) r49.1))] → S_laws_FnExactFillOf_j1 F p0_aG_Size p0_aG_Rows p1_aOrder r30 r37 r43 r49 p60 = some r → K58 a w := by
    intro p60 a w hS hM hF
    unfold S_laws_FnExactFillOf_j1 at hF
    refine hK58 _ _ ?_
    rcases ite_some hF with ⟨hc, hF⟩ | ⟨hc, hF⟩
    ·refine cond_t hS rfl hc ?_
     refine wp_seq_k fun K61 hK61 => ?_
     refine wp_region_lit ?_
     refine st_val hS rfl rfl (by decide) (rv_assign (hS.ev rfl)) fun a hS => ?_
     refine wpList_nil ?_
     refine hK61 _ _ ?_
     have hS : Sl 117 [(4, (Value.bool false))] a := hS.sub (sub_cons rfl sub_nil)
     have hM := hM.pk [] (by decide) pn
     refine wp_ret ?_
     cases hF
     exact hQr _ _ (r_1 hS rfl rfl ⟨rfl, hM.pk [] (by decide) pn⟩)
    ·refine cond_f hS rfl hc ?_
     refine wp_skip ?_
     refine hK52 _ _ ?_
     refine wp_seq_k fun K62 hK62 => ?_
     refine wp_seq_k fun K71 hK71 => ?_
     refine an_startB 5 Nob ty_mixed (by kernel_rfl) fun w hf => ?_
     have hM := hM.fra hf
     have hB := hM
     have hM := hB.reg0
     try dsimp only [ro] at hM
     refine tkB hS 0 1 (by kernel_rfl) rfl rfl rfl hQp rfl (fun w' hC' => (rv_load_agg (hS.ev rfl) ty_ag_29 ((hB.fra hC').get 4 rfl) ty_sz_29)) hM.fr fun a hS => ?_
     refine tkB hS 1 3 (by kernel_rfl) rfl rfl rfl hQp rfl (fun w' hC' => (rv_load_agg (hS.ev rfl) ty_ag_24 ((hB.fra hC').get 1 rfl) ty_sz_24)) hM.fr fun a hS => ?_
     obtain ⟨r75, hr, hF⟩ := bind_some hF
     refine an_oneB hS (i := 2) 7 (by kernel_rfl) rfl (by kernel_rfl) rfl ?_
     refine wp_call hS rfl rfl (by decide) fn_ok_6 rfl (c_laws_toGraph F p0_aG_Size p0_aG_Rows p0_aG_Rowsv hr _ (hM.get 2 rfl)) fun v w a hK hS => ?_
     obtain ⟨v76, rfl, hN⟩ := hK
     have hM := hM.add hN rfl
     refine ⟨hM.fr, ?_⟩
     obtain ⟨r77, hr, hF⟩ := bind_some hF
     refine an_oneB hS (i := 3) 15 (by kernel_rfl) rfl (by kernel_rfl) rfl ?_
     refine wp_call hS rfl rfl (by decide) fn_ok_10 rfl (c_laws_eqGraph F r37.1 r37.2 r75.1 r75.2 v38 v76 hr _ (rd_of_ow (hM.get 6 rfl)) (rd_of_ow (hM.get 0 rfl))) fun v w a hK hS => ?_
     obtain ⟨rfl, hN⟩ := hK
     have hM := hM.fra hN.fr
     refine ⟨hM.fr, ?_⟩
     refine tkB hS 4 31 (by kernel_rfl) rfl rfl rfl hQp rfl (fun w' hC' => (rv_not (hS.ev rfl))) hM.fr fun a hS => ?_
     refine an_done (by kernel_rfl) ?_
     have hN := hM.pk [0] (by decide) (pc rfl pn)
     have hM := Mem.callo0 hB hN rfl
     refine hK71 _ _ ?_
     rcases ite_some hF with ⟨hc, hF⟩ | ⟨hc, hF⟩
     ·refine cond_t hS rfl hc ?_
      refine wp_seq_k fun K78 hK78 => ?_
      refine wp_region_lit ?_
      refine st_val hS rfl rfl (by decide) (rv_assign (hS.ev rfl)) fun a hS => ?_
      refine wpList_nil ?_
      refine hK78 _ _ ?_
      have hS : Sl 117 [(4, (Value.bool false))] a := hS.sub (sub_cons rfl sub_nil)
      have hM := hM.pk [] (by decide) pn
      refine wp_ret ?_
      cases hF
      exact hQr _ _ (r_1 hS rfl rfl ⟨rfl, hM.pk [] (by decide) pn⟩)
     ·refine cond_f hS rfl hc ?_
      refine wp_skip ?_
      refine hK62 _ _ ?_
      refine wp_seq_k fun K79 hK79 => ?_
      refine wp_seq_k fun K88 hK88 => ?_
      refine wp_region_lit ?_
      refine st_val hS rfl rfl (by decide) (rv_move (hS.ev rfl)) fun a hS => ?_
      refine st_val hS rfl rfl (by decide) (rv_move (hS.ev rfl)) fun a hS => ?_
      obtain ⟨r92, hr, hF⟩ := bind_some hF
      refine st_wp hS rfl (wp_call hS rfl rfl (by decide) fn_ok_7 rfl (c_laws_toIntS F p1_aOrder p1_aOrderv hr _ (hM.get 1 rfl)) fun v93 w a hK hS => ?_)
      have hN := hK
      have hM := hM.add hN rfl
      obtain ⟨r94, hr, hF⟩ := bind_some hF
      refine st_wp hS rfl (wp_call hS rfl rfl (by decide) fn_ok_11 rfl (c_laws_eqIntS F r43 r92 v44 v93 hr _ (rd_of_ow (hM.get 8 rfl)) (rd_of_ow (hM.get 0 rfl))) fun v w a hK hS => ?_)
      obtain ⟨rfl, hN⟩ := hK
      have hM := hM.fra hN.fr
      refine st_val hS rfl rfl (by decide) (rv_not (hS.ev rfl)) fun a hS => ?_
      refine wpList_nil ?_
      refine hK88 _ _ ?_
      have hS : Sl 117 [(1, p1_aOrderv), (2, (fdp b3 0)), (6, v31), (7, (Value.bool r30.2)), (8, (fdp b39 0)), (9, v44), (10, v50), (11, (Value.bool r49.2)), (61, (Value.bool (!r94)))] a := hS.sub (sub_cons rfl (sub_cons rfl (sub_cons rfl (sub_cons rfl (sub_cons rfl (sub_cons rfl (sub_cons rfl (sub_cons rfl (sub_cons rfl sub_nil)))))))))
      have hM := hM.pk [2, 3, 4, 5, 6, 7, 8, 9] (by decide) (pc rfl (pc rfl (pc rfl (pc rfl (pc rfl (pc rfl (pc rfl (pc rfl pn))))))))
      rcases ite_some hF with ⟨hc, hF⟩ | ⟨hc, hF⟩
      ·refine cond_t hS rfl hc ?_
       refine wp_seq_k fun K95 hK95 => ?_
       refine wp_region_lit ?_
       refine st_val hS rfl rfl (by decide) (rv_assign (hS.ev rfl)) fun a hS => ?_
       refine wpList_nil ?_
       refine hK95 _ _ ?_
       have hS : Sl 117 [(4, (Value.bool false))] a := hS.sub (sub_cons rfl sub_nil)
       have hM := hM.pk [] (by decide) pn
       refine wp_ret ?_
       cases hF
       exact hQr _ _ (r_1 hS rfl rfl ⟨rfl, hM.pk [] (by decide) pn⟩)
      ·refine cond_f hS rfl hc ?_
       refine wp_skip ?_
       refine hK79 _ _ ?_
       refine wp_seq_k fun K96 hK96 => ?_
       refine wp_region_lit ?_
       refine st_val hS rfl rfl (by decide) (rv_assign (hS.ev rfl)) fun a hS => ?_
       refine wpList_nil ?_
       refine hK96 _ _ ?_
       refine wp_seq_k fun K97 hK97 => ?_
       refine wp_region_lit ?_
       refine st_val hS rfl rfl (by decide) (rv_load_agg (hS.ev rfl) ty_ag_29 (hM.get 4 rfl) ty_sz_29) fun a hS => ?_
       refine st_val hS rfl rfl (by decide) (rv_move (hS.ev rfl)) fun a hS => ?_
       obtain ⟨r99, hr, hF⟩ := bind_some hF
       have hM := hM.pk [5, 0, 1, 2, 3, 4, 6, 7] (by decide) (pc rfl (pc rfl (pc rfl (pc rfl (pc rfl (pc rfl (pc rfl (pc rfl pn))))))))
       have hP := Mem.pre (A := [(true, ow 3 v38 (List.map (int i64) r37.2))]) (C := []) (B := [(false, rd p1_aOrderv (List.map (int i64) p1_aOrder)), (true, bx b3 24 [(int i64 p0_aG_Size), p0_aG_Rowsv]), (false, rd p0_aG_Rowsv (List.map (int i64) p0_aG_Rows)), (true, mx 22 3 v31 hs32 (List.map (List.map (int i64)) r30.1)), (true, bx b39 29 [(int i64 r37.1), v38]), (true, ow 3 v44 (List.map (int i64) r43)), (true, mx 22 3 v50 hs51 (List.map (List.map (int i64)) r49.1))]) hM rfl weaks_nil
       refine st_wp hS rfl (wp_call hS rfl rfl (by decide) fn_ok_12 rfl (c_laws_markGraph F r37.1 r37.2 1 v38 hr _ hP) fun v w a hK hS => ?_)
       obtain ⟨rfl, hN⟩ := hK
       have hM := Mem.callo (A := [(true, ow 3 v38 (List.map (int i64) r37.2))]) (B := [(false, rd p1_aOrderv (List.map (int i64) p1_aOrder)), (true, bx b3 24 [(int i64 p0_aG_Size), p0_aG_Rowsv]), (false, rd p0_aG_Rowsv (List.map (int i64) p0_aG_Rows)), (true, mx 22 3 v31 hs32 (List.map (List.map (int i64)) r30.1)), (true, bx b39 29 [(int i64 r37.1), v38]), (true, ow 3 v44 (List.map (int i64) r43)), (true, mx 22 3 v50 hs51 (List.map (List.map (int i64)) r49.1))]) hM rfl hN rfl
       refine st_val hS rfl rfl (by decide) (rv_assign (hS.ev rfl)) fun a hS => ?_
       refine wpList_nil ?_
       refine hK97 _ _ ?_
       refine wp_seq_k fun K100 hK100 => ?_
       refine wp_region_lit ?_
       refine st_val hS rfl rfl (by decide) (rv_move (hS.ev rfl)) fun a hS => ?_
       refine st_val hS rfl rfl (by decide) (rv_move (hS.ev rfl)) fun a hS => ?_
       obtain ⟨r102, hr, hF⟩ := bind_some hF
       have hM := hM.pk [6, 0, 1, 2, 3, 4, 5, 7] (by decide) (pc rfl (pc rfl (pc rfl (pc rfl (pc rfl (pc rfl (pc rfl (pc rfl pn))))))))
       have hP := Mem.pre (A := [(true, ow 3 v44 (List.map (int i64) r43))]) (C := []) (B := [(true, ow 3 v38 (List.map (int i64) r99.2)), (false, rd p1_aOrderv (List.map (int i64) p1_aOrder)), (true, bx b3 24 [(int i64 p0_aG_Size), p0_aG_Rowsv]), (false, rd p0_aG_Rowsv (List.map (int i64) p0_aG_Rows)), (true, mx 22 3 v31 hs32 (List.map (List.map (int i64)) r30.1)), (true, bx b39 29 [(int i64 r37.1), v38]), (true, mx 22 3 v50 hs51 (List.map (List.map (int i64)) r49.1))]) hM rfl weaks_nil
       refine st_wp hS rfl (wp_call hS rfl rfl (by decide) fn_ok_13 rfl (c_laws_markIntS F r43 r99.1 v44 hr _ hP) fun v w a hK hS => ?_)
       obtain ⟨rfl, hN⟩ := hK
       have hM := Mem.callo (A := [(true, ow 3 v44 (List.map (int i64) r43))]) (B := [(true, ow 3 v38 (List.map (int i64) r99.2)), (false, rd p1_aOrderv (List.map (int i64) p1_aOrder)), (true, bx b3 24 [(int i64 p0_aG_Size), p0_aG_Rowsv]), (false, rd p0_aG_Rowsv (List.map (int i64) p0_aG_Rows)), (true, mx 22 3 v31 hs32 (List.map (List.map (int i64)) r30.1)), (true, bx b39 29 [(int i64 r37.1), v38]), (true, mx 22 3 v50 hs51 (List.map (List.map (int i64)) r49.1))]) hM rfl hN rfl
       refine st_val hS rfl rfl (by decide) (rv_assign (hS.ev rfl)) fun a hS => ?_
       refine wpList_nil ?_
       refine hK100 _ _ ?_
       have hS : Sl 117 [(1, p1_aOrderv), (2, (fdp b3 0)), (6, v31), (7, (Value.bool r30.2)), (10, v50), (11, (Value.bool r49.2)), (12, (int i64 r102.1))] a := hS.sub (sub_cons rfl (sub_cons rfl (sub_cons rfl (sub_cons rfl (sub_cons rfl (sub_cons rfl (sub_cons rfl sub_nil)))))))
       have hM := hM.pk [2, 3, 4, 5, 7] (by decide) (pc rfl (pc rfl (pc rfl (pc rfl (pc rfl pn)))))
       refine wp_seq_k fun K103 hK103 => ?_
       refine wp_seq_k fun K109 hK109 => ?_
       have hJ2 : ∀ (p111 : Bool) (a : Act) (w : World), Sl 117 [(1, p1_aOrderv), (2, (fdp b3 0)), (6, v31), (7, (Value.bool r30.2)), (10, v50), (80, (Value.bool p111))] a → Mem Nob w0 w [(false, rd p1_aOrderv (List.map (int i64) p1_aOrder)), (true, bx b3 24 [(int i64 p0_aG_Size), p0_aG_Rowsv]), (false, rd p0_aG_Rowsv (List.map (int i64) p0_aG_Rows)), (true, mx 22 3 v31 hs32 (List.map (List.map (int i64)) r30.1)), (true, mx 22 3 v50 hs51 (List.map (List.map (int i64)) r49.1))] → S_laws_FnExactFillOf_j2 F p0_aG_Size p0_aG_Rows p1_aOrder r30 r49 p111 = some r → K109 a w := by
        intro p111 a w hS hM hF
        unfold S_laws_FnExactFillOf_j2 at hF
        refine hK109 _ _ ?_
        rcases ite_some hF with ⟨hc, hF⟩ | ⟨hc, hF⟩
        ·refine cond_t hS rfl hc ?_
         refine wp_seq_k fun K112 hK112 => ?_
         refine wp_region_lit ?_
         refine st_val hS rfl rfl (by decide) (rv_assign (hS.ev rfl)) fun a hS => ?_
         refine wpList_nil ?_
         refine hK112 _ _ ?_
         have hS : Sl 117 [(4, (Value.bool false))] a := hS.sub (sub_cons rfl sub_nil)
         have hM := hM.pk [] (by decide) pn
         refine wp_ret ?_
         cases hF
         exact hQr _ _ (r_1 hS rfl rfl ⟨rfl, hM.pk [] (by decide) pn⟩)
        ·refine cond_f hS rfl hc ?_
         refine wp_skip ?_
         refine hK103 _ _ ?_
         refine wp_seq_k fun K113 hK113 => ?_
         refine wp_region_lit ?_
         refine st_val hS rfl rfl (by decide) (rv_assign (hS.ev rfl)) fun a hS => ?_
         refine wpList_nil ?_
         refine hK113 _ _ ?_
         refine wp_seq_k fun K114 hK114 => ?_
         refine wp_region_lit ?_
         refine st_val hS rfl rfl (by decide) (rv_move (hS.ev rfl)) fun a hS => ?_
         refine st_val hS rfl rfl (by decide) (rv_move (hS.ev rfl)) fun a hS => ?_
         obtain ⟨r116, hr, hF⟩ := bind_some hF
         have hM := hM.pk [4, 0, 1, 2, 3] (by decide) (pc rfl (pc rfl (pc rfl (pc rfl (pc rfl pn)))))
         have hP := Mem.pre (A := [(true, mx 22 3 v50 hs51 (List.map (List.map (int i64)) r49.1))]) (C := []) (B := [(false, rd p1_aOrderv (List.map (int i64) p1_aOrder)), (true, bx b3 24 [(int i64 p0_aG_Size), p0_aG_Rowsv]), (false, rd p0_aG_Rowsv (List.map (int i64) p0_aG_Rows)), (true, mx 22 3 v31 hs32 (List.map (List.map (int i64)) r30.1))]) hM rfl weaks_nil
         refine st_wp hS rfl (wp_call hS rfl rfl (by decide) fn_ok_14 rfl (c_laws_markIntSS F r49.1 1 v50 hs51 hr _ hP) fun v w a hK hS => ?_)
         obtain ⟨rfl, hN⟩ := hK
         have hM := Mem.callo (A := [(true, mx 22 3 v50 hs51 (List.map (List.map (int i64)) r49.1))]) (B := [(false, rd p1_aOrderv (List.map (int i64) p1_aOrder)), (true, bx b3 24 [(int i64 p0_aG_Size), p0_aG_Rowsv]), (false, rd p0_aG_Rowsv (List.map (int i64) p0_aG_Rows)), (true, mx 22 3 v31 hs32 (List.map (List.map (int i64)) r30.1))]) hM rfl hN rfl
         refine st_val hS rfl rfl (by decide) (rv_assign (hS.ev rfl)) fun a hS => ?_
         refine wpList_nil ?_
         refine hK114 _ _ ?_
         refine wp_seq_k fun K117 hK117 => ?_
         refine wp_region_lit ?_
         refine st_val hS rfl rfl (by decide) (rv_assign (hS.ev rfl)) fun a hS => ?_
         refine wpList_nil ?_
         refine hK117 _ _ ?_
         refine wp_seq_k fun K118 hK118 => ?_
         refine wp_region_lit ?_
         refine st_val hS rfl rfl (by decide) (rv_move (hS.ev rfl)) fun a hS => ?_
         refine st_val hS rfl rfl (by decide) (rv_move (hS.ev rfl)) fun a hS => ?_
         obtain ⟨r120, hr, hF⟩ := bind_some hF
         refine st_wp hS rfl (wp_call hS rfl rfl (by decide) fn_ok_15 rfl (c_laws_heldIntSS F r116.2 1 v50 hs51 hr _ (hM.get 0 rfl)) fun v w a hK hS => ?_)
         obtain ⟨rfl, hN⟩ := hK
         have hM := hM.fra hN.fr
         refine st_val hS rfl rfl (by decide) (rv_assign (hS.ev rfl)) fun a hS => ?_
         refine wpList_nil ?_
         refine hK118 _ _ ?_
         refine wp_seq_k fun K121 hK121 => ?_
         refine wp_seq_k fun K124 hK124 => ?_
         refine wp_region_lit ?_
         refine st_val hS rfl rfl (by decide) (rv_move (hS.ev rfl)) fun a hS => ?_
         refine st_val hS rfl rfl (by decide) (rv_lss (hS.ev rfl) (hS.ev rfl)) fun a hS => ?_
         refine wpList_nil ?_
         refine hK124 _ _ ?_
         have hS : Sl 117 [(1, p1_aOrderv), (2, (fdp b3 0)), (6, v31), (7, (Value.bool r30.2)), (10, v50), (13, (int i64 r116.1)), (14, (int i64 r120)), (88, (Value.bool (decide (r120 < 0))))] a := hS.sub (sub_cons rfl (sub_cons rfl (sub_cons rfl (sub_cons rfl (sub_cons rfl (sub_cons rfl (sub_cons rfl (sub_cons rfl sub_nil))))))))
         rcases ite_some hF with ⟨hc, hF⟩ | ⟨hc, hF⟩
         ·refine cond_t hS rfl hc ?_
          refine wp_seq_k fun K125 hK125 => ?_
          refine wp_region_lit ?_
          refine st_val hS rfl rfl (by decide) (rv_assign (hS.ev rfl)) fun a hS => ?_
          refine wpList_nil ?_
          refine hK125 _ _ ?_
          have hS : Sl 117 [(4, (Value.bool false))] a := hS.sub (sub_cons rfl sub_nil)
          have hM := hM.pk [] (by decide) pn
          refine wp_ret ?_
          cases hF
          exact hQr _ _ (r_1 hS rfl rfl ⟨rfl, hM.pk [] (by decide) pn⟩)
         ·refine cond_f hS rfl hc ?_
          refine wp_skip ?_
          refine hK121 _ _ ?_
          refine wp_seq_k fun K126 hK126 => ?_
          refine wp_seq_k fun K129 hK129 => ?_
          refine wp_region_lit ?_
          refine st_val hS rfl rfl (by decide) (rv_move (hS.ev rfl)) fun a hS => ?_
          refine st_val hS rfl rfl (by decide) (rv_move (hS.ev rfl)) fun a hS => ?_
          refine st_val hS rfl rfl (by decide) (rv_neq (hS.ev rfl) (hS.ev rfl)) fun a hS => ?_
          refine wpList_nil ?_
          refine hK129 _ _ ?_
          rcases ite_some hF with ⟨hc, hF⟩ | ⟨hc, hF⟩
          ·refine cond_t hS rfl hc ?_
           refine wp_seq_k fun K130 hK130 => ?_
           refine wp_region_lit ?_
           refine st_val hS rfl rfl (by decide) (rv_assign (hS.ev rfl)) fun a hS => ?_
           refine wpList_nil ?_
           refine hK130 _ _ ?_
           have hS : Sl 117 [(4, (Value.bool false))] a := hS.sub (sub_cons rfl sub_nil)
           have hM := hM.pk [] (by decide) pn
           refine wp_ret ?_
           cases hF
           exact hQr _ _ (r_1 hS rfl rfl ⟨rfl, hM.pk [] (by decide) pn⟩)
          ·refine cond_f hS rfl hc ?_
           refine wp_skip ?_
           refine hK126 _ _ ?_
           refine wp_seq_k fun K131 hK131 => ?_
           refine wp_region_lit ?_
           refine st_val hS rfl rfl (by decide) (rv_load_agg (hS.ev rfl) ty_ag_24 (hM.get 2 rfl) ty_sz_24) fun a hS => ?_
           obtain ⟨r139, hr, hF⟩ := bind_some hF
           refine st_wp hS rfl (wp_call hS rfl rfl (by decide) fn_ok_6 rfl (c_laws_toGraph F p0_aG_Size p0_aG_Rows p0_aG_Rowsv hr _ (hM.get 3 rfl)) fun v w a hK hS => ?_)
           obtain ⟨v140, rfl, hN⟩ := hK
           have hM := hM.add hN rfl
           refine st_val hS rfl rfl (by decide) (rv_move (hS.ev rfl)) fun a hS => ?_
           obtain ⟨r141, hr, hF⟩ := bind_some hF
           refine st_wp hS rfl (wp_call hS rfl rfl (by decide) fn_ok_7 rfl (c_laws_toIntS F p1_aOrder p1_aOrderv hr _ (hM.get 2 rfl)) fun v142 w a hK hS => ?_)
           have hN := hK
           have hM := hM.add hN rfl
           obtain ⟨r143, hr, hF⟩ := bind_some hF
           refine st_wp hS rfl (wp_call hS rfl rfl (by decide) fn_ok_8 rfl (c_impl_FillOf F r139.1 r139.2 r141 v140 v142 hr _ (rd_of_ow (hM.get 1 rfl)) (rd_of_ow (hM.get 0 rfl))) fun v w a hK hS => ?_)
           obtain ⟨v144, hs145, rfl, hN⟩ := hK
           have hM := hM.add hN rfl
           refine st_val hS rfl rfl (by decide) (rv_move (hS.ev rfl)) fun a hS => ?_
           refine st_val hS rfl rfl (by decide) (rv_extract (hS.ev rfl) rfl) fun a hS => ?_
           refine st_val hS rfl rfl (by decide) (rv_extract (hS.ev rfl) rfl) fun a hS => ?_
           refine st_val hS rfl rfl (by decide) (rv_assign (hS.ev rfl)) fun a hS => ?_
           refine st_val hS rfl rfl (by decide) (rv_assign (hS.ev rfl)) fun a hS => ?_
           refine wpList_nil ?_
           refine hK131 _ _ ?_
           have hS : Sl 117 [(6, v31), (7, (Value.bool r30.2)), (10, v50), (13, (int i64 r116.1)), (15, v144), (16, (Value.bool r143.2))] a := hS.sub (sub_cons rfl (sub_cons rfl (sub_cons rfl (sub_cons rfl (sub_cons rfl (sub_cons rfl sub_nil))))))
           have hM := hM.pk [0, 3, 7] (by decide) (pc rfl (pc rfl (pc rfl pn)))
           refine wp_seq_k fun K146 hK146 => ?_
           refine wp_seq_k fun K152 hK152 => ?_
           have hJ3 : ∀ (p154 : Bool) (a : Act) (w : World), Sl 117 [(10, v50), (13, (int i64 r116.1)), (108, (Value.bool p154))] a → Mem Nob w0 w [(true, mx 22 3 v50 hs51 (List.map (List.map (int i64)) r116.2))] → S_laws_FnExactFillOf_j3 F r116 p154 = some r → K152 a w := by
            intro p154 a w hS hM hF
            unfold S_laws_FnExactFillOf_j3 at hF
            refine hK152 _ _ ?_
            rcases ite_some hF with ⟨hc, hF⟩ | ⟨hc, hF⟩
            ·refine cond_t hS rfl hc ?_
             refine wp_seq_k fun K155 hK155 => ?_
             refine wp_region_lit ?_
             refine st_val hS rfl rfl (by decide) (rv_assign (hS.ev rfl)) fun a hS => ?_
             refine wpList_nil ?_
             refine hK155 _ _ ?_
             refine wp_ret ?_
             cases hF
             exact hQr _ _ (r_1 hS rfl rfl ⟨rfl, hM.pk [] (by decide) pn⟩)
            ·refine cond_f hS rfl hc ?_
             refine wp_skip ?_
             refine hK146 _ _ ?_
             refine wp_seq_k fun K156 hK156 => ?_
             refine wp_region_lit ?_
             refine st_val hS rfl rfl (by decide) (rv_assign (hS.ev rfl)) fun a hS => ?_
             refine wpList_nil ?_
             refine hK156 _ _ ?_
             refine wp_seq_k fun K157 hK157 => ?_
             refine wp_region_lit ?_
             refine st_val hS rfl rfl (by decide) (rv_move (hS.ev rfl)) fun a hS => ?_
             refine st_val hS rfl rfl (by decide) (rv_move (hS.ev rfl)) fun a hS => ?_
             obtain ⟨r159, hr, hF⟩ := bind_some hF
             refine st_wp hS rfl (wp_call hS rfl rfl (by decide) fn_ok_15 rfl (c_laws_heldIntSS F r116.2 1 v50 hs51 hr _ (hM.get 0 rfl)) fun v w a hK hS => ?_)
             obtain ⟨rfl, hN⟩ := hK
             have hM := hM.fra hN.fr
             refine st_val hS rfl rfl (by decide) (rv_assign (hS.ev rfl)) fun a hS => ?_
             refine wpList_nil ?_
             refine hK157 _ _ ?_
             refine wp_seq_k fun K160 hK160 => ?_
             refine wp_seq_k fun K163 hK163 => ?_
             refine wp_region_lit ?_
             refine st_val hS rfl rfl (by decide) (rv_move (hS.ev rfl)) fun a hS => ?_
             refine st_val hS rfl rfl (by decide) (rv_lss (hS.ev rfl) (hS.ev rfl)) fun a hS => ?_
             refine wpList_nil ?_
             refine hK163 _ _ ?_
             rcases ite_some hF with ⟨hc, hF⟩ | ⟨hc, hF⟩
             ·refine cond_t hS rfl hc ?_
              refine wp_seq_k fun K164 hK164 => ?_
              refine wp_region_lit ?_
              refine st_val hS rfl rfl (by decide) (rv_assign (hS.ev rfl)) fun a hS => ?_
              refine wpList_nil ?_
              refine hK164 _ _ ?_
              have hS : Sl 117 [(4, (Value.bool false))] a := hS.sub (sub_cons rfl sub_nil)
              have hM := hM.pk [] (by decide) pn
              refine wp_ret ?_
              cases hF
              exact hQr _ _ (r_1 hS rfl rfl ⟨rfl, hM.pk [] (by decide) pn⟩)
             ·refine cond_f hS rfl hc ?_
              refine wp_skip ?_
              refine hK160 _ _ ?_
              refine wp_seq_k fun K165 hK165 => ?_
              refine wp_seq_k fun K168 hK168 => ?_
              refine wp_region_lit ?_
              refine st_val hS rfl rfl (by decide) (rv_move (hS.ev rfl)) fun a hS => ?_
              refine st_val hS rfl rfl (by decide) (rv_move (hS.ev rfl)) fun a hS => ?_
              refine st_val hS rfl rfl (by decide) (rv_neq (hS.ev rfl) (hS.ev rfl)) fun a hS => ?_
              refine wpList_nil ?_
              refine hK168 _ _ ?_
              have hS : Sl 117 [(116, (Value.bool (r159 != r116.1)))] a := hS.sub (sub_cons rfl sub_nil)
              have hM := hM.pk [] (by decide) pn
              rcases ite_some hF with ⟨hc, hF⟩ | ⟨hc, hF⟩
              ·refine cond_t hS rfl hc ?_
               refine wp_seq_k fun K169 hK169 => ?_
               refine wp_region_lit ?_
               refine st_val hS rfl rfl (by decide) (rv_assign (hS.ev rfl)) fun a hS => ?_
               refine wpList_nil ?_
               refine hK169 _ _ ?_
               refine wp_ret ?_
               cases hF
               exact hQr _ _ (r_1 hS rfl rfl ⟨rfl, hM.pk [] (by decide) pn⟩)
              ·refine cond_f hS rfl hc ?_
               refine wp_skip ?_
               refine hK165 _ _ ?_
               refine wp_seq_k fun K170 hK170 => ?_
               refine wp_region_lit ?_
               refine st_val hS rfl rfl (by decide) (rv_assign (hS.ev rfl)) fun a hS => ?_
               refine wpList_nil ?_
               refine hK170 _ _ ?_
               refine wp_ret ?_
               cases hF
               exact hQr _ _ (r_1 hS rfl rfl ⟨rfl, hM.pk [] (by decide) pn⟩)
           refine wp_region_lit ?_
           refine st_val hS rfl rfl (by decide) (rv_move (hS.ev rfl)) fun a hS => ?_
           refine st_val hS rfl rfl (by decide) (rv_move (hS.ev rfl)) fun a hS => ?_
           obtain ⟨r171, hr, hF⟩ := bind_some hF
           refine st_wp hS rfl (wp_call hS rfl rfl (by decide) fn_ok_9 rfl (c_laws_eqIntSS F r143.1 r30.1 v144 hs145 v31 hs32 hr _ (hM.get 0 rfl) (hM.get 2 rfl)) fun v w a hK hS => ?_)
           obtain ⟨rfl, hN⟩ := hK
           have hM := hM.fra hN.fr
           refine st_val hS rfl rfl (by decide) (rv_not (hS.ev rfl)) fun a hS => ?_
           refine st_val hS rfl rfl (by decide) (rv_move (hS.ev rfl)) fun a hS => ?_
           rcases ite_some hF with ⟨hc, hF⟩ | ⟨hc, hF⟩
           ·have hS := hS.setb (t := 104) rfl hc
            refine st_skip hS rfl rfl (by decide) fun a hS => ?_
            refine st_skip hS rfl rfl (by decide) fun a hS => ?_
            refine st_skip hS rfl rfl (by decide) fun a hS => ?_
            refine st_val hS rfl rfl (by decide) (rv_pick_t (hS.ev rfl) (hS.ev rfl)) fun a hS => ?_
            refine wpList_nil ?_
            exact hJ3 true _ _ (hS.sub (sub_cons rfl (sub_cons rfl (sub_cons rfl sub_nil)))) (hM.pk [1] (by decide) (pc rfl pn)) hF
           ·have hS := hS.setb (t := 104) rfl hc
            refine st_val hS rfl rfl (by decide) (rv_move (hS.ev rfl)) fun a hS => ?_
            refine st_val hS rfl rfl (by decide) (rv_move (hS.ev rfl)) fun a hS => ?_
            refine st_val hS rfl rfl (by decide) (rv_bneq Try.underlying4 (hS.ev rfl) (hS.ev rfl)) fun a hS => ?_
            refine st_val hS rfl rfl (by decide) (rv_pick_f (hS.ev rfl) (hS.ev rfl)) fun a hS => ?_
            refine wpList_nil ?_
            exact hJ3 (r143.2 != r30.2) _ _ (hS.sub (sub_cons rfl (sub_cons rfl (sub_cons rfl sub_nil)))) (hM.pk [1] (by decide) (pc rfl pn)) hF
       refine wp_region_lit ?_
       refine st_val hS rfl rfl (by decide) (rv_move (hS.ev rfl)) fun a hS => ?_
       refine st_val hS rfl rfl (by decide) (rv_lss (hS.ev rfl) (hS.ev rfl)) fun a hS => ?_
       refine st_val hS rfl rfl (by decide) (rv_move (hS.ev rfl)) fun a hS => ?_
       rcases ite_some hF with ⟨hc, hF⟩ | ⟨hc, hF⟩
       ·have hS := hS.setb (t := 70) rfl hc
        refine st_skip hS rfl rfl (by decide) fun a hS => ?_
        refine st_skip hS rfl rfl (by decide) fun a hS => ?_
        refine st_skip hS rfl rfl (by decide) fun a hS => ?_
        refine st_skip hS rfl rfl (by decide) fun a hS => ?_
        refine st_val hS rfl rfl (by decide) (rv_pick_t (hS.ev rfl) (hS.ev rfl)) fun a hS => ?_
        refine st_val hS rfl rfl (by decide) (rv_move (hS.ev rfl)) fun a hS => ?_
        refine st_skip hS rfl rfl (by decide) fun a hS => ?_
        refine st_skip hS rfl rfl (by decide) fun a hS => ?_
        refine st_skip hS rfl rfl (by decide) fun a hS => ?_
        refine st_val hS rfl rfl (by decide) (rv_pick_t (hS.ev rfl) (hS.ev rfl)) fun a hS => ?_
        refine wpList_nil ?_
        exact hJ2 true _ _ (hS.sub (sub_cons rfl (sub_cons rfl (sub_cons rfl (sub_cons rfl (sub_cons rfl (sub_cons rfl sub_nil))))))) (hM.pk [0, 1, 2, 3, 4] (by decide) (pc rfl (pc rfl (pc rfl (pc rfl (pc rfl pn)))))) hF
       ·have hS := hS.setb (t := 70) rfl hc
        refine st_val hS rfl rfl (by decide) (rv_move (hS.ev rfl)) fun a hS => ?_
        refine st_val hS rfl rfl (by decide) (rv_move (hS.ev rfl)) fun a hS => ?_
        obtain ⟨r172, hr, hF⟩ := bind_some hF
        refine st_wp hS rfl (wp_call hS rfl rfl (by decide) fn_ok_9 rfl (c_laws_eqIntSS F r49.1 r30.1 v50 hs51 v31 hs32 hr _ (hM.get 4 rfl) (hM.get 3 rfl)) fun v w a hK hS => ?_)
        obtain ⟨rfl, hN⟩ := hK
        have hM := hM.fra hN.fr
        refine st_val hS rfl rfl (by decide) (rv_not (hS.ev rfl)) fun a hS => ?_
        refine st_val hS rfl rfl (by decide) (rv_pick_f (hS.ev rfl) (hS.ev rfl)) fun a hS => ?_
        refine st_val hS rfl rfl (by decide) (rv_move (hS.ev rfl)) fun a hS => ?_
        rcases ite_some hF with ⟨hc, hF⟩ | ⟨hc, hF⟩
        ·have hS := hS.setb (t := 76) rfl hc
         refine st_skip hS rfl rfl (by decide) fun a hS => ?_
         refine st_skip hS rfl rfl (by decide) fun a hS => ?_
         refine st_skip hS rfl rfl (by decide) fun a hS => ?_
         refine st_val hS rfl rfl (by decide) (rv_pick_t (hS.ev rfl) (hS.ev rfl)) fun a hS => ?_
         refine wpList_nil ?_
         exact hJ2 true _ _ (hS.sub (sub_cons rfl (sub_cons rfl (sub_cons rfl (sub_cons rfl (sub_cons rfl (sub_cons rfl sub_nil))))))) (hM.pk [0, 1, 2, 3, 4] (by decide) (pc rfl (pc rfl (pc rfl (pc rfl (pc rfl pn)))))) hF
        ·have hS := hS.setb (t := 76) rfl hc
         refine st_val hS rfl rfl (by decide) (rv_move (hS.ev rfl)) fun a hS => ?_
         refine st_val hS rfl rfl (by decide) (rv_move (hS.ev rfl)) fun a hS => ?_
         refine st_val hS rfl rfl (by decide) (rv_bneq Try.underlying4 (hS.ev rfl) (hS.ev rfl)) fun a hS => ?_
         refine st_val hS rfl rfl (by decide) (rv_pick_f (hS.ev rfl) (hS.ev rfl)) fun a hS => ?_
         refine wpList_nil ?_
         exact hJ2 (r49.2 != r30.2) _ _ (hS.sub (sub_cons rfl (sub_cons rfl (sub_cons rfl (sub_cons rfl (sub_cons rfl (sub_cons rfl sub_nil))))))) (hM.pk [0, 1, 2, 3, 4] (by decide) (pc rfl (pc rfl (pc rfl (pc rfl (pc rfl pn)))))) hF
   refine wp_region_lit ?_
   refine st_val hS rfl rfl (by decide) (rv_move (hS.ev rfl)) fun a hS => ?_
   refine st_val hS rfl rfl (by decide) (rv_move (hS.ev rfl)) fun a hS => ?_
   obtain ⟨r173, hr, hF⟩ := bind_some hF
   refine st_wp hS rfl (wp_call hS rfl rfl (by decide) fn_ok_9 rfl (c_laws_eqIntSS F r49.1 r30.1 v50 hs51 v31 hs32 hr _ (hM.get 0 rfl) (hM.get 4 rfl)) fun v w a hK hS => ?_)
   obtain ⟨rfl, hN⟩ := hK
   have hM := hM.fra hN.fr
   refine st_val hS rfl rfl (by decide) (rv_not (hS.ev rfl)) fun a hS => ?_
   refine st_val hS rfl rfl (by decide) (rv_move (hS.ev rfl)) fun a hS => ?_
   rcases ite_some hF with ⟨hc, hF⟩ | ⟨hc, hF⟩
   ·have hS := hS.setb (t := 47) rfl hc
    refine st_skip hS rfl rfl (by decide) fun a hS => ?_
    refine st_skip hS rfl rfl (by decide) fun a hS => ?_
    refine st_skip hS rfl rfl (by decide) fun a hS => ?_
    refine st_val hS rfl rfl (by decide) (rv_pick_t (hS.ev rfl) (hS.ev rfl)) fun a hS => ?_
    refine wpList_nil ?_
    exact hJ1 true _ _ (hS.sub (sub_cons rfl (sub_cons rfl (sub_cons rfl (sub_cons rfl (sub_cons rfl (sub_cons rfl (sub_cons rfl (sub_cons rfl (sub_cons rfl sub_nil)))))))))) (hM.pk [7, 5, 6, 4, 2, 3, 1, 0] (by decide) (pc rfl (pc rfl (pc rfl (pc rfl (pc rfl (pc rfl (pc rfl (pc rfl pn))))))))) hF
   ·have hS := hS.setb (t := 47) rfl hc
    refine st_val hS rfl rfl (by decide) (rv_move (hS.ev rfl)) fun a hS => ?_
    refine st_val hS rfl rfl (by decide) (rv_move (hS.ev rfl)) fun a hS => ?_
    refine st_val hS rfl rfl (by decide) (rv_bneq Try.underlying4 (hS.ev rfl) (hS.ev rfl)) fun a hS => ?_
    refine st_val hS rfl rfl (by decide) (rv_pick_f (hS.ev rfl) (hS.ev rfl)) fun a hS => ?_
    refine wpList_nil ?_
    exact hJ1 (r49.2 != r30.2) _ _ (hS.sub (sub_cons rfl (sub_cons rfl (sub_cons rfl (sub_cons rfl (sub_cons rfl (sub_cons rfl (sub_cons rfl (sub_cons rfl (sub_cons rfl sub_nil)))))))))) (hM.pk [7, 5, 6, 4, 2, 3, 1, 0] (by decide) (pc rfl (pc rfl (pc rfl (pc rfl (pc rfl (pc rfl (pc rfl (pc rfl pn))))))))) hF


end Go.Proofs.Ytblbimlobacciaa
