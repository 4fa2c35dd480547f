/- Proved here: that each Go function does what its shallow function says -/
import Derived.Test.YtnlabnkgcncmlaaSh
import Derived.Test.YtnlabnkgcncmlaaTy
import Derived.Test.YtnlabnkgcncmlaaK9
import Derived.Test.YtnlabnkgcncmlaaW0
import Derived.Test.YtnlabnkgcncmlaaW1
import Derived.Test.YtnlabnkgcncmlaaW3
import Derived.Test.YtnlabnkgcncmlaaW5
import Derived.Test.YtnlabnkgcncmlaaW6
namespace Go.Proofs.Ytnlabnkgcncmlaa
open Go Go.RowKit
set_option linter.unusedVariables false
set_option linter.unusedSimpArgs false
set_option maxRecDepth 100000
set_option maxHeartbeats 4000000

theorem c_laws_FnExactEliminationOf (F : Nat) (p0_aG_Size : Int) (p0_aG_Rows : List Int) (p0_aG_Rowsv : Value) {r : Bool} (hF : S_laws_FnExactEliminationOf F p0_aG_Size p0_aG_Rows = some r) (w0 : World) (h0 : RdRow w0 p0_aG_Rowsv (List.map (Value.int IntKind.i64) p0_aG_Rows)) :
    Calls Try.prog 10 [(Value.agg #[(Value.int IntKind.i64 p0_aG_Size), p0_aG_Rowsv])].toArray w0 (retPost fun v w' => v = (Value.bool r) ∧ Mem Nob w0 w' []) := by
  have hM : Mem Nob w0 w0 [(false, rd p0_aG_Rowsv (List.map (Value.int IntKind.i64) p0_aG_Rows))] := (Mem.rcons (Mem.nil w0) h0 (by simp))
  refine enter2 Try.func10 rfl rfl rfl fun Q a hQr hQn hQp hS => ?_
  have hS : Sl 96 [(0, (Value.agg #[(Value.int IntKind.i64 p0_aG_Size), p0_aG_Rowsv]))] a := hS
  unfold S_laws_FnExactEliminationOf at hF
  refine wp_seq_k fun K1 hK1 => ?_
  refine wp_region_lit ?_
  obtain ⟨b3, w, hr, hM⟩ := hM.boxE (ρ := a.eval) (dst := some 1) (ty := _) (pos := _) (af := _) (gd := _) (x := .tmp 0) (T := 24) [(Value.int IntKind.i64 p0_aG_Size), p0_aG_Rowsv] (hS.ev rfl) rfl
  refine st_val hS rfl rfl (by decide) hr fun a hS => ?_
  refine st_val hS rfl rfl (by decide) (rv_assign (hS.ev rfl)) fun a hS => ?_
  refine wpList_nil ?_
  refine hK1 _ _ ?_
  refine wp_seq_k fun K4 hK4 => ?_
  refine wp_region_lit ?_
  refine st_val hS rfl rfl (by decide) (rv_assign (hS.ev rfl)) fun a hS => ?_
  refine wpList_nil ?_
  refine hK4 _ _ ?_
  refine wp_seq_k fun K5 hK5 => ?_
  refine wp_region_lit ?_
  refine st_val hS rfl rfl (by decide) (rv_load_agg (hS.ev rfl) ty_ag_24 (hM.get 0 rfl) ty_sz_24) fun a hS => ?_
  refine st_val hS rfl rfl (by decide) (rv_move (hS.ev rfl)) fun a hS => ?_
  obtain ⟨r7, hr, hF⟩ := bind_some hF
  refine st_wp hS rfl (wp_call hS rfl rfl (by decide) fn_ok_15 rfl (c_laws_szGraph F p0_aG_Size p0_aG_Rows 1048576 p0_aG_Rowsv hr _ (hM.get 1 rfl)) fun v w a hK hS => ?_)
  obtain ⟨rfl, hN⟩ := hK
  have hM := hM.fra hN.fr
  refine st_val hS rfl rfl (by decide) (rv_assign (hS.ev rfl)) fun a hS => ?_
  refine wpList_nil ?_
  refine hK5 _ _ ?_
  refine wp_seq_k fun K8 hK8 => ?_
  refine wp_seq_k fun K11 hK11 => ?_
  refine wp_region_lit ?_
  refine st_val hS rfl rfl (by decide) (rv_move (hS.ev rfl)) fun a hS => ?_
  refine st_val hS rfl rfl (by decide) (rv_lss (hS.ev rfl) (hS.ev rfl)) fun a hS => ?_
  refine wpList_nil ?_
  refine hK11 _ _ ?_
  rcases ite_some hF with ⟨hc, hF⟩ | ⟨hc, hF⟩
  · refine cond_t hS rfl hc ?_
    refine wp_seq_k fun K12 hK12 => ?_
    refine wp_region_lit ?_
    refine st_val hS rfl rfl (by decide) (rv_assign (hS.ev rfl)) fun a hS => ?_
    refine wpList_nil ?_
    refine hK12 _ _ ?_
    refine wp_ret ?_
    cases hF
    exact hQr _ _ (r_1 hS rfl rfl ⟨rfl, hM.pick [] (by decide) rfl⟩)
  · refine cond_f hS rfl hc ?_
    refine wp_skip ?_
    refine hK8 _ _ ?_
    refine wp_seq_k fun K13 hK13 => ?_
    refine wp_region_lit ?_
    refine st_val hS rfl rfl (by decide) (rv_load_agg (hS.ev rfl) ty_ag_24 (hM.get 0 rfl) ty_sz_24) fun a hS => ?_
    obtain ⟨r18, hr, hF⟩ := bind_some hF
    refine st_wp hS rfl (wp_call hS rfl rfl (by decide) fn_ok_17 rfl (c_laws_toGraph F p0_aG_Size p0_aG_Rows p0_aG_Rowsv hr _ (hM.get 1 rfl)) fun v w a hK hS => ?_)
    obtain ⟨v19, rfl, hN⟩ := hK
    have hM := hM.add hN rfl
    obtain ⟨r20, hr, hF⟩ := bind_some hF
    refine st_wp hS rfl (wp_call hS rfl rfl (by decide) fn_ok_38 rfl (c_spec_EliminationOf F r18.1 r18.2 v19 hr _ (rd_of_ow (hM.get 0 rfl))) fun v w a hK hS => ?_)
    obtain ⟨v21, rfl, hN⟩ := hK
    have hM := hM.add hN rfl
    refine st_val hS rfl rfl (by decide) (rv_move (hS.ev rfl)) fun a hS => ?_
    refine st_val hS rfl rfl (by decide) (rv_extract (hS.ev rfl) rfl) fun a hS => ?_
    refine st_val hS rfl rfl (by decide) (rv_extract (hS.ev rfl) rfl) fun a hS => ?_
    refine st_val hS rfl rfl (by decide) (rv_assign (hS.ev rfl)) fun a hS => ?_
    refine st_val hS rfl rfl (by decide) (rv_assign (hS.ev rfl)) fun a hS => ?_
    refine wpList_nil ?_
    refine hK13 _ _ ?_
    refine wp_seq_k fun K22 hK22 => ?_
    refine wp_region_lit ?_
    refine st_val hS rfl rfl (by decide) (rv_load_agg (hS.ev rfl) ty_ag_24 (hM.get 2 rfl) ty_sz_24) fun a hS => ?_
    obtain ⟨r26, hr, hF⟩ := bind_some hF
    refine st_wp hS rfl (wp_call hS rfl rfl (by decide) fn_ok_17 rfl (c_laws_toGraph F p0_aG_Size p0_aG_Rows p0_aG_Rowsv hr _ (hM.get 3 rfl)) fun v w a hK hS => ?_)
    obtain ⟨v27, rfl, hN⟩ := hK
    have hM := hM.add hN rfl
    obtain ⟨b28, w, hr, hM⟩ := hM.allocE (ρ := a.eval) (dst := some 6) (ty := _) (pos := _) (af := _) (gd := _) (T := 27) (P := Try.prog) [(Value.int IntKind.i64 0), (Value.slice none 0 0)] ty_zr_27 rfl
    refine st_val hS rfl rfl (by decide) hr fun a hS => ?_
    have hM := hM.addNil 3
    have hM := hM.pick [1, 0, 2, 3, 4, 5, 6] (by decide) rfl
    obtain ⟨w, hr, hM⟩ := hM.st_agg (us := [(Value.int IntKind.i64 r26.1), v27]) (ρ := a.eval) (dst := none) (ty := _) (pos := _) (af := _) (gd := _) (x := .tmp 6) (y := .tmp 26) (hS.ev rfl) (hS.ev rfl) ty_sz_27 (all1_cons rfl (all1_cons (rd_one (rd_of_ow (hM.get 2 rfl))) all1_nil)) rfl
    refine st_unit hS rfl rfl hr ?_
    refine wpList_nil ?_
    refine hK22 _ _ ?_
    refine wp_seq_k fun K29 hK29 => ?_
    refine wp_region_lit ?_
    refine st_val hS rfl rfl (by decide) (rv_load_agg (hS.ev rfl) ty_ag_27 (hM.get 0 rfl) ty_sz_27) fun a hS => ?_
    obtain ⟨r32, hr, hF⟩ := bind_some hF
    refine st_wp hS rfl (wp_call hS rfl rfl (by decide) fn_ok_39 rfl (c_impl_EliminationOf F r26.1 r26.2 v27 hr _ (rd_of_ow (hM.get 2 rfl))) fun v w a hK hS => ?_)
    obtain ⟨v33, rfl, hN⟩ := hK
    have hM := hM.add hN rfl
    refine st_val hS rfl rfl (by decide) (rv_move (hS.ev rfl)) fun a hS => ?_
    refine st_val hS rfl rfl (by decide) (rv_extract (hS.ev rfl) rfl) fun a hS => ?_
    refine st_val hS rfl rfl (by decide) (rv_extract (hS.ev rfl) rfl) fun a hS => ?_
    refine st_val hS rfl rfl (by decide) (rv_assign (hS.ev rfl)) fun a hS => ?_
    refine st_val hS rfl rfl (by decide) (rv_assign (hS.ev rfl)) fun a hS => ?_
    refine wpList_nil ?_
    refine hK29 _ _ ?_
    refine wp_seq_k fun K34 hK34 => ?_
    refine wp_seq_k fun K40 hK40 => ?_
    have hJ1 : ∀ (p42 : Bool) (a : Act) (w : World), Sl 96 [(1, (fdp b3 0)), (4, v21), (5, (Value.bool r20.2)), (6, (fdp b28 0)), (7, v33), (8, (Value.bool r32.2)), (40, (Value.bool p42))] a → Mem Nob w0 w [(true, bx b3 24 [(Value.int IntKind.i64 p0_aG_Size), p0_aG_Rowsv]), (false, rd p0_aG_Rowsv (List.map (Value.int IntKind.i64) p0_aG_Rows)), (true, ow 3 v21 (List.map (Value.int IntKind.i64) r20.1)), (true, bx b28 27 [(Value.int IntKind.i64 r26.1), v27]), (true, ow 3 v27 (List.map (Value.int IntKind.i64) r26.2)), (true, ow 3 v33 (List.map (Value.int IntKind.i64) r32.1))] → S_laws_FnExactEliminationOf_j1 F p0_aG_Size p0_aG_Rows r20 r26 r32 p42 = some r → K40 a w := by
      intro p42 a w hS hM hF
      unfold S_laws_FnExactEliminationOf_j1 at hF
      refine hK40 _ _ ?_
      rcases ite_some hF with ⟨hc, hF⟩ | ⟨hc, hF⟩
      · refine cond_t hS rfl hc ?_
        refine wp_seq_k fun K43 hK43 => ?_
        refine wp_region_lit ?_
        refine st_val hS rfl rfl (by decide) (rv_assign (hS.ev rfl)) fun a hS => ?_
        refine wpList_nil ?_
        refine hK43 _ _ ?_
        refine wp_ret ?_
        cases hF
        exact hQr _ _ (r_1 hS rfl rfl ⟨rfl, hM.pick [] (by decide) rfl⟩)
      · refine cond_f hS rfl hc ?_
        refine wp_skip ?_
        refine hK34 _ _ ?_
        refine wp_seq_k fun K44 hK44 => ?_
        refine wp_seq_k fun K53 hK53 => ?_
        refine an_start Nob ty_mixed fun w hf => ?_
        have hM := hM.fra hf
        have hB := hM
        have hM := hB.reg0
        refine an_take hS (i := 0) rfl (by kernel_rfl) (by kernel_rfl) (by kernel_rfl) rfl (by decide) (fun c a a' w hd h => hQp c a a' w hd h) rfl (fun w' hC' => (rv_load_agg (hS.ev rfl) ty_ag_27 ((hB.fra hC').get 3 rfl) ty_sz_27)) hM.fr fun a hS => ?_
        refine an_take hS (i := 1) rfl (by kernel_rfl) (by kernel_rfl) (by kernel_rfl) rfl (by decide) (fun c a a' w hd h => hQp c a a' w hd h) rfl (fun w' hC' => (rv_load_agg (hS.ev rfl) ty_ag_24 ((hB.fra hC').get 0 rfl) ty_sz_24)) hM.fr fun a hS => ?_
        obtain ⟨r57, hr, hF⟩ := bind_some hF
        refine an_one hS (i := 2) rfl (by kernel_rfl) rfl ?_
        refine wp_call hS rfl rfl (by decide) fn_ok_17 rfl (c_laws_toGraph F p0_aG_Size p0_aG_Rows p0_aG_Rowsv hr _ (hM.get 1 rfl)) fun v w a hK hS => ?_
        obtain ⟨v58, rfl, hN⟩ := hK
        have hM := hM.add hN rfl
        refine ⟨hM.fr, ?_⟩
        obtain ⟨r59, hr, hF⟩ := bind_some hF
        refine an_one hS (i := 3) rfl (by kernel_rfl) rfl ?_
        refine wp_call hS rfl rfl (by decide) fn_ok_20 rfl (c_laws_eqGraph F r26.1 r26.2 r57.1 r57.2 v27 v58 hr _ (rd_of_ow (hM.get 5 rfl)) (rd_of_ow (hM.get 0 rfl))) fun v w a hK hS => ?_
        obtain ⟨rfl, hN⟩ := hK
        have hM := hM.fra hN.fr
        refine ⟨hM.fr, ?_⟩
        refine an_take hS (i := 4) rfl (by kernel_rfl) (by kernel_rfl) (by kernel_rfl) rfl (by decide) (fun c a a' w hd h => hQp c a a' w hd h) rfl (fun w' hC' => (rv_not (hS.ev rfl))) hM.fr fun a hS => ?_
        refine an_done (by kernel_rfl) ?_
        have hN := hM.pick [0] (by decide) rfl
        have hM := Mem.callo (A := []) (B := [(true, bx b3 24 [(Value.int IntKind.i64 p0_aG_Size), p0_aG_Rowsv]), (false, rd p0_aG_Rowsv (List.map (Value.int IntKind.i64) p0_aG_Rows)), (true, ow 3 v21 (List.map (Value.int IntKind.i64) r20.1)), (true, bx b28 27 [(Value.int IntKind.i64 r26.1), v27]), (true, ow 3 v27 (List.map (Value.int IntKind.i64) r26.2)), (true, ow 3 v33 (List.map (Value.int IntKind.i64) r32.1))]) hB rfl (hN.memS fun _ h => h.elim) rfl
        refine hK53 _ _ ?_
        rcases ite_some hF with ⟨hc, hF⟩ | ⟨hc, hF⟩
        · refine cond_t hS rfl hc ?_
          refine wp_seq_k fun K60 hK60 => ?_
          refine wp_region_lit ?_
          refine st_val hS rfl rfl (by decide) (rv_assign (hS.ev rfl)) fun a hS => ?_
          refine wpList_nil ?_
          refine hK60 _ _ ?_
          refine wp_ret ?_
          cases hF
          exact hQr _ _ (r_1 hS rfl rfl ⟨rfl, hM.pick [] (by decide) rfl⟩)
        · refine cond_f hS rfl hc ?_
          refine wp_skip ?_
          refine hK44 _ _ ?_
          refine wp_seq_k fun K61 hK61 => ?_
          refine wp_region_lit ?_
          refine st_val hS rfl rfl (by decide) (rv_assign (hS.ev rfl)) fun a hS => ?_
          refine wpList_nil ?_
          refine hK61 _ _ ?_
          refine wp_seq_k fun K62 hK62 => ?_
          refine wp_region_lit ?_
          refine st_val hS rfl rfl (by decide) (rv_load_agg (hS.ev rfl) ty_ag_27 (hM.get 4 rfl) ty_sz_27) fun a hS => ?_
          refine st_val hS rfl rfl (by decide) (rv_move (hS.ev rfl)) fun a hS => ?_
          obtain ⟨r64, hr, hF⟩ := bind_some hF
          have hM := hM.pick [5, 0, 1, 2, 3, 4, 6] (by decide) rfl
          have hP := Mem.pre (A := [(true, ow 3 v27 (List.map (Value.int IntKind.i64) r26.2))]) (C := []) (B := [(true, ow 3 v58 (List.map (Value.int IntKind.i64) r57.2)), (true, bx b3 24 [(Value.int IntKind.i64 p0_aG_Size), p0_aG_Rowsv]), (false, rd p0_aG_Rowsv (List.map (Value.int IntKind.i64) p0_aG_Rows)), (true, ow 3 v21 (List.map (Value.int IntKind.i64) r20.1)), (true, bx b28 27 [(Value.int IntKind.i64 r26.1), v27]), (true, ow 3 v33 (List.map (Value.int IntKind.i64) r32.1))]) hM rfl weaks_nil
          refine st_wp hS rfl (wp_call hS rfl rfl (by decide) fn_ok_21 rfl (c_laws_markGraph F r26.1 r26.2 1 v27 hr _ hP) fun v w a hK hS => ?_)
          obtain ⟨rfl, hN⟩ := hK
          have hM := Mem.callo (A := [(true, ow 3 v27 (List.map (Value.int IntKind.i64) r26.2))]) (B := [(true, ow 3 v58 (List.map (Value.int IntKind.i64) r57.2)), (true, bx b3 24 [(Value.int IntKind.i64 p0_aG_Size), p0_aG_Rowsv]), (false, rd p0_aG_Rowsv (List.map (Value.int IntKind.i64) p0_aG_Rows)), (true, ow 3 v21 (List.map (Value.int IntKind.i64) r20.1)), (true, bx b28 27 [(Value.int IntKind.i64 r26.1), v27]), (true, ow 3 v33 (List.map (Value.int IntKind.i64) r32.1))]) hM rfl hN rfl
          refine st_val hS rfl rfl (by decide) (rv_assign (hS.ev rfl)) fun a hS => ?_
          refine wpList_nil ?_
          refine hK62 _ _ ?_
          refine wp_seq_k fun K65 hK65 => ?_
          refine wp_seq_k fun K71 hK71 => ?_
          have hJ2 : ∀ (p73 : Bool) (a : Act) (w : World), Sl 96 [(1, (fdp b3 0)), (4, v21), (5, (Value.bool r20.2)), (7, v33), (61, (Value.bool p73))] a → Mem Nob w0 w [(true, bx b3 24 [(Value.int IntKind.i64 p0_aG_Size), p0_aG_Rowsv]), (false, rd p0_aG_Rowsv (List.map (Value.int IntKind.i64) p0_aG_Rows)), (true, ow 3 v21 (List.map (Value.int IntKind.i64) r20.1)), (true, ow 3 v33 (List.map (Value.int IntKind.i64) r32.1))] → S_laws_FnExactEliminationOf_j2 F p0_aG_Size p0_aG_Rows r20 r32 p73 = some r → K71 a w := by
            intro p73 a w hS hM hF
            unfold S_laws_FnExactEliminationOf_j2 at hF
            refine hK71 _ _ ?_
            rcases ite_some hF with ⟨hc, hF⟩ | ⟨hc, hF⟩
            · refine cond_t hS rfl hc ?_
              refine wp_seq_k fun K74 hK74 => ?_
              refine wp_region_lit ?_
              refine st_val hS rfl rfl (by decide) (rv_assign (hS.ev rfl)) fun a hS => ?_
              refine wpList_nil ?_
              refine hK74 _ _ ?_
              refine wp_ret ?_
              cases hF
              exact hQr _ _ (r_1 hS rfl rfl ⟨rfl, hM.pick [] (by decide) rfl⟩)
            · refine cond_f hS rfl hc ?_
              refine wp_skip ?_
              refine hK65 _ _ ?_
              refine wp_seq_k fun K75 hK75 => ?_
              refine wp_region_lit ?_
              refine st_val hS rfl rfl (by decide) (rv_assign (hS.ev rfl)) fun a hS => ?_
              refine wpList_nil ?_
              refine hK75 _ _ ?_
              refine wp_seq_k fun K76 hK76 => ?_
              refine wp_region_lit ?_
              refine st_val hS rfl rfl (by decide) (rv_move (hS.ev rfl)) fun a hS => ?_
              refine st_val hS rfl rfl (by decide) (rv_move (hS.ev rfl)) fun a hS => ?_
              obtain ⟨r78, hr, hF⟩ := bind_some hF
              have hM := hM.pick [3, 0, 1, 2] (by decide) rfl
              have hP := Mem.pre (A := [(true, ow 3 v33 (List.map (Value.int IntKind.i64) r32.1))]) (C := []) (B := [(true, bx b3 24 [(Value.int IntKind.i64 p0_aG_Size), p0_aG_Rowsv]), (false, rd p0_aG_Rowsv (List.map (Value.int IntKind.i64) p0_aG_Rows)), (true, ow 3 v21 (List.map (Value.int IntKind.i64) r20.1))]) hM rfl weaks_nil
              refine st_wp hS rfl (wp_call hS rfl rfl (by decide) fn_ok_22 rfl (c_laws_markIntS F r32.1 1 v33 hr _ hP) fun v w a hK hS => ?_)
              obtain ⟨rfl, hN⟩ := hK
              have hM := Mem.callo (A := [(true, ow 3 v33 (List.map (Value.int IntKind.i64) r32.1))]) (B := [(true, bx b3 24 [(Value.int IntKind.i64 p0_aG_Size), p0_aG_Rowsv]), (false, rd p0_aG_Rowsv (List.map (Value.int IntKind.i64) p0_aG_Rows)), (true, ow 3 v21 (List.map (Value.int IntKind.i64) r20.1))]) hM rfl hN rfl
              refine st_val hS rfl rfl (by decide) (rv_assign (hS.ev rfl)) fun a hS => ?_
              refine wpList_nil ?_
              refine hK76 _ _ ?_
              refine wp_seq_k fun K79 hK79 => ?_
              refine wp_region_lit ?_
              refine st_val hS rfl rfl (by decide) (rv_assign (hS.ev rfl)) fun a hS => ?_
              refine wpList_nil ?_
              refine hK79 _ _ ?_
              refine wp_seq_k fun K80 hK80 => ?_
              refine wp_region_lit ?_
              refine st_val hS rfl rfl (by decide) (rv_move (hS.ev rfl)) fun a hS => ?_
              refine st_val hS rfl rfl (by decide) (rv_move (hS.ev rfl)) fun a hS => ?_
              obtain ⟨r82, hr, hF⟩ := bind_some hF
              refine st_wp hS rfl (wp_call hS rfl rfl (by decide) fn_ok_23 rfl (c_laws_heldIntS F r78.2 1 v33 hr _ (rd_of_ow (hM.get 0 rfl))) fun v w a hK hS => ?_)
              obtain ⟨rfl, hN⟩ := hK
              have hM := hM.fra hN.fr
              refine st_val hS rfl rfl (by decide) (rv_assign (hS.ev rfl)) fun a hS => ?_
              refine wpList_nil ?_
              refine hK80 _ _ ?_
              refine wp_seq_k fun K83 hK83 => ?_
              refine wp_seq_k fun K86 hK86 => ?_
              refine wp_region_lit ?_
              refine st_val hS rfl rfl (by decide) (rv_move (hS.ev rfl)) fun a hS => ?_
              refine st_val hS rfl rfl (by decide) (rv_lss (hS.ev rfl) (hS.ev rfl)) fun a hS => ?_
              refine wpList_nil ?_
              refine hK86 _ _ ?_
              rcases ite_some hF with ⟨hc, hF⟩ | ⟨hc, hF⟩
              · refine cond_t hS rfl hc ?_
                refine wp_seq_k fun K87 hK87 => ?_
                refine wp_region_lit ?_
                refine st_val hS rfl rfl (by decide) (rv_assign (hS.ev rfl)) fun a hS => ?_
                refine wpList_nil ?_
                refine hK87 _ _ ?_
                refine wp_ret ?_
                cases hF
                exact hQr _ _ (r_1 hS rfl rfl ⟨rfl, hM.pick [] (by decide) rfl⟩)
              · refine cond_f hS rfl hc ?_
                refine wp_skip ?_
                refine hK83 _ _ ?_
                refine wp_seq_k fun K88 hK88 => ?_
                refine wp_seq_k fun K91 hK91 => ?_
                refine wp_region_lit ?_
                refine st_val hS rfl rfl (by decide) (rv_move (hS.ev rfl)) fun a hS => ?_
                refine st_val hS rfl rfl (by decide) (rv_move (hS.ev rfl)) fun a hS => ?_
                refine st_val hS rfl rfl (by decide) (rv_neq (hS.ev rfl) (hS.ev rfl)) fun a hS => ?_
                refine wpList_nil ?_
                refine hK91 _ _ ?_
                rcases ite_some hF with ⟨hc, hF⟩ | ⟨hc, hF⟩
                · refine cond_t hS rfl hc ?_
                  refine wp_seq_k fun K92 hK92 => ?_
                  refine wp_region_lit ?_
                  refine st_val hS rfl rfl (by decide) (rv_assign (hS.ev rfl)) fun a hS => ?_
                  refine wpList_nil ?_
                  refine hK92 _ _ ?_
                  refine wp_ret ?_
                  cases hF
                  exact hQr _ _ (r_1 hS rfl rfl ⟨rfl, hM.pick [] (by decide) rfl⟩)
                · refine cond_f hS rfl hc ?_
                  refine wp_skip ?_
                  refine hK88 _ _ ?_
                  refine wp_seq_k fun K93 hK93 => ?_
                  refine wp_region_lit ?_
                  refine st_val hS rfl rfl (by decide) (rv_load_agg (hS.ev rfl) ty_ag_24 (hM.get 1 rfl) ty_sz_24) fun a hS => ?_
                  obtain ⟨r98, hr, hF⟩ := bind_some hF
                  refine st_wp hS rfl (wp_call hS rfl rfl (by decide) fn_ok_17 rfl (c_laws_toGraph F p0_aG_Size p0_aG_Rows p0_aG_Rowsv hr _ (hM.get 2 rfl)) fun v w a hK hS => ?_)
                  obtain ⟨v99, rfl, hN⟩ := hK
                  have hM := hM.add hN rfl
                  obtain ⟨r100, hr, hF⟩ := bind_some hF
                  refine st_wp hS rfl (wp_call hS rfl rfl (by decide) fn_ok_39 rfl (c_impl_EliminationOf F r98.1 r98.2 v99 hr _ (rd_of_ow (hM.get 0 rfl))) fun v w a hK hS => ?_)
                  obtain ⟨v101, rfl, hN⟩ := hK
                  have hM := hM.add hN rfl
                  refine st_val hS rfl rfl (by decide) (rv_move (hS.ev rfl)) fun a hS => ?_
                  refine st_val hS rfl rfl (by decide) (rv_extract (hS.ev rfl) rfl) fun a hS => ?_
                  refine st_val hS rfl rfl (by decide) (rv_extract (hS.ev rfl) rfl) fun a hS => ?_
                  refine st_val hS rfl rfl (by decide) (rv_assign (hS.ev rfl)) fun a hS => ?_
                  refine st_val hS rfl rfl (by decide) (rv_assign (hS.ev rfl)) fun a hS => ?_
                  refine wpList_nil ?_
                  refine hK93 _ _ ?_
                  refine wp_seq_k fun K102 hK102 => ?_
                  refine wp_seq_k fun K108 hK108 => ?_
                  have hJ3 : ∀ (p110 : Bool) (a : Act) (w : World), Sl 96 [(7, v33), (10, (Value.int IntKind.i64 r78.1)), (87, (Value.bool p110))] a → Mem Nob w0 w [(true, ow 3 v33 (List.map (Value.int IntKind.i64) r78.2))] → S_laws_FnExactEliminationOf_j3 F r78 p110 = some r → K108 a w := by
                    intro p110 a w hS hM hF
                    unfold S_laws_FnExactEliminationOf_j3 at hF
                    refine hK108 _ _ ?_
                    rcases ite_some hF with ⟨hc, hF⟩ | ⟨hc, hF⟩
                    · refine cond_t hS rfl hc ?_
                      refine wp_seq_k fun K111 hK111 => ?_
                      refine wp_region_lit ?_
                      refine st_val hS rfl rfl (by decide) (rv_assign (hS.ev rfl)) fun a hS => ?_
                      refine wpList_nil ?_
                      refine hK111 _ _ ?_
                      refine wp_ret ?_
                      cases hF
                      exact hQr _ _ (r_1 hS rfl rfl ⟨rfl, hM.pick [] (by decide) rfl⟩)
                    · refine cond_f hS rfl hc ?_
                      refine wp_skip ?_
                      refine hK102 _ _ ?_
                      refine wp_seq_k fun K112 hK112 => ?_
                      refine wp_region_lit ?_
                      refine st_val hS rfl rfl (by decide) (rv_assign (hS.ev rfl)) fun a hS => ?_
                      refine wpList_nil ?_
                      refine hK112 _ _ ?_
                      refine wp_seq_k fun K113 hK113 => ?_
                      refine wp_region_lit ?_
                      refine st_val hS rfl rfl (by decide) (rv_move (hS.ev rfl)) fun a hS => ?_
                      refine st_val hS rfl rfl (by decide) (rv_move (hS.ev rfl)) fun a hS => ?_
                      obtain ⟨r115, hr, hF⟩ := bind_some hF
                      refine st_wp hS rfl (wp_call hS rfl rfl (by decide) fn_ok_23 rfl (c_laws_heldIntS F r78.2 1 v33 hr _ (rd_of_ow (hM.get 0 rfl))) fun v w a hK hS => ?_)
                      obtain ⟨rfl, hN⟩ := hK
                      have hM := hM.fra hN.fr
                      refine st_val hS rfl rfl (by decide) (rv_assign (hS.ev rfl)) fun a hS => ?_
                      refine wpList_nil ?_
                      refine hK113 _ _ ?_
                      refine wp_seq_k fun K116 hK116 => ?_
                      refine wp_seq_k fun K119 hK119 => ?_
                      refine wp_region_lit ?_
                      refine st_val hS rfl rfl (by decide) (rv_move (hS.ev rfl)) fun a hS => ?_
                      refine st_val hS rfl rfl (by decide) (rv_lss (hS.ev rfl) (hS.ev rfl)) fun a hS => ?_
                      refine wpList_nil ?_
                      refine hK119 _ _ ?_
                      rcases ite_some hF with ⟨hc, hF⟩ | ⟨hc, hF⟩
                      · refine cond_t hS rfl hc ?_
                        refine wp_seq_k fun K120 hK120 => ?_
                        refine wp_region_lit ?_
                        refine st_val hS rfl rfl (by decide) (rv_assign (hS.ev rfl)) fun a hS => ?_
                        refine wpList_nil ?_
                        refine hK120 _ _ ?_
                        refine wp_ret ?_
                        cases hF
                        exact hQr _ _ (r_1 hS rfl rfl ⟨rfl, hM.pick [] (by decide) rfl⟩)
                      · refine cond_f hS rfl hc ?_
                        refine wp_skip ?_
                        refine hK116 _ _ ?_
                        refine wp_seq_k fun K121 hK121 => ?_
                        refine wp_seq_k fun K124 hK124 => ?_
                        refine wp_region_lit ?_
                        refine st_val hS rfl rfl (by decide) (rv_move (hS.ev rfl)) fun a hS => ?_
                        refine st_val hS rfl rfl (by decide) (rv_move (hS.ev rfl)) fun a hS => ?_
                        refine st_val hS rfl rfl (by decide) (rv_neq (hS.ev rfl) (hS.ev rfl)) fun a hS => ?_
                        refine wpList_nil ?_
                        refine hK124 _ _ ?_
                        rcases ite_some hF with ⟨hc, hF⟩ | ⟨hc, hF⟩
                        · refine cond_t hS rfl hc ?_
                          refine wp_seq_k fun K125 hK125 => ?_
                          refine wp_region_lit ?_
                          refine st_val hS rfl rfl (by decide) (rv_assign (hS.ev rfl)) fun a hS => ?_
                          refine wpList_nil ?_
                          refine hK125 _ _ ?_
                          refine wp_ret ?_
                          cases hF
                          exact hQr _ _ (r_1 hS rfl rfl ⟨rfl, hM.pick [] (by decide) rfl⟩)
                        · refine cond_f hS rfl hc ?_
                          refine wp_skip ?_
                          refine hK121 _ _ ?_
                          refine wp_seq_k fun K126 hK126 => ?_
                          refine wp_region_lit ?_
                          refine st_val hS rfl rfl (by decide) (rv_assign (hS.ev rfl)) fun a hS => ?_
                          refine wpList_nil ?_
                          refine hK126 _ _ ?_
                          refine wp_ret ?_
                          cases hF
                          exact hQr _ _ (r_1 hS rfl rfl ⟨rfl, hM.pick [] (by decide) rfl⟩)
                  refine wp_region_lit ?_
                  refine st_val hS rfl rfl (by decide) (rv_move (hS.ev rfl)) fun a hS => ?_
                  refine st_val hS rfl rfl (by decide) (rv_move (hS.ev rfl)) fun a hS => ?_
                  obtain ⟨r127, hr, hF⟩ := bind_some hF
                  refine st_wp hS rfl (wp_call hS rfl rfl (by decide) fn_ok_19 rfl (c_laws_eqIntS F r100.1 r20.1 v101 v21 hr _ (rd_of_ow (hM.get 0 rfl)) (rd_of_ow (hM.get 5 rfl))) fun v w a hK hS => ?_)
                  obtain ⟨rfl, hN⟩ := hK
                  have hM := hM.fra hN.fr
                  refine st_val hS rfl rfl (by decide) (rv_not (hS.ev rfl)) fun a hS => ?_
                  refine st_val hS rfl rfl (by decide) (rv_move (hS.ev rfl)) fun a hS => ?_
                  rcases ite_some hF with ⟨hc, hF⟩ | ⟨hc, hF⟩
                  · have hS := hS.setb (t := 83) rfl hc
                    refine st_skip hS rfl rfl (by decide) fun a hS => ?_
                    refine st_skip hS rfl rfl (by decide) fun a hS => ?_
                    refine st_skip hS rfl rfl (by decide) fun a hS => ?_
                    refine st_val hS rfl rfl (by decide) (rv_pick_t (hS.ev rfl) (hS.ev rfl)) fun a hS => ?_
                    refine wpList_nil ?_
                    exact hJ3 true _ _ (hS.sub (sub_cons rfl (sub_cons rfl (sub_cons rfl sub_nil)))) (hM.pick [2] (by decide) rfl) hF
                  · have hS := hS.setb (t := 83) rfl hc
                    refine st_val hS rfl rfl (by decide) (rv_move (hS.ev rfl)) fun a hS => ?_
                    refine st_val hS rfl rfl (by decide) (rv_move (hS.ev rfl)) fun a hS => ?_
                    refine st_val hS rfl rfl (by decide) (rv_bneq Try.underlying4 (hS.ev rfl) (hS.ev rfl)) fun a hS => ?_
                    refine st_val hS rfl rfl (by decide) (rv_pick_f (hS.ev rfl) (hS.ev rfl)) fun a hS => ?_
                    refine wpList_nil ?_
                    exact hJ3 (r100.2 != r20.2) _ _ (hS.sub (sub_cons rfl (sub_cons rfl (sub_cons rfl sub_nil)))) (hM.pick [2] (by decide) rfl) hF
          refine wp_region_lit ?_
          refine st_val hS rfl rfl (by decide) (rv_move (hS.ev rfl)) fun a hS => ?_
          refine st_val hS rfl rfl (by decide) (rv_lss (hS.ev rfl) (hS.ev rfl)) fun a hS => ?_
          refine st_val hS rfl rfl (by decide) (rv_move (hS.ev rfl)) fun a hS => ?_
          rcases ite_some hF with ⟨hc, hF⟩ | ⟨hc, hF⟩
          · have hS := hS.setb (t := 51) rfl hc
            refine st_skip hS rfl rfl (by decide) fun a hS => ?_
            refine st_skip hS rfl rfl (by decide) fun a hS => ?_
            refine st_skip hS rfl rfl (by decide) fun a hS => ?_
            refine st_skip hS rfl rfl (by decide) fun a hS => ?_
            refine st_val hS rfl rfl (by decide) (rv_pick_t (hS.ev rfl) (hS.ev rfl)) fun a hS => ?_
            refine st_val hS rfl rfl (by decide) (rv_move (hS.ev rfl)) fun a hS => ?_
            refine st_skip hS rfl rfl (by decide) fun a hS => ?_
            refine st_skip hS rfl rfl (by decide) fun a hS => ?_
            refine st_skip hS rfl rfl (by decide) fun a hS => ?_
            refine st_val hS rfl rfl (by decide) (rv_pick_t (hS.ev rfl) (hS.ev rfl)) fun a hS => ?_
            refine wpList_nil ?_
            exact hJ2 true _ _ (hS.sub (sub_cons rfl (sub_cons rfl (sub_cons rfl (sub_cons rfl (sub_cons rfl sub_nil)))))) (hM.pick [2, 3, 4, 6] (by decide) rfl) hF
          · have hS := hS.setb (t := 51) rfl hc
            refine st_val hS rfl rfl (by decide) (rv_move (hS.ev rfl)) fun a hS => ?_
            refine st_val hS rfl rfl (by decide) (rv_move (hS.ev rfl)) fun a hS => ?_
            obtain ⟨r128, hr, hF⟩ := bind_some hF
            refine st_wp hS rfl (wp_call hS rfl rfl (by decide) fn_ok_19 rfl (c_laws_eqIntS F r32.1 r20.1 v33 v21 hr _ (rd_of_ow (hM.get 6 rfl)) (rd_of_ow (hM.get 4 rfl))) fun v w a hK hS => ?_)
            obtain ⟨rfl, hN⟩ := hK
            have hM := hM.fra hN.fr
            refine st_val hS rfl rfl (by decide) (rv_not (hS.ev rfl)) fun a hS => ?_
            refine st_val hS rfl rfl (by decide) (rv_pick_f (hS.ev rfl) (hS.ev rfl)) fun a hS => ?_
            refine st_val hS rfl rfl (by decide) (rv_move (hS.ev rfl)) fun a hS => ?_
            rcases ite_some hF with ⟨hc, hF⟩ | ⟨hc, hF⟩
            · have hS := hS.setb (t := 57) rfl hc
              refine st_skip hS rfl rfl (by decide) fun a hS => ?_
              refine st_skip hS rfl rfl (by decide) fun a hS => ?_
              refine st_skip hS rfl rfl (by decide) fun a hS => ?_
              refine st_val hS rfl rfl (by decide) (rv_pick_t (hS.ev rfl) (hS.ev rfl)) fun a hS => ?_
              refine wpList_nil ?_
              exact hJ2 true _ _ (hS.sub (sub_cons rfl (sub_cons rfl (sub_cons rfl (sub_cons rfl (sub_cons rfl sub_nil)))))) (hM.pick [2, 3, 4, 6] (by decide) rfl) hF
            · have hS := hS.setb (t := 57) rfl hc
              refine st_val hS rfl rfl (by decide) (rv_move (hS.ev rfl)) fun a hS => ?_
              refine st_val hS rfl rfl (by decide) (rv_move (hS.ev rfl)) fun a hS => ?_
              refine st_val hS rfl rfl (by decide) (rv_bneq Try.underlying4 (hS.ev rfl) (hS.ev rfl)) fun a hS => ?_
              refine st_val hS rfl rfl (by decide) (rv_pick_f (hS.ev rfl) (hS.ev rfl)) fun a hS => ?_
              refine wpList_nil ?_
              exact hJ2 (r32.2 != r20.2) _ _ (hS.sub (sub_cons rfl (sub_cons rfl (sub_cons rfl (sub_cons rfl (sub_cons rfl sub_nil)))))) (hM.pick [2, 3, 4, 6] (by decide) rfl) hF
    refine wp_region_lit ?_
    refine st_val hS rfl rfl (by decide) (rv_move (hS.ev rfl)) fun a hS => ?_
    refine st_val hS rfl rfl (by decide) (rv_move (hS.ev rfl)) fun a hS => ?_
    obtain ⟨r129, hr, hF⟩ := bind_some hF
    refine st_wp hS rfl (wp_call hS rfl rfl (by decide) fn_ok_19 rfl (c_laws_eqIntS F r32.1 r20.1 v33 v21 hr _ (rd_of_ow (hM.get 0 rfl)) (rd_of_ow (hM.get 4 rfl))) fun v w a hK hS => ?_)
    obtain ⟨rfl, hN⟩ := hK
    have hM := hM.fra hN.fr
    refine st_val hS rfl rfl (by decide) (rv_not (hS.ev rfl)) fun a hS => ?_
    refine st_val hS rfl rfl (by decide) (rv_move (hS.ev rfl)) fun a hS => ?_
    rcases ite_some hF with ⟨hc, hF⟩ | ⟨hc, hF⟩
    · have hS := hS.setb (t := 36) rfl hc
      refine st_skip hS rfl rfl (by decide) fun a hS => ?_
      refine st_skip hS rfl rfl (by decide) fun a hS => ?_
      refine st_skip hS rfl rfl (by decide) fun a hS => ?_
      refine st_val hS rfl rfl (by decide) (rv_pick_t (hS.ev rfl) (hS.ev rfl)) fun a hS => ?_
      refine wpList_nil ?_
      exact hJ1 true _ _ (hS.sub (sub_cons rfl (sub_cons rfl (sub_cons rfl (sub_cons rfl (sub_cons rfl (sub_cons rfl (sub_cons rfl sub_nil)))))))) (hM.pick [6, 7, 4, 1, 3, 0] (by decide) rfl) hF
    · have hS := hS.setb (t := 36) rfl hc
      refine st_val hS rfl rfl (by decide) (rv_move (hS.ev rfl)) fun a hS => ?_
      refine st_val hS rfl rfl (by decide) (rv_move (hS.ev rfl)) fun a hS => ?_
      refine st_val hS rfl rfl (by decide) (rv_bneq Try.underlying4 (hS.ev rfl) (hS.ev rfl)) fun a hS => ?_
      refine st_val hS rfl rfl (by decide) (rv_pick_f (hS.ev rfl) (hS.ev rfl)) fun a hS => ?_
      refine wpList_nil ?_
      exact hJ1 (r32.2 != r20.2) _ _ (hS.sub (sub_cons rfl (sub_cons rfl (sub_cons rfl (sub_cons rfl (sub_cons rfl (sub_cons rfl (sub_cons rfl sub_nil)))))))) (hM.pick [6, 7, 4, 1, 3, 0] (by decide) rfl) hF


theorem c_impl_PartsOf (F : Nat) (p0_g_Size : Int) (p0_g_Rows : List Int) (p1_set : Int) (p0_g_Rowsv : Value) {r : (List (Int))} (hF : S_impl_PartsOf F p0_g_Size p0_g_Rows p1_set = some r) (w0 : World) (h0 : RdRow w0 p0_g_Rowsv (List.map (Value.int IntKind.i64) p0_g_Rows)) :
    Calls Try.prog 41 [(Value.agg #[(Value.int IntKind.i64 p0_g_Size), p0_g_Rowsv]), (Value.int IntKind.i64 p1_set)].toArray w0 (retPost fun v w' => Mem Nob w0 w' [(true, ow 3 v (List.map (Value.int IntKind.i64) r))]) := by
  have hM : Mem Nob w0 w0 [(false, rd p0_g_Rowsv (List.map (Value.int IntKind.i64) p0_g_Rows))] := (Mem.rcons (Mem.nil w0) h0 (by simp))
  refine enter2 Try.func41 rfl rfl rfl fun Q a hQr hQn hQp hS => ?_
  have hS : Sl 12 [(0, (Value.agg #[(Value.int IntKind.i64 p0_g_Size), p0_g_Rowsv])), (1, (Value.int IntKind.i64 p1_set))] a := hS
  unfold S_impl_PartsOf at hF
  refine wp_seq_k fun K1 hK1 => ?_
  refine wp_region_lit ?_
  obtain ⟨b3, w, hr, hM⟩ := hM.boxE (ρ := a.eval) (dst := some 2) (ty := _) (pos := _) (af := _) (gd := _) (x := .tmp 0) (T := 27) [(Value.int IntKind.i64 p0_g_Size), p0_g_Rowsv] (hS.ev rfl) rfl
  refine st_val hS rfl rfl (by decide) hr fun a hS => ?_
  refine st_val hS rfl rfl (by decide) (rv_assign (hS.ev rfl)) fun a hS => ?_
  refine wpList_nil ?_
  refine hK1 _ _ ?_
  refine wp_seq_k fun K4 hK4 => ?_
  refine wp_seq_k fun K9 hK9 => ?_
  refine wp_region_lit ?_
  refine st_val hS rfl rfl (by decide) (rv_load_agg (hS.ev rfl) ty_ag_27 (hM.get 0 rfl) ty_sz_27) fun a hS => ?_
  refine st_val hS rfl rfl (by decide) (rv_move (hS.ev rfl)) fun a hS => ?_
  obtain ⟨r11, hr, hF⟩ := bind_some hF
  refine st_wp hS rfl (wp_call hS rfl rfl (by decide) fn_ok_68 rfl (c_impl_IsSet F p0_g_Size p0_g_Rows p1_set p0_g_Rowsv hr _ (hM.get 1 rfl)) fun v w a hK hS => ?_)
  obtain ⟨rfl, hN⟩ := hK
  have hM := hM.fra hN.fr
  refine st_val hS rfl rfl (by decide) (rv_not (hS.ev rfl)) fun a hS => ?_
  refine wpList_nil ?_
  refine hK9 _ _ ?_
  rcases ite_some hF with ⟨hc, hF⟩ | ⟨hc, hF⟩
  · refine cond_t hS rfl hc ?_
    refine wp_seq_k fun K12 hK12 => ?_
    refine wp_region_lit ?_
    refine st_val hS rfl rfl (by decide) (rv_assign (hS.ev rfl)) fun a hS => ?_
    refine wpList_nil ?_
    refine hK12 _ _ ?_
    refine wp_ret ?_
    cases hF
    have hM := hM.addNil 3
    exact hQr _ _ (r_1 hS rfl rfl (hM.pick [0] (by decide) rfl))
  · refine cond_f hS rfl hc ?_
    refine wp_skip ?_
    refine hK4 _ _ ?_
    refine wp_seq_k fun K13 hK13 => ?_
    refine wp_region_lit ?_
    refine st_val hS rfl rfl (by decide) (rv_load_agg (hS.ev rfl) ty_ag_27 (hM.get 0 rfl) ty_sz_27) fun a hS => ?_
    refine st_val hS rfl rfl (by decide) (rv_move (hS.ev rfl)) fun a hS => ?_
    obtain ⟨r16, hr, hF⟩ := bind_some hF
    refine st_wp hS rfl (wp_call hS rfl rfl (by decide) fn_ok_60 rfl (c_impl_parts F p0_g_Size p0_g_Rows p1_set p0_g_Rowsv hr _ (hM.get 1 rfl)) fun v17 w a hK hS => ?_)
    have hN := hK
    have hM := hM.add hN rfl
    refine st_val hS rfl rfl (by decide) (rv_assign (hS.ev rfl)) fun a hS => ?_
    refine wpList_nil ?_
    refine hK13 _ _ ?_
    refine wp_ret ?_
    cases hF
    exact hQr _ _ (r_1 hS rfl rfl (hM.pick [0] (by decide) rfl))


theorem c_laws_FnExactPartsOf (F : Nat) (p0_aG_Size : Int) (p0_aG_Rows : List Int) (p1_aSet : Int) (p0_aG_Rowsv : Value) {r : Bool} (hF : S_laws_FnExactPartsOf F p0_aG_Size p0_aG_Rows p1_aSet = some r) (w0 : World) (h0 : RdRow w0 p0_aG_Rowsv (List.map (Value.int IntKind.i64) p0_aG_Rows)) :
    Calls Try.prog 11 [(Value.agg #[(Value.int IntKind.i64 p0_aG_Size), p0_aG_Rowsv]), (Value.int IntKind.i64 p1_aSet)].toArray w0 (retPost fun v w' => v = (Value.bool r) ∧ Mem Nob w0 w' []) := by
  have hM : Mem Nob w0 w0 [(false, rd p0_aG_Rowsv (List.map (Value.int IntKind.i64) p0_aG_Rows))] := (Mem.rcons (Mem.nil w0) h0 (by simp))
  refine enter2 Try.func11 rfl rfl rfl fun Q a hQr hQn hQp hS => ?_
  have hS : Sl 74 [(0, (Value.agg #[(Value.int IntKind.i64 p0_aG_Size), p0_aG_Rowsv])), (1, (Value.int IntKind.i64 p1_aSet))] a := hS
  unfold S_laws_FnExactPartsOf at hF
  refine wp_seq_k fun K1 hK1 => ?_
  refine wp_region_lit ?_
  obtain ⟨b3, w, hr, hM⟩ := hM.boxE (ρ := a.eval) (dst := some 2) (ty := _) (pos := _) (af := _) (gd := _) (x := .tmp 0) (T := 24) [(Value.int IntKind.i64 p0_aG_Size), p0_aG_Rowsv] (hS.ev rfl) rfl
  refine st_val hS rfl rfl (by decide) hr fun a hS => ?_
  refine st_val hS rfl rfl (by decide) (rv_assign (hS.ev rfl)) fun a hS => ?_
  refine wpList_nil ?_
  refine hK1 _ _ ?_
  refine wp_seq_k fun K4 hK4 => ?_
  refine wp_region_lit ?_
  refine st_val hS rfl rfl (by decide) (rv_assign (hS.ev rfl)) fun a hS => ?_
  refine wpList_nil ?_
  refine hK4 _ _ ?_
  refine wp_seq_k fun K5 hK5 => ?_
  refine wp_region_lit ?_
  refine st_val hS rfl rfl (by decide) (rv_load_agg (hS.ev rfl) ty_ag_24 (hM.get 0 rfl) ty_sz_24) fun a hS => ?_
  refine st_val hS rfl rfl (by decide) (rv_move (hS.ev rfl)) fun a hS => ?_
  obtain ⟨r7, hr, hF⟩ := bind_some hF
  refine st_wp hS rfl (wp_call hS rfl rfl (by decide) fn_ok_15 rfl (c_laws_szGraph F p0_aG_Size p0_aG_Rows 1048576 p0_aG_Rowsv hr _ (hM.get 1 rfl)) fun v w a hK hS => ?_)
  obtain ⟨rfl, hN⟩ := hK
  have hM := hM.fra hN.fr
  refine st_val hS rfl rfl (by decide) (rv_assign (hS.ev rfl)) fun a hS => ?_
  refine wpList_nil ?_
  refine hK5 _ _ ?_
  refine wp_seq_k fun K8 hK8 => ?_
  refine wp_seq_k fun K11 hK11 => ?_
  refine wp_region_lit ?_
  refine st_val hS rfl rfl (by decide) (rv_move (hS.ev rfl)) fun a hS => ?_
  refine st_val hS rfl rfl (by decide) (rv_lss (hS.ev rfl) (hS.ev rfl)) fun a hS => ?_
  refine wpList_nil ?_
  refine hK11 _ _ ?_
  rcases ite_some hF with ⟨hc, hF⟩ | ⟨hc, hF⟩
  · refine cond_t hS rfl hc ?_
    refine wp_seq_k fun K12 hK12 => ?_
    refine wp_region_lit ?_
    refine st_val hS rfl rfl (by decide) (rv_assign (hS.ev rfl)) fun a hS => ?_
    refine wpList_nil ?_
    refine hK12 _ _ ?_
    refine wp_ret ?_
    cases hF
    exact hQr _ _ (r_1 hS rfl rfl ⟨rfl, hM.pick [] (by decide) rfl⟩)
  · refine cond_f hS rfl hc ?_
    refine wp_skip ?_
    refine hK8 _ _ ?_
    refine wp_seq_k fun K13 hK13 => ?_
    refine wp_region_lit ?_
    refine st_val hS rfl rfl (by decide) (rv_load_agg (hS.ev rfl) ty_ag_24 (hM.get 0 rfl) ty_sz_24) fun a hS => ?_
    obtain ⟨r18, hr, hF⟩ := bind_some hF
    refine st_wp hS rfl (wp_call hS rfl rfl (by decide) fn_ok_17 rfl (c_laws_toGraph F p0_aG_Size p0_aG_Rows p0_aG_Rowsv hr _ (hM.get 1 rfl)) fun v w a hK hS => ?_)
    obtain ⟨v19, rfl, hN⟩ := hK
    have hM := hM.add hN rfl
    refine st_val hS rfl rfl (by decide) (rv_move (hS.ev rfl)) fun a hS => ?_
    obtain ⟨r20, hr, hF⟩ := bind_some hF
    refine st_wp hS rfl (wp_call hS rfl rfl (by decide) fn_ok_40 rfl (c_spec_PartsOf F r18.1 r18.2 p1_aSet v19 hr _ (rd_of_ow (hM.get 0 rfl))) fun v21 w a hK hS => ?_)
    have hN := hK
    have hM := hM.add hN rfl
    refine st_val hS rfl rfl (by decide) (rv_assign (hS.ev rfl)) fun a hS => ?_
    refine wpList_nil ?_
    refine hK13 _ _ ?_
    refine wp_seq_k fun K22 hK22 => ?_
    refine wp_region_lit ?_
    refine st_val hS rfl rfl (by decide) (rv_load_agg (hS.ev rfl) ty_ag_24 (hM.get 2 rfl) ty_sz_24) fun a hS => ?_
    obtain ⟨r26, hr, hF⟩ := bind_some hF
    refine st_wp hS rfl (wp_call hS rfl rfl (by decide) fn_ok_17 rfl (c_laws_toGraph F p0_aG_Size p0_aG_Rows p0_aG_Rowsv hr _ (hM.get 3 rfl)) fun v w a hK hS => ?_)
    obtain ⟨v27, rfl, hN⟩ := hK
    have hM := hM.add hN rfl
    obtain ⟨b28, w, hr, hM⟩ := hM.allocE (ρ := a.eval) (dst := some 7) (ty := _) (pos := _) (af := _) (gd := _) (T := 27) (P := Try.prog) [(Value.int IntKind.i64 0), (Value.slice none 0 0)] ty_zr_27 rfl
    refine st_val hS rfl rfl (by decide) hr fun a hS => ?_
    have hM := hM.addNil 3
    have hM := hM.pick [1, 0, 2, 3, 4, 5, 6] (by decide) rfl
    obtain ⟨w, hr, hM⟩ := hM.st_agg (us := [(Value.int IntKind.i64 r26.1), v27]) (ρ := a.eval) (dst := none) (ty := _) (pos := _) (af := _) (gd := _) (x := .tmp 7) (y := .tmp 23) (hS.ev rfl) (hS.ev rfl) ty_sz_27 (all1_cons rfl (all1_cons (rd_one (rd_of_ow (hM.get 2 rfl))) all1_nil)) rfl
    refine st_unit hS rfl rfl hr ?_
    refine wpList_nil ?_
    refine hK22 _ _ ?_
    refine wp_seq_k fun K29 hK29 => ?_
    refine wp_region_lit ?_
    refine st_val hS rfl rfl (by decide) (rv_load_agg (hS.ev rfl) ty_ag_27 (hM.get 0 rfl) ty_sz_27) fun a hS => ?_
    refine st_val hS rfl rfl (by decide) (rv_move (hS.ev rfl)) fun a hS => ?_
    obtain ⟨r32, hr, hF⟩ := bind_some hF
    refine st_wp hS rfl (wp_call hS rfl rfl (by decide) fn_ok_41 rfl (c_impl_PartsOf F r26.1 r26.2 p1_aSet v27 hr _ (rd_of_ow (hM.get 2 rfl))) fun v33 w a hK hS => ?_)
    have hN := hK
    have hM := hM.add hN rfl
    refine st_val hS rfl rfl (by decide) (rv_assign (hS.ev rfl)) fun a hS => ?_
    refine wpList_nil ?_
    refine hK29 _ _ ?_
    refine wp_seq_k fun K34 hK34 => ?_
    refine wp_seq_k fun K39 hK39 => ?_
    refine wp_region_lit ?_
    refine st_val hS rfl rfl (by decide) (rv_move (hS.ev rfl)) fun a hS => ?_
    refine st_val hS rfl rfl (by decide) (rv_move (hS.ev rfl)) fun a hS => ?_
    obtain ⟨r41, hr, hF⟩ := bind_some hF
    refine st_wp hS rfl (wp_call hS rfl rfl (by decide) fn_ok_19 rfl (c_laws_eqIntS F r32 r20 v33 v21 hr _ (rd_of_ow (hM.get 0 rfl)) (rd_of_ow (hM.get 4 rfl))) fun v w a hK hS => ?_)
    obtain ⟨rfl, hN⟩ := hK
    have hM := hM.fra hN.fr
    refine st_val hS rfl rfl (by decide) (rv_not (hS.ev rfl)) fun a hS => ?_
    refine wpList_nil ?_
    refine hK39 _ _ ?_
    rcases ite_some hF with ⟨hc, hF⟩ | ⟨hc, hF⟩
    · refine cond_t hS rfl hc ?_
      refine wp_seq_k fun K42 hK42 => ?_
      refine wp_region_lit ?_
      refine st_val hS rfl rfl (by decide) (rv_assign (hS.ev rfl)) fun a hS => ?_
      refine wpList_nil ?_
      refine hK42 _ _ ?_
      refine wp_ret ?_
      cases hF
      exact hQr _ _ (r_1 hS rfl rfl ⟨rfl, hM.pick [] (by decide) rfl⟩)
    · refine cond_f hS rfl hc ?_
      refine wp_skip ?_
      refine hK34 _ _ ?_
      refine wp_seq_k fun K43 hK43 => ?_
      refine wp_seq_k fun K52 hK52 => ?_
      refine an_start Nob ty_mixed fun w hf => ?_
      have hM := hM.fra hf
      have hB := hM
      have hM := hB.reg0
      refine an_take hS (i := 0) rfl (by kernel_rfl) (by kernel_rfl) (by kernel_rfl) rfl (by decide) (fun c a a' w hd h => hQp c a a' w hd h) rfl (fun w' hC' => (rv_load_agg (hS.ev rfl) ty_ag_27 ((hB.fra hC').get 1 rfl) ty_sz_27)) hM.fr fun a hS => ?_
      refine an_take hS (i := 1) rfl (by kernel_rfl) (by kernel_rfl) (by kernel_rfl) rfl (by decide) (fun c a a' w hd h => hQp c a a' w hd h) rfl (fun w' hC' => (rv_load_agg (hS.ev rfl) ty_ag_24 ((hB.fra hC').get 6 rfl) ty_sz_24)) hM.fr fun a hS => ?_
      obtain ⟨r56, hr, hF⟩ := bind_some hF
      refine an_one hS (i := 2) rfl (by kernel_rfl) rfl ?_
      refine wp_call hS rfl rfl (by decide) fn_ok_17 rfl (c_laws_toGraph F p0_aG_Size p0_aG_Rows p0_aG_Rowsv hr _ (hM.get 7 rfl)) fun v w a hK hS => ?_
      obtain ⟨v57, rfl, hN⟩ := hK
      have hM := hM.add hN rfl
      refine ⟨hM.fr, ?_⟩
      obtain ⟨r58, hr, hF⟩ := bind_some hF
      refine an_one hS (i := 3) rfl (by kernel_rfl) rfl ?_
      refine wp_call hS rfl rfl (by decide) fn_ok_20 rfl (c_laws_eqGraph F r26.1 r26.2 r56.1 r56.2 v27 v57 hr _ (rd_of_ow (hM.get 4 rfl)) (rd_of_ow (hM.get 0 rfl))) fun v w a hK hS => ?_
      obtain ⟨rfl, hN⟩ := hK
      have hM := hM.fra hN.fr
      refine ⟨hM.fr, ?_⟩
      refine an_take hS (i := 4) rfl (by kernel_rfl) (by kernel_rfl) (by kernel_rfl) rfl (by decide) (fun c a a' w hd h => hQp c a a' w hd h) rfl (fun w' hC' => (rv_not (hS.ev rfl))) hM.fr fun a hS => ?_
      refine an_done (by kernel_rfl) ?_
      have hN := hM.pick [0] (by decide) rfl
      have hM := Mem.callo (A := []) (B := [(true, ow 3 v33 (List.map (Value.int IntKind.i64) r32)), (true, bx b28 27 [(Value.int IntKind.i64 r26.1), v27]), (true, ow 3 (Value.slice none 0 0) (List.map (Value.int IntKind.i64) ([] : List (Int)))), (true, ow 3 v27 (List.map (Value.int IntKind.i64) r26.2)), (true, ow 3 v21 (List.map (Value.int IntKind.i64) r20)), (true, ow 3 v19 (List.map (Value.int IntKind.i64) r18.2)), (true, bx b3 24 [(Value.int IntKind.i64 p0_aG_Size), p0_aG_Rowsv]), (false, rd p0_aG_Rowsv (List.map (Value.int IntKind.i64) p0_aG_Rows))]) hB rfl (hN.memS fun _ h => h.elim) rfl
      refine hK52 _ _ ?_
      rcases ite_some hF with ⟨hc, hF⟩ | ⟨hc, hF⟩
      · refine cond_t hS rfl hc ?_
        refine wp_seq_k fun K59 hK59 => ?_
        refine wp_region_lit ?_
        refine st_val hS rfl rfl (by decide) (rv_assign (hS.ev rfl)) fun a hS => ?_
        refine wpList_nil ?_
        refine hK59 _ _ ?_
        refine wp_ret ?_
        cases hF
        exact hQr _ _ (r_1 hS rfl rfl ⟨rfl, hM.pick [] (by decide) rfl⟩)
      · refine cond_f hS rfl hc ?_
        refine wp_skip ?_
        refine hK43 _ _ ?_
        refine wp_seq_k fun K60 hK60 => ?_
        refine wp_region_lit ?_
        refine st_val hS rfl rfl (by decide) (rv_assign (hS.ev rfl)) fun a hS => ?_
        refine wpList_nil ?_
        refine hK60 _ _ ?_
        refine wp_seq_k fun K61 hK61 => ?_
        refine wp_region_lit ?_
        refine st_val hS rfl rfl (by decide) (rv_load_agg (hS.ev rfl) ty_ag_27 (hM.get 2 rfl) ty_sz_27) fun a hS => ?_
        refine st_val hS rfl rfl (by decide) (rv_move (hS.ev rfl)) fun a hS => ?_
        obtain ⟨r63, hr, hF⟩ := bind_some hF
        have hM := hM.pick [4, 0, 1, 2, 3, 5, 6, 7, 8] (by decide) rfl
        have hP := Mem.pre (A := [(true, ow 3 v27 (List.map (Value.int IntKind.i64) r26.2))]) (C := []) (B := [(true, ow 3 v57 (List.map (Value.int IntKind.i64) r56.2)), (true, ow 3 v33 (List.map (Value.int IntKind.i64) r32)), (true, bx b28 27 [(Value.int IntKind.i64 r26.1), v27]), (true, ow 3 (Value.slice none 0 0) (List.map (Value.int IntKind.i64) ([] : List (Int)))), (true, ow 3 v21 (List.map (Value.int IntKind.i64) r20)), (true, ow 3 v19 (List.map (Value.int IntKind.i64) r18.2)), (true, bx b3 24 [(Value.int IntKind.i64 p0_aG_Size), p0_aG_Rowsv]), (false, rd p0_aG_Rowsv (List.map (Value.int IntKind.i64) p0_aG_Rows))]) hM rfl weaks_nil
        refine st_wp hS rfl (wp_call hS rfl rfl (by decide) fn_ok_21 rfl (c_laws_markGraph F r26.1 r26.2 1 v27 hr _ hP) fun v w a hK hS => ?_)
        obtain ⟨rfl, hN⟩ := hK
        have hM := Mem.callo (A := [(true, ow 3 v27 (List.map (Value.int IntKind.i64) r26.2))]) (B := [(true, ow 3 v57 (List.map (Value.int IntKind.i64) r56.2)), (true, ow 3 v33 (List.map (Value.int IntKind.i64) r32)), (true, bx b28 27 [(Value.int IntKind.i64 r26.1), v27]), (true, ow 3 (Value.slice none 0 0) (List.map (Value.int IntKind.i64) ([] : List (Int)))), (true, ow 3 v21 (List.map (Value.int IntKind.i64) r20)), (true, ow 3 v19 (List.map (Value.int IntKind.i64) r18.2)), (true, bx b3 24 [(Value.int IntKind.i64 p0_aG_Size), p0_aG_Rowsv]), (false, rd p0_aG_Rowsv (List.map (Value.int IntKind.i64) p0_aG_Rows))]) hM rfl hN rfl
        refine st_val hS rfl rfl (by decide) (rv_assign (hS.ev rfl)) fun a hS => ?_
        refine wpList_nil ?_
        refine hK61 _ _ ?_
        refine wp_seq_k fun K64 hK64 => ?_
        refine wp_seq_k fun K70 hK70 => ?_
        have hJ1 : ∀ (p72 : Bool) (a : Act) (w : World), Sl 74 [(1, (Value.int IntKind.i64 p1_aSet)), (2, (fdp b3 0)), (6, v21), (8, v33), (46, (Value.bool p72))] a → Mem Nob w0 w [(true, bx b3 24 [(Value.int IntKind.i64 p0_aG_Size), p0_aG_Rowsv]), (false, rd p0_aG_Rowsv (List.map (Value.int IntKind.i64) p0_aG_Rows)), (true, ow 3 v21 (List.map (Value.int IntKind.i64) r20)), (true, ow 3 v33 (List.map (Value.int IntKind.i64) r32))] → S_laws_FnExactPartsOf_j1 F p0_aG_Size p0_aG_Rows p1_aSet r20 r32 p72 = some r → K70 a w := by
          intro p72 a w hS hM hF
          unfold S_laws_FnExactPartsOf_j1 at hF
          refine hK70 _ _ ?_
          rcases ite_some hF with ⟨hc, hF⟩ | ⟨hc, hF⟩
          · refine cond_t hS rfl hc ?_
            refine wp_seq_k fun K73 hK73 => ?_
            refine wp_region_lit ?_
            refine st_val hS rfl rfl (by decide) (rv_assign (hS.ev rfl)) fun a hS => ?_
            refine wpList_nil ?_
            refine hK73 _ _ ?_
            refine wp_ret ?_
            cases hF
            exact hQr _ _ (r_1 hS rfl rfl ⟨rfl, hM.pick [] (by decide) rfl⟩)
          · refine cond_f hS rfl hc ?_
            refine wp_skip ?_
            refine hK64 _ _ ?_
            refine wp_seq_k fun K74 hK74 => ?_
            refine wp_region_lit ?_
            refine st_val hS rfl rfl (by decide) (rv_assign (hS.ev rfl)) fun a hS => ?_
            refine wpList_nil ?_
            refine hK74 _ _ ?_
            refine wp_seq_k fun K75 hK75 => ?_
            refine wp_region_lit ?_
            refine st_val hS rfl rfl (by decide) (rv_move (hS.ev rfl)) fun a hS => ?_
            refine st_val hS rfl rfl (by decide) (rv_move (hS.ev rfl)) fun a hS => ?_
            obtain ⟨r77, hr, hF⟩ := bind_some hF
            have hM := hM.pick [3, 0, 1, 2] (by decide) rfl
            have hP := Mem.pre (A := [(true, ow 3 v33 (List.map (Value.int IntKind.i64) r32))]) (C := []) (B := [(true, bx b3 24 [(Value.int IntKind.i64 p0_aG_Size), p0_aG_Rowsv]), (false, rd p0_aG_Rowsv (List.map (Value.int IntKind.i64) p0_aG_Rows)), (true, ow 3 v21 (List.map (Value.int IntKind.i64) r20))]) hM rfl weaks_nil
            refine st_wp hS rfl (wp_call hS rfl rfl (by decide) fn_ok_22 rfl (c_laws_markIntS F r32 1 v33 hr _ hP) fun v w a hK hS => ?_)
            obtain ⟨rfl, hN⟩ := hK
            have hM := Mem.callo (A := [(true, ow 3 v33 (List.map (Value.int IntKind.i64) r32))]) (B := [(true, bx b3 24 [(Value.int IntKind.i64 p0_aG_Size), p0_aG_Rowsv]), (false, rd p0_aG_Rowsv (List.map (Value.int IntKind.i64) p0_aG_Rows)), (true, ow 3 v21 (List.map (Value.int IntKind.i64) r20))]) hM rfl hN rfl
            refine st_val hS rfl rfl (by decide) (rv_assign (hS.ev rfl)) fun a hS => ?_
            refine wpList_nil ?_
            refine hK75 _ _ ?_
            refine wp_seq_k fun K78 hK78 => ?_
            refine wp_region_lit ?_
            refine st_val hS rfl rfl (by decide) (rv_assign (hS.ev rfl)) fun a hS => ?_
            refine wpList_nil ?_
            refine hK78 _ _ ?_
            refine wp_seq_k fun K79 hK79 => ?_
            refine wp_region_lit ?_
            refine st_val hS rfl rfl (by decide) (rv_move (hS.ev rfl)) fun a hS => ?_
            refine st_val hS rfl rfl (by decide) (rv_move (hS.ev rfl)) fun a hS => ?_
            obtain ⟨r81, hr, hF⟩ := bind_some hF
            refine st_wp hS rfl (wp_call hS rfl rfl (by decide) fn_ok_23 rfl (c_laws_heldIntS F r77.2 1 v33 hr _ (rd_of_ow (hM.get 0 rfl))) fun v w a hK hS => ?_)
            obtain ⟨rfl, hN⟩ := hK
            have hM := hM.fra hN.fr
            refine st_val hS rfl rfl (by decide) (rv_assign (hS.ev rfl)) fun a hS => ?_
            refine wpList_nil ?_
            refine hK79 _ _ ?_
            refine wp_seq_k fun K82 hK82 => ?_
            refine wp_seq_k fun K85 hK85 => ?_
            refine wp_region_lit ?_
            refine st_val hS rfl rfl (by decide) (rv_move (hS.ev rfl)) fun a hS => ?_
            refine st_val hS rfl rfl (by decide) (rv_lss (hS.ev rfl) (hS.ev rfl)) fun a hS => ?_
            refine wpList_nil ?_
            refine hK85 _ _ ?_
            rcases ite_some hF with ⟨hc, hF⟩ | ⟨hc, hF⟩
            · refine cond_t hS rfl hc ?_
              refine wp_seq_k fun K86 hK86 => ?_
              refine wp_region_lit ?_
              refine st_val hS rfl rfl (by decide) (rv_assign (hS.ev rfl)) fun a hS => ?_
              refine wpList_nil ?_
              refine hK86 _ _ ?_
              refine wp_ret ?_
              cases hF
              exact hQr _ _ (r_1 hS rfl rfl ⟨rfl, hM.pick [] (by decide) rfl⟩)
            · refine cond_f hS rfl hc ?_
              refine wp_skip ?_
              refine hK82 _ _ ?_
              refine wp_seq_k fun K87 hK87 => ?_
              refine wp_seq_k fun K90 hK90 => ?_
              refine wp_region_lit ?_
              refine st_val hS rfl rfl (by decide) (rv_move (hS.ev rfl)) fun a hS => ?_
              refine st_val hS rfl rfl (by decide) (rv_move (hS.ev rfl)) fun a hS => ?_
              refine st_val hS rfl rfl (by decide) (rv_neq (hS.ev rfl) (hS.ev rfl)) fun a hS => ?_
              refine wpList_nil ?_
              refine hK90 _ _ ?_
              rcases ite_some hF with ⟨hc, hF⟩ | ⟨hc, hF⟩
              · refine cond_t hS rfl hc ?_
                refine wp_seq_k fun K91 hK91 => ?_
                refine wp_region_lit ?_
                refine st_val hS rfl rfl (by decide) (rv_assign (hS.ev rfl)) fun a hS => ?_
                refine wpList_nil ?_
                refine hK91 _ _ ?_
                refine wp_ret ?_
                cases hF
                exact hQr _ _ (r_1 hS rfl rfl ⟨rfl, hM.pick [] (by decide) rfl⟩)
              · refine cond_f hS rfl hc ?_
                refine wp_skip ?_
                refine hK87 _ _ ?_
                refine wp_seq_k fun K92 hK92 => ?_
                refine wp_region_lit ?_
                refine st_val hS rfl rfl (by decide) (rv_load_agg (hS.ev rfl) ty_ag_24 (hM.get 1 rfl) ty_sz_24) fun a hS => ?_
                obtain ⟨r97, hr, hF⟩ := bind_some hF
                refine st_wp hS rfl (wp_call hS rfl rfl (by decide) fn_ok_17 rfl (c_laws_toGraph F p0_aG_Size p0_aG_Rows p0_aG_Rowsv hr _ (hM.get 2 rfl)) fun v w a hK hS => ?_)
                obtain ⟨v98, rfl, hN⟩ := hK
                have hM := hM.add hN rfl
                refine st_val hS rfl rfl (by decide) (rv_move (hS.ev rfl)) fun a hS => ?_
                obtain ⟨r99, hr, hF⟩ := bind_some hF
                refine st_wp hS rfl (wp_call hS rfl rfl (by decide) fn_ok_41 rfl (c_impl_PartsOf F r97.1 r97.2 p1_aSet v98 hr _ (rd_of_ow (hM.get 0 rfl))) fun v100 w a hK hS => ?_)
                have hN := hK
                have hM := hM.add hN rfl
                refine st_val hS rfl rfl (by decide) (rv_assign (hS.ev rfl)) fun a hS => ?_
                refine wpList_nil ?_
                refine hK92 _ _ ?_
                refine wp_seq_k fun K101 hK101 => ?_
                refine wp_seq_k fun K106 hK106 => ?_
                refine wp_region_lit ?_
                refine st_val hS rfl rfl (by decide) (rv_move (hS.ev rfl)) fun a hS => ?_
                refine st_val hS rfl rfl (by decide) (rv_move (hS.ev rfl)) fun a hS => ?_
                obtain ⟨r108, hr, hF⟩ := bind_some hF
                refine st_wp hS rfl (wp_call hS rfl rfl (by decide) fn_ok_19 rfl (c_laws_eqIntS F r99 r20 v100 v21 hr _ (rd_of_ow (hM.get 0 rfl)) (rd_of_ow (hM.get 5 rfl))) fun v w a hK hS => ?_)
                obtain ⟨rfl, hN⟩ := hK
                have hM := hM.fra hN.fr
                refine st_val hS rfl rfl (by decide) (rv_not (hS.ev rfl)) fun a hS => ?_
                refine wpList_nil ?_
                refine hK106 _ _ ?_
                rcases ite_some hF with ⟨hc, hF⟩ | ⟨hc, hF⟩
                · refine cond_t hS rfl hc ?_
                  refine wp_seq_k fun K109 hK109 => ?_
                  refine wp_region_lit ?_
                  refine st_val hS rfl rfl (by decide) (rv_assign (hS.ev rfl)) fun a hS => ?_
                  refine wpList_nil ?_
                  refine hK109 _ _ ?_
                  refine wp_ret ?_
                  cases hF
                  exact hQr _ _ (r_1 hS rfl rfl ⟨rfl, hM.pick [] (by decide) rfl⟩)
                · refine cond_f hS rfl hc ?_
                  refine wp_skip ?_
                  refine hK101 _ _ ?_
                  refine wp_seq_k fun K110 hK110 => ?_
                  refine wp_region_lit ?_
                  refine st_val hS rfl rfl (by decide) (rv_assign (hS.ev rfl)) fun a hS => ?_
                  refine wpList_nil ?_
                  refine hK110 _ _ ?_
                  refine wp_seq_k fun K111 hK111 => ?_
                  refine wp_region_lit ?_
                  refine st_val hS rfl rfl (by decide) (rv_move (hS.ev rfl)) fun a hS => ?_
                  refine st_val hS rfl rfl (by decide) (rv_move (hS.ev rfl)) fun a hS => ?_
                  obtain ⟨r113, hr, hF⟩ := bind_some hF
                  refine st_wp hS rfl (wp_call hS rfl rfl (by decide) fn_ok_23 rfl (c_laws_heldIntS F r77.2 1 v33 hr _ (rd_of_ow (hM.get 2 rfl))) fun v w a hK hS => ?_)
                  obtain ⟨rfl, hN⟩ := hK
                  have hM := hM.fra hN.fr
                  refine st_val hS rfl rfl (by decide) (rv_assign (hS.ev rfl)) fun a hS => ?_
                  refine wpList_nil ?_
                  refine hK111 _ _ ?_
                  refine wp_seq_k fun K114 hK114 => ?_
                  refine wp_seq_k fun K117 hK117 => ?_
                  refine wp_region_lit ?_
                  refine st_val hS rfl rfl (by decide) (rv_move (hS.ev rfl)) fun a hS => ?_
                  refine st_val hS rfl rfl (by decide) (rv_lss (hS.ev rfl) (hS.ev rfl)) fun a hS => ?_
                  refine wpList_nil ?_
                  refine hK117 _ _ ?_
                  rcases ite_some hF with ⟨hc, hF⟩ | ⟨hc, hF⟩
                  · refine cond_t hS rfl hc ?_
                    refine wp_seq_k fun K118 hK118 => ?_
                    refine wp_region_lit ?_
                    refine st_val hS rfl rfl (by decide) (rv_assign (hS.ev rfl)) fun a hS => ?_
                    refine wpList_nil ?_
                    refine hK118 _ _ ?_
                    refine wp_ret ?_
                    cases hF
                    exact hQr _ _ (r_1 hS rfl rfl ⟨rfl, hM.pick [] (by decide) rfl⟩)
                  · refine cond_f hS rfl hc ?_
                    refine wp_skip ?_
                    refine hK114 _ _ ?_
                    refine wp_seq_k fun K119 hK119 => ?_
                    refine wp_seq_k fun K122 hK122 => ?_
                    refine wp_region_lit ?_
                    refine st_val hS rfl rfl (by decide) (rv_move (hS.ev rfl)) fun a hS => ?_
                    refine st_val hS rfl rfl (by decide) (rv_move (hS.ev rfl)) fun a hS => ?_
                    refine st_val hS rfl rfl (by decide) (rv_neq (hS.ev rfl) (hS.ev rfl)) fun a hS => ?_
                    refine wpList_nil ?_
                    refine hK122 _ _ ?_
                    rcases ite_some hF with ⟨hc, hF⟩ | ⟨hc, hF⟩
                    · refine cond_t hS rfl hc ?_
                      refine wp_seq_k fun K123 hK123 => ?_
                      refine wp_region_lit ?_
                      refine st_val hS rfl rfl (by decide) (rv_assign (hS.ev rfl)) fun a hS => ?_
                      refine wpList_nil ?_
                      refine hK123 _ _ ?_
                      refine wp_ret ?_
                      cases hF
                      exact hQr _ _ (r_1 hS rfl rfl ⟨rfl, hM.pick [] (by decide) rfl⟩)
                    · refine cond_f hS rfl hc ?_
                      refine wp_skip ?_
                      refine hK119 _ _ ?_
                      refine wp_seq_k fun K124 hK124 => ?_
                      refine wp_region_lit ?_
                      refine st_val hS rfl rfl (by decide) (rv_assign (hS.ev rfl)) fun a hS => ?_
                      refine wpList_nil ?_
                      refine hK124 _ _ ?_
                      refine wp_ret ?_
                      cases hF
                      exact hQr _ _ (r_1 hS rfl rfl ⟨rfl, hM.pick [] (by decide) rfl⟩)
        refine wp_region_lit ?_
        refine st_val hS rfl rfl (by decide) (rv_move (hS.ev rfl)) fun a hS => ?_
        refine st_val hS rfl rfl (by decide) (rv_lss (hS.ev rfl) (hS.ev rfl)) fun a hS => ?_
        refine st_val hS rfl rfl (by decide) (rv_move (hS.ev rfl)) fun a hS => ?_
        rcases ite_some hF with ⟨hc, hF⟩ | ⟨hc, hF⟩
        · have hS := hS.setb (t := 41) rfl hc
          refine st_skip hS rfl rfl (by decide) fun a hS => ?_
          refine st_skip hS rfl rfl (by decide) fun a hS => ?_
          refine st_skip hS rfl rfl (by decide) fun a hS => ?_
          refine st_skip hS rfl rfl (by decide) fun a hS => ?_
          refine st_val hS rfl rfl (by decide) (rv_pick_t (hS.ev rfl) (hS.ev rfl)) fun a hS => ?_
          refine wpList_nil ?_
          exact hJ1 true _ _ (hS.sub (sub_cons rfl (sub_cons rfl (sub_cons rfl (sub_cons rfl (sub_cons rfl sub_nil)))))) (hM.pick [7, 8, 5, 2] (by decide) rfl) hF
        · have hS := hS.setb (t := 41) rfl hc
          refine st_val hS rfl rfl (by decide) (rv_move (hS.ev rfl)) fun a hS => ?_
          refine st_val hS rfl rfl (by decide) (rv_move (hS.ev rfl)) fun a hS => ?_
          obtain ⟨r125, hr, hF⟩ := bind_some hF
          refine st_wp hS rfl (wp_call hS rfl rfl (by decide) fn_ok_19 rfl (c_laws_eqIntS F r32 r20 v33 v21 hr _ (rd_of_ow (hM.get 2 rfl)) (rd_of_ow (hM.get 5 rfl))) fun v w a hK hS => ?_)
          obtain ⟨rfl, hN⟩ := hK
          have hM := hM.fra hN.fr
          refine st_val hS rfl rfl (by decide) (rv_not (hS.ev rfl)) fun a hS => ?_
          refine st_val hS rfl rfl (by decide) (rv_pick_f (hS.ev rfl) (hS.ev rfl)) fun a hS => ?_
          refine wpList_nil ?_
          exact hJ1 (!r125) _ _ (hS.sub (sub_cons rfl (sub_cons rfl (sub_cons rfl (sub_cons rfl (sub_cons rfl sub_nil)))))) (hM.pick [7, 8, 5, 2] (by decide) rfl) hF


end Go.Proofs.Ytnlabnkgcncmlaa
