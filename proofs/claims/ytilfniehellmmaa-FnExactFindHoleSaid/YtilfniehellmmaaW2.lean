/- Proved here: that each Go function does what its shallow function says -/
import Derived.Test.YtilfniehellmmaaSh
import Derived.Test.YtilfniehellmmaaTy
import Derived.Test.YtilfniehellmmaaK11
import Derived.Test.YtilfniehellmmaaW0
import Derived.Test.YtilfniehellmmaaW1
namespace Go.Proofs.Ytilfniehellmmaa
open Go Go.RowKit
set_option linter.unusedVariables false
set_option linter.unusedSimpArgs false
set_option maxRecDepth 100000
set_option maxHeartbeats 4000000

theorem c_spec_IsTwoEdges (F : Nat) (p0_g_Size : Int) (p0_g_Rows : List Int) (p1_l : List Int) (p0_g_Rowsv : Value) (p1_lv : Value) {r : Bool} (hF : S_spec_IsTwoEdges F p0_g_Size p0_g_Rows p1_l = some r) (w0 : World) (h0 : RdRow w0 p0_g_Rowsv (List.map (Value.int IntKind.i64) p0_g_Rows)) (h1 : RdRow w0 p1_lv (List.map (Value.int IntKind.i64) p1_l)) :
    Calls Try.prog 44 [(Value.agg #[(Value.int IntKind.i64 p0_g_Size), p0_g_Rowsv]), p1_lv].toArray w0 (retPost fun v w' => v = (Value.bool r) ∧ Mem Nob w0 w' []) := by
  have hM : Mem Nob w0 w0 [(false, rd p0_g_Rowsv (List.map (Value.int IntKind.i64) p0_g_Rows)), (false, rd p1_lv (List.map (Value.int IntKind.i64) p1_l))] := (Mem.rcons (Mem.rcons (Mem.nil w0) h1 (by simp)) h0 (by simp))
  refine enter2 Try.func44 rfl rfl rfl fun Q a hQr hQn hQp hS => ?_
  have hS : Sl 77 [(0, (Value.agg #[(Value.int IntKind.i64 p0_g_Size), p0_g_Rowsv])), (1, p1_lv)] a := hS
  unfold S_spec_IsTwoEdges at hF
  refine wp_seq_k fun K1 hK1 => ?_
  refine wp_region_lit ?_
  obtain ⟨b3, w, hr, hM⟩ := hM.boxE (ρ := a.eval) (dst := some 2) (ty := _) (pos := _) (af := _) (gd := _) (x := .tmp 0) (T := 28) [(Value.int IntKind.i64 p0_g_Size), p0_g_Rowsv] (hS.ev rfl) rfl
  refine st_val hS rfl rfl (by decide) hr fun a hS => ?_
  refine st_val hS rfl rfl (by decide) (rv_assign (hS.ev rfl)) fun a hS => ?_
  refine wpList_nil ?_
  refine hK1 _ _ ?_
  refine wp_seq_k fun K4 hK4 => ?_
  have hJ1 : ∀ (p24 : Bool) (a : Act) (w : World), Sl 77 [(4, (Value.bool p24))] a → Mem Nob w0 w [] → S_spec_IsTwoEdges_j1 F p24 = some r → K4 a w := by
    intro p24 a w hS hM hF
    unfold S_spec_IsTwoEdges_j1 at hF
    refine hK4 _ _ ?_
    refine wp_ret ?_
    cases hF
    exact hQr _ _ (r_1 hS rfl rfl ⟨rfl, hM.pick [] (by decide) rfl⟩)
  refine an_start Nob ty_mixed fun w hf => ?_
  have hM := hM.fra hf
  have hB := hM
  have hM := hB.reg0
  refine an_take hS (i := 0) rfl (by kernel_rfl) (by kernel_rfl) (by kernel_rfl) rfl (by decide) (fun c a a' w hd h => hQp c a a' w hd h) rfl (fun w' hC' => (rv_move (hS.ev rfl))) hM.fr fun a hS => ?_
  refine an_take hS (i := 1) rfl (by kernel_rfl) (by kernel_rfl) (by kernel_rfl) rfl (by decide) (fun c a a' w hd h => hQp c a a' w hd h) rfl (fun w' hC' => (rv_len_rowM Try.underlying22 (hS.ev rfl) (hM.get 2 rfl))) hM.fr fun a hS => ?_
  refine an_take hS (i := 2) rfl (by kernel_rfl) (by kernel_rfl) (by kernel_rfl) rfl (by decide) (fun c a a' w hd h => hQp c a a' w hd h) rfl (fun w' hC' => (rv_eql (hS.ev rfl) (hS.ev rfl))) hM.fr fun a hS => ?_
  refine an_take hS (i := 3) rfl (by kernel_rfl) (by kernel_rfl) (by kernel_rfl) rfl (by decide) (fun c a a' w hd h => hQp c a a' w hd h) rfl (fun w' hC' => (rv_move (hS.ev rfl))) hM.fr fun a hS => ?_
  rcases ite_some hF with ⟨hc, hF⟩ | ⟨hc, hF⟩
  · have hS := hS.setb (t := 8) rfl hc
    refine an_take hS (i := 4) rfl (by kernel_rfl) (by kernel_rfl) (by kernel_rfl) rfl (by decide) (fun c a a' w hd h => hQp c a a' w hd h) rfl (fun w' hC' => (rv_load_agg (hS.ev rfl) ty_ag_28 ((hB.fra hC').get 0 rfl) ty_sz_28)) hM.fr fun a hS => ?_
    refine an_take hS (i := 5) rfl (by kernel_rfl) (by kernel_rfl) (by kernel_rfl) rfl (by decide) (fun c a a' w hd h => hQp c a a' w hd h) rfl (fun w' hC' => (rv_move (hS.ev rfl))) hM.fr fun a hS => ?_
    obtain ⟨r25, hr, hF⟩ := bind_some hF
    refine an_one hS (i := 6) rfl (by kernel_rfl) rfl ?_
    refine wp_call hS rfl rfl (by decide) fn_ok_93 rfl (c_spec_l4Distinct F p0_g_Size p0_g_Rows p1_l p0_g_Rowsv p1_lv hr _ (hM.get 1 rfl) (hM.get 2 rfl)) fun v w a hK hS => ?_
    obtain ⟨rfl, hN⟩ := hK
    have hM := hM.fra hN.fr
    refine ⟨hM.fr, ?_⟩
    refine an_take hS (i := 7) rfl (by kernel_rfl) (by kernel_rfl) (by kernel_rfl) rfl (by decide) (fun c a a' w hd h => hQp c a a' w hd h) rfl (fun w' hC' => (rv_pick_t (hS.ev rfl) (hS.ev rfl))) hM.fr fun a hS => ?_
    refine an_take hS (i := 8) rfl (by kernel_rfl) (by kernel_rfl) (by kernel_rfl) rfl (by decide) (fun c a a' w hd h => hQp c a a' w hd h) rfl (fun w' hC' => (rv_move (hS.ev rfl))) hM.fr fun a hS => ?_
    rcases ite_some hF with ⟨hc, hF⟩ | ⟨hc, hF⟩
    · have hS := hS.setb (t := 13) rfl hc
      refine an_take hS (i := 9) rfl (by kernel_rfl) (by kernel_rfl) (by kernel_rfl) rfl (by decide) (fun c a a' w hd h => hQp c a a' w hd h) rfl (fun w' hC' => (rv_load_agg (hS.ev rfl) ty_ag_28 ((hB.fra hC').get 0 rfl) ty_sz_28)) hM.fr fun a hS => ?_
      refine an_take hS (i := 10) rfl (by kernel_rfl) (by kernel_rfl) (by kernel_rfl) rfl (by decide) (fun c a a' w hd h => hQp c a a' w hd h) rfl (fun w' hC' => (rv_move (hS.ev rfl))) hM.fr fun a hS => ?_
      obtain ⟨x26, hx, hF⟩ := bind_some hF
      obtain ⟨hi0, hi1, hex26⟩ := idxL_some hx
      refine an_take hS (i := 11) rfl (by kernel_rfl) (by kernel_rfl) (by kernel_rfl) rfl (by decide) (fun c a a' w hd h => hQp c a a' w hd h) rfl (fun w' hC' => (rv_indexAddr Try.underlying22 ty_el_3 (hS.ev rfl) (hS.ev rfl) (hM.get 2 rfl) hi0 (map_len hi1))) hM.fr fun a hS => ?_
      refine an_take hS (i := 12) rfl (by kernel_rfl) (by kernel_rfl) (by kernel_rfl) rfl (by decide) (fun c a a' w hd h => hQp c a a' w hd h) rfl (fun w' hC' => (rv_load_el (hS.ev rfl) ty_ag_3 ((hB.fra hC').get 2 rfl) (mget hex26))) hM.fr fun a hS => ?_
      refine an_take hS (i := 13) rfl (by kernel_rfl) (by kernel_rfl) (by kernel_rfl) rfl (by decide) (fun c a a' w hd h => hQp c a a' w hd h) rfl (fun w' hC' => (rv_move (hS.ev rfl))) hM.fr fun a hS => ?_
      obtain ⟨x27, hx, hF⟩ := bind_some hF
      obtain ⟨hi0, hi1, hex27⟩ := idxL_some hx
      refine an_take hS (i := 14) rfl (by kernel_rfl) (by kernel_rfl) (by kernel_rfl) rfl (by decide) (fun c a a' w hd h => hQp c a a' w hd h) rfl (fun w' hC' => (rv_indexAddr Try.underlying22 ty_el_3 (hS.ev rfl) (hS.ev rfl) (hM.get 2 rfl) hi0 (map_len hi1))) hM.fr fun a hS => ?_
      refine an_take hS (i := 15) rfl (by kernel_rfl) (by kernel_rfl) (by kernel_rfl) rfl (by decide) (fun c a a' w hd h => hQp c a a' w hd h) rfl (fun w' hC' => (rv_load_el (hS.ev rfl) ty_ag_3 ((hB.fra hC').get 2 rfl) (mget hex27))) hM.fr fun a hS => ?_
      obtain ⟨r28, hr, hF⟩ := bind_some hF
      refine an_one hS (i := 16) rfl (by kernel_rfl) rfl ?_
      refine wp_call hS rfl rfl (by decide) fn_ok_94 rfl (c_spec_l2Edge F p0_g_Size p0_g_Rows x26 x27 p0_g_Rowsv hr _ (hM.get 1 rfl)) fun v w a hK hS => ?_
      obtain ⟨rfl, hN⟩ := hK
      have hM := hM.fra hN.fr
      refine ⟨hM.fr, ?_⟩
      refine an_take hS (i := 17) rfl (by kernel_rfl) (by kernel_rfl) (by kernel_rfl) rfl (by decide) (fun c a a' w hd h => hQp c a a' w hd h) rfl (fun w' hC' => (rv_pick_t (hS.ev rfl) (hS.ev rfl))) hM.fr fun a hS => ?_
      refine an_take hS (i := 18) rfl (by kernel_rfl) (by kernel_rfl) (by kernel_rfl) rfl (by decide) (fun c a a' w hd h => hQp c a a' w hd h) rfl (fun w' hC' => (rv_move (hS.ev rfl))) hM.fr fun a hS => ?_
      rcases ite_some hF with ⟨hc, hF⟩ | ⟨hc, hF⟩
      · have hS := hS.setb (t := 23) rfl hc
        refine an_take hS (i := 19) rfl (by kernel_rfl) (by kernel_rfl) (by kernel_rfl) rfl (by decide) (fun c a a' w hd h => hQp c a a' w hd h) rfl (fun w' hC' => (rv_load_agg (hS.ev rfl) ty_ag_28 ((hB.fra hC').get 0 rfl) ty_sz_28)) hM.fr fun a hS => ?_
        refine an_take hS (i := 20) rfl (by kernel_rfl) (by kernel_rfl) (by kernel_rfl) rfl (by decide) (fun c a a' w hd h => hQp c a a' w hd h) rfl (fun w' hC' => (rv_move (hS.ev rfl))) hM.fr fun a hS => ?_
        obtain ⟨x29, hx, hF⟩ := bind_some hF
        obtain ⟨hi0, hi1, hex29⟩ := idxL_some hx
        refine an_take hS (i := 21) rfl (by kernel_rfl) (by kernel_rfl) (by kernel_rfl) rfl (by decide) (fun c a a' w hd h => hQp c a a' w hd h) rfl (fun w' hC' => (rv_indexAddr Try.underlying22 ty_el_3 (hS.ev rfl) (hS.ev rfl) (hM.get 2 rfl) hi0 (map_len hi1))) hM.fr fun a hS => ?_
        refine an_take hS (i := 22) rfl (by kernel_rfl) (by kernel_rfl) (by kernel_rfl) rfl (by decide) (fun c a a' w hd h => hQp c a a' w hd h) rfl (fun w' hC' => (rv_load_el (hS.ev rfl) ty_ag_3 ((hB.fra hC').get 2 rfl) (mget hex29))) hM.fr fun a hS => ?_
        refine an_take hS (i := 23) rfl (by kernel_rfl) (by kernel_rfl) (by kernel_rfl) rfl (by decide) (fun c a a' w hd h => hQp c a a' w hd h) rfl (fun w' hC' => (rv_move (hS.ev rfl))) hM.fr fun a hS => ?_
        obtain ⟨x30, hx, hF⟩ := bind_some hF
        obtain ⟨hi0, hi1, hex30⟩ := idxL_some hx
        refine an_take hS (i := 24) rfl (by kernel_rfl) (by kernel_rfl) (by kernel_rfl) rfl (by decide) (fun c a a' w hd h => hQp c a a' w hd h) rfl (fun w' hC' => (rv_indexAddr Try.underlying22 ty_el_3 (hS.ev rfl) (hS.ev rfl) (hM.get 2 rfl) hi0 (map_len hi1))) hM.fr fun a hS => ?_
        refine an_take hS (i := 25) rfl (by kernel_rfl) (by kernel_rfl) (by kernel_rfl) rfl (by decide) (fun c a a' w hd h => hQp c a a' w hd h) rfl (fun w' hC' => (rv_load_el (hS.ev rfl) ty_ag_3 ((hB.fra hC').get 2 rfl) (mget hex30))) hM.fr fun a hS => ?_
        obtain ⟨r31, hr, hF⟩ := bind_some hF
        refine an_one hS (i := 26) rfl (by kernel_rfl) rfl ?_
        refine wp_call hS rfl rfl (by decide) fn_ok_94 rfl (c_spec_l2Edge F p0_g_Size p0_g_Rows x29 x30 p0_g_Rowsv hr _ (hM.get 1 rfl)) fun v w a hK hS => ?_
        obtain ⟨rfl, hN⟩ := hK
        have hM := hM.fra hN.fr
        refine ⟨hM.fr, ?_⟩
        refine an_take hS (i := 27) rfl (by kernel_rfl) (by kernel_rfl) (by kernel_rfl) rfl (by decide) (fun c a a' w hd h => hQp c a a' w hd h) rfl (fun w' hC' => (rv_pick_t (hS.ev rfl) (hS.ev rfl))) hM.fr fun a hS => ?_
        refine an_take hS (i := 28) rfl (by kernel_rfl) (by kernel_rfl) (by kernel_rfl) rfl (by decide) (fun c a a' w hd h => hQp c a a' w hd h) rfl (fun w' hC' => (rv_move (hS.ev rfl))) hM.fr fun a hS => ?_
        rcases ite_some hF with ⟨hc, hF⟩ | ⟨hc, hF⟩
        · have hS := hS.setb (t := 33) rfl hc
          refine an_take hS (i := 29) rfl (by kernel_rfl) (by kernel_rfl) (by kernel_rfl) rfl (by decide) (fun c a a' w hd h => hQp c a a' w hd h) rfl (fun w' hC' => (rv_load_agg (hS.ev rfl) ty_ag_28 ((hB.fra hC').get 0 rfl) ty_sz_28)) hM.fr fun a hS => ?_
          refine an_take hS (i := 30) rfl (by kernel_rfl) (by kernel_rfl) (by kernel_rfl) rfl (by decide) (fun c a a' w hd h => hQp c a a' w hd h) rfl (fun w' hC' => (rv_move (hS.ev rfl))) hM.fr fun a hS => ?_
          obtain ⟨x32, hx, hF⟩ := bind_some hF
          obtain ⟨hi0, hi1, hex32⟩ := idxL_some hx
          refine an_take hS (i := 31) rfl (by kernel_rfl) (by kernel_rfl) (by kernel_rfl) rfl (by decide) (fun c a a' w hd h => hQp c a a' w hd h) rfl (fun w' hC' => (rv_indexAddr Try.underlying22 ty_el_3 (hS.ev rfl) (hS.ev rfl) (hM.get 2 rfl) hi0 (map_len hi1))) hM.fr fun a hS => ?_
          refine an_take hS (i := 32) rfl (by kernel_rfl) (by kernel_rfl) (by kernel_rfl) rfl (by decide) (fun c a a' w hd h => hQp c a a' w hd h) rfl (fun w' hC' => (rv_load_el (hS.ev rfl) ty_ag_3 ((hB.fra hC').get 2 rfl) (mget hex32))) hM.fr fun a hS => ?_
          refine an_take hS (i := 33) rfl (by kernel_rfl) (by kernel_rfl) (by kernel_rfl) rfl (by decide) (fun c a a' w hd h => hQp c a a' w hd h) rfl (fun w' hC' => (rv_move (hS.ev rfl))) hM.fr fun a hS => ?_
          obtain ⟨x33, hx, hF⟩ := bind_some hF
          obtain ⟨hi0, hi1, hex33⟩ := idxL_some hx
          refine an_take hS (i := 34) rfl (by kernel_rfl) (by kernel_rfl) (by kernel_rfl) rfl (by decide) (fun c a a' w hd h => hQp c a a' w hd h) rfl (fun w' hC' => (rv_indexAddr Try.underlying22 ty_el_3 (hS.ev rfl) (hS.ev rfl) (hM.get 2 rfl) hi0 (map_len hi1))) hM.fr fun a hS => ?_
          refine an_take hS (i := 35) rfl (by kernel_rfl) (by kernel_rfl) (by kernel_rfl) rfl (by decide) (fun c a a' w hd h => hQp c a a' w hd h) rfl (fun w' hC' => (rv_load_el (hS.ev rfl) ty_ag_3 ((hB.fra hC').get 2 rfl) (mget hex33))) hM.fr fun a hS => ?_
          obtain ⟨r34, hr, hF⟩ := bind_some hF
          refine an_one hS (i := 36) rfl (by kernel_rfl) rfl ?_
          refine wp_call hS rfl rfl (by decide) fn_ok_94 rfl (c_spec_l2Edge F p0_g_Size p0_g_Rows x32 x33 p0_g_Rowsv hr _ (hM.get 1 rfl)) fun v w a hK hS => ?_
          obtain ⟨rfl, hN⟩ := hK
          have hM := hM.fra hN.fr
          refine ⟨hM.fr, ?_⟩
          refine an_take hS (i := 37) rfl (by kernel_rfl) (by kernel_rfl) (by kernel_rfl) rfl (by decide) (fun c a a' w hd h => hQp c a a' w hd h) rfl (fun w' hC' => (rv_not (hS.ev rfl))) hM.fr fun a hS => ?_
          refine an_take hS (i := 38) rfl (by kernel_rfl) (by kernel_rfl) (by kernel_rfl) rfl (by decide) (fun c a a' w hd h => hQp c a a' w hd h) rfl (fun w' hC' => (rv_pick_t (hS.ev rfl) (hS.ev rfl))) hM.fr fun a hS => ?_
          refine an_take hS (i := 39) rfl (by kernel_rfl) (by kernel_rfl) (by kernel_rfl) rfl (by decide) (fun c a a' w hd h => hQp c a a' w hd h) rfl (fun w' hC' => (rv_move (hS.ev rfl))) hM.fr fun a hS => ?_
          rcases ite_some hF with ⟨hc, hF⟩ | ⟨hc, hF⟩
          · have hS := hS.setb (t := 44) rfl hc
            refine an_take hS (i := 40) rfl (by kernel_rfl) (by kernel_rfl) (by kernel_rfl) rfl (by decide) (fun c a a' w hd h => hQp c a a' w hd h) rfl (fun w' hC' => (rv_load_agg (hS.ev rfl) ty_ag_28 ((hB.fra hC').get 0 rfl) ty_sz_28)) hM.fr fun a hS => ?_
            refine an_take hS (i := 41) rfl (by kernel_rfl) (by kernel_rfl) (by kernel_rfl) rfl (by decide) (fun c a a' w hd h => hQp c a a' w hd h) rfl (fun w' hC' => (rv_move (hS.ev rfl))) hM.fr fun a hS => ?_
            obtain ⟨x35, hx, hF⟩ := bind_some hF
            obtain ⟨hi0, hi1, hex35⟩ := idxL_some hx
            refine an_take hS (i := 42) rfl (by kernel_rfl) (by kernel_rfl) (by kernel_rfl) rfl (by decide) (fun c a a' w hd h => hQp c a a' w hd h) rfl (fun w' hC' => (rv_indexAddr Try.underlying22 ty_el_3 (hS.ev rfl) (hS.ev rfl) (hM.get 2 rfl) hi0 (map_len hi1))) hM.fr fun a hS => ?_
            refine an_take hS (i := 43) rfl (by kernel_rfl) (by kernel_rfl) (by kernel_rfl) rfl (by decide) (fun c a a' w hd h => hQp c a a' w hd h) rfl (fun w' hC' => (rv_load_el (hS.ev rfl) ty_ag_3 ((hB.fra hC').get 2 rfl) (mget hex35))) hM.fr fun a hS => ?_
            refine an_take hS (i := 44) rfl (by kernel_rfl) (by kernel_rfl) (by kernel_rfl) rfl (by decide) (fun c a a' w hd h => hQp c a a' w hd h) rfl (fun w' hC' => (rv_move (hS.ev rfl))) hM.fr fun a hS => ?_
            obtain ⟨x36, hx, hF⟩ := bind_some hF
            obtain ⟨hi0, hi1, hex36⟩ := idxL_some hx
            refine an_take hS (i := 45) rfl (by kernel_rfl) (by kernel_rfl) (by kernel_rfl) rfl (by decide) (fun c a a' w hd h => hQp c a a' w hd h) rfl (fun w' hC' => (rv_indexAddr Try.underlying22 ty_el_3 (hS.ev rfl) (hS.ev rfl) (hM.get 2 rfl) hi0 (map_len hi1))) hM.fr fun a hS => ?_
            refine an_take hS (i := 46) rfl (by kernel_rfl) (by kernel_rfl) (by kernel_rfl) rfl (by decide) (fun c a a' w hd h => hQp c a a' w hd h) rfl (fun w' hC' => (rv_load_el (hS.ev rfl) ty_ag_3 ((hB.fra hC').get 2 rfl) (mget hex36))) hM.fr fun a hS => ?_
            obtain ⟨r37, hr, hF⟩ := bind_some hF
            refine an_one hS (i := 47) rfl (by kernel_rfl) rfl ?_
            refine wp_call hS rfl rfl (by decide) fn_ok_94 rfl (c_spec_l2Edge F p0_g_Size p0_g_Rows x35 x36 p0_g_Rowsv hr _ (hM.get 1 rfl)) fun v w a hK hS => ?_
            obtain ⟨rfl, hN⟩ := hK
            have hM := hM.fra hN.fr
            refine ⟨hM.fr, ?_⟩
            refine an_take hS (i := 48) rfl (by kernel_rfl) (by kernel_rfl) (by kernel_rfl) rfl (by decide) (fun c a a' w hd h => hQp c a a' w hd h) rfl (fun w' hC' => (rv_not (hS.ev rfl))) hM.fr fun a hS => ?_
            refine an_take hS (i := 49) rfl (by kernel_rfl) (by kernel_rfl) (by kernel_rfl) rfl (by decide) (fun c a a' w hd h => hQp c a a' w hd h) rfl (fun w' hC' => (rv_pick_t (hS.ev rfl) (hS.ev rfl))) hM.fr fun a hS => ?_
            refine an_take hS (i := 50) rfl (by kernel_rfl) (by kernel_rfl) (by kernel_rfl) rfl (by decide) (fun c a a' w hd h => hQp c a a' w hd h) rfl (fun w' hC' => (rv_move (hS.ev rfl))) hM.fr fun a hS => ?_
            rcases ite_some hF with ⟨hc, hF⟩ | ⟨hc, hF⟩
            · have hS := hS.setb (t := 55) rfl hc
              refine an_take hS (i := 51) rfl (by kernel_rfl) (by kernel_rfl) (by kernel_rfl) rfl (by decide) (fun c a a' w hd h => hQp c a a' w hd h) rfl (fun w' hC' => (rv_load_agg (hS.ev rfl) ty_ag_28 ((hB.fra hC').get 0 rfl) ty_sz_28)) hM.fr fun a hS => ?_
              refine an_take hS (i := 52) rfl (by kernel_rfl) (by kernel_rfl) (by kernel_rfl) rfl (by decide) (fun c a a' w hd h => hQp c a a' w hd h) rfl (fun w' hC' => (rv_move (hS.ev rfl))) hM.fr fun a hS => ?_
              obtain ⟨x38, hx, hF⟩ := bind_some hF
              obtain ⟨hi0, hi1, hex38⟩ := idxL_some hx
              refine an_take hS (i := 53) rfl (by kernel_rfl) (by kernel_rfl) (by kernel_rfl) rfl (by decide) (fun c a a' w hd h => hQp c a a' w hd h) rfl (fun w' hC' => (rv_indexAddr Try.underlying22 ty_el_3 (hS.ev rfl) (hS.ev rfl) (hM.get 2 rfl) hi0 (map_len hi1))) hM.fr fun a hS => ?_
              refine an_take hS (i := 54) rfl (by kernel_rfl) (by kernel_rfl) (by kernel_rfl) rfl (by decide) (fun c a a' w hd h => hQp c a a' w hd h) rfl (fun w' hC' => (rv_load_el (hS.ev rfl) ty_ag_3 ((hB.fra hC').get 2 rfl) (mget hex38))) hM.fr fun a hS => ?_
              refine an_take hS (i := 55) rfl (by kernel_rfl) (by kernel_rfl) (by kernel_rfl) rfl (by decide) (fun c a a' w hd h => hQp c a a' w hd h) rfl (fun w' hC' => (rv_move (hS.ev rfl))) hM.fr fun a hS => ?_
              obtain ⟨x39, hx, hF⟩ := bind_some hF
              obtain ⟨hi0, hi1, hex39⟩ := idxL_some hx
              refine an_take hS (i := 56) rfl (by kernel_rfl) (by kernel_rfl) (by kernel_rfl) rfl (by decide) (fun c a a' w hd h => hQp c a a' w hd h) rfl (fun w' hC' => (rv_indexAddr Try.underlying22 ty_el_3 (hS.ev rfl) (hS.ev rfl) (hM.get 2 rfl) hi0 (map_len hi1))) hM.fr fun a hS => ?_
              refine an_take hS (i := 57) rfl (by kernel_rfl) (by kernel_rfl) (by kernel_rfl) rfl (by decide) (fun c a a' w hd h => hQp c a a' w hd h) rfl (fun w' hC' => (rv_load_el (hS.ev rfl) ty_ag_3 ((hB.fra hC').get 2 rfl) (mget hex39))) hM.fr fun a hS => ?_
              obtain ⟨r40, hr, hF⟩ := bind_some hF
              refine an_one hS (i := 58) rfl (by kernel_rfl) rfl ?_
              refine wp_call hS rfl rfl (by decide) fn_ok_94 rfl (c_spec_l2Edge F p0_g_Size p0_g_Rows x38 x39 p0_g_Rowsv hr _ (hM.get 1 rfl)) fun v w a hK hS => ?_
              obtain ⟨rfl, hN⟩ := hK
              have hM := hM.fra hN.fr
              refine ⟨hM.fr, ?_⟩
              refine an_take hS (i := 59) rfl (by kernel_rfl) (by kernel_rfl) (by kernel_rfl) rfl (by decide) (fun c a a' w hd h => hQp c a a' w hd h) rfl (fun w' hC' => (rv_not (hS.ev rfl))) hM.fr fun a hS => ?_
              refine an_take hS (i := 60) rfl (by kernel_rfl) (by kernel_rfl) (by kernel_rfl) rfl (by decide) (fun c a a' w hd h => hQp c a a' w hd h) rfl (fun w' hC' => (rv_pick_t (hS.ev rfl) (hS.ev rfl))) hM.fr fun a hS => ?_
              refine an_take hS (i := 61) rfl (by kernel_rfl) (by kernel_rfl) (by kernel_rfl) rfl (by decide) (fun c a a' w hd h => hQp c a a' w hd h) rfl (fun w' hC' => (rv_move (hS.ev rfl))) hM.fr fun a hS => ?_
              rcases ite_some hF with ⟨hc, hF⟩ | ⟨hc, hF⟩
              · have hS := hS.setb (t := 66) rfl hc
                refine an_take hS (i := 62) rfl (by kernel_rfl) (by kernel_rfl) (by kernel_rfl) rfl (by decide) (fun c a a' w hd h => hQp c a a' w hd h) rfl (fun w' hC' => (rv_load_agg (hS.ev rfl) ty_ag_28 ((hB.fra hC').get 0 rfl) ty_sz_28)) hM.fr fun a hS => ?_
                refine an_take hS (i := 63) rfl (by kernel_rfl) (by kernel_rfl) (by kernel_rfl) rfl (by decide) (fun c a a' w hd h => hQp c a a' w hd h) rfl (fun w' hC' => (rv_move (hS.ev rfl))) hM.fr fun a hS => ?_
                obtain ⟨x41, hx, hF⟩ := bind_some hF
                obtain ⟨hi0, hi1, hex41⟩ := idxL_some hx
                refine an_take hS (i := 64) rfl (by kernel_rfl) (by kernel_rfl) (by kernel_rfl) rfl (by decide) (fun c a a' w hd h => hQp c a a' w hd h) rfl (fun w' hC' => (rv_indexAddr Try.underlying22 ty_el_3 (hS.ev rfl) (hS.ev rfl) (hM.get 2 rfl) hi0 (map_len hi1))) hM.fr fun a hS => ?_
                refine an_take hS (i := 65) rfl (by kernel_rfl) (by kernel_rfl) (by kernel_rfl) rfl (by decide) (fun c a a' w hd h => hQp c a a' w hd h) rfl (fun w' hC' => (rv_load_el (hS.ev rfl) ty_ag_3 ((hB.fra hC').get 2 rfl) (mget hex41))) hM.fr fun a hS => ?_
                refine an_take hS (i := 66) rfl (by kernel_rfl) (by kernel_rfl) (by kernel_rfl) rfl (by decide) (fun c a a' w hd h => hQp c a a' w hd h) rfl (fun w' hC' => (rv_move (hS.ev rfl))) hM.fr fun a hS => ?_
                obtain ⟨x42, hx, hF⟩ := bind_some hF
                obtain ⟨hi0, hi1, hex42⟩ := idxL_some hx
                refine an_take hS (i := 67) rfl (by kernel_rfl) (by kernel_rfl) (by kernel_rfl) rfl (by decide) (fun c a a' w hd h => hQp c a a' w hd h) rfl (fun w' hC' => (rv_indexAddr Try.underlying22 ty_el_3 (hS.ev rfl) (hS.ev rfl) (hM.get 2 rfl) hi0 (map_len hi1))) hM.fr fun a hS => ?_
                refine an_take hS (i := 68) rfl (by kernel_rfl) (by kernel_rfl) (by kernel_rfl) rfl (by decide) (fun c a a' w hd h => hQp c a a' w hd h) rfl (fun w' hC' => (rv_load_el (hS.ev rfl) ty_ag_3 ((hB.fra hC').get 2 rfl) (mget hex42))) hM.fr fun a hS => ?_
                obtain ⟨r43, hr, hF⟩ := bind_some hF
                refine an_one hS (i := 69) rfl (by kernel_rfl) rfl ?_
                refine wp_call hS rfl rfl (by decide) fn_ok_94 rfl (c_spec_l2Edge F p0_g_Size p0_g_Rows x41 x42 p0_g_Rowsv hr _ (hM.get 1 rfl)) fun v w a hK hS => ?_
                obtain ⟨rfl, hN⟩ := hK
                have hM := hM.fra hN.fr
                refine ⟨hM.fr, ?_⟩
                refine an_take hS (i := 70) rfl (by kernel_rfl) (by kernel_rfl) (by kernel_rfl) rfl (by decide) (fun c a a' w hd h => hQp c a a' w hd h) rfl (fun w' hC' => (rv_not (hS.ev rfl))) hM.fr fun a hS => ?_
                refine an_take hS (i := 71) rfl (by kernel_rfl) (by kernel_rfl) (by kernel_rfl) rfl (by decide) (fun c a a' w hd h => hQp c a a' w hd h) rfl (fun w' hC' => (rv_pick_t (hS.ev rfl) (hS.ev rfl))) hM.fr fun a hS => ?_
                refine an_take hS (i := 72) rfl (by kernel_rfl) (by kernel_rfl) (by kernel_rfl) rfl (by decide) (fun c a a' w hd h => hQp c a a' w hd h) rfl (fun w' hC' => (rv_assign (hS.ev rfl))) hM.fr fun a hS => ?_
                refine an_done (by kernel_rfl) ?_
                have hN := hM.pick [] (by decide) rfl
                have hM := Mem.callo (A := []) (B := [(true, bx b3 28 [(Value.int IntKind.i64 p0_g_Size), p0_g_Rowsv]), (false, rd p0_g_Rowsv (List.map (Value.int IntKind.i64) p0_g_Rows)), (false, rd p1_lv (List.map (Value.int IntKind.i64) p1_l))]) hB rfl (hN.memS fun _ h => h.elim) rfl
                exact hJ1 (!r43) _ _ (hS.sub (sub_cons rfl sub_nil)) (hM.pick [] (by decide) rfl) hF
              · have hS := hS.setb (t := 66) rfl hc
                refine an_skip hS (i := 62) rfl (by kernel_rfl) (by kernel_rfl) (by kernel_rfl) rfl (by decide) (fun c a a' w hd h => hQp c a a' w hd h) rfl hM.fr fun a hS => ?_
                refine an_skip hS (i := 63) rfl (by kernel_rfl) (by kernel_rfl) (by kernel_rfl) rfl (by decide) (fun c a a' w hd h => hQp c a a' w hd h) rfl hM.fr fun a hS => ?_
                refine an_skip hS (i := 64) rfl (by kernel_rfl) (by kernel_rfl) (by kernel_rfl) rfl (by decide) (fun c a a' w hd h => hQp c a a' w hd h) rfl hM.fr fun a hS => ?_
                refine an_skip hS (i := 65) rfl (by kernel_rfl) (by kernel_rfl) (by kernel_rfl) rfl (by decide) (fun c a a' w hd h => hQp c a a' w hd h) rfl hM.fr fun a hS => ?_
                refine an_skip hS (i := 66) rfl (by kernel_rfl) (by kernel_rfl) (by kernel_rfl) rfl (by decide) (fun c a a' w hd h => hQp c a a' w hd h) rfl hM.fr fun a hS => ?_
                refine an_skip hS (i := 67) rfl (by kernel_rfl) (by kernel_rfl) (by kernel_rfl) rfl (by decide) (fun c a a' w hd h => hQp c a a' w hd h) rfl hM.fr fun a hS => ?_
                refine an_skip hS (i := 68) rfl (by kernel_rfl) (by kernel_rfl) (by kernel_rfl) rfl (by decide) (fun c a a' w hd h => hQp c a a' w hd h) rfl hM.fr fun a hS => ?_
                refine an_skip hS (i := 69) rfl (by kernel_rfl) (by kernel_rfl) (by kernel_rfl) rfl (by decide) (fun c a a' w hd h => hQp c a a' w hd h) rfl hM.fr fun a hS => ?_
                refine an_skip hS (i := 70) rfl (by kernel_rfl) (by kernel_rfl) (by kernel_rfl) rfl (by decide) (fun c a a' w hd h => hQp c a a' w hd h) rfl hM.fr fun a hS => ?_
                refine an_take hS (i := 71) rfl (by kernel_rfl) (by kernel_rfl) (by kernel_rfl) rfl (by decide) (fun c a a' w hd h => hQp c a a' w hd h) rfl (fun w' hC' => (rv_pick_f (hS.ev rfl) (hS.ev rfl))) hM.fr fun a hS => ?_
                refine an_take hS (i := 72) rfl (by kernel_rfl) (by kernel_rfl) (by kernel_rfl) rfl (by decide) (fun c a a' w hd h => hQp c a a' w hd h) rfl (fun w' hC' => (rv_assign (hS.ev rfl))) hM.fr fun a hS => ?_
                refine an_done (by kernel_rfl) ?_
                have hN := hM.pick [] (by decide) rfl
                have hM := Mem.callo (A := []) (B := [(true, bx b3 28 [(Value.int IntKind.i64 p0_g_Size), p0_g_Rowsv]), (false, rd p0_g_Rowsv (List.map (Value.int IntKind.i64) p0_g_Rows)), (false, rd p1_lv (List.map (Value.int IntKind.i64) p1_l))]) hB rfl (hN.memS fun _ h => h.elim) rfl
                exact hJ1 false _ _ (hS.sub (sub_cons rfl sub_nil)) (hM.pick [] (by decide) rfl) hF
            · have hS := hS.setb (t := 55) rfl hc
              refine an_skip hS (i := 51) rfl (by kernel_rfl) (by kernel_rfl) (by kernel_rfl) rfl (by decide) (fun c a a' w hd h => hQp c a a' w hd h) rfl hM.fr fun a hS => ?_
              refine an_skip hS (i := 52) rfl (by kernel_rfl) (by kernel_rfl) (by kernel_rfl) rfl (by decide) (fun c a a' w hd h => hQp c a a' w hd h) rfl hM.fr fun a hS => ?_
              refine an_skip hS (i := 53) rfl (by kernel_rfl) (by kernel_rfl) (by kernel_rfl) rfl (by decide) (fun c a a' w hd h => hQp c a a' w hd h) rfl hM.fr fun a hS => ?_
              refine an_skip hS (i := 54) rfl (by kernel_rfl) (by kernel_rfl) (by kernel_rfl) rfl (by decide) (fun c a a' w hd h => hQp c a a' w hd h) rfl hM.fr fun a hS => ?_
              refine an_skip hS (i := 55) rfl (by kernel_rfl) (by kernel_rfl) (by kernel_rfl) rfl (by decide) (fun c a a' w hd h => hQp c a a' w hd h) rfl hM.fr fun a hS => ?_
              refine an_skip hS (i := 56) rfl (by kernel_rfl) (by kernel_rfl) (by kernel_rfl) rfl (by decide) (fun c a a' w hd h => hQp c a a' w hd h) rfl hM.fr fun a hS => ?_
              refine an_skip hS (i := 57) rfl (by kernel_rfl) (by kernel_rfl) (by kernel_rfl) rfl (by decide) (fun c a a' w hd h => hQp c a a' w hd h) rfl hM.fr fun a hS => ?_
              refine an_skip hS (i := 58) rfl (by kernel_rfl) (by kernel_rfl) (by kernel_rfl) rfl (by decide) (fun c a a' w hd h => hQp c a a' w hd h) rfl hM.fr fun a hS => ?_
              refine an_skip hS (i := 59) rfl (by kernel_rfl) (by kernel_rfl) (by kernel_rfl) rfl (by decide) (fun c a a' w hd h => hQp c a a' w hd h) rfl hM.fr fun a hS => ?_
              refine an_take hS (i := 60) rfl (by kernel_rfl) (by kernel_rfl) (by kernel_rfl) rfl (by decide) (fun c a a' w hd h => hQp c a a' w hd h) rfl (fun w' hC' => (rv_pick_f (hS.ev rfl) (hS.ev rfl))) hM.fr fun a hS => ?_
              refine an_take hS (i := 61) rfl (by kernel_rfl) (by kernel_rfl) (by kernel_rfl) rfl (by decide) (fun c a a' w hd h => hQp c a a' w hd h) rfl (fun w' hC' => (rv_move (hS.ev rfl))) hM.fr fun a hS => ?_
              refine an_skip hS (i := 62) rfl (by kernel_rfl) (by kernel_rfl) (by kernel_rfl) rfl (by decide) (fun c a a' w hd h => hQp c a a' w hd h) rfl hM.fr fun a hS => ?_
              refine an_skip hS (i := 63) rfl (by kernel_rfl) (by kernel_rfl) (by kernel_rfl) rfl (by decide) (fun c a a' w hd h => hQp c a a' w hd h) rfl hM.fr fun a hS => ?_
              refine an_skip hS (i := 64) rfl (by kernel_rfl) (by kernel_rfl) (by kernel_rfl) rfl (by decide) (fun c a a' w hd h => hQp c a a' w hd h) rfl hM.fr fun a hS => ?_
              refine an_skip hS (i := 65) rfl (by kernel_rfl) (by kernel_rfl) (by kernel_rfl) rfl (by decide) (fun c a a' w hd h => hQp c a a' w hd h) rfl hM.fr fun a hS => ?_
              refine an_skip hS (i := 66) rfl (by kernel_rfl) (by kernel_rfl) (by kernel_rfl) rfl (by decide) (fun c a a' w hd h => hQp c a a' w hd h) rfl hM.fr fun a hS => ?_
              refine an_skip hS (i := 67) rfl (by kernel_rfl) (by kernel_rfl) (by kernel_rfl) rfl (by decide) (fun c a a' w hd h => hQp c a a' w hd h) rfl hM.fr fun a hS => ?_
              refine an_skip hS (i := 68) rfl (by kernel_rfl) (by kernel_rfl) (by kernel_rfl) rfl (by decide) (fun c a a' w hd h => hQp c a a' w hd h) rfl hM.fr fun a hS => ?_
              refine an_skip hS (i := 69) rfl (by kernel_rfl) (by kernel_rfl) (by kernel_rfl) rfl (by decide) (fun c a a' w hd h => hQp c a a' w hd h) rfl hM.fr fun a hS => ?_
              refine an_skip hS (i := 70) rfl (by kernel_rfl) (by kernel_rfl) (by kernel_rfl) rfl (by decide) (fun c a a' w hd h => hQp c a a' w hd h) rfl hM.fr fun a hS => ?_
              refine an_take hS (i := 71) rfl (by kernel_rfl) (by kernel_rfl) (by kernel_rfl) rfl (by decide) (fun c a a' w hd h => hQp c a a' w hd h) rfl (fun w' hC' => (rv_pick_f (hS.ev rfl) (hS.ev rfl))) hM.fr fun a hS => ?_
              refine an_take hS (i := 72) rfl (by kernel_rfl) (by kernel_rfl) (by kernel_rfl) rfl (by decide) (fun c a a' w hd h => hQp c a a' w hd h) rfl (fun w' hC' => (rv_assign (hS.ev rfl))) hM.fr fun a hS => ?_
              refine an_done (by kernel_rfl) ?_
              have hN := hM.pick [] (by decide) rfl
              have hM := Mem.callo (A := []) (B := [(true, bx b3 28 [(Value.int IntKind.i64 p0_g_Size), p0_g_Rowsv]), (false, rd p0_g_Rowsv (List.map (Value.int IntKind.i64) p0_g_Rows)), (false, rd p1_lv (List.map (Value.int IntKind.i64) p1_l))]) hB rfl (hN.memS fun _ h => h.elim) rfl
              exact hJ1 false _ _ (hS.sub (sub_cons rfl sub_nil)) (hM.pick [] (by decide) rfl) hF
          · have hS := hS.setb (t := 44) rfl hc
            refine an_skip hS (i := 40) rfl (by kernel_rfl) (by kernel_rfl) (by kernel_rfl) rfl (by decide) (fun c a a' w hd h => hQp c a a' w hd h) rfl hM.fr fun a hS => ?_
            refine an_skip hS (i := 41) rfl (by kernel_rfl) (by kernel_rfl) (by kernel_rfl) rfl (by decide) (fun c a a' w hd h => hQp c a a' w hd h) rfl hM.fr fun a hS => ?_
            refine an_skip hS (i := 42) rfl (by kernel_rfl) (by kernel_rfl) (by kernel_rfl) rfl (by decide) (fun c a a' w hd h => hQp c a a' w hd h) rfl hM.fr fun a hS => ?_
            refine an_skip hS (i := 43) rfl (by kernel_rfl) (by kernel_rfl) (by kernel_rfl) rfl (by decide) (fun c a a' w hd h => hQp c a a' w hd h) rfl hM.fr fun a hS => ?_
            refine an_skip hS (i := 44) rfl (by kernel_rfl) (by kernel_rfl) (by kernel_rfl) rfl (by decide) (fun c a a' w hd h => hQp c a a' w hd h) rfl hM.fr fun a hS => ?_
            refine an_skip hS (i := 45) rfl (by kernel_rfl) (by kernel_rfl) (by kernel_rfl) rfl (by decide) (fun c a a' w hd h => hQp c a a' w hd h) rfl hM.fr fun a hS => ?_
            refine an_skip hS (i := 46) rfl (by kernel_rfl) (by kernel_rfl) (by kernel_rfl) rfl (by decide) (fun c a a' w hd h => hQp c a a' w hd h) rfl hM.fr fun a hS => ?_
            refine an_skip hS (i := 47) rfl (by kernel_rfl) (by kernel_rfl) (by kernel_rfl) rfl (by decide) (fun c a a' w hd h => hQp c a a' w hd h) rfl hM.fr fun a hS => ?_
            refine an_skip hS (i := 48) rfl (by kernel_rfl) (by kernel_rfl) (by kernel_rfl) rfl (by decide) (fun c a a' w hd h => hQp c a a' w hd h) rfl hM.fr fun a hS => ?_
            refine an_take hS (i := 49) rfl (by kernel_rfl) (by kernel_rfl) (by kernel_rfl) rfl (by decide) (fun c a a' w hd h => hQp c a a' w hd h) rfl (fun w' hC' => (rv_pick_f (hS.ev rfl) (hS.ev rfl))) hM.fr fun a hS => ?_
            refine an_take hS (i := 50) rfl (by kernel_rfl) (by kernel_rfl) (by kernel_rfl) rfl (by decide) (fun c a a' w hd h => hQp c a a' w hd h) rfl (fun w' hC' => (rv_move (hS.ev rfl))) hM.fr fun a hS => ?_
            refine an_skip hS (i := 51) rfl (by kernel_rfl) (by kernel_rfl) (by kernel_rfl) rfl (by decide) (fun c a a' w hd h => hQp c a a' w hd h) rfl hM.fr fun a hS => ?_
            refine an_skip hS (i := 52) rfl (by kernel_rfl) (by kernel_rfl) (by kernel_rfl) rfl (by decide) (fun c a a' w hd h => hQp c a a' w hd h) rfl hM.fr fun a hS => ?_
            refine an_skip hS (i := 53) rfl (by kernel_rfl) (by kernel_rfl) (by kernel_rfl) rfl (by decide) (fun c a a' w hd h => hQp c a a' w hd h) rfl hM.fr fun a hS => ?_
            refine an_skip hS (i := 54) rfl (by kernel_rfl) (by kernel_rfl) (by kernel_rfl) rfl (by decide) (fun c a a' w hd h => hQp c a a' w hd h) rfl hM.fr fun a hS => ?_
            refine an_skip hS (i := 55) rfl (by kernel_rfl) (by kernel_rfl) (by kernel_rfl) rfl (by decide) (fun c a a' w hd h => hQp c a a' w hd h) rfl hM.fr fun a hS => ?_
            refine an_skip hS (i := 56) rfl (by kernel_rfl) (by kernel_rfl) (by kernel_rfl) rfl (by decide) (fun c a a' w hd h => hQp c a a' w hd h) rfl hM.fr fun a hS => ?_
            refine an_skip hS (i := 57) rfl (by kernel_rfl) (by kernel_rfl) (by kernel_rfl) rfl (by decide) (fun c a a' w hd h => hQp c a a' w hd h) rfl hM.fr fun a hS => ?_
            refine an_skip hS (i := 58) rfl (by kernel_rfl) (by kernel_rfl) (by kernel_rfl) rfl (by decide) (fun c a a' w hd h => hQp c a a' w hd h) rfl hM.fr fun a hS => ?_
            refine an_skip hS (i := 59) rfl (by kernel_rfl) (by kernel_rfl) (by kernel_rfl) rfl (by decide) (fun c a a' w hd h => hQp c a a' w hd h) rfl hM.fr fun a hS => ?_
            refine an_take hS (i := 60) rfl (by kernel_rfl) (by kernel_rfl) (by kernel_rfl) rfl (by decide) (fun c a a' w hd h => hQp c a a' w hd h) rfl (fun w' hC' => (rv_pick_f (hS.ev rfl) (hS.ev rfl))) hM.fr fun a hS => ?_
            refine an_take hS (i := 61) rfl (by kernel_rfl) (by kernel_rfl) (by kernel_rfl) rfl (by decide) (fun c a a' w hd h => hQp c a a' w hd h) rfl (fun w' hC' => (rv_move (hS.ev rfl))) hM.fr fun a hS => ?_
            refine an_skip hS (i := 62) rfl (by kernel_rfl) (by kernel_rfl) (by kernel_rfl) rfl (by decide) (fun c a a' w hd h => hQp c a a' w hd h) rfl hM.fr fun a hS => ?_
            refine an_skip hS (i := 63) rfl (by kernel_rfl) (by kernel_rfl) (by kernel_rfl) rfl (by decide) (fun c a a' w hd h => hQp c a a' w hd h) rfl hM.fr fun a hS => ?_
            refine an_skip hS (i := 64) rfl (by kernel_rfl) (by kernel_rfl) (by kernel_rfl) rfl (by decide) (fun c a a' w hd h => hQp c a a' w hd h) rfl hM.fr fun a hS => ?_
            refine an_skip hS (i := 65) rfl (by kernel_rfl) (by kernel_rfl) (by kernel_rfl) rfl (by decide) (fun c a a' w hd h => hQp c a a' w hd h) rfl hM.fr fun a hS => ?_
            refine an_skip hS (i := 66) rfl (by kernel_rfl) (by kernel_rfl) (by kernel_rfl) rfl (by decide) (fun c a a' w hd h => hQp c a a' w hd h) rfl hM.fr fun a hS => ?_
            refine an_skip hS (i := 67) rfl (by kernel_rfl) (by kernel_rfl) (by kernel_rfl) rfl (by decide) (fun c a a' w hd h => hQp c a a' w hd h) rfl hM.fr fun a hS => ?_
            refine an_skip hS (i := 68) rfl (by kernel_rfl) (by kernel_rfl) (by kernel_rfl) rfl (by decide) (fun c a a' w hd h => hQp c a a' w hd h) rfl hM.fr fun a hS => ?_
            refine an_skip hS (i := 69) rfl (by kernel_rfl) (by kernel_rfl) (by kernel_rfl) rfl (by decide) (fun c a a' w hd h => hQp c a a' w hd h) rfl hM.fr fun a hS => ?_
            refine an_skip hS (i := 70) rfl (by kernel_rfl) (by kernel_rfl) (by kernel_rfl) rfl (by decide) (fun c a a' w hd h => hQp c a a' w hd h) rfl hM.fr fun a hS => ?_
            refine an_take hS (i := 71) rfl (by kernel_rfl) (by kernel_rfl) (by kernel_rfl) rfl (by decide) (fun c a a' w hd h => hQp c a a' w hd h) rfl (fun w' hC' => (rv_pick_f (hS.ev rfl) (hS.ev rfl))) hM.fr fun a hS => ?_
            refine an_take hS (i := 72) rfl (by kernel_rfl) (by kernel_rfl) (by kernel_rfl) rfl (by decide) (fun c a a' w hd h => hQp c a a' w hd h) rfl (fun w' hC' => (rv_assign (hS.ev rfl))) hM.fr fun a hS => ?_
            refine an_done (by kernel_rfl) ?_
            have hN := hM.pick [] (by decide) rfl
            have hM := Mem.callo (A := []) (B := [(true, bx b3 28 [(Value.int IntKind.i64 p0_g_Size), p0_g_Rowsv]), (false, rd p0_g_Rowsv (List.map (Value.int IntKind.i64) p0_g_Rows)), (false, rd p1_lv (List.map (Value.int IntKind.i64) p1_l))]) hB rfl (hN.memS fun _ h => h.elim) rfl
            exact hJ1 false _ _ (hS.sub (sub_cons rfl sub_nil)) (hM.pick [] (by decide) rfl) hF
        · have hS := hS.setb (t := 33) rfl hc
          refine an_skip hS (i := 29) rfl (by kernel_rfl) (by kernel_rfl) (by kernel_rfl) rfl (by decide) (fun c a a' w hd h => hQp c a a' w hd h) rfl hM.fr fun a hS => ?_
          refine an_skip hS (i := 30) rfl (by kernel_rfl) (by kernel_rfl) (by kernel_rfl) rfl (by decide) (fun c a a' w hd h => hQp c a a' w hd h) rfl hM.fr fun a hS => ?_
          refine an_skip hS (i := 31) rfl (by kernel_rfl) (by kernel_rfl) (by kernel_rfl) rfl (by decide) (fun c a a' w hd h => hQp c a a' w hd h) rfl hM.fr fun a hS => ?_
          refine an_skip hS (i := 32) rfl (by kernel_rfl) (by kernel_rfl) (by kernel_rfl) rfl (by decide) (fun c a a' w hd h => hQp c a a' w hd h) rfl hM.fr fun a hS => ?_
          refine an_skip hS (i := 33) rfl (by kernel_rfl) (by kernel_rfl) (by kernel_rfl) rfl (by decide) (fun c a a' w hd h => hQp c a a' w hd h) rfl hM.fr fun a hS => ?_
          refine an_skip hS (i := 34) rfl (by kernel_rfl) (by kernel_rfl) (by kernel_rfl) rfl (by decide) (fun c a a' w hd h => hQp c a a' w hd h) rfl hM.fr fun a hS => ?_
          refine an_skip hS (i := 35) rfl (by kernel_rfl) (by kernel_rfl) (by kernel_rfl) rfl (by decide) (fun c a a' w hd h => hQp c a a' w hd h) rfl hM.fr fun a hS => ?_
          refine an_skip hS (i := 36) rfl (by kernel_rfl) (by kernel_rfl) (by kernel_rfl) rfl (by decide) (fun c a a' w hd h => hQp c a a' w hd h) rfl hM.fr fun a hS => ?_
          refine an_skip hS (i := 37) rfl (by kernel_rfl) (by kernel_rfl) (by kernel_rfl) rfl (by decide) (fun c a a' w hd h => hQp c a a' w hd h) rfl hM.fr fun a hS => ?_
          refine an_take hS (i := 38) rfl (by kernel_rfl) (by kernel_rfl) (by kernel_rfl) rfl (by decide) (fun c a a' w hd h => hQp c a a' w hd h) rfl (fun w' hC' => (rv_pick_f (hS.ev rfl) (hS.ev rfl))) hM.fr fun a hS => ?_
          refine an_take hS (i := 39) rfl (by kernel_rfl) (by kernel_rfl) (by kernel_rfl) rfl (by decide) (fun c a a' w hd h => hQp c a a' w hd h) rfl (fun w' hC' => (rv_move (hS.ev rfl))) hM.fr fun a hS => ?_
          refine an_skip hS (i := 40) rfl (by kernel_rfl) (by kernel_rfl) (by kernel_rfl) rfl (by decide) (fun c a a' w hd h => hQp c a a' w hd h) rfl hM.fr fun a hS => ?_
          refine an_skip hS (i := 41) rfl (by kernel_rfl) (by kernel_rfl) (by kernel_rfl) rfl (by decide) (fun c a a' w hd h => hQp c a a' w hd h) rfl hM.fr fun a hS => ?_
          refine an_skip hS (i := 42) rfl (by kernel_rfl) (by kernel_rfl) (by kernel_rfl) rfl (by decide) (fun c a a' w hd h => hQp c a a' w hd h) rfl hM.fr fun a hS => ?_
          refine an_skip hS (i := 43) rfl (by kernel_rfl) (by kernel_rfl) (by kernel_rfl) rfl (by decide) (fun c a a' w hd h => hQp c a a' w hd h) rfl hM.fr fun a hS => ?_
          refine an_skip hS (i := 44) rfl (by kernel_rfl) (by kernel_rfl) (by kernel_rfl) rfl (by decide) (fun c a a' w hd h => hQp c a a' w hd h) rfl hM.fr fun a hS => ?_
          refine an_skip hS (i := 45) rfl (by kernel_rfl) (by kernel_rfl) (by kernel_rfl) rfl (by decide) (fun c a a' w hd h => hQp c a a' w hd h) rfl hM.fr fun a hS => ?_
          refine an_skip hS (i := 46) rfl (by kernel_rfl) (by kernel_rfl) (by kernel_rfl) rfl (by decide) (fun c a a' w hd h => hQp c a a' w hd h) rfl hM.fr fun a hS => ?_
          refine an_skip hS (i := 47) rfl (by kernel_rfl) (by kernel_rfl) (by kernel_rfl) rfl (by decide) (fun c a a' w hd h => hQp c a a' w hd h) rfl hM.fr fun a hS => ?_
          refine an_skip hS (i := 48) rfl (by kernel_rfl) (by kernel_rfl) (by kernel_rfl) rfl (by decide) (fun c a a' w hd h => hQp c a a' w hd h) rfl hM.fr fun a hS => ?_
          refine an_take hS (i := 49) rfl (by kernel_rfl) (by kernel_rfl) (by kernel_rfl) rfl (by decide) (fun c a a' w hd h => hQp c a a' w hd h) rfl (fun w' hC' => (rv_pick_f (hS.ev rfl) (hS.ev rfl))) hM.fr fun a hS => ?_
          refine an_take hS (i := 50) rfl (by kernel_rfl) (by kernel_rfl) (by kernel_rfl) rfl (by decide) (fun c a a' w hd h => hQp c a a' w hd h) rfl (fun w' hC' => (rv_move (hS.ev rfl))) hM.fr fun a hS => ?_
          refine an_skip hS (i := 51) rfl (by kernel_rfl) (by kernel_rfl) (by kernel_rfl) rfl (by decide) (fun c a a' w hd h => hQp c a a' w hd h) rfl hM.fr fun a hS => ?_
          refine an_skip hS (i := 52) rfl (by kernel_rfl) (by kernel_rfl) (by kernel_rfl) rfl (by decide) (fun c a a' w hd h => hQp c a a' w hd h) rfl hM.fr fun a hS => ?_
          refine an_skip hS (i := 53) rfl (by kernel_rfl) (by kernel_rfl) (by kernel_rfl) rfl (by decide) (fun c a a' w hd h => hQp c a a' w hd h) rfl hM.fr fun a hS => ?_
          refine an_skip hS (i := 54) rfl (by kernel_rfl) (by kernel_rfl) (by kernel_rfl) rfl (by decide) (fun c a a' w hd h => hQp c a a' w hd h) rfl hM.fr fun a hS => ?_
          refine an_skip hS (i := 55) rfl (by kernel_rfl) (by kernel_rfl) (by kernel_rfl) rfl (by decide) (fun c a a' w hd h => hQp c a a' w hd h) rfl hM.fr fun a hS => ?_
          refine an_skip hS (i := 56) rfl (by kernel_rfl) (by kernel_rfl) (by kernel_rfl) rfl (by decide) (fun c a a' w hd h => hQp c a a' w hd h) rfl hM.fr fun a hS => ?_
          refine an_skip hS (i := 57) rfl (by kernel_rfl) (by kernel_rfl) (by kernel_rfl) rfl (by decide) (fun c a a' w hd h => hQp c a a' w hd h) rfl hM.fr fun a hS => ?_
          refine an_skip hS (i := 58) rfl (by kernel_rfl) (by kernel_rfl) (by kernel_rfl) rfl (by decide) (fun c a a' w hd h => hQp c a a' w hd h) rfl hM.fr fun a hS => ?_
          refine an_skip hS (i := 59) rfl (by kernel_rfl) (by kernel_rfl) (by kernel_rfl) rfl (by decide) (fun c a a' w hd h => hQp c a a' w hd h) rfl hM.fr fun a hS => ?_
          refine an_take hS (i := 60) rfl (by kernel_rfl) (by kernel_rfl) (by kernel_rfl) rfl (by decide) (fun c a a' w hd h => hQp c a a' w hd h) rfl (fun w' hC' => (rv_pick_f (hS.ev rfl) (hS.ev rfl))) hM.fr fun a hS => ?_
          refine an_take hS (i := 61) rfl (by kernel_rfl) (by kernel_rfl) (by kernel_rfl) rfl (by decide) (fun c a a' w hd h => hQp c a a' w hd h) rfl (fun w' hC' => (rv_move (hS.ev rfl))) hM.fr fun a hS => ?_
          refine an_skip hS (i := 62) rfl (by kernel_rfl) (by kernel_rfl) (by kernel_rfl) rfl (by decide) (fun c a a' w hd h => hQp c a a' w hd h) rfl hM.fr fun a hS => ?_
          refine an_skip hS (i := 63) rfl (by kernel_rfl) (by kernel_rfl) (by kernel_rfl) rfl (by decide) (fun c a a' w hd h => hQp c a a' w hd h) rfl hM.fr fun a hS => ?_
          refine an_skip hS (i := 64) rfl (by kernel_rfl) (by kernel_rfl) (by kernel_rfl) rfl (by decide) (fun c a a' w hd h => hQp c a a' w hd h) rfl hM.fr fun a hS => ?_
          refine an_skip hS (i := 65) rfl (by kernel_rfl) (by kernel_rfl) (by kernel_rfl) rfl (by decide) (fun c a a' w hd h => hQp c a a' w hd h) rfl hM.fr fun a hS => ?_
          refine an_skip hS (i := 66) rfl (by kernel_rfl) (by kernel_rfl) (by kernel_rfl) rfl (by decide) (fun c a a' w hd h => hQp c a a' w hd h) rfl hM.fr fun a hS => ?_
          refine an_skip hS (i := 67) rfl (by kernel_rfl) (by kernel_rfl) (by kernel_rfl) rfl (by decide) (fun c a a' w hd h => hQp c a a' w hd h) rfl hM.fr fun a hS => ?_
          refine an_skip hS (i := 68) rfl (by kernel_rfl) (by kernel_rfl) (by kernel_rfl) rfl (by decide) (fun c a a' w hd h => hQp c a a' w hd h) rfl hM.fr fun a hS => ?_
          refine an_skip hS (i := 69) rfl (by kernel_rfl) (by kernel_rfl) (by kernel_rfl) rfl (by decide) (fun c a a' w hd h => hQp c a a' w hd h) rfl hM.fr fun a hS => ?_
          refine an_skip hS (i := 70) rfl (by kernel_rfl) (by kernel_rfl) (by kernel_rfl) rfl (by decide) (fun c a a' w hd h => hQp c a a' w hd h) rfl hM.fr fun a hS => ?_
          refine an_take hS (i := 71) rfl (by kernel_rfl) (by kernel_rfl) (by kernel_rfl) rfl (by decide) (fun c a a' w hd h => hQp c a a' w hd h) rfl (fun w' hC' => (rv_pick_f (hS.ev rfl) (hS.ev rfl))) hM.fr fun a hS => ?_
          refine an_take hS (i := 72) rfl (by kernel_rfl) (by kernel_rfl) (by kernel_rfl) rfl (by decide) (fun c a a' w hd h => hQp c a a' w hd h) rfl (fun w' hC' => (rv_assign (hS.ev rfl))) hM.fr fun a hS => ?_
          refine an_done (by kernel_rfl) ?_
          have hN := hM.pick [] (by decide) rfl
          have hM := Mem.callo (A := []) (B := [(true, bx b3 28 [(Value.int IntKind.i64 p0_g_Size), p0_g_Rowsv]), (false, rd p0_g_Rowsv (List.map (Value.int IntKind.i64) p0_g_Rows)), (false, rd p1_lv (List.map (Value.int IntKind.i64) p1_l))]) hB rfl (hN.memS fun _ h => h.elim) rfl
          exact hJ1 false _ _ (hS.sub (sub_cons rfl sub_nil)) (hM.pick [] (by decide) rfl) hF
      · have hS := hS.setb (t := 23) rfl hc
        refine an_skip hS (i := 19) rfl (by kernel_rfl) (by kernel_rfl) (by kernel_rfl) rfl (by decide) (fun c a a' w hd h => hQp c a a' w hd h) rfl hM.fr fun a hS => ?_
        refine an_skip hS (i := 20) rfl (by kernel_rfl) (by kernel_rfl) (by kernel_rfl) rfl (by decide) (fun c a a' w hd h => hQp c a a' w hd h) rfl hM.fr fun a hS => ?_
        refine an_skip hS (i := 21) rfl (by kernel_rfl) (by kernel_rfl) (by kernel_rfl) rfl (by decide) (fun c a a' w hd h => hQp c a a' w hd h) rfl hM.fr fun a hS => ?_
        refine an_skip hS (i := 22) rfl (by kernel_rfl) (by kernel_rfl) (by kernel_rfl) rfl (by decide) (fun c a a' w hd h => hQp c a a' w hd h) rfl hM.fr fun a hS => ?_
        refine an_skip hS (i := 23) rfl (by kernel_rfl) (by kernel_rfl) (by kernel_rfl) rfl (by decide) (fun c a a' w hd h => hQp c a a' w hd h) rfl hM.fr fun a hS => ?_
        refine an_skip hS (i := 24) rfl (by kernel_rfl) (by kernel_rfl) (by kernel_rfl) rfl (by decide) (fun c a a' w hd h => hQp c a a' w hd h) rfl hM.fr fun a hS => ?_
        refine an_skip hS (i := 25) rfl (by kernel_rfl) (by kernel_rfl) (by kernel_rfl) rfl (by decide) (fun c a a' w hd h => hQp c a a' w hd h) rfl hM.fr fun a hS => ?_
        refine an_skip hS (i := 26) rfl (by kernel_rfl) (by kernel_rfl) (by kernel_rfl) rfl (by decide) (fun c a a' w hd h => hQp c a a' w hd h) rfl hM.fr fun a hS => ?_
        refine an_take hS (i := 27) rfl (by kernel_rfl) (by kernel_rfl) (by kernel_rfl) rfl (by decide) (fun c a a' w hd h => hQp c a a' w hd h) rfl (fun w' hC' => (rv_pick_f (hS.ev rfl) (hS.ev rfl))) hM.fr fun a hS => ?_
        refine an_take hS (i := 28) rfl (by kernel_rfl) (by kernel_rfl) (by kernel_rfl) rfl (by decide) (fun c a a' w hd h => hQp c a a' w hd h) rfl (fun w' hC' => (rv_move (hS.ev rfl))) hM.fr fun a hS => ?_
        refine an_skip hS (i := 29) rfl (by kernel_rfl) (by kernel_rfl) (by kernel_rfl) rfl (by decide) (fun c a a' w hd h => hQp c a a' w hd h) rfl hM.fr fun a hS => ?_
        refine an_skip hS (i := 30) rfl (by kernel_rfl) (by kernel_rfl) (by kernel_rfl) rfl (by decide) (fun c a a' w hd h => hQp c a a' w hd h) rfl hM.fr fun a hS => ?_
        refine an_skip hS (i := 31) rfl (by kernel_rfl) (by kernel_rfl) (by kernel_rfl) rfl (by decide) (fun c a a' w hd h => hQp c a a' w hd h) rfl hM.fr fun a hS => ?_
        refine an_skip hS (i := 32) rfl (by kernel_rfl) (by kernel_rfl) (by kernel_rfl) rfl (by decide) (fun c a a' w hd h => hQp c a a' w hd h) rfl hM.fr fun a hS => ?_
        refine an_skip hS (i := 33) rfl (by kernel_rfl) (by kernel_rfl) (by kernel_rfl) rfl (by decide) (fun c a a' w hd h => hQp c a a' w hd h) rfl hM.fr fun a hS => ?_
        refine an_skip hS (i := 34) rfl (by kernel_rfl) (by kernel_rfl) (by kernel_rfl) rfl (by decide) (fun c a a' w hd h => hQp c a a' w hd h) rfl hM.fr fun a hS => ?_
        refine an_skip hS (i := 35) rfl (by kernel_rfl) (by kernel_rfl) (by kernel_rfl) rfl (by decide) (fun c a a' w hd h => hQp c a a' w hd h) rfl hM.fr fun a hS => ?_
        refine an_skip hS (i := 36) rfl (by kernel_rfl) (by kernel_rfl) (by kernel_rfl) rfl (by decide) (fun c a a' w hd h => hQp c a a' w hd h) rfl hM.fr fun a hS => ?_
        refine an_skip hS (i := 37) rfl (by kernel_rfl) (by kernel_rfl) (by kernel_rfl) rfl (by decide) (fun c a a' w hd h => hQp c a a' w hd h) rfl hM.fr fun a hS => ?_
        refine an_take hS (i := 38) rfl (by kernel_rfl) (by kernel_rfl) (by kernel_rfl) rfl (by decide) (fun c a a' w hd h => hQp c a a' w hd h) rfl (fun w' hC' => (rv_pick_f (hS.ev rfl) (hS.ev rfl))) hM.fr fun a hS => ?_
        refine an_take hS (i := 39) rfl (by kernel_rfl) (by kernel_rfl) (by kernel_rfl) rfl (by decide) (fun c a a' w hd h => hQp c a a' w hd h) rfl (fun w' hC' => (rv_move (hS.ev rfl))) hM.fr fun a hS => ?_
        refine an_skip hS (i := 40) rfl (by kernel_rfl) (by kernel_rfl) (by kernel_rfl) rfl (by decide) (fun c a a' w hd h => hQp c a a' w hd h) rfl hM.fr fun a hS => ?_
        refine an_skip hS (i := 41) rfl (by kernel_rfl) (by kernel_rfl) (by kernel_rfl) rfl (by decide) (fun c a a' w hd h => hQp c a a' w hd h) rfl hM.fr fun a hS => ?_
        refine an_skip hS (i := 42) rfl (by kernel_rfl) (by kernel_rfl) (by kernel_rfl) rfl (by decide) (fun c a a' w hd h => hQp c a a' w hd h) rfl hM.fr fun a hS => ?_
        refine an_skip hS (i := 43) rfl (by kernel_rfl) (by kernel_rfl) (by kernel_rfl) rfl (by decide) (fun c a a' w hd h => hQp c a a' w hd h) rfl hM.fr fun a hS => ?_
        refine an_skip hS (i := 44) rfl (by kernel_rfl) (by kernel_rfl) (by kernel_rfl) rfl (by decide) (fun c a a' w hd h => hQp c a a' w hd h) rfl hM.fr fun a hS => ?_
        refine an_skip hS (i := 45) rfl (by kernel_rfl) (by kernel_rfl) (by kernel_rfl) rfl (by decide) (fun c a a' w hd h => hQp c a a' w hd h) rfl hM.fr fun a hS => ?_
        refine an_skip hS (i := 46) rfl (by kernel_rfl) (by kernel_rfl) (by kernel_rfl) rfl (by decide) (fun c a a' w hd h => hQp c a a' w hd h) rfl hM.fr fun a hS => ?_
        refine an_skip hS (i := 47) rfl (by kernel_rfl) (by kernel_rfl) (by kernel_rfl) rfl (by decide) (fun c a a' w hd h => hQp c a a' w hd h) rfl hM.fr fun a hS => ?_
        refine an_skip hS (i := 48) rfl (by kernel_rfl) (by kernel_rfl) (by kernel_rfl) rfl (by decide) (fun c a a' w hd h => hQp c a a' w hd h) rfl hM.fr fun a hS => ?_
        refine an_take hS (i := 49) rfl (by kernel_rfl) (by kernel_rfl) (by kernel_rfl) rfl (by decide) (fun c a a' w hd h => hQp c a a' w hd h) rfl (fun w' hC' => (rv_pick_f (hS.ev rfl) (hS.ev rfl))) hM.fr fun a hS => ?_
        refine an_take hS (i := 50) rfl (by kernel_rfl) (by kernel_rfl) (by kernel_rfl) rfl (by decide) (fun c a a' w hd h => hQp c a a' w hd h) rfl (fun w' hC' => (rv_move (hS.ev rfl))) hM.fr fun a hS => ?_
        refine an_skip hS (i := 51) rfl (by kernel_rfl) (by kernel_rfl) (by kernel_rfl) rfl (by decide) (fun c a a' w hd h => hQp c a a' w hd h) rfl hM.fr fun a hS => ?_
        refine an_skip hS (i := 52) rfl (by kernel_rfl) (by kernel_rfl) (by kernel_rfl) rfl (by decide) (fun c a a' w hd h => hQp c a a' w hd h) rfl hM.fr fun a hS => ?_
        refine an_skip hS (i := 53) rfl (by kernel_rfl) (by kernel_rfl) (by kernel_rfl) rfl (by decide) (fun c a a' w hd h => hQp c a a' w hd h) rfl hM.fr fun a hS => ?_
        refine an_skip hS (i := 54) rfl (by kernel_rfl) (by kernel_rfl) (by kernel_rfl) rfl (by decide) (fun c a a' w hd h => hQp c a a' w hd h) rfl hM.fr fun a hS => ?_
        refine an_skip hS (i := 55) rfl (by kernel_rfl) (by kernel_rfl) (by kernel_rfl) rfl (by decide) (fun c a a' w hd h => hQp c a a' w hd h) rfl hM.fr fun a hS => ?_
        refine an_skip hS (i := 56) rfl (by kernel_rfl) (by kernel_rfl) (by kernel_rfl) rfl (by decide) (fun c a a' w hd h => hQp c a a' w hd h) rfl hM.fr fun a hS => ?_
        refine an_skip hS (i := 57) rfl (by kernel_rfl) (by kernel_rfl) (by kernel_rfl) rfl (by decide) (fun c a a' w hd h => hQp c a a' w hd h) rfl hM.fr fun a hS => ?_
        refine an_skip hS (i := 58) rfl (by kernel_rfl) (by kernel_rfl) (by kernel_rfl) rfl (by decide) (fun c a a' w hd h => hQp c a a' w hd h) rfl hM.fr fun a hS => ?_
        refine an_skip hS (i := 59) rfl (by kernel_rfl) (by kernel_rfl) (by kernel_rfl) rfl (by decide) (fun c a a' w hd h => hQp c a a' w hd h) rfl hM.fr fun a hS => ?_
        refine an_take hS (i := 60) rfl (by kernel_rfl) (by kernel_rfl) (by kernel_rfl) rfl (by decide) (fun c a a' w hd h => hQp c a a' w hd h) rfl (fun w' hC' => (rv_pick_f (hS.ev rfl) (hS.ev rfl))) hM.fr fun a hS => ?_
        refine an_take hS (i := 61) rfl (by kernel_rfl) (by kernel_rfl) (by kernel_rfl) rfl (by decide) (fun c a a' w hd h => hQp c a a' w hd h) rfl (fun w' hC' => (rv_move (hS.ev rfl))) hM.fr fun a hS => ?_
        refine an_skip hS (i := 62) rfl (by kernel_rfl) (by kernel_rfl) (by kernel_rfl) rfl (by decide) (fun c a a' w hd h => hQp c a a' w hd h) rfl hM.fr fun a hS => ?_
        refine an_skip hS (i := 63) rfl (by kernel_rfl) (by kernel_rfl) (by kernel_rfl) rfl (by decide) (fun c a a' w hd h => hQp c a a' w hd h) rfl hM.fr fun a hS => ?_
        refine an_skip hS (i := 64) rfl (by kernel_rfl) (by kernel_rfl) (by kernel_rfl) rfl (by decide) (fun c a a' w hd h => hQp c a a' w hd h) rfl hM.fr fun a hS => ?_
        refine an_skip hS (i := 65) rfl (by kernel_rfl) (by kernel_rfl) (by kernel_rfl) rfl (by decide) (fun c a a' w hd h => hQp c a a' w hd h) rfl hM.fr fun a hS => ?_
        refine an_skip hS (i := 66) rfl (by kernel_rfl) (by kernel_rfl) (by kernel_rfl) rfl (by decide) (fun c a a' w hd h => hQp c a a' w hd h) rfl hM.fr fun a hS => ?_
        refine an_skip hS (i := 67) rfl (by kernel_rfl) (by kernel_rfl) (by kernel_rfl) rfl (by decide) (fun c a a' w hd h => hQp c a a' w hd h) rfl hM.fr fun a hS => ?_
        refine an_skip hS (i := 68) rfl (by kernel_rfl) (by kernel_rfl) (by kernel_rfl) rfl (by decide) (fun c a a' w hd h => hQp c a a' w hd h) rfl hM.fr fun a hS => ?_
        refine an_skip hS (i := 69) rfl (by kernel_rfl) (by kernel_rfl) (by kernel_rfl) rfl (by decide) (fun c a a' w hd h => hQp c a a' w hd h) rfl hM.fr fun a hS => ?_
        refine an_skip hS (i := 70) rfl (by kernel_rfl) (by kernel_rfl) (by kernel_rfl) rfl (by decide) (fun c a a' w hd h => hQp c a a' w hd h) rfl hM.fr fun a hS => ?_
        refine an_take hS (i := 71) rfl (by kernel_rfl) (by kernel_rfl) (by kernel_rfl) rfl (by decide) (fun c a a' w hd h => hQp c a a' w hd h) rfl (fun w' hC' => (rv_pick_f (hS.ev rfl) (hS.ev rfl))) hM.fr fun a hS => ?_
        refine an_take hS (i := 72) rfl (by kernel_rfl) (by kernel_rfl) (by kernel_rfl) rfl (by decide) (fun c a a' w hd h => hQp c a a' w hd h) rfl (fun w' hC' => (rv_assign (hS.ev rfl))) hM.fr fun a hS => ?_
        refine an_done (by kernel_rfl) ?_
        have hN := hM.pick [] (by decide) rfl
        have hM := Mem.callo (A := []) (B := [(true, bx b3 28 [(Value.int IntKind.i64 p0_g_Size), p0_g_Rowsv]), (false, rd p0_g_Rowsv (List.map (Value.int IntKind.i64) p0_g_Rows)), (false, rd p1_lv (List.map (Value.int IntKind.i64) p1_l))]) hB rfl (hN.memS fun _ h => h.elim) rfl
        exact hJ1 false _ _ (hS.sub (sub_cons rfl sub_nil)) (hM.pick [] (by decide) rfl) hF
    · have hS := hS.setb (t := 13) rfl hc
      refine an_skip hS (i := 9) rfl (by kernel_rfl) (by kernel_rfl) (by kernel_rfl) rfl (by decide) (fun c a a' w hd h => hQp c a a' w hd h) rfl hM.fr fun a hS => ?_
      refine an_skip hS (i := 10) rfl (by kernel_rfl) (by kernel_rfl) (by kernel_rfl) rfl (by decide) (fun c a a' w hd h => hQp c a a' w hd h) rfl hM.fr fun a hS => ?_
      refine an_skip hS (i := 11) rfl (by kernel_rfl) (by kernel_rfl) (by kernel_rfl) rfl (by decide) (fun c a a' w hd h => hQp c a a' w hd h) rfl hM.fr fun a hS => ?_
      refine an_skip hS (i := 12) rfl (by kernel_rfl) (by kernel_rfl) (by kernel_rfl) rfl (by decide) (fun c a a' w hd h => hQp c a a' w hd h) rfl hM.fr fun a hS => ?_
      refine an_skip hS (i := 13) rfl (by kernel_rfl) (by kernel_rfl) (by kernel_rfl) rfl (by decide) (fun c a a' w hd h => hQp c a a' w hd h) rfl hM.fr fun a hS => ?_
      refine an_skip hS (i := 14) rfl (by kernel_rfl) (by kernel_rfl) (by kernel_rfl) rfl (by decide) (fun c a a' w hd h => hQp c a a' w hd h) rfl hM.fr fun a hS => ?_
      refine an_skip hS (i := 15) rfl (by kernel_rfl) (by kernel_rfl) (by kernel_rfl) rfl (by decide) (fun c a a' w hd h => hQp c a a' w hd h) rfl hM.fr fun a hS => ?_
      refine an_skip hS (i := 16) rfl (by kernel_rfl) (by kernel_rfl) (by kernel_rfl) rfl (by decide) (fun c a a' w hd h => hQp c a a' w hd h) rfl hM.fr fun a hS => ?_
      refine an_take hS (i := 17) rfl (by kernel_rfl) (by kernel_rfl) (by kernel_rfl) rfl (by decide) (fun c a a' w hd h => hQp c a a' w hd h) rfl (fun w' hC' => (rv_pick_f (hS.ev rfl) (hS.ev rfl))) hM.fr fun a hS => ?_
      refine an_take hS (i := 18) rfl (by kernel_rfl) (by kernel_rfl) (by kernel_rfl) rfl (by decide) (fun c a a' w hd h => hQp c a a' w hd h) rfl (fun w' hC' => (rv_move (hS.ev rfl))) hM.fr fun a hS => ?_
      refine an_skip hS (i := 19) rfl (by kernel_rfl) (by kernel_rfl) (by kernel_rfl) rfl (by decide) (fun c a a' w hd h => hQp c a a' w hd h) rfl hM.fr fun a hS => ?_
      refine an_skip hS (i := 20) rfl (by kernel_rfl) (by kernel_rfl) (by kernel_rfl) rfl (by decide) (fun c a a' w hd h => hQp c a a' w hd h) rfl hM.fr fun a hS => ?_
      refine an_skip hS (i := 21) rfl (by kernel_rfl) (by kernel_rfl) (by kernel_rfl) rfl (by decide) (fun c a a' w hd h => hQp c a a' w hd h) rfl hM.fr fun a hS => ?_
      refine an_skip hS (i := 22) rfl (by kernel_rfl) (by kernel_rfl) (by kernel_rfl) rfl (by decide) (fun c a a' w hd h => hQp c a a' w hd h) rfl hM.fr fun a hS => ?_
      refine an_skip hS (i := 23) rfl (by kernel_rfl) (by kernel_rfl) (by kernel_rfl) rfl (by decide) (fun c a a' w hd h => hQp c a a' w hd h) rfl hM.fr fun a hS => ?_
      refine an_skip hS (i := 24) rfl (by kernel_rfl) (by kernel_rfl) (by kernel_rfl) rfl (by decide) (fun c a a' w hd h => hQp c a a' w hd h) rfl hM.fr fun a hS => ?_
      refine an_skip hS (i := 25) rfl (by kernel_rfl) (by kernel_rfl) (by kernel_rfl) rfl (by decide) (fun c a a' w hd h => hQp c a a' w hd h) rfl hM.fr fun a hS => ?_
      refine an_skip hS (i := 26) rfl (by kernel_rfl) (by kernel_rfl) (by kernel_rfl) rfl (by decide) (fun c a a' w hd h => hQp c a a' w hd h) rfl hM.fr fun a hS => ?_
      refine an_take hS (i := 27) rfl (by kernel_rfl) (by kernel_rfl) (by kernel_rfl) rfl (by decide) (fun c a a' w hd h => hQp c a a' w hd h) rfl (fun w' hC' => (rv_pick_f (hS.ev rfl) (hS.ev rfl))) hM.fr fun a hS => ?_
      refine an_take hS (i := 28) rfl (by kernel_rfl) (by kernel_rfl) (by kernel_rfl) rfl (by decide) (fun c a a' w hd h => hQp c a a' w hd h) rfl (fun w' hC' => (rv_move (hS.ev rfl))) hM.fr fun a hS => ?_
      refine an_skip hS (i := 29) rfl (by kernel_rfl) (by kernel_rfl) (by kernel_rfl) rfl (by decide) (fun c a a' w hd h => hQp c a a' w hd h) rfl hM.fr fun a hS => ?_
      refine an_skip hS (i := 30) rfl (by kernel_rfl) (by kernel_rfl) (by kernel_rfl) rfl (by decide) (fun c a a' w hd h => hQp c a a' w hd h) rfl hM.fr fun a hS => ?_
      refine an_skip hS (i := 31) rfl (by kernel_rfl) (by kernel_rfl) (by kernel_rfl) rfl (by decide) (fun c a a' w hd h => hQp c a a' w hd h) rfl hM.fr fun a hS => ?_
      refine an_skip hS (i := 32) rfl (by kernel_rfl) (by kernel_rfl) (by kernel_rfl) rfl (by decide) (fun c a a' w hd h => hQp c a a' w hd h) rfl hM.fr fun a hS => ?_
      refine an_skip hS (i := 33) rfl (by kernel_rfl) (by kernel_rfl) (by kernel_rfl) rfl (by decide) (fun c a a' w hd h => hQp c a a' w hd h) rfl hM.fr fun a hS => ?_
      refine an_skip hS (i := 34) rfl (by kernel_rfl) (by kernel_rfl) (by kernel_rfl) rfl (by decide) (fun c a a' w hd h => hQp c a a' w hd h) rfl hM.fr fun a hS => ?_
      refine an_skip hS (i := 35) rfl (by kernel_rfl) (by kernel_rfl) (by kernel_rfl) rfl (by decide) (fun c a a' w hd h => hQp c a a' w hd h) rfl hM.fr fun a hS => ?_
      refine an_skip hS (i := 36) rfl (by kernel_rfl) (by kernel_rfl) (by kernel_rfl) rfl (by decide) (fun c a a' w hd h => hQp c a a' w hd h) rfl hM.fr fun a hS => ?_
      refine an_skip hS (i := 37) rfl (by kernel_rfl) (by kernel_rfl) (by kernel_rfl) rfl (by decide) (fun c a a' w hd h => hQp c a a' w hd h) rfl hM.fr fun a hS => ?_
      refine an_take hS (i := 38) rfl (by kernel_rfl) (by kernel_rfl) (by kernel_rfl) rfl (by decide) (fun c a a' w hd h => hQp c a a' w hd h) rfl (fun w' hC' => (rv_pick_f (hS.ev rfl) (hS.ev rfl))) hM.fr fun a hS => ?_
      refine an_take hS (i := 39) rfl (by kernel_rfl) (by kernel_rfl) (by kernel_rfl) rfl (by decide) (fun c a a' w hd h => hQp c a a' w hd h) rfl (fun w' hC' => (rv_move (hS.ev rfl))) hM.fr fun a hS => ?_
      refine an_skip hS (i := 40) rfl (by kernel_rfl) (by kernel_rfl) (by kernel_rfl) rfl (by decide) (fun c a a' w hd h => hQp c a a' w hd h) rfl hM.fr fun a hS => ?_
      refine an_skip hS (i := 41) rfl (by kernel_rfl) (by kernel_rfl) (by kernel_rfl) rfl (by decide) (fun c a a' w hd h => hQp c a a' w hd h) rfl hM.fr fun a hS => ?_
      refine an_skip hS (i := 42) rfl (by kernel_rfl) (by kernel_rfl) (by kernel_rfl) rfl (by decide) (fun c a a' w hd h => hQp c a a' w hd h) rfl hM.fr fun a hS => ?_
      refine an_skip hS (i := 43) rfl (by kernel_rfl) (by kernel_rfl) (by kernel_rfl) rfl (by decide) (fun c a a' w hd h => hQp c a a' w hd h) rfl hM.fr fun a hS => ?_
      refine an_skip hS (i := 44) rfl (by kernel_rfl) (by kernel_rfl) (by kernel_rfl) rfl (by decide) (fun c a a' w hd h => hQp c a a' w hd h) rfl hM.fr fun a hS => ?_
      refine an_skip hS (i := 45) rfl (by kernel_rfl) (by kernel_rfl) (by kernel_rfl) rfl (by decide) (fun c a a' w hd h => hQp c a a' w hd h) rfl hM.fr fun a hS => ?_
      refine an_skip hS (i := 46) rfl (by kernel_rfl) (by kernel_rfl) (by kernel_rfl) rfl (by decide) (fun c a a' w hd h => hQp c a a' w hd h) rfl hM.fr fun a hS => ?_
      refine an_skip hS (i := 47) rfl (by kernel_rfl) (by kernel_rfl) (by kernel_rfl) rfl (by decide) (fun c a a' w hd h => hQp c a a' w hd h) rfl hM.fr fun a hS => ?_
      refine an_skip hS (i := 48) rfl (by kernel_rfl) (by kernel_rfl) (by kernel_rfl) rfl (by decide) (fun c a a' w hd h => hQp c a a' w hd h) rfl hM.fr fun a hS => ?_
      refine an_take hS (i := 49) rfl (by kernel_rfl) (by kernel_rfl) (by kernel_rfl) rfl (by decide) (fun c a a' w hd h => hQp c a a' w hd h) rfl (fun w' hC' => (rv_pick_f (hS.ev rfl) (hS.ev rfl))) hM.fr fun a hS => ?_
      refine an_take hS (i := 50) rfl (by kernel_rfl) (by kernel_rfl) (by kernel_rfl) rfl (by decide) (fun c a a' w hd h => hQp c a a' w hd h) rfl (fun w' hC' => (rv_move (hS.ev rfl))) hM.fr fun a hS => ?_
      refine an_skip hS (i := 51) rfl (by kernel_rfl) (by kernel_rfl) (by kernel_rfl) rfl (by decide) (fun c a a' w hd h => hQp c a a' w hd h) rfl hM.fr fun a hS => ?_
      refine an_skip hS (i := 52) rfl (by kernel_rfl) (by kernel_rfl) (by kernel_rfl) rfl (by decide) (fun c a a' w hd h => hQp c a a' w hd h) rfl hM.fr fun a hS => ?_
      refine an_skip hS (i := 53) rfl (by kernel_rfl) (by kernel_rfl) (by kernel_rfl) rfl (by decide) (fun c a a' w hd h => hQp c a a' w hd h) rfl hM.fr fun a hS => ?_
      refine an_skip hS (i := 54) rfl (by kernel_rfl) (by kernel_rfl) (by kernel_rfl) rfl (by decide) (fun c a a' w hd h => hQp c a a' w hd h) rfl hM.fr fun a hS => ?_
      refine an_skip hS (i := 55) rfl (by kernel_rfl) (by kernel_rfl) (by kernel_rfl) rfl (by decide) (fun c a a' w hd h => hQp c a a' w hd h) rfl hM.fr fun a hS => ?_
      refine an_skip hS (i := 56) rfl (by kernel_rfl) (by kernel_rfl) (by kernel_rfl) rfl (by decide) (fun c a a' w hd h => hQp c a a' w hd h) rfl hM.fr fun a hS => ?_
      refine an_skip hS (i := 57) rfl (by kernel_rfl) (by kernel_rfl) (by kernel_rfl) rfl (by decide) (fun c a a' w hd h => hQp c a a' w hd h) rfl hM.fr fun a hS => ?_
      refine an_skip hS (i := 58) rfl (by kernel_rfl) (by kernel_rfl) (by kernel_rfl) rfl (by decide) (fun c a a' w hd h => hQp c a a' w hd h) rfl hM.fr fun a hS => ?_
      refine an_skip hS (i := 59) rfl (by kernel_rfl) (by kernel_rfl) (by kernel_rfl) rfl (by decide) (fun c a a' w hd h => hQp c a a' w hd h) rfl hM.fr fun a hS => ?_
      refine an_take hS (i := 60) rfl (by kernel_rfl) (by kernel_rfl) (by kernel_rfl) rfl (by decide) (fun c a a' w hd h => hQp c a a' w hd h) rfl (fun w' hC' => (rv_pick_f (hS.ev rfl) (hS.ev rfl))) hM.fr fun a hS => ?_
      refine an_take hS (i := 61) rfl (by kernel_rfl) (by kernel_rfl) (by kernel_rfl) rfl (by decide) (fun c a a' w hd h => hQp c a a' w hd h) rfl (fun w' hC' => (rv_move (hS.ev rfl))) hM.fr fun a hS => ?_
      refine an_skip hS (i := 62) rfl (by kernel_rfl) (by kernel_rfl) (by kernel_rfl) rfl (by decide) (fun c a a' w hd h => hQp c a a' w hd h) rfl hM.fr fun a hS => ?_
      refine an_skip hS (i := 63) rfl (by kernel_rfl) (by kernel_rfl) (by kernel_rfl) rfl (by decide) (fun c a a' w hd h => hQp c a a' w hd h) rfl hM.fr fun a hS => ?_
      refine an_skip hS (i := 64) rfl (by kernel_rfl) (by kernel_rfl) (by kernel_rfl) rfl (by decide) (fun c a a' w hd h => hQp c a a' w hd h) rfl hM.fr fun a hS => ?_
      refine an_skip hS (i := 65) rfl (by kernel_rfl) (by kernel_rfl) (by kernel_rfl) rfl (by decide) (fun c a a' w hd h => hQp c a a' w hd h) rfl hM.fr fun a hS => ?_
      refine an_skip hS (i := 66) rfl (by kernel_rfl) (by kernel_rfl) (by kernel_rfl) rfl (by decide) (fun c a a' w hd h => hQp c a a' w hd h) rfl hM.fr fun a hS => ?_
      refine an_skip hS (i := 67) rfl (by kernel_rfl) (by kernel_rfl) (by kernel_rfl) rfl (by decide) (fun c a a' w hd h => hQp c a a' w hd h) rfl hM.fr fun a hS => ?_
      refine an_skip hS (i := 68) rfl (by kernel_rfl) (by kernel_rfl) (by kernel_rfl) rfl (by decide) (fun c a a' w hd h => hQp c a a' w hd h) rfl hM.fr fun a hS => ?_
      refine an_skip hS (i := 69) rfl (by kernel_rfl) (by kernel_rfl) (by kernel_rfl) rfl (by decide) (fun c a a' w hd h => hQp c a a' w hd h) rfl hM.fr fun a hS => ?_
      refine an_skip hS (i := 70) rfl (by kernel_rfl) (by kernel_rfl) (by kernel_rfl) rfl (by decide) (fun c a a' w hd h => hQp c a a' w hd h) rfl hM.fr fun a hS => ?_
      refine an_take hS (i := 71) rfl (by kernel_rfl) (by kernel_rfl) (by kernel_rfl) rfl (by decide) (fun c a a' w hd h => hQp c a a' w hd h) rfl (fun w' hC' => (rv_pick_f (hS.ev rfl) (hS.ev rfl))) hM.fr fun a hS => ?_
      refine an_take hS (i := 72) rfl (by kernel_rfl) (by kernel_rfl) (by kernel_rfl) rfl (by decide) (fun c a a' w hd h => hQp c a a' w hd h) rfl (fun w' hC' => (rv_assign (hS.ev rfl))) hM.fr fun a hS => ?_
      refine an_done (by kernel_rfl) ?_
      have hN := hM.pick [] (by decide) rfl
      have hM := Mem.callo (A := []) (B := [(true, bx b3 28 [(Value.int IntKind.i64 p0_g_Size), p0_g_Rowsv]), (false, rd p0_g_Rowsv (List.map (Value.int IntKind.i64) p0_g_Rows)), (false, rd p1_lv (List.map (Value.int IntKind.i64) p1_l))]) hB rfl (hN.memS fun _ h => h.elim) rfl
      exact hJ1 false _ _ (hS.sub (sub_cons rfl sub_nil)) (hM.pick [] (by decide) rfl) hF
  · have hS := hS.setb (t := 8) rfl hc
    refine an_skip hS (i := 4) rfl (by kernel_rfl) (by kernel_rfl) (by kernel_rfl) rfl (by decide) (fun c a a' w hd h => hQp c a a' w hd h) rfl hM.fr fun a hS => ?_
    refine an_skip hS (i := 5) rfl (by kernel_rfl) (by kernel_rfl) (by kernel_rfl) rfl (by decide) (fun c a a' w hd h => hQp c a a' w hd h) rfl hM.fr fun a hS => ?_
    refine an_skip hS (i := 6) rfl (by kernel_rfl) (by kernel_rfl) (by kernel_rfl) rfl (by decide) (fun c a a' w hd h => hQp c a a' w hd h) rfl hM.fr fun a hS => ?_
    refine an_take hS (i := 7) rfl (by kernel_rfl) (by kernel_rfl) (by kernel_rfl) rfl (by decide) (fun c a a' w hd h => hQp c a a' w hd h) rfl (fun w' hC' => (rv_pick_f (hS.ev rfl) (hS.ev rfl))) hM.fr fun a hS => ?_
    refine an_take hS (i := 8) rfl (by kernel_rfl) (by kernel_rfl) (by kernel_rfl) rfl (by decide) (fun c a a' w hd h => hQp c a a' w hd h) rfl (fun w' hC' => (rv_move (hS.ev rfl))) hM.fr fun a hS => ?_
    refine an_skip hS (i := 9) rfl (by kernel_rfl) (by kernel_rfl) (by kernel_rfl) rfl (by decide) (fun c a a' w hd h => hQp c a a' w hd h) rfl hM.fr fun a hS => ?_
    refine an_skip hS (i := 10) rfl (by kernel_rfl) (by kernel_rfl) (by kernel_rfl) rfl (by decide) (fun c a a' w hd h => hQp c a a' w hd h) rfl hM.fr fun a hS => ?_
    refine an_skip hS (i := 11) rfl (by kernel_rfl) (by kernel_rfl) (by kernel_rfl) rfl (by decide) (fun c a a' w hd h => hQp c a a' w hd h) rfl hM.fr fun a hS => ?_
    refine an_skip hS (i := 12) rfl (by kernel_rfl) (by kernel_rfl) (by kernel_rfl) rfl (by decide) (fun c a a' w hd h => hQp c a a' w hd h) rfl hM.fr fun a hS => ?_
    refine an_skip hS (i := 13) rfl (by kernel_rfl) (by kernel_rfl) (by kernel_rfl) rfl (by decide) (fun c a a' w hd h => hQp c a a' w hd h) rfl hM.fr fun a hS => ?_
    refine an_skip hS (i := 14) rfl (by kernel_rfl) (by kernel_rfl) (by kernel_rfl) rfl (by decide) (fun c a a' w hd h => hQp c a a' w hd h) rfl hM.fr fun a hS => ?_
    refine an_skip hS (i := 15) rfl (by kernel_rfl) (by kernel_rfl) (by kernel_rfl) rfl (by decide) (fun c a a' w hd h => hQp c a a' w hd h) rfl hM.fr fun a hS => ?_
    refine an_skip hS (i := 16) rfl (by kernel_rfl) (by kernel_rfl) (by kernel_rfl) rfl (by decide) (fun c a a' w hd h => hQp c a a' w hd h) rfl hM.fr fun a hS => ?_
    refine an_take hS (i := 17) rfl (by kernel_rfl) (by kernel_rfl) (by kernel_rfl) rfl (by decide) (fun c a a' w hd h => hQp c a a' w hd h) rfl (fun w' hC' => (rv_pick_f (hS.ev rfl) (hS.ev rfl))) hM.fr fun a hS => ?_
    refine an_take hS (i := 18) rfl (by kernel_rfl) (by kernel_rfl) (by kernel_rfl) rfl (by decide) (fun c a a' w hd h => hQp c a a' w hd h) rfl (fun w' hC' => (rv_move (hS.ev rfl))) hM.fr fun a hS => ?_
    refine an_skip hS (i := 19) rfl (by kernel_rfl) (by kernel_rfl) (by kernel_rfl) rfl (by decide) (fun c a a' w hd h => hQp c a a' w hd h) rfl hM.fr fun a hS => ?_
    refine an_skip hS (i := 20) rfl (by kernel_rfl) (by kernel_rfl) (by kernel_rfl) rfl (by decide) (fun c a a' w hd h => hQp c a a' w hd h) rfl hM.fr fun a hS => ?_
    refine an_skip hS (i := 21) rfl (by kernel_rfl) (by kernel_rfl) (by kernel_rfl) rfl (by decide) (fun c a a' w hd h => hQp c a a' w hd h) rfl hM.fr fun a hS => ?_
    refine an_skip hS (i := 22) rfl (by kernel_rfl) (by kernel_rfl) (by kernel_rfl) rfl (by decide) (fun c a a' w hd h => hQp c a a' w hd h) rfl hM.fr fun a hS => ?_
    refine an_skip hS (i := 23) rfl (by kernel_rfl) (by kernel_rfl) (by kernel_rfl) rfl (by decide) (fun c a a' w hd h => hQp c a a' w hd h) rfl hM.fr fun a hS => ?_
    refine an_skip hS (i := 24) rfl (by kernel_rfl) (by kernel_rfl) (by kernel_rfl) rfl (by decide) (fun c a a' w hd h => hQp c a a' w hd h) rfl hM.fr fun a hS => ?_
    refine an_skip hS (i := 25) rfl (by kernel_rfl) (by kernel_rfl) (by kernel_rfl) rfl (by decide) (fun c a a' w hd h => hQp c a a' w hd h) rfl hM.fr fun a hS => ?_
    refine an_skip hS (i := 26) rfl (by kernel_rfl) (by kernel_rfl) (by kernel_rfl) rfl (by decide) (fun c a a' w hd h => hQp c a a' w hd h) rfl hM.fr fun a hS => ?_
    refine an_take hS (i := 27) rfl (by kernel_rfl) (by kernel_rfl) (by kernel_rfl) rfl (by decide) (fun c a a' w hd h => hQp c a a' w hd h) rfl (fun w' hC' => (rv_pick_f (hS.ev rfl) (hS.ev rfl))) hM.fr fun a hS => ?_
    refine an_take hS (i := 28) rfl (by kernel_rfl) (by kernel_rfl) (by kernel_rfl) rfl (by decide) (fun c a a' w hd h => hQp c a a' w hd h) rfl (fun w' hC' => (rv_move (hS.ev rfl))) hM.fr fun a hS => ?_
    refine an_skip hS (i := 29) rfl (by kernel_rfl) (by kernel_rfl) (by kernel_rfl) rfl (by decide) (fun c a a' w hd h => hQp c a a' w hd h) rfl hM.fr fun a hS => ?_
    refine an_skip hS (i := 30) rfl (by kernel_rfl) (by kernel_rfl) (by kernel_rfl) rfl (by decide) (fun c a a' w hd h => hQp c a a' w hd h) rfl hM.fr fun a hS => ?_
    refine an_skip hS (i := 31) rfl (by kernel_rfl) (by kernel_rfl) (by kernel_rfl) rfl (by decide) (fun c a a' w hd h => hQp c a a' w hd h) rfl hM.fr fun a hS => ?_
    refine an_skip hS (i := 32) rfl (by kernel_rfl) (by kernel_rfl) (by kernel_rfl) rfl (by decide) (fun c a a' w hd h => hQp c a a' w hd h) rfl hM.fr fun a hS => ?_
    refine an_skip hS (i := 33) rfl (by kernel_rfl) (by kernel_rfl) (by kernel_rfl) rfl (by decide) (fun c a a' w hd h => hQp c a a' w hd h) rfl hM.fr fun a hS => ?_
    refine an_skip hS (i := 34) rfl (by kernel_rfl) (by kernel_rfl) (by kernel_rfl) rfl (by decide) (fun c a a' w hd h => hQp c a a' w hd h) rfl hM.fr fun a hS => ?_
    refine an_skip hS (i := 35) rfl (by kernel_rfl) (by kernel_rfl) (by kernel_rfl) rfl (by decide) (fun c a a' w hd h => hQp c a a' w hd h) rfl hM.fr fun a hS => ?_
    refine an_skip hS (i := 36) rfl (by kernel_rfl) (by kernel_rfl) (by kernel_rfl) rfl (by decide) (fun c a a' w hd h => hQp c a a' w hd h) rfl hM.fr fun a hS => ?_
    refine an_skip hS (i := 37) rfl (by kernel_rfl) (by kernel_rfl) (by kernel_rfl) rfl (by decide) (fun c a a' w hd h => hQp c a a' w hd h) rfl hM.fr fun a hS => ?_
    refine an_take hS (i := 38) rfl (by kernel_rfl) (by kernel_rfl) (by kernel_rfl) rfl (by decide) (fun c a a' w hd h => hQp c a a' w hd h) rfl (fun w' hC' => (rv_pick_f (hS.ev rfl) (hS.ev rfl))) hM.fr fun a hS => ?_
    refine an_take hS (i := 39) rfl (by kernel_rfl) (by kernel_rfl) (by kernel_rfl) rfl (by decide) (fun c a a' w hd h => hQp c a a' w hd h) rfl (fun w' hC' => (rv_move (hS.ev rfl))) hM.fr fun a hS => ?_
    refine an_skip hS (i := 40) rfl (by kernel_rfl) (by kernel_rfl) (by kernel_rfl) rfl (by decide) (fun c a a' w hd h => hQp c a a' w hd h) rfl hM.fr fun a hS => ?_
    refine an_skip hS (i := 41) rfl (by kernel_rfl) (by kernel_rfl) (by kernel_rfl) rfl (by decide) (fun c a a' w hd h => hQp c a a' w hd h) rfl hM.fr fun a hS => ?_
    refine an_skip hS (i := 42) rfl (by kernel_rfl) (by kernel_rfl) (by kernel_rfl) rfl (by decide) (fun c a a' w hd h => hQp c a a' w hd h) rfl hM.fr fun a hS => ?_
    refine an_skip hS (i := 43) rfl (by kernel_rfl) (by kernel_rfl) (by kernel_rfl) rfl (by decide) (fun c a a' w hd h => hQp c a a' w hd h) rfl hM.fr fun a hS => ?_
    refine an_skip hS (i := 44) rfl (by kernel_rfl) (by kernel_rfl) (by kernel_rfl) rfl (by decide) (fun c a a' w hd h => hQp c a a' w hd h) rfl hM.fr fun a hS => ?_
    refine an_skip hS (i := 45) rfl (by kernel_rfl) (by kernel_rfl) (by kernel_rfl) rfl (by decide) (fun c a a' w hd h => hQp c a a' w hd h) rfl hM.fr fun a hS => ?_
    refine an_skip hS (i := 46) rfl (by kernel_rfl) (by kernel_rfl) (by kernel_rfl) rfl (by decide) (fun c a a' w hd h => hQp c a a' w hd h) rfl hM.fr fun a hS => ?_
    refine an_skip hS (i := 47) rfl (by kernel_rfl) (by kernel_rfl) (by kernel_rfl) rfl (by decide) (fun c a a' w hd h => hQp c a a' w hd h) rfl hM.fr fun a hS => ?_
    refine an_skip hS (i := 48) rfl (by kernel_rfl) (by kernel_rfl) (by kernel_rfl) rfl (by decide) (fun c a a' w hd h => hQp c a a' w hd h) rfl hM.fr fun a hS => ?_
    refine an_take hS (i := 49) rfl (by kernel_rfl) (by kernel_rfl) (by kernel_rfl) rfl (by decide) (fun c a a' w hd h => hQp c a a' w hd h) rfl (fun w' hC' => (rv_pick_f (hS.ev rfl) (hS.ev rfl))) hM.fr fun a hS => ?_
    refine an_take hS (i := 50) rfl (by kernel_rfl) (by kernel_rfl) (by kernel_rfl) rfl (by decide) (fun c a a' w hd h => hQp c a a' w hd h) rfl (fun w' hC' => (rv_move (hS.ev rfl))) hM.fr fun a hS => ?_
    refine an_skip hS (i := 51) rfl (by kernel_rfl) (by kernel_rfl) (by kernel_rfl) rfl (by decide) (fun c a a' w hd h => hQp c a a' w hd h) rfl hM.fr fun a hS => ?_
    refine an_skip hS (i := 52) rfl (by kernel_rfl) (by kernel_rfl) (by kernel_rfl) rfl (by decide) (fun c a a' w hd h => hQp c a a' w hd h) rfl hM.fr fun a hS => ?_
    refine an_skip hS (i := 53) rfl (by kernel_rfl) (by kernel_rfl) (by kernel_rfl) rfl (by decide) (fun c a a' w hd h => hQp c a a' w hd h) rfl hM.fr fun a hS => ?_
    refine an_skip hS (i := 54) rfl (by kernel_rfl) (by kernel_rfl) (by kernel_rfl) rfl (by decide) (fun c a a' w hd h => hQp c a a' w hd h) rfl hM.fr fun a hS => ?_
    refine an_skip hS (i := 55) rfl (by kernel_rfl) (by kernel_rfl) (by kernel_rfl) rfl (by decide) (fun c a a' w hd h => hQp c a a' w hd h) rfl hM.fr fun a hS => ?_
    refine an_skip hS (i := 56) rfl (by kernel_rfl) (by kernel_rfl) (by kernel_rfl) rfl (by decide) (fun c a a' w hd h => hQp c a a' w hd h) rfl hM.fr fun a hS => ?_
    refine an_skip hS (i := 57) rfl (by kernel_rfl) (by kernel_rfl) (by kernel_rfl) rfl (by decide) (fun c a a' w hd h => hQp c a a' w hd h) rfl hM.fr fun a hS => ?_
    refine an_skip hS (i := 58) rfl (by kernel_rfl) (by kernel_rfl) (by kernel_rfl) rfl (by decide) (fun c a a' w hd h => hQp c a a' w hd h) rfl hM.fr fun a hS => ?_
    refine an_skip hS (i := 59) rfl (by kernel_rfl) (by kernel_rfl) (by kernel_rfl) rfl (by decide) (fun c a a' w hd h => hQp c a a' w hd h) rfl hM.fr fun a hS => ?_
    refine an_take hS (i := 60) rfl (by kernel_rfl) (by kernel_rfl) (by kernel_rfl) rfl (by decide) (fun c a a' w hd h => hQp c a a' w hd h) rfl (fun w' hC' => (rv_pick_f (hS.ev rfl) (hS.ev rfl))) hM.fr fun a hS => ?_
    refine an_take hS (i := 61) rfl (by kernel_rfl) (by kernel_rfl) (by kernel_rfl) rfl (by decide) (fun c a a' w hd h => hQp c a a' w hd h) rfl (fun w' hC' => (rv_move (hS.ev rfl))) hM.fr fun a hS => ?_
    refine an_skip hS (i := 62) rfl (by kernel_rfl) (by kernel_rfl) (by kernel_rfl) rfl (by decide) (fun c a a' w hd h => hQp c a a' w hd h) rfl hM.fr fun a hS => ?_
    refine an_skip hS (i := 63) rfl (by kernel_rfl) (by kernel_rfl) (by kernel_rfl) rfl (by decide) (fun c a a' w hd h => hQp c a a' w hd h) rfl hM.fr fun a hS => ?_
    refine an_skip hS (i := 64) rfl (by kernel_rfl) (by kernel_rfl) (by kernel_rfl) rfl (by decide) (fun c a a' w hd h => hQp c a a' w hd h) rfl hM.fr fun a hS => ?_
    refine an_skip hS (i := 65) rfl (by kernel_rfl) (by kernel_rfl) (by kernel_rfl) rfl (by decide) (fun c a a' w hd h => hQp c a a' w hd h) rfl hM.fr fun a hS => ?_
    refine an_skip hS (i := 66) rfl (by kernel_rfl) (by kernel_rfl) (by kernel_rfl) rfl (by decide) (fun c a a' w hd h => hQp c a a' w hd h) rfl hM.fr fun a hS => ?_
    refine an_skip hS (i := 67) rfl (by kernel_rfl) (by kernel_rfl) (by kernel_rfl) rfl (by decide) (fun c a a' w hd h => hQp c a a' w hd h) rfl hM.fr fun a hS => ?_
    refine an_skip hS (i := 68) rfl (by kernel_rfl) (by kernel_rfl) (by kernel_rfl) rfl (by decide) (fun c a a' w hd h => hQp c a a' w hd h) rfl hM.fr fun a hS => ?_
    refine an_skip hS (i := 69) rfl (by kernel_rfl) (by kernel_rfl) (by kernel_rfl) rfl (by decide) (fun c a a' w hd h => hQp c a a' w hd h) rfl hM.fr fun a hS => ?_
    refine an_skip hS (i := 70) rfl (by kernel_rfl) (by kernel_rfl) (by kernel_rfl) rfl (by decide) (fun c a a' w hd h => hQp c a a' w hd h) rfl hM.fr fun a hS => ?_
    refine an_take hS (i := 71) rfl (by kernel_rfl) (by kernel_rfl) (by kernel_rfl) rfl (by decide) (fun c a a' w hd h => hQp c a a' w hd h) rfl (fun w' hC' => (rv_pick_f (hS.ev rfl) (hS.ev rfl))) hM.fr fun a hS => ?_
    refine an_take hS (i := 72) rfl (by kernel_rfl) (by kernel_rfl) (by kernel_rfl) rfl (by decide) (fun c a a' w hd h => hQp c a a' w hd h) rfl (fun w' hC' => (rv_assign (hS.ev rfl))) hM.fr fun a hS => ?_
    refine an_done (by kernel_rfl) ?_
    have hN := hM.pick [] (by decide) rfl
    have hM := Mem.callo (A := []) (B := [(true, bx b3 28 [(Value.int IntKind.i64 p0_g_Size), p0_g_Rowsv]), (false, rd p0_g_Rowsv (List.map (Value.int IntKind.i64) p0_g_Rows)), (false, rd p1_lv (List.map (Value.int IntKind.i64) p1_l))]) hB rfl (hN.memS fun _ h => h.elim) rfl
    exact hJ1 false _ _ (hS.sub (sub_cons rfl sub_nil)) (hM.pick [] (by decide) rfl) hF


theorem c_spec_l4Four (F : Nat) (p0_g_Size : Int) (p0_g_Rows : List Int) (p1_kind : Int) (p0_g_Rowsv : Value) {r : (List (Int)) × Bool} (hF : S_spec_l4Four F p0_g_Size p0_g_Rows p1_kind = some r) (w0 : World) (h0 : RdRow w0 p0_g_Rowsv (List.map (Value.int IntKind.i64) p0_g_Rows)) :
    Calls Try.prog 67 [(Value.agg #[(Value.int IntKind.i64 p0_g_Size), p0_g_Rowsv]), (Value.int IntKind.i64 p1_kind)].toArray w0 (retPost fun v w' => ∃ v156, v = (Value.tuple #[v156, (Value.bool r.2)]) ∧ Mem Nob w0 w' [(true, ow 3 v156 (List.map (Value.int IntKind.i64) r.1))]) := by
  have hM : Mem Nob w0 w0 [(false, rd p0_g_Rowsv (List.map (Value.int IntKind.i64) p0_g_Rows))] := (Mem.rcons (Mem.nil w0) h0 (by simp))
  refine enter2 Try.func67 rfl rfl rfl fun Q a hQr hQn hQp hS => ?_
  have hS : Sl 71 [(0, (Value.agg #[(Value.int IntKind.i64 p0_g_Size), p0_g_Rowsv])), (1, (Value.int IntKind.i64 p1_kind))] a := hS
  unfold S_spec_l4Four at hF
  refine wp_seq_k fun K1 hK1 => ?_
  refine wp_region_lit ?_
  obtain ⟨b3, w, hr, hM⟩ := hM.boxE (ρ := a.eval) (dst := some 2) (ty := _) (pos := _) (af := _) (gd := _) (x := .tmp 0) (T := 28) [(Value.int IntKind.i64 p0_g_Size), p0_g_Rowsv] (hS.ev rfl) rfl
  refine st_val hS rfl rfl (by decide) hr fun a hS => ?_
  refine st_val hS rfl rfl (by decide) (rv_assign (hS.ev rfl)) fun a hS => ?_
  refine st_val hS rfl rfl (by decide) (rv_assign (hS.ev rfl)) fun a hS => ?_
  refine wpList_nil ?_
  refine hK1 _ _ ?_
  refine wp_seq_k fun K4 hK4 => ?_
  have hJ1 : ∀ (a : Act) (w : World), Sl 71 [] a → Mem Nob w0 w [] → S_spec_l4Four_j1 F = some r → K4 a w := by
    intro a w hS hM hF
    unfold S_spec_l4Four_j1 at hF
    refine hK4 _ _ ?_
    refine wp_seq_k fun K79 hK79 => ?_
    refine wp_region_lit ?_
    obtain ⟨v81, w, hr, hM⟩ := Mem.litE (f := (Value.int IntKind.i64)) (dst := some 70) (ty := _) (pos := _) (af := _) (gd := _) (ps := []) ([] : List (Int)) i64_one hM hS Try.underlying22 ty_el_3 rfl rfl rfl rfl
    refine st_val hS rfl rfl (by decide) hr fun a hS => ?_
    refine st_val hS rfl rfl (by decide) (rv_assign (hS.ev rfl)) fun a hS => ?_
    refine st_val hS rfl rfl (by decide) (rv_assign (hS.ev rfl)) fun a hS => ?_
    refine wpList_nil ?_
    refine hK79 _ _ ?_
    refine wp_ret ?_
    cases hF
    exact hQr _ _ (r_2 hS rfl rfl rfl ⟨v81, rfl, hM.pick [0] (by decide) rfl⟩)
  refine wp_seq_k fun K82 hK82 => ?_
  refine wp_region_lit ?_
  refine st_val hS rfl rfl (by decide) (rv_assign (hS.ev rfl)) fun a hS => ?_
  refine wpList_nil ?_
  refine hK82 _ _ ?_
  refine wp_block ?_
  obtain ⟨lb2, hl2, hF2⟩ := bind_some hF
  refine wp_loop_sh (fun s => S_spec_l4Four_l2 F p0_g_Size p0_g_Rows p1_kind s) (fun s a w => Sl 71 [(1, (Value.int IntKind.i64 p1_kind)), (2, (fdp b3 0)), (6, (Value.int IntKind.i64 s))] a ∧ Mem Nob w0 w [(true, bx b3 28 [(Value.int IntKind.i64 p0_g_Size), p0_g_Rowsv]), (false, rd p0_g_Rowsv (List.map (Value.int IntKind.i64) p0_g_Rows))]) hl2 ⟨(hS.sub (sub_cons rfl (sub_cons rfl (sub_cons rfl sub_nil)))), (hM.pick [0, 1] (by decide) rfl)⟩ ?_
  rintro K2 x83 a w res2 ⟨hS, hM⟩ hF hN2 hX2
  have hF : S_spec_l4Four_l2 F p0_g_Size p0_g_Rows p1_kind x83 = some res2 := hF
  have hS : Sl 71 [(1, (Value.int IntKind.i64 p1_kind)), (2, (fdp b3 0)), (6, (Value.int IntKind.i64 x83))] a := hS
  have hM : Mem Nob w0 w [(true, bx b3 28 [(Value.int IntKind.i64 p0_g_Size), p0_g_Rowsv]), (false, rd p0_g_Rowsv (List.map (Value.int IntKind.i64) p0_g_Rows))] := hM
  unfold S_spec_l4Four_l2 at hF
  refine wp_seq_k fun K120 hK120 => ?_
  refine wp_seq_k fun K125 hK125 => ?_
  have hJ3 : ∀ (p127 : Bool) (a : Act) (w : World), Sl 71 [(1, (Value.int IntKind.i64 p1_kind)), (2, (fdp b3 0)), (6, (Value.int IntKind.i64 x83)), (25, (Value.bool p127))] a → Mem Nob w0 w [(true, bx b3 28 [(Value.int IntKind.i64 p0_g_Size), p0_g_Rowsv]), (false, rd p0_g_Rowsv (List.map (Value.int IntKind.i64) p0_g_Rows))] → S_spec_l4Four_j3 F p0_g_Size p0_g_Rows p1_kind x83 p127 = some res2 → K125 a w := by
    intro p127 a w hS hM hF
    unfold S_spec_l4Four_j3 at hF
    refine hK125 _ _ ?_
    rcases ite_some hF with ⟨hc, hF⟩ | ⟨hc, hF⟩
    · refine cond_t hS rfl hc ?_
      refine wp_skip ?_
      refine hK120 _ _ ?_
      refine wp_seq_k fun K128 hK128 => ?_
      refine wp_block ?_
      refine wp_seq_k fun K142 hK142 => ?_
      refine wp_region_lit ?_
      refine st_val hS rfl rfl (by decide) (rv_fieldAddr ty_fd_28_0 (hS.ev rfl)) fun a hS => ?_
      refine st_val hS rfl rfl (by decide) (rv_load_bx (hS.ev rfl) ty_ag_3 (hM.get 0 rfl) rfl) fun a hS => ?_
      refine st_val hS rfl rfl (by decide) (rv_assign (hS.ev rfl)) fun a hS => ?_
      refine wpList_nil ?_
      refine hK142 _ _ ?_
      refine wp_seq_k fun K143 hK143 => ?_
      refine an_start Nob ty_mixed fun w hf => ?_
      have hM := hM.fra hf
      have hB := hM
      have hM := hB.reg0
      refine an_take hS (i := 0) rfl (by kernel_rfl) (by kernel_rfl) (by kernel_rfl) rfl (by decide) (fun c a a' w hd h => hQp c a a' w hd h) rfl (fun w' hC' => (rv_move (hS.ev rfl))) hM.fr fun a hS => ?_
      refine an_take hS (i := 1) rfl (by kernel_rfl) (by kernel_rfl) (by kernel_rfl) rfl (by decide) (fun c a a' w hd h => hQp c a a' w hd h) rfl (fun w' hC' => (rv_move (hS.ev rfl))) hM.fr fun a hS => ?_
      refine an_take hS (i := 2) rfl (by kernel_rfl) (by kernel_rfl) (by kernel_rfl) rfl (by decide) (fun c a a' w hd h => hQp c a a' w hd h) rfl (fun w' hC' => (rv_move (hS.ev rfl))) hM.fr fun a hS => ?_
      refine an_take hS (i := 3) rfl (by kernel_rfl) (by kernel_rfl) (by kernel_rfl) rfl (by decide) (fun c a a' w hd h => hQp c a a' w hd h) rfl (fun w' hC' => (rv_mul (hS.ev rfl) (hS.ev rfl))) hM.fr fun a hS => ?_
      refine an_take hS (i := 4) rfl (by kernel_rfl) (by kernel_rfl) (by kernel_rfl) rfl (by decide) (fun c a a' w hd h => hQp c a a' w hd h) rfl (fun w' hC' => (rv_move (hS.ev rfl))) hM.fr fun a hS => ?_
      refine an_take hS (i := 5) rfl (by kernel_rfl) (by kernel_rfl) (by kernel_rfl) rfl (by decide) (fun c a a' w hd h => hQp c a a' w hd h) rfl (fun w' hC' => (rv_mul (hS.ev rfl) (hS.ev rfl))) hM.fr fun a hS => ?_
      obtain ⟨_, hx, hF⟩ := bind_some hF
      have hi0 := nzO_some hx
      refine an_take hS (i := 6) rfl (by kernel_rfl) (by kernel_rfl) (by kernel_rfl) rfl (by decide) (fun c a a' w hd h => hQp c a a' w hd h) rfl (fun w' hC' => (rv_quo (hS.ev rfl) (hS.ev rfl) hi0)) hM.fr fun a hS => ?_
      refine an_take hS (i := 7) rfl (by kernel_rfl) (by kernel_rfl) (by kernel_rfl) rfl (by decide) (fun c a a' w hd h => hQp c a a' w hd h) rfl (fun w' hC' => (rv_move (hS.ev rfl))) hM.fr fun a hS => ?_
      refine an_take hS (i := 8) rfl (by kernel_rfl) (by kernel_rfl) (by kernel_rfl) rfl (by decide) (fun c a a' w hd h => hQp c a a' w hd h) rfl (fun w' hC' => (rv_move (hS.ev rfl))) hM.fr fun a hS => ?_
      refine an_take hS (i := 9) rfl (by kernel_rfl) (by kernel_rfl) (by kernel_rfl) rfl (by decide) (fun c a a' w hd h => hQp c a a' w hd h) rfl (fun w' hC' => (rv_move (hS.ev rfl))) hM.fr fun a hS => ?_
      refine an_take hS (i := 10) rfl (by kernel_rfl) (by kernel_rfl) (by kernel_rfl) rfl (by decide) (fun c a a' w hd h => hQp c a a' w hd h) rfl (fun w' hC' => (rv_mul (hS.ev rfl) (hS.ev rfl))) hM.fr fun a hS => ?_
      obtain ⟨_, hx, hF⟩ := bind_some hF
      have hi0 := nzO_some hx
      refine an_take hS (i := 11) rfl (by kernel_rfl) (by kernel_rfl) (by kernel_rfl) rfl (by decide) (fun c a a' w hd h => hQp c a a' w hd h) rfl (fun w' hC' => (rv_quo (hS.ev rfl) (hS.ev rfl) hi0)) hM.fr fun a hS => ?_
      refine an_take hS (i := 12) rfl (by kernel_rfl) (by kernel_rfl) (by kernel_rfl) rfl (by decide) (fun c a a' w hd h => hQp c a a' w hd h) rfl (fun w' hC' => (rv_move (hS.ev rfl))) hM.fr fun a hS => ?_
      obtain ⟨_, hx, hF⟩ := bind_some hF
      have hi0 := nzO_some hx
      refine an_take hS (i := 13) rfl (by kernel_rfl) (by kernel_rfl) (by kernel_rfl) rfl (by decide) (fun c a a' w hd h => hQp c a a' w hd h) rfl (fun w' hC' => (rv_rem (hS.ev rfl) (hS.ev rfl) hi0)) hM.fr fun a hS => ?_
      refine an_take hS (i := 14) rfl (by kernel_rfl) (by kernel_rfl) (by kernel_rfl) rfl (by decide) (fun c a a' w hd h => hQp c a a' w hd h) rfl (fun w' hC' => (rv_move (hS.ev rfl))) hM.fr fun a hS => ?_
      refine an_take hS (i := 15) rfl (by kernel_rfl) (by kernel_rfl) (by kernel_rfl) rfl (by decide) (fun c a a' w hd h => hQp c a a' w hd h) rfl (fun w' hC' => (rv_move (hS.ev rfl))) hM.fr fun a hS => ?_
      obtain ⟨_, hx, hF⟩ := bind_some hF
      have hi0 := nzO_some hx
      refine an_take hS (i := 16) rfl (by kernel_rfl) (by kernel_rfl) (by kernel_rfl) rfl (by decide) (fun c a a' w hd h => hQp c a a' w hd h) rfl (fun w' hC' => (rv_quo (hS.ev rfl) (hS.ev rfl) hi0)) hM.fr fun a hS => ?_
      refine an_take hS (i := 17) rfl (by kernel_rfl) (by kernel_rfl) (by kernel_rfl) rfl (by decide) (fun c a a' w hd h => hQp c a a' w hd h) rfl (fun w' hC' => (rv_move (hS.ev rfl))) hM.fr fun a hS => ?_
      obtain ⟨_, hx, hF⟩ := bind_some hF
      have hi0 := nzO_some hx
      refine an_take hS (i := 18) rfl (by kernel_rfl) (by kernel_rfl) (by kernel_rfl) rfl (by decide) (fun c a a' w hd h => hQp c a a' w hd h) rfl (fun w' hC' => (rv_rem (hS.ev rfl) (hS.ev rfl) hi0)) hM.fr fun a hS => ?_
      refine an_take hS (i := 19) rfl (by kernel_rfl) (by kernel_rfl) (by kernel_rfl) rfl (by decide) (fun c a a' w hd h => hQp c a a' w hd h) rfl (fun w' hC' => (rv_move (hS.ev rfl))) hM.fr fun a hS => ?_
      refine an_take hS (i := 20) rfl (by kernel_rfl) (by kernel_rfl) (by kernel_rfl) rfl (by decide) (fun c a a' w hd h => hQp c a a' w hd h) rfl (fun w' hC' => (rv_move (hS.ev rfl))) hM.fr fun a hS => ?_
      obtain ⟨_, hx, hF⟩ := bind_some hF
      have hi0 := nzO_some hx
      refine an_take hS (i := 21) rfl (by kernel_rfl) (by kernel_rfl) (by kernel_rfl) rfl (by decide) (fun c a a' w hd h => hQp c a a' w hd h) rfl (fun w' hC' => (rv_rem (hS.ev rfl) (hS.ev rfl) hi0)) hM.fr fun a hS => ?_
      obtain ⟨v145, w, hr, hM⟩ := Mem.litE (f := (Value.int IntKind.i64)) (dst := some 52) (ty := _) (pos := _) (af := _) (gd := _) (ps := [(0, .tmp 36), (1, .tmp 43), (2, .tmp 48), (3, .tmp 51)]) ([(IntKind.i64.wrap (x83.tdiv (IntKind.i64.wrap ((IntKind.i64.wrap (p0_g_Size * p0_g_Size)) * p0_g_Size)))), ((IntKind.i64.wrap (x83.tdiv (IntKind.i64.wrap (p0_g_Size * p0_g_Size)))).tmod p0_g_Size), ((IntKind.i64.wrap (x83.tdiv p0_g_Size)).tmod p0_g_Size), (x83.tmod p0_g_Size)] : List (Int)) i64_one hM hS Try.underlying22 ty_el_3 rfl rfl rfl rfl
      refine an_one hS (i := 22) rfl (by kernel_rfl) rfl ?_
      refine wp_val hS rfl (by decide) hr fun a hS => ⟨hM.fr, ?_⟩
      refine an_take hS (i := 23) rfl (by kernel_rfl) (by kernel_rfl) (by kernel_rfl) rfl (by decide) (fun c a a' w hd h => hQp c a a' w hd h) rfl (fun w' hC' => (rv_assign (hS.ev rfl))) hM.fr fun a hS => ?_
      refine an_done (by kernel_rfl) ?_
      have hN := hM.pick [0] (by decide) rfl
      have hM := Mem.callo (A := []) (B := [(true, bx b3 28 [(Value.int IntKind.i64 p0_g_Size), p0_g_Rowsv]), (false, rd p0_g_Rowsv (List.map (Value.int IntKind.i64) p0_g_Rows))]) hB rfl (hN.memS fun _ h => h.elim) rfl
      refine hK143 _ _ ?_
      refine wp_seq_k fun K146 hK146 => ?_
      have hJ4 : ∀ (p150 : Bool) (a : Act) (w : World), Sl 71 [(1, (Value.int IntKind.i64 p1_kind)), (2, (fdp b3 0)), (6, (Value.int IntKind.i64 x83)), (8, v145), (68, (Value.bool p150))] a → Mem Nob w0 w [(true, bx b3 28 [(Value.int IntKind.i64 p0_g_Size), p0_g_Rowsv]), (false, rd p0_g_Rowsv (List.map (Value.int IntKind.i64) p0_g_Rows)), (true, ow 3 v145 (List.map (Value.int IntKind.i64) ([(IntKind.i64.wrap (x83.tdiv (IntKind.i64.wrap ((IntKind.i64.wrap (p0_g_Size * p0_g_Size)) * p0_g_Size)))), ((IntKind.i64.wrap (x83.tdiv (IntKind.i64.wrap (p0_g_Size * p0_g_Size)))).tmod p0_g_Size), ((IntKind.i64.wrap (x83.tdiv p0_g_Size)).tmod p0_g_Size), (x83.tmod p0_g_Size)] : List (Int))))] → S_spec_l4Four_j4 F p0_g_Size x83 p150 = some res2 → K146 a w := by
        intro p150 a w hS hM hF
        unfold S_spec_l4Four_j4 at hF
        refine hK146 _ _ ?_
        rcases ite_some hF with ⟨hc, hF⟩ | ⟨hc, hF⟩
        · refine cond_t hS rfl hc ?_
          refine wp_seq_k fun K151 hK151 => ?_
          refine wp_region_lit ?_
          refine st_val hS rfl rfl (by decide) (rv_move (hS.ev rfl)) fun a hS => ?_
          refine st_val hS rfl rfl (by decide) (rv_assign (hS.ev rfl)) fun a hS => ?_
          refine st_val hS rfl rfl (by decide) (rv_assign (hS.ev rfl)) fun a hS => ?_
          refine wpList_nil ?_
          refine hK151 _ _ ?_
          refine wp_ret ?_
          cases hF
          have e := hX2 _ rfl
          subst e
          have hF := hF2
          cases hF
          exact hQr _ _ (r_2 hS rfl rfl rfl ⟨v145, rfl, hM.pick [2] (by decide) rfl⟩)
        · refine cond_f hS rfl hc ?_
          refine wp_skip ?_
          refine hK128 _ _ ?_
          refine wp_region_lit ?_
          refine st_val hS rfl rfl (by decide) (rv_move (hS.ev rfl)) fun a hS => ?_
          refine st_val hS rfl rfl (by decide) (rv_add (hS.ev rfl) (hS.ev rfl)) fun a hS => ?_
          refine st_val hS rfl rfl (by decide) (rv_assign (hS.ev rfl)) fun a hS => ?_
          refine wpList_nil ?_
          cases hF
          exact hN2 _ _ _ rfl ⟨(hS.sub (sub_cons rfl (sub_cons rfl (sub_cons rfl sub_nil)))), (hM.pick [0, 1] (by decide) rfl)⟩
      refine wp_region_lit ?_
      refine st_val hS rfl rfl (by decide) (rv_move (hS.ev rfl)) fun a hS => ?_
      refine st_val hS rfl rfl (by decide) (rv_eql (hS.ev rfl) (hS.ev rfl)) fun a hS => ?_
      refine st_val hS rfl rfl (by decide) (rv_move (hS.ev rfl)) fun a hS => ?_
      rcases ite_some hF with ⟨hc, hF⟩ | ⟨hc, hF⟩
      · have hS := hS.setb (t := 55) rfl hc
        refine st_val hS rfl rfl (by decide) (rv_load_agg (hS.ev rfl) ty_ag_28 (hM.get 1 rfl) ty_sz_28) fun a hS => ?_
        refine st_val hS rfl rfl (by decide) (rv_move (hS.ev rfl)) fun a hS => ?_
        obtain ⟨r152, hr, hF⟩ := bind_some hF
        refine st_wp hS rfl (wp_call hS rfl rfl (by decide) fn_ok_44 rfl (c_spec_IsTwoEdges F p0_g_Size p0_g_Rows ([(IntKind.i64.wrap (x83.tdiv (IntKind.i64.wrap ((IntKind.i64.wrap (p0_g_Size * p0_g_Size)) * p0_g_Size)))), ((IntKind.i64.wrap (x83.tdiv (IntKind.i64.wrap (p0_g_Size * p0_g_Size)))).tmod p0_g_Size), ((IntKind.i64.wrap (x83.tdiv p0_g_Size)).tmod p0_g_Size), (x83.tmod p0_g_Size)] : List (Int)) p0_g_Rowsv v145 hr _ (hM.get 2 rfl) (rd_of_ow (hM.get 0 rfl))) fun v w a hK hS => ?_)
        obtain ⟨rfl, hN⟩ := hK
        have hM := hM.fra hN.fr
        refine st_val hS rfl rfl (by decide) (rv_pick_t (hS.ev rfl) (hS.ev rfl)) fun a hS => ?_
        refine st_val hS rfl rfl (by decide) (rv_move (hS.ev rfl)) fun a hS => ?_
        rcases ite_some hF with ⟨hc, hF⟩ | ⟨hc, hF⟩
        · have hS := hS.setb (t := 60) rfl hc
          refine st_skip hS rfl rfl (by decide) fun a hS => ?_
          refine st_skip hS rfl rfl (by decide) fun a hS => ?_
          refine st_skip hS rfl rfl (by decide) fun a hS => ?_
          refine st_skip hS rfl rfl (by decide) fun a hS => ?_
          refine st_skip hS rfl rfl (by decide) fun a hS => ?_
          refine st_skip hS rfl rfl (by decide) fun a hS => ?_
          refine st_skip hS rfl rfl (by decide) fun a hS => ?_
          refine st_val hS rfl rfl (by decide) (rv_pick_t (hS.ev rfl) (hS.ev rfl)) fun a hS => ?_
          refine wpList_nil ?_
          exact hJ4 true _ _ (hS.sub (sub_cons rfl (sub_cons rfl (sub_cons rfl (sub_cons rfl (sub_cons rfl sub_nil)))))) (hM.pick [1, 2, 0] (by decide) rfl) hF
        · have hS := hS.setb (t := 60) rfl hc
          refine st_val hS rfl rfl (by decide) (rv_move (hS.ev rfl)) fun a hS => ?_
          refine st_val hS rfl rfl (by decide) (rv_eql (hS.ev rfl) (hS.ev rfl)) fun a hS => ?_
          refine st_val hS rfl rfl (by decide) (rv_move (hS.ev rfl)) fun a hS => ?_
          rcases ite_some hF with ⟨hc, hF⟩ | ⟨hc, hF⟩
          · have hS := hS.setb (t := 63) rfl hc
            refine st_val hS rfl rfl (by decide) (rv_load_agg (hS.ev rfl) ty_ag_28 (hM.get 1 rfl) ty_sz_28) fun a hS => ?_
            refine st_val hS rfl rfl (by decide) (rv_move (hS.ev rfl)) fun a hS => ?_
            obtain ⟨r153, hr, hF⟩ := bind_some hF
            refine st_wp hS rfl (wp_call hS rfl rfl (by decide) fn_ok_43 rfl (c_spec_IsClaw F p0_g_Size p0_g_Rows ([(IntKind.i64.wrap (x83.tdiv (IntKind.i64.wrap ((IntKind.i64.wrap (p0_g_Size * p0_g_Size)) * p0_g_Size)))), ((IntKind.i64.wrap (x83.tdiv (IntKind.i64.wrap (p0_g_Size * p0_g_Size)))).tmod p0_g_Size), ((IntKind.i64.wrap (x83.tdiv p0_g_Size)).tmod p0_g_Size), (x83.tmod p0_g_Size)] : List (Int)) p0_g_Rowsv v145 hr _ (hM.get 2 rfl) (rd_of_ow (hM.get 0 rfl))) fun v w a hK hS => ?_)
            obtain ⟨rfl, hN⟩ := hK
            have hM := hM.fra hN.fr
            refine st_val hS rfl rfl (by decide) (rv_pick_t (hS.ev rfl) (hS.ev rfl)) fun a hS => ?_
            refine st_val hS rfl rfl (by decide) (rv_pick_f (hS.ev rfl) (hS.ev rfl)) fun a hS => ?_
            refine wpList_nil ?_
            exact hJ4 r153 _ _ (hS.sub (sub_cons rfl (sub_cons rfl (sub_cons rfl (sub_cons rfl (sub_cons rfl sub_nil)))))) (hM.pick [1, 2, 0] (by decide) rfl) hF
          · have hS := hS.setb (t := 63) rfl hc
            refine st_skip hS rfl rfl (by decide) fun a hS => ?_
            refine st_skip hS rfl rfl (by decide) fun a hS => ?_
            refine st_skip hS rfl rfl (by decide) fun a hS => ?_
            refine st_val hS rfl rfl (by decide) (rv_pick_f (hS.ev rfl) (hS.ev rfl)) fun a hS => ?_
            refine st_val hS rfl rfl (by decide) (rv_pick_f (hS.ev rfl) (hS.ev rfl)) fun a hS => ?_
            refine wpList_nil ?_
            exact hJ4 false _ _ (hS.sub (sub_cons rfl (sub_cons rfl (sub_cons rfl (sub_cons rfl (sub_cons rfl sub_nil)))))) (hM.pick [1, 2, 0] (by decide) rfl) hF
      · have hS := hS.setb (t := 55) rfl hc
        refine st_skip hS rfl rfl (by decide) fun a hS => ?_
        refine st_skip hS rfl rfl (by decide) fun a hS => ?_
        refine st_skip hS rfl rfl (by decide) fun a hS => ?_
        refine st_val hS rfl rfl (by decide) (rv_pick_f (hS.ev rfl) (hS.ev rfl)) fun a hS => ?_
        refine st_val hS rfl rfl (by decide) (rv_move (hS.ev rfl)) fun a hS => ?_
        refine st_val hS rfl rfl (by decide) (rv_move (hS.ev rfl)) fun a hS => ?_
        refine st_val hS rfl rfl (by decide) (rv_eql (hS.ev rfl) (hS.ev rfl)) fun a hS => ?_
        refine st_val hS rfl rfl (by decide) (rv_move (hS.ev rfl)) fun a hS => ?_
        rcases ite_some hF with ⟨hc, hF⟩ | ⟨hc, hF⟩
        · have hS := hS.setb (t := 63) rfl hc
          refine st_val hS rfl rfl (by decide) (rv_load_agg (hS.ev rfl) ty_ag_28 (hM.get 1 rfl) ty_sz_28) fun a hS => ?_
          refine st_val hS rfl rfl (by decide) (rv_move (hS.ev rfl)) fun a hS => ?_
          obtain ⟨r154, hr, hF⟩ := bind_some hF
          refine st_wp hS rfl (wp_call hS rfl rfl (by decide) fn_ok_43 rfl (c_spec_IsClaw F p0_g_Size p0_g_Rows ([(IntKind.i64.wrap (x83.tdiv (IntKind.i64.wrap ((IntKind.i64.wrap (p0_g_Size * p0_g_Size)) * p0_g_Size)))), ((IntKind.i64.wrap (x83.tdiv (IntKind.i64.wrap (p0_g_Size * p0_g_Size)))).tmod p0_g_Size), ((IntKind.i64.wrap (x83.tdiv p0_g_Size)).tmod p0_g_Size), (x83.tmod p0_g_Size)] : List (Int)) p0_g_Rowsv v145 hr _ (hM.get 2 rfl) (rd_of_ow (hM.get 0 rfl))) fun v w a hK hS => ?_)
          obtain ⟨rfl, hN⟩ := hK
          have hM := hM.fra hN.fr
          refine st_val hS rfl rfl (by decide) (rv_pick_t (hS.ev rfl) (hS.ev rfl)) fun a hS => ?_
          refine st_val hS rfl rfl (by decide) (rv_pick_f (hS.ev rfl) (hS.ev rfl)) fun a hS => ?_
          refine wpList_nil ?_
          exact hJ4 r154 _ _ (hS.sub (sub_cons rfl (sub_cons rfl (sub_cons rfl (sub_cons rfl (sub_cons rfl sub_nil)))))) (hM.pick [1, 2, 0] (by decide) rfl) hF
        · have hS := hS.setb (t := 63) rfl hc
          refine st_skip hS rfl rfl (by decide) fun a hS => ?_
          refine st_skip hS rfl rfl (by decide) fun a hS => ?_
          refine st_skip hS rfl rfl (by decide) fun a hS => ?_
          refine st_val hS rfl rfl (by decide) (rv_pick_f (hS.ev rfl) (hS.ev rfl)) fun a hS => ?_
          refine st_val hS rfl rfl (by decide) (rv_pick_f (hS.ev rfl) (hS.ev rfl)) fun a hS => ?_
          refine wpList_nil ?_
          exact hJ4 false _ _ (hS.sub (sub_cons rfl (sub_cons rfl (sub_cons rfl (sub_cons rfl (sub_cons rfl sub_nil)))))) (hM.pick [1, 2, 0] (by decide) rfl) hF
    · refine cond_f hS rfl hc ?_
      refine wp_exit ?_
      cases hF
      exact hJ1 _ _ (hS.sub sub_nil) (hM.pick [] (by decide) rfl) (by have e := hX2 _ rfl; subst e; exact hF2)
  refine wp_region_lit ?_
  refine st_val hS rfl rfl (by decide) (rv_load_agg (hS.ev rfl) ty_ag_28 (hM.get 0 rfl) ty_sz_28) fun a hS => ?_
  obtain ⟨r155, hr, hF⟩ := bind_some hF
  refine st_wp hS rfl (wp_call hS rfl rfl (by decide) fn_ok_73 rfl (c_spec_IsGraph F p0_g_Size p0_g_Rows p0_g_Rowsv hr _ (hM.get 1 rfl)) fun v w a hK hS => ?_)
  obtain ⟨rfl, hN⟩ := hK
  have hM := hM.fra hN.fr
  refine st_val hS rfl rfl (by decide) (rv_move (hS.ev rfl)) fun a hS => ?_
  rcases ite_some hF with ⟨hc, hF⟩ | ⟨hc, hF⟩
  · have hS := hS.setb (t := 11) rfl hc
    refine st_val hS rfl rfl (by decide) (rv_move (hS.ev rfl)) fun a hS => ?_
    refine st_val hS rfl rfl (by decide) (rv_fieldAddr ty_fd_28_0 (hS.ev rfl)) fun a hS => ?_
    refine st_val hS rfl rfl (by decide) (rv_load_bx (hS.ev rfl) ty_ag_3 (hM.get 0 rfl) rfl) fun a hS => ?_
    refine st_val hS rfl rfl (by decide) (rv_fieldAddr ty_fd_28_0 (hS.ev rfl)) fun a hS => ?_
    refine st_val hS rfl rfl (by decide) (rv_load_bx (hS.ev rfl) ty_ag_3 (hM.get 0 rfl) rfl) fun a hS => ?_
    refine st_val hS rfl rfl (by decide) (rv_mul (hS.ev rfl) (hS.ev rfl)) fun a hS => ?_
    refine st_val hS rfl rfl (by decide) (rv_fieldAddr ty_fd_28_0 (hS.ev rfl)) fun a hS => ?_
    refine st_val hS rfl rfl (by decide) (rv_load_bx (hS.ev rfl) ty_ag_3 (hM.get 0 rfl) rfl) fun a hS => ?_
    refine st_val hS rfl rfl (by decide) (rv_mul (hS.ev rfl) (hS.ev rfl)) fun a hS => ?_
    refine st_val hS rfl rfl (by decide) (rv_fieldAddr ty_fd_28_0 (hS.ev rfl)) fun a hS => ?_
    refine st_val hS rfl rfl (by decide) (rv_load_bx (hS.ev rfl) ty_ag_3 (hM.get 0 rfl) rfl) fun a hS => ?_
    refine st_val hS rfl rfl (by decide) (rv_mul (hS.ev rfl) (hS.ev rfl)) fun a hS => ?_
    refine st_val hS rfl rfl (by decide) (rv_lss (hS.ev rfl) (hS.ev rfl)) fun a hS => ?_
    refine st_val hS rfl rfl (by decide) (rv_pick_t (hS.ev rfl) (hS.ev rfl)) fun a hS => ?_
    refine wpList_nil ?_
    exact hJ3 (decide (x83 < (IntKind.i64.wrap ((IntKind.i64.wrap ((IntKind.i64.wrap (p0_g_Size * p0_g_Size)) * p0_g_Size)) * p0_g_Size)))) _ _ (hS.sub (sub_cons rfl (sub_cons rfl (sub_cons rfl (sub_cons rfl sub_nil))))) (hM.pick [0, 1] (by decide) rfl) hF
  · have hS := hS.setb (t := 11) rfl hc
    refine st_skip hS rfl rfl (by decide) fun a hS => ?_
    refine st_skip hS rfl rfl (by decide) fun a hS => ?_
    refine st_skip hS rfl rfl (by decide) fun a hS => ?_
    refine st_skip hS rfl rfl (by decide) fun a hS => ?_
    refine st_skip hS rfl rfl (by decide) fun a hS => ?_
    refine st_skip hS rfl rfl (by decide) fun a hS => ?_
    refine st_skip hS rfl rfl (by decide) fun a hS => ?_
    refine st_skip hS rfl rfl (by decide) fun a hS => ?_
    refine st_skip hS rfl rfl (by decide) fun a hS => ?_
    refine st_skip hS rfl rfl (by decide) fun a hS => ?_
    refine st_skip hS rfl rfl (by decide) fun a hS => ?_
    refine st_skip hS rfl rfl (by decide) fun a hS => ?_
    refine st_skip hS rfl rfl (by decide) fun a hS => ?_
    refine st_val hS rfl rfl (by decide) (rv_pick_f (hS.ev rfl) (hS.ev rfl)) fun a hS => ?_
    refine wpList_nil ?_
    exact hJ3 false _ _ (hS.sub (sub_cons rfl (sub_cons rfl (sub_cons rfl (sub_cons rfl sub_nil))))) (hM.pick [0, 1] (by decide) rfl) hF


theorem c_spec_FindClaw (F : Nat) (p0_g_Size : Int) (p0_g_Rows : List Int) (p0_g_Rowsv : Value) {r : (List (Int)) × Bool} (hF : S_spec_FindClaw F p0_g_Size p0_g_Rows = some r) (w0 : World) (h0 : RdRow w0 p0_g_Rowsv (List.map (Value.int IntKind.i64) p0_g_Rows)) :
    Calls Try.prog 10 [(Value.agg #[(Value.int IntKind.i64 p0_g_Size), p0_g_Rowsv])].toArray w0 (retPost fun v w' => ∃ v10, v = (Value.tuple #[v10, (Value.bool r.2)]) ∧ Mem Nob w0 w' [(true, ow 3 v10 (List.map (Value.int IntKind.i64) r.1))]) := by
  have hM : Mem Nob w0 w0 [(false, rd p0_g_Rowsv (List.map (Value.int IntKind.i64) p0_g_Rows))] := (Mem.rcons (Mem.nil w0) h0 (by simp))
  refine enter2 Try.func10 rfl rfl rfl fun Q a hQr hQn hQp hS => ?_
  have hS : Sl 13 [(0, (Value.agg #[(Value.int IntKind.i64 p0_g_Size), p0_g_Rowsv]))] a := hS
  unfold S_spec_FindClaw at hF
  refine wp_seq_k fun K1 hK1 => ?_
  refine wp_region_lit ?_
  obtain ⟨b3, w, hr, hM⟩ := hM.boxE (ρ := a.eval) (dst := some 1) (ty := _) (pos := _) (af := _) (gd := _) (x := .tmp 0) (T := 28) [(Value.int IntKind.i64 p0_g_Size), p0_g_Rowsv] (hS.ev rfl) rfl
  refine st_val hS rfl rfl (by decide) hr fun a hS => ?_
  refine st_val hS rfl rfl (by decide) (rv_assign (hS.ev rfl)) fun a hS => ?_
  refine st_val hS rfl rfl (by decide) (rv_assign (hS.ev rfl)) fun a hS => ?_
  refine wpList_nil ?_
  refine hK1 _ _ ?_
  refine wp_seq_k fun K4 hK4 => ?_
  refine wp_region_lit ?_
  refine st_val hS rfl rfl (by decide) (rv_load_agg (hS.ev rfl) ty_ag_28 (hM.get 0 rfl) ty_sz_28) fun a hS => ?_
  obtain ⟨r7, hr, hF⟩ := bind_some hF
  refine st_wp hS rfl (wp_call hS rfl rfl (by decide) fn_ok_67 rfl (c_spec_l4Four F p0_g_Size p0_g_Rows 1 p0_g_Rowsv hr _ (hM.get 1 rfl)) fun v w a hK hS => ?_)
  obtain ⟨v8, rfl, hN⟩ := hK
  have hM := hM.add hN rfl
  refine st_val hS rfl rfl (by decide) (rv_move (hS.ev rfl)) fun a hS => ?_
  refine st_val hS rfl rfl (by decide) (rv_extract (hS.ev rfl) rfl) fun a hS => ?_
  refine st_val hS rfl rfl (by decide) (rv_extract (hS.ev rfl) rfl) fun a hS => ?_
  refine st_val hS rfl rfl (by decide) (rv_assign (hS.ev rfl)) fun a hS => ?_
  refine st_val hS rfl rfl (by decide) (rv_assign (hS.ev rfl)) fun a hS => ?_
  refine wpList_nil ?_
  refine hK4 _ _ ?_
  refine wp_seq_k fun K9 hK9 => ?_
  refine wp_region_lit ?_
  refine st_val hS rfl rfl (by decide) (rv_move (hS.ev rfl)) fun a hS => ?_
  refine st_val hS rfl rfl (by decide) (rv_move (hS.ev rfl)) fun a hS => ?_
  refine st_val hS rfl rfl (by decide) (rv_assign (hS.ev rfl)) fun a hS => ?_
  refine st_val hS rfl rfl (by decide) (rv_assign (hS.ev rfl)) fun a hS => ?_
  refine wpList_nil ?_
  refine hK9 _ _ ?_
  refine wp_ret ?_
  cases hF
  exact hQr _ _ (r_2 hS rfl rfl rfl ⟨v8, rfl, hM.pick [0] (by decide) rfl⟩)


theorem c_laws_toIntS (F : Nat) (p0_a : List Int) (p0_av : Value) {r : (List (Int))} (hF : S_laws_toIntS F p0_a = some r) (w0 : World) (h0 : RdRow w0 p0_av (List.map (Value.int IntKind.i64) p0_a)) :
    Calls Try.prog 68 [p0_av].toArray w0 (retPost fun v w' => Mem Nob w0 w' [(true, ow 3 v (List.map (Value.int IntKind.i64) r))]) := by
  have hM : Mem Nob w0 w0 [(false, rd p0_av (List.map (Value.int IntKind.i64) p0_a))] := (Mem.rcons (Mem.nil w0) h0 (by simp))
  refine enter2 Try.func68 rfl rfl rfl fun Q a hQr hQn hQp hS => ?_
  have hS : Sl 22 [(0, p0_av)] a := hS
  unfold S_laws_toIntS at hF
  refine wp_seq_k fun K1 hK1 => ?_
  refine wp_region_lit ?_
  refine st_val hS rfl rfl (by decide) (rv_assign (hS.ev rfl)) fun a hS => ?_
  refine wpList_nil ?_
  refine hK1 _ _ ?_
  refine wp_seq_k fun K2 hK2 => ?_
  refine wp_region_lit ?_
  refine st_val hS rfl rfl (by decide) (rv_move (hS.ev rfl)) fun a hS => ?_
  refine st_val hS rfl rfl (by decide) (rv_len_rowM Try.underlying22 (hS.ev rfl) (hM.get 0 rfl)) fun a hS => ?_
  obtain ⟨_, hx, hF⟩ := bind_some hF
  obtain ⟨v4, w, hr, hM⟩ := hM.makeE (f := (Value.int IntKind.i64)) (c := (0 : Int)) (ρ := a.eval) (dst := some 7) (ty := _) (pos := _) (af := _) (gd := _) (x := .tmp 6) (y := .tmp 6) Try.underlying22 ty_el_3 i64_one (by decide) (hS.ev rfl) (hS.ev rfl) (mkO_some hx)
  refine st_val hS rfl rfl (by decide) hr fun a hS => ?_
  refine st_val hS rfl rfl (by decide) (rv_assign (hS.ev rfl)) fun a hS => ?_
  refine wpList_nil ?_
  refine hK2 _ _ ?_
  refine wp_seq_k fun K5 hK5 => ?_
  have hJ1 : ∀ (l34 : List Int) (a : Act) (w : World), Sl 22 [(3, v4)] a → Mem Nob w0 w [(true, ow 3 v4 (List.map (Value.int IntKind.i64) l34))] → S_laws_toIntS_j1 F l34 = some r → K5 a w := by
    intro l34 a w hS hM hF
    unfold S_laws_toIntS_j1 at hF
    refine hK5 _ _ ?_
    refine wp_seq_k fun K35 hK35 => ?_
    refine wp_region_lit ?_
    refine st_val hS rfl rfl (by decide) (rv_move (hS.ev rfl)) fun a hS => ?_
    refine st_val hS rfl rfl (by decide) (rv_assign (hS.ev rfl)) fun a hS => ?_
    refine wpList_nil ?_
    refine hK35 _ _ ?_
    refine wp_ret ?_
    cases hF
    exact hQr _ _ (r_1 hS rfl rfl (hM.pick [0] (by decide) rfl))
  refine wp_seq_k fun K36 hK36 => ?_
  refine wp_region_lit ?_
  refine st_val hS rfl rfl (by decide) (rv_assign (hS.ev rfl)) fun a hS => ?_
  refine wpList_nil ?_
  refine hK36 _ _ ?_
  refine wp_block ?_
  obtain ⟨lb2, hl2, hF2⟩ := bind_some hF
  refine wp_loop_sh (fun s => S_laws_toIntS_l2 F p0_a s.1 s.2) (fun s a w => Sl 22 [(0, p0_av), (3, v4), (4, (Value.int IntKind.i64 s.2))] a ∧ Mem Nob w0 w [(false, rd p0_av (List.map (Value.int IntKind.i64) p0_a)), (true, ow 3 v4 (List.map (Value.int IntKind.i64) s.1))]) hl2 ⟨(hS.sub (sub_cons rfl (sub_cons rfl (sub_cons rfl sub_nil)))), (hM.pick [1, 0] (by decide) rfl)⟩ ?_
  rintro K2 ⟨l46, x47⟩ a w res2 ⟨hS, hM⟩ hF hN2 hX2
  have hF : S_laws_toIntS_l2 F p0_a l46 x47 = some res2 := hF
  have hS : Sl 22 [(0, p0_av), (3, v4), (4, (Value.int IntKind.i64 x47))] a := hS
  have hM : Mem Nob w0 w [(false, rd p0_av (List.map (Value.int IntKind.i64) p0_a)), (true, ow 3 v4 (List.map (Value.int IntKind.i64) l46))] := hM
  unfold S_laws_toIntS_l2 at hF
  refine wp_seq_k fun K56 hK56 => ?_
  refine wp_seq_k fun K58 hK58 => ?_
  refine wp_region_lit ?_
  refine st_val hS rfl rfl (by decide) (rv_move (hS.ev rfl)) fun a hS => ?_
  refine st_val hS rfl rfl (by decide) (rv_move (hS.ev rfl)) fun a hS => ?_
  refine st_val hS rfl rfl (by decide) (rv_len_rowM Try.underlying22 (hS.ev rfl) (hM.get 0 rfl)) fun a hS => ?_
  refine st_val hS rfl rfl (by decide) (rv_lss (hS.ev rfl) (hS.ev rfl)) fun a hS => ?_
  refine wpList_nil ?_
  refine hK58 _ _ ?_
  rcases ite_some hF with ⟨hc, hF⟩ | ⟨hc, hF⟩
  · refine cond_t hS rfl hc ?_
    refine wp_skip ?_
    refine hK56 _ _ ?_
    refine wp_seq_k fun K59 hK59 => ?_
    refine wp_block ?_
    refine wp_region_lit ?_
    refine st_val hS rfl rfl (by decide) (rv_move (hS.ev rfl)) fun a hS => ?_
    refine st_val hS rfl rfl (by decide) (rv_move (hS.ev rfl)) fun a hS => ?_
    refine st_val hS rfl rfl (by decide) (rv_move (hS.ev rfl)) fun a hS => ?_
    refine st_val hS rfl rfl (by decide) (rv_move (hS.ev rfl)) fun a hS => ?_
    obtain ⟨x62, hx, hF⟩ := bind_some hF
    obtain ⟨hi0, hi1, hex62⟩ := idxL_some hx
    refine st_val hS rfl rfl (by decide) (rv_indexAddr Try.underlying22 ty_el_3 (hS.ev rfl) (hS.ev rfl) (hM.get 0 rfl) hi0 (map_len hi1)) fun a hS => ?_
    refine st_val hS rfl rfl (by decide) (rv_load_el (hS.ev rfl) ty_ag_3 (hM.get 0 rfl) (mget hex62)) fun a hS => ?_
    obtain ⟨x63, hx, hF⟩ := bind_some hF
    obtain ⟨hi0, hi1, hex63⟩ := idxL_some hx
    refine st_val hS rfl rfl (by decide) (rv_indexAddr Try.underlying22 ty_el_3 (hS.ev rfl) (hS.ev rfl) (rd_of_ow (hM.get 1 rfl)) hi0 (map_len hi1)) fun a hS => ?_
    have hM := hM.pick [1, 0] (by decide) rfl
    obtain ⟨w, hr, hM⟩ := hM.st_el (f := (Value.int IntKind.i64)) (n := x47.toNat) (c := x62) (ρ := a.eval) (dst := none) (ty := _) (pos := _) (af := _) (gd := _) (x := .tmp 20) (y := .tmp 19) i64_one (hS.ev rfl) (hS.ev rfl) ty_sz_3 (List.getElem?_eq_some_iff.1 hex63).1
    refine st_unit hS rfl rfl hr ?_
    refine wpList_nil ?_
    refine hK59 _ _ ?_
    refine wp_region_lit ?_
    refine st_val hS rfl rfl (by decide) (rv_move (hS.ev rfl)) fun a hS => ?_
    refine st_val hS rfl rfl (by decide) (rv_add (hS.ev rfl) (hS.ev rfl)) fun a hS => ?_
    refine st_val hS rfl rfl (by decide) (rv_assign (hS.ev rfl)) fun a hS => ?_
    refine wpList_nil ?_
    cases hF
    exact hN2 _ _ _ rfl ⟨(hS.sub (sub_cons rfl (sub_cons rfl (sub_cons rfl sub_nil)))), (hM.pick [1, 0] (by decide) rfl)⟩
  · refine cond_f hS rfl hc ?_
    refine wp_exit ?_
    cases hF
    exact hJ1 l46 _ _ (hS.sub (sub_cons rfl sub_nil)) (hM.pick [1] (by decide) rfl) (by have e := hX2 _ rfl; subst e; exact hF2)


theorem c_laws_toGraph (F : Nat) (p0_a_Size : Int) (p0_a_Rows : List Int) (p0_a_Rowsv : Value) {r : Int × (List (Int))} (hF : S_laws_toGraph F p0_a_Size p0_a_Rows = some r) (w0 : World) (h0 : RdRow w0 p0_a_Rowsv (List.map (Value.int IntKind.i64) p0_a_Rows)) :
    Calls Try.prog 11 [(Value.agg #[(Value.int IntKind.i64 p0_a_Size), p0_a_Rowsv])].toArray w0 (retPost fun v w' => ∃ v16, v = (Value.agg #[(Value.int IntKind.i64 r.1), v16]) ∧ Mem Nob w0 w' [(true, ow 3 v16 (List.map (Value.int IntKind.i64) r.2))]) := by
  have hM : Mem Nob w0 w0 [(false, rd p0_a_Rowsv (List.map (Value.int IntKind.i64) p0_a_Rows))] := (Mem.rcons (Mem.nil w0) h0 (by simp))
  refine enter2 Try.func11 rfl rfl rfl fun Q a hQr hQn hQp hS => ?_
  have hS : Sl 12 [(0, (Value.agg #[(Value.int IntKind.i64 p0_a_Size), p0_a_Rowsv]))] a := hS
  unfold S_laws_toGraph at hF
  refine wp_seq_k fun K1 hK1 => ?_
  refine wp_region_lit ?_
  obtain ⟨b4, w, hr, hM⟩ := hM.boxE (ρ := a.eval) (dst := some 1) (ty := _) (pos := _) (af := _) (gd := _) (x := .tmp 0) (T := 24) [(Value.int IntKind.i64 p0_a_Size), p0_a_Rowsv] (hS.ev rfl) rfl
  refine st_val hS rfl rfl (by decide) hr fun a hS => ?_
  obtain ⟨b5, w, hr, hM⟩ := hM.allocE (ρ := a.eval) (dst := some 2) (ty := _) (pos := _) (af := _) (gd := _) (T := 28) (P := Try.prog) [(Value.int IntKind.i64 0), (Value.slice none 0 0)] ty_zr_28 rfl
  refine st_val hS rfl rfl (by decide) hr fun a hS => ?_
  have hM := hM.addNil 3
  refine wpList_nil ?_
  refine hK1 _ _ ?_
  refine wp_seq_k fun K6 hK6 => ?_
  refine wp_region_lit ?_
  obtain ⟨b8, w, hr, hM⟩ := hM.allocE (ρ := a.eval) (dst := some 3) (ty := _) (pos := _) (af := _) (gd := _) (T := 28) (P := Try.prog) [(Value.int IntKind.i64 0), (Value.slice none 0 0)] ty_zr_28 rfl
  refine st_val hS rfl rfl (by decide) hr fun a hS => ?_
  have hM := hM.addNil 3
  refine wpList_nil ?_
  refine hK6 _ _ ?_
  refine wp_seq_k fun K9 hK9 => ?_
  refine wp_region_lit ?_
  refine st_val hS rfl rfl (by decide) (rv_fieldAddr ty_fd_24_0 (hS.ev rfl)) fun a hS => ?_
  refine st_val hS rfl rfl (by decide) (rv_load_bx (hS.ev rfl) ty_ag_3 (hM.get 4 rfl) rfl) fun a hS => ?_
  refine st_val hS rfl rfl (by decide) (rv_fieldAddr ty_fd_28_0 (hS.ev rfl)) fun a hS => ?_
  have hM := hM.pick [1, 0, 2, 3, 4, 5] (by decide) rfl
  obtain ⟨w, hr, hM⟩ := hM.st_bx1 (n := 0) (cs' := [(Value.int IntKind.i64 p0_a_Size), (Value.slice none 0 0)]) (ρ := a.eval) (dst := none) (ty := _) (pos := _) (af := _) (gd := _) (x := .tmp 6) (y := .tmp 5) (hS.ev rfl) (hS.ev rfl) ty_sz_3 rfl rfl rfl
  refine st_unit hS rfl rfl hr ?_
  refine wpList_nil ?_
  refine hK9 _ _ ?_
  refine wp_seq_k fun K10 hK10 => ?_
  refine wp_region_lit ?_
  refine st_val hS rfl rfl (by decide) (rv_fieldAddr ty_fd_24_1 (hS.ev rfl)) fun a hS => ?_
  refine st_val hS rfl rfl (by decide) (rv_load_bx (hS.ev rfl) ty_ag_22 (hM.get 4 rfl) rfl) fun a hS => ?_
  obtain ⟨r13, hr, hF⟩ := bind_some hF
  refine st_wp hS rfl (wp_call hS rfl rfl (by decide) fn_ok_68 rfl (c_laws_toIntS F p0_a_Rows p0_a_Rowsv hr _ (hM.get 5 rfl)) fun v14 w a hK hS => ?_)
  have hN := hK
  have hM := hM.add hN rfl
  refine st_val hS rfl rfl (by decide) (rv_fieldAddr ty_fd_28_1 (hS.ev rfl)) fun a hS => ?_
  have hM := hM.pick [1, 0, 2, 3, 4, 5, 6] (by decide) rfl
  obtain ⟨w, hr, hM⟩ := hM.st_bx1 (n := 1) (cs' := [(Value.int IntKind.i64 p0_a_Size), v14]) (ρ := a.eval) (dst := none) (ty := _) (pos := _) (af := _) (gd := _) (x := .tmp 10) (y := .tmp 9) (hS.ev rfl) (hS.ev rfl) ty_sz_22 (rd_one (rd_of_ow (hM.get 1 rfl))) rfl rfl
  refine st_unit hS rfl rfl hr ?_
  refine wpList_nil ?_
  refine hK10 _ _ ?_
  refine wp_seq_k fun K15 hK15 => ?_
  refine wp_region_lit ?_
  refine st_val hS rfl rfl (by decide) (rv_load_agg (hS.ev rfl) ty_ag_28 (hM.get 0 rfl) ty_sz_28) fun a hS => ?_
  have hM := hM.pick [4, 0, 1, 2, 3, 5, 6] (by decide) rfl
  obtain ⟨w, hr, hM⟩ := hM.st_agg (us := [(Value.int IntKind.i64 p0_a_Size), v14]) (ρ := a.eval) (dst := none) (ty := _) (pos := _) (af := _) (gd := _) (x := .tmp 2) (y := .tmp 11) (hS.ev rfl) (hS.ev rfl) ty_sz_28 (all1_cons rfl (all1_cons (rd_one (rd_of_ow (hM.get 2 rfl))) all1_nil)) rfl
  refine st_unit hS rfl rfl hr ?_
  refine wpList_nil ?_
  refine hK15 _ _ ?_
  refine wp_ret ?_
  cases hF
  exact hQr _ _ (r_c hS rfl ⟨_, rfl, run_loadAgg ty_ag_28 (hM.get 0 rfl) ty_sz_28⟩ ⟨v14, rfl, hM.pick [2] (by decide) rfl⟩)


theorem c_slices_Index_int (F : Nat) (p0_s : List Int) (p1_v : Int) (p0_sv : Value) {r : Int} (hF : S_slices_Index_int F p0_s p1_v = some r) (w0 : World) (h0 : RdRow w0 p0_sv (List.map (Value.int IntKind.i64) p0_s)) :
    Calls Try.prog 84 [p0_sv, (Value.int IntKind.i64 p1_v)].toArray w0 (retPost fun v w' => v = (Value.int IntKind.i64 r) ∧ Mem Nob w0 w' []) := by
  have hM : Mem Nob w0 w0 [(false, rd p0_sv (List.map (Value.int IntKind.i64) p0_s))] := (Mem.rcons (Mem.nil w0) h0 (by simp))
  refine enter2 Try.func84 rfl rfl rfl fun Q a hQr hQn hQp hS => ?_
  have hS : Sl 19 [(0, p0_sv), (1, (Value.int IntKind.i64 p1_v))] a := hS
  unfold S_slices_Index_int at hF
  refine wp_seq_k fun K1 hK1 => ?_
  refine wp_region_lit ?_
  refine st_val hS rfl rfl (by decide) (rv_assign (hS.ev rfl)) fun a hS => ?_
  refine wpList_nil ?_
  refine hK1 _ _ ?_
  refine wp_seq_k fun K2 hK2 => ?_
  have hJ1 : ∀ (a : Act) (w : World), Sl 19 [] a → Mem Nob w0 w [] → S_slices_Index_int_j1 F = some r → K2 a w := by
    intro a w hS hM hF
    unfold S_slices_Index_int_j1 at hF
    refine hK2 _ _ ?_
    refine wp_seq_k fun K31 hK31 => ?_
    refine wp_region_lit ?_
    refine st_val hS rfl rfl (by decide) (rv_assign (hS.ev rfl)) fun a hS => ?_
    refine wpList_nil ?_
    refine hK31 _ _ ?_
    refine wp_ret ?_
    cases hF
    exact hQr _ _ (r_1 hS rfl rfl ⟨rfl, hM.pick [] (by decide) rfl⟩)
  refine wp_seq_k fun K32 hK32 => ?_
  refine wp_region_lit ?_
  refine st_val hS rfl rfl (by decide) (rv_move (hS.ev rfl)) fun a hS => ?_
  refine st_val hS rfl rfl (by decide) (rv_len_rowM Try.underlying22 (hS.ev rfl) (hM.get 0 rfl)) fun a hS => ?_
  refine st_val hS rfl rfl (by decide) (rv_move (hS.ev rfl)) fun a hS => ?_
  refine wpList_nil ?_
  refine hK32 _ _ ?_
  refine wp_block ?_
  obtain ⟨lb2, hl2, hF2⟩ := bind_some hF
  refine wp_loop_sh (fun s => S_slices_Index_int_l2 F p0_s p1_v s) (fun s a w => Sl 19 [(0, p0_sv), (1, (Value.int IntKind.i64 p1_v)), (7, (Value.int IntKind.i64 (p0_s.length : Int))), (8, (Value.int IntKind.i64 s))] a ∧ Mem Nob w0 w [(false, rd p0_sv (List.map (Value.int IntKind.i64) p0_s))]) hl2 ⟨(hS.sub (sub_cons rfl (sub_cons rfl (sub_cons rfl (sub_cons rfl sub_nil))))), (hM.pick [0] (by decide) rfl)⟩ ?_
  rintro K2 x33 a w res2 ⟨hS, hM⟩ hF hN2 hX2
  have hF : S_slices_Index_int_l2 F p0_s p1_v x33 = some res2 := hF
  have hS : Sl 19 [(0, p0_sv), (1, (Value.int IntKind.i64 p1_v)), (7, (Value.int IntKind.i64 (p0_s.length : Int))), (8, (Value.int IntKind.i64 x33))] a := hS
  have hM : Mem Nob w0 w [(false, rd p0_sv (List.map (Value.int IntKind.i64) p0_s))] := hM
  unfold S_slices_Index_int_l2 at hF
  refine wp_seq_k fun K47 hK47 => ?_
  refine wp_region_lit ?_
  refine st_val hS rfl rfl (by decide) (rv_lss (hS.ev rfl) (hS.ev rfl)) fun a hS => ?_
  refine wpList_nil ?_
  refine hK47 _ _ ?_
  refine wp_seq_k fun K48 hK48 => ?_
  rcases ite_some hF with ⟨hc, hF⟩ | ⟨hc, hF⟩
  · refine cond_t hS rfl hc ?_
    refine wp_skip ?_
    refine hK48 _ _ ?_
    refine wp_seq_k fun K49 hK49 => ?_
    refine wp_block ?_
    refine wp_seq_k fun K55 hK55 => ?_
    refine wp_region_lit ?_
    refine st_val hS rfl rfl (by decide) (rv_move (hS.ev rfl)) fun a hS => ?_
    refine st_val hS rfl rfl (by decide) (rv_assign (hS.ev rfl)) fun a hS => ?_
    refine wpList_nil ?_
    refine hK55 _ _ ?_
    refine wp_seq_k fun K56 hK56 => ?_
    refine wp_region_lit ?_
    refine st_val hS rfl rfl (by decide) (rv_move (hS.ev rfl)) fun a hS => ?_
    refine st_val hS rfl rfl (by decide) (rv_move (hS.ev rfl)) fun a hS => ?_
    refine st_val hS rfl rfl (by decide) (rv_move (hS.ev rfl)) fun a hS => ?_
    obtain ⟨x58, hx, hF⟩ := bind_some hF
    obtain ⟨hi0, hi1, hex58⟩ := idxL_some hx
    refine st_val hS rfl rfl (by decide) (rv_indexAddr Try.underlying22 ty_el_3 (hS.ev rfl) (hS.ev rfl) (hM.get 0 rfl) hi0 (map_len hi1)) fun a hS => ?_
    refine st_val hS rfl rfl (by decide) (rv_load_el (hS.ev rfl) ty_ag_3 (hM.get 0 rfl) (mget hex58)) fun a hS => ?_
    refine st_val hS rfl rfl (by decide) (rv_eql (hS.ev rfl) (hS.ev rfl)) fun a hS => ?_
    refine wpList_nil ?_
    refine hK56 _ _ ?_
    rcases ite_some hF with ⟨hc, hF⟩ | ⟨hc, hF⟩
    · refine cond_t hS rfl hc ?_
      refine wp_seq_k fun K59 hK59 => ?_
      refine wp_region_lit ?_
      refine st_val hS rfl rfl (by decide) (rv_move (hS.ev rfl)) fun a hS => ?_
      refine st_val hS rfl rfl (by decide) (rv_assign (hS.ev rfl)) fun a hS => ?_
      refine wpList_nil ?_
      refine hK59 _ _ ?_
      refine wp_ret ?_
      cases hF
      have e := hX2 _ rfl
      subst e
      have hF := hF2
      cases hF
      exact hQr _ _ (r_1 hS rfl rfl ⟨rfl, hM.pick [] (by decide) rfl⟩)
    · refine cond_f hS rfl hc ?_
      refine wp_skip ?_
      refine hK49 _ _ ?_
      refine wp_region_lit ?_
      refine st_val hS rfl rfl (by decide) (rv_add (hS.ev rfl) (hS.ev rfl)) fun a hS => ?_
      refine st_val hS rfl rfl (by decide) (rv_move (hS.ev rfl)) fun a hS => ?_
      refine wpList_nil ?_
      cases hF
      exact hN2 _ _ _ rfl ⟨(hS.sub (sub_cons rfl (sub_cons rfl (sub_cons rfl (sub_cons rfl sub_nil))))), (hM.pick [0] (by decide) rfl)⟩
  · refine cond_f hS rfl hc ?_
    refine wp_exit ?_
    cases hF
    exact hJ1 _ _ (hS.sub sub_nil) (hM.pick [] (by decide) rfl) (by have e := hX2 _ rfl; subst e; exact hF2)


theorem c_slices_Contains_int (F : Nat) (p0_s : List Int) (p1_v : Int) (p0_sv : Value) {r : Bool} (hF : S_slices_Contains_int F p0_s p1_v = some r) (w0 : World) (h0 : RdRow w0 p0_sv (List.map (Value.int IntKind.i64) p0_s)) :
    Calls Try.prog 106 [p0_sv, (Value.int IntKind.i64 p1_v)].toArray w0 (retPost fun v w' => v = (Value.bool r) ∧ Mem Nob w0 w' []) := by
  have hM : Mem Nob w0 w0 [(false, rd p0_sv (List.map (Value.int IntKind.i64) p0_s))] := (Mem.rcons (Mem.nil w0) h0 (by simp))
  refine enter2 Try.func106 rfl rfl rfl fun Q a hQr hQn hQp hS => ?_
  have hS : Sl 9 [(0, p0_sv), (1, (Value.int IntKind.i64 p1_v))] a := hS
  unfold S_slices_Contains_int at hF
  refine wp_seq_k fun K1 hK1 => ?_
  refine wp_region_lit ?_
  refine st_val hS rfl rfl (by decide) (rv_assign (hS.ev rfl)) fun a hS => ?_
  refine wpList_nil ?_
  refine hK1 _ _ ?_
  refine wp_seq_k fun K2 hK2 => ?_
  refine wp_region_lit ?_
  refine st_val hS rfl rfl (by decide) (rv_move (hS.ev rfl)) fun a hS => ?_
  refine st_val hS rfl rfl (by decide) (rv_move (hS.ev rfl)) fun a hS => ?_
  obtain ⟨r4, hr, hF⟩ := bind_some hF
  refine st_wp hS rfl (wp_call hS rfl rfl (by decide) fn_ok_84 rfl (c_slices_Index_int F p0_s p1_v p0_sv hr _ (hM.get 0 rfl)) fun v w a hK hS => ?_)
  obtain ⟨rfl, hN⟩ := hK
  have hM := hM.fra hN.fr
  refine st_val hS rfl rfl (by decide) (rv_geq (hS.ev rfl) (hS.ev rfl)) fun a hS => ?_
  refine st_val hS rfl rfl (by decide) (rv_assign (hS.ev rfl)) fun a hS => ?_
  refine wpList_nil ?_
  refine hK2 _ _ ?_
  refine wp_ret ?_
  cases hF
  exact hQr _ _ (r_1 hS rfl rfl ⟨rfl, hM.pick [] (by decide) rfl⟩)


theorem c_impl_has (F : Nat) (p0_set : Int) (p1_v : Int) {r : Bool} (hF : S_impl_has F p0_set p1_v = some r) (w0 : World) :
    Calls Try.prog 108 [(Value.int IntKind.i64 p0_set), (Value.int IntKind.i64 p1_v)].toArray w0 (retPost fun v w' => v = (Value.bool r) ∧ Mem Nob w0 w' []) := by
  have hM : Mem Nob w0 w0 [] := (Mem.nil w0)
  refine enter2 Try.func108 rfl rfl rfl fun Q a hQr hQn hQp hS => ?_
  have hS : Sl 10 [(0, (Value.int IntKind.i64 p0_set)), (1, (Value.int IntKind.i64 p1_v))] a := hS
  unfold S_impl_has at hF
  refine wp_seq_k fun K1 hK1 => ?_
  refine wp_region_lit ?_
  refine st_val hS rfl rfl (by decide) (rv_assign (hS.ev rfl)) fun a hS => ?_
  refine wpList_nil ?_
  refine hK1 _ _ ?_
  refine wp_seq_k fun K2 hK2 => ?_
  refine wp_region_lit ?_
  refine st_val hS rfl rfl (by decide) (rv_move (hS.ev rfl)) fun a hS => ?_
  refine st_val hS rfl rfl (by decide) (rv_move (hS.ev rfl)) fun a hS => ?_
  obtain ⟨_, hx, hF⟩ := bind_some hF
  have hi0 := nnO_some hx
  refine st_val hS rfl rfl (by decide) (rv_shr (hS.ev rfl) (hS.ev rfl) hi0) fun a hS => ?_
  refine st_val hS rfl rfl (by decide) (rv_and (hS.ev rfl) (hS.ev rfl)) fun a hS => ?_
  refine st_val hS rfl rfl (by decide) (rv_eql (hS.ev rfl) (hS.ev rfl)) fun a hS => ?_
  refine st_val hS rfl rfl (by decide) (rv_assign (hS.ev rfl)) fun a hS => ?_
  refine wpList_nil ?_
  refine hK2 _ _ ?_
  refine wp_ret ?_
  cases hF
  exact hQr _ _ (r_1 hS rfl rfl ⟨rfl, hM.pick [] (by decide) rfl⟩)


theorem c_impl_within (F : Nat) (p0_n : Int) (p1_low : Int) (p2_high : Int) {r : Bool} (hF : S_impl_within F p0_n p1_low p2_high = some r) (w0 : World) :
    Calls Try.prog 76 [(Value.int IntKind.i64 p0_n), (Value.int IntKind.i64 p1_low), (Value.int IntKind.i64 p2_high)].toArray w0 (retPost fun v w' => v = (Value.bool r) ∧ Mem Nob w0 w' []) := by
  have hM : Mem Nob w0 w0 [] := (Mem.nil w0)
  refine enter2 Try.func76 rfl rfl rfl fun Q a hQr hQn hQp hS => ?_
  have hS : Sl 15 [(0, (Value.int IntKind.i64 p0_n)), (1, (Value.int IntKind.i64 p1_low)), (2, (Value.int IntKind.i64 p2_high))] a := hS
  unfold S_impl_within at hF
  refine wp_seq_k fun K1 hK1 => ?_
  refine wp_region_lit ?_
  refine st_val hS rfl rfl (by decide) (rv_assign (hS.ev rfl)) fun a hS => ?_
  refine wpList_nil ?_
  refine hK1 _ _ ?_
  refine wp_seq_k fun K2 hK2 => ?_
  have hJ1 : ∀ (p3 : Bool) (a : Act) (w : World), Sl 15 [(6, (Value.bool p3))] a → Mem Nob w0 w [] → S_impl_within_j1 F p3 = some r → K2 a w := by
    intro p3 a w hS hM hF
    unfold S_impl_within_j1 at hF
    refine hK2 _ _ ?_
    refine wp_ret ?_
    cases hF
    exact hQr _ _ (r_1 hS rfl rfl ⟨rfl, hM.pick [] (by decide) rfl⟩)
  refine wp_region_lit ?_
  refine st_val hS rfl rfl (by decide) (rv_move (hS.ev rfl)) fun a hS => ?_
  refine st_val hS rfl rfl (by decide) (rv_move (hS.ev rfl)) fun a hS => ?_
  refine st_val hS rfl rfl (by decide) (rv_leq (hS.ev rfl) (hS.ev rfl)) fun a hS => ?_
  refine st_val hS rfl rfl (by decide) (rv_move (hS.ev rfl)) fun a hS => ?_
  rcases ite_some hF with ⟨hc, hF⟩ | ⟨hc, hF⟩
  · have hS := hS.setb (t := 10) rfl hc
    refine st_val hS rfl rfl (by decide) (rv_move (hS.ev rfl)) fun a hS => ?_
    refine st_val hS rfl rfl (by decide) (rv_move (hS.ev rfl)) fun a hS => ?_
    refine st_val hS rfl rfl (by decide) (rv_leq (hS.ev rfl) (hS.ev rfl)) fun a hS => ?_
    refine st_val hS rfl rfl (by decide) (rv_pick_t (hS.ev rfl) (hS.ev rfl)) fun a hS => ?_
    refine st_val hS rfl rfl (by decide) (rv_assign (hS.ev rfl)) fun a hS => ?_
    refine wpList_nil ?_
    exact hJ1 (decide (p0_n ≤ p2_high)) _ _ (hS.sub (sub_cons rfl sub_nil)) (hM.pick [] (by decide) rfl) hF
  · have hS := hS.setb (t := 10) rfl hc
    refine st_skip hS rfl rfl (by decide) fun a hS => ?_
    refine st_skip hS rfl rfl (by decide) fun a hS => ?_
    refine st_skip hS rfl rfl (by decide) fun a hS => ?_
    refine st_val hS rfl rfl (by decide) (rv_pick_f (hS.ev rfl) (hS.ev rfl)) fun a hS => ?_
    refine st_val hS rfl rfl (by decide) (rv_assign (hS.ev rfl)) fun a hS => ?_
    refine wpList_nil ?_
    exact hJ1 false _ _ (hS.sub (sub_cons rfl sub_nil)) (hM.pick [] (by decide) rfl) hF


end Go.Proofs.Ytilfniehellmmaa
