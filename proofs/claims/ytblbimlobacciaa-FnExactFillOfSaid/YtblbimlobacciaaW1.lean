/- Proved here: that each Go function does what its shallow function says -/
import Derived.Test.YtblbimlobacciaaSh
import Derived.Test.YtblbimlobacciaaTy
import Derived.Test.YtblbimlobacciaaK13
import Derived.Test.YtblbimlobacciaaK14
import Derived.Test.YtblbimlobacciaaW0
namespace Go.Proofs.Ytblbimlobacciaa
open Go Go.RowKit
set_option linter.unusedVariables false
set_option linter.unusedSimpArgs false
set_option maxRecDepth 100000
set_option maxHeartbeats 40000000

open Go.IntKind (i64)
open Go.Value (int)
theorem c_spec_LaterNeighbours (F : Nat) (p0_g_Size : Int) (p0_g_Rows : List Int) (p1_order : List Int) (p2_v : Int) (p0_g_Rowsv : Value) (p1_orderv : Value) {r : Int} (hF : S_spec_LaterNeighbours F p0_g_Size p0_g_Rows p1_order p2_v = some r) (w0 : World) (h0 : RdRow w0 p0_g_Rowsv (List.map (int i64) p0_g_Rows)) (h1 : RdRow w0 p1_orderv (List.map (int i64) p1_order)) :
    Calls Try.prog 31 [(Value.agg #[(int i64 p0_g_Size), p0_g_Rowsv]), p1_orderv, (int i64 p2_v)].toArray w0 (retPost fun v w' => v = (int i64 r) ∧ Mem Nob w0 w' []) := by
 have hM : Mem Nob w0 w0 [(false, rd p0_g_Rowsv (List.map (int i64) p0_g_Rows)), (false, rd p1_orderv (List.map (int i64) p1_order))] := (Mem.rcons (Mem.rcons (Mem.nil w0) h1 (by simp)) h0 (by simp))
 refine enter2 Try.func31 rfl rfl rfl fun Q a hQr hQn hQp hS => ?_
 have hS : Sl 55 [(0, (Value.agg #[(int i64 p0_g_Size), p0_g_Rowsv])), (1, p1_orderv), (2, (int i64 p2_v))] a := hS
 unfold S_spec_LaterNeighbours at hF
 refine wp_seq_k fun K1 hK1 => ?_
 refine wp_region_lit ?_
 obtain ⟨b3, w, hr, hM⟩ := hM.boxE (ρ := a.eval) (dst := some 3) (ty := _) (pos := _) (af := _) (gd := _) (x := .tmp 0) (T := 29) [(int i64 p0_g_Size), p0_g_Rowsv] (hS.ev rfl) rfl
 refine st_val hS rfl rfl (by decide) hr fun a hS => ?_
 refine st_val hS rfl rfl (by decide) (rv_assign (hS.ev rfl)) fun a hS => ?_
 refine wpList_nil ?_
 refine hK1 _ _ ?_
 refine wp_seq_k fun K4 hK4 => ?_
 refine wp_seq_k fun K10 hK10 => ?_
 have hJ1 : ∀ (p12 : Bool) (a : Act) (w : World), Sl 55 [(1, p1_orderv), (2, (int i64 p2_v)), (3, (fdp b3 0)), (22, (Value.bool p12))] a → Mem Nob w0 w [(false, rd p1_orderv (List.map (int i64) p1_order)), (true, bx b3 29 [(int i64 p0_g_Size), p0_g_Rowsv]), (false, rd p0_g_Rowsv (List.map (int i64) p0_g_Rows))] → S_spec_LaterNeighbours_j1 F p0_g_Size p0_g_Rows p1_order p2_v p12 = some r → K10 a w := by
  intro p12 a w hS hM hF
  unfold S_spec_LaterNeighbours_j1 at hF
  refine hK10 _ _ ?_
  rcases ite_some hF with ⟨hc, hF⟩ | ⟨hc, hF⟩
  ·refine cond_t hS rfl hc ?_
   refine wp_seq_k fun K13 hK13 => ?_
   refine wp_region_lit ?_
   refine st_val hS rfl rfl (by decide) (rv_assign (hS.ev rfl)) fun a hS => ?_
   refine wpList_nil ?_
   refine hK13 _ _ ?_
   have hS : Sl 55 [(6, (int i64 0))] a := hS.sub (sub_cons rfl sub_nil)
   have hM := hM.pk [] (by decide) pn
   refine wp_ret ?_
   cases hF
   exact hQr _ _ (r_1 hS rfl rfl ⟨rfl, hM.pk [] (by decide) pn⟩)
  ·refine cond_f hS rfl hc ?_
   refine wp_skip ?_
   refine hK4 _ _ ?_
   refine wp_seq_k fun K14 hK14 => ?_
   refine wp_region_lit ?_
   refine st_val hS rfl rfl (by decide) (rv_fieldAddr ty_fd_29_0 (hS.ev rfl)) fun a hS => ?_
   refine st_val hS rfl rfl (by decide) (rv_load_bx (hS.ev rfl) ty_ag_3 (hM.get 1 rfl) rfl) fun a hS => ?_
   obtain ⟨_, hx, hF⟩ := bind_some hF
   have hi0 := nnO_some hx
   refine st_val hS rfl rfl (by decide) (rv_shl (hS.ev rfl) (hS.ev rfl) hi0) fun a hS => ?_
   refine st_val hS rfl rfl (by decide) (rv_sub (hS.ev rfl) (hS.ev rfl)) fun a hS => ?_
   refine st_val hS rfl rfl (by decide) (rv_assign (hS.ev rfl)) fun a hS => ?_
   refine wpList_nil ?_
   refine hK14 _ _ ?_
   refine wp_seq_k fun K15 hK15 => ?_
   have hJ2 : ∀ (x43 : Int) (a : Act) (w : World), Sl 55 [(2, (int i64 p2_v)), (3, (fdp b3 0)), (7, (int i64 x43))] a → Mem Nob w0 w [(true, bx b3 29 [(int i64 p0_g_Size), p0_g_Rowsv]), (false, rd p0_g_Rowsv (List.map (int i64) p0_g_Rows))] → S_spec_LaterNeighbours_j2 F p0_g_Rows p2_v x43 = some r → K15 a w := by
    intro x43 a w hS hM hF
    unfold S_spec_LaterNeighbours_j2 at hF
    refine hK15 _ _ ?_
    refine wp_seq_k fun K44 hK44 => ?_
    refine wp_region_lit ?_
    refine st_val hS rfl rfl (by decide) (rv_fieldAddr ty_fd_29_1 (hS.ev rfl)) fun a hS => ?_
    refine st_val hS rfl rfl (by decide) (rv_load_bx (hS.ev rfl) ty_ag_22 (hM.get 0 rfl) rfl) fun a hS => ?_
    refine st_val hS rfl rfl (by decide) (rv_move (hS.ev rfl)) fun a hS => ?_
    obtain ⟨x46, hx, hF⟩ := bind_some hF
    obtain ⟨hi0, hi1, hex46⟩ := idxL_some hx
    refine st_val hS rfl rfl (by decide) (rv_indexAddr Try.underlying22 ty_el_3 (hS.ev rfl) (hS.ev rfl) (hM.get 1 rfl) hi0 (map_len hi1)) fun a hS => ?_
    refine st_val hS rfl rfl (by decide) (rv_load_el (hS.ev rfl) ty_ag_3 (hM.get 1 rfl) (mget hex46)) fun a hS => ?_
    refine st_val hS rfl rfl (by decide) (rv_move (hS.ev rfl)) fun a hS => ?_
    refine st_val hS rfl rfl (by decide) (rv_and (hS.ev rfl) (hS.ev rfl)) fun a hS => ?_
    refine st_val hS rfl rfl (by decide) (rv_assign (hS.ev rfl)) fun a hS => ?_
    refine wpList_nil ?_
    refine hK44 _ _ ?_
    have hS : Sl 55 [(6, (int i64 (bAnd x46 x43)))] a := hS.sub (sub_cons rfl sub_nil)
    have hM := hM.pk [] (by decide) pn
    refine wp_ret ?_
    cases hF
    exact hQr _ _ (r_1 hS rfl rfl ⟨rfl, hM.pk [] (by decide) pn⟩)
   refine wp_seq_k fun K47 hK47 => ?_
   refine wp_region_lit ?_
   refine st_val hS rfl rfl (by decide) (rv_assign (hS.ev rfl)) fun a hS => ?_
   refine wpList_nil ?_
   refine hK47 _ _ ?_
   refine wp_block ?_
   obtain ⟨lb3, hl3, hF3⟩ := bind_some hF
   refine wp_loop_sh (fun s => S_spec_LaterNeighbours_l3 F p1_order p2_v s.1 s.2) (fun s a w => Sl 55 [(1, p1_orderv), (2, (int i64 p2_v)), (3, (fdp b3 0)), (7, (int i64 s.1)), (8, (int i64 s.2))] a ∧ Mem Nob w0 w [(false, rd p1_orderv (List.map (int i64) p1_order)), (true, bx b3 29 [(int i64 p0_g_Size), p0_g_Rowsv]), (false, rd p0_g_Rowsv (List.map (int i64) p0_g_Rows))]) hl3 ⟨(hS.sub (sub_cons rfl (sub_cons rfl (sub_cons rfl (sub_cons rfl (sub_cons rfl sub_nil)))))), (hM.pk [0, 1, 2] (by decide) (pc rfl (pc rfl (pc rfl pn))))⟩ ?_
   rintro K3 ⟨x48, x49⟩ a w res3 ⟨hS, hM⟩ hF hN3 hX3
   have hF : S_spec_LaterNeighbours_l3 F p1_order p2_v x48 x49 = some res3 := hF
   have hS : Sl 55 [(1, p1_orderv), (2, (int i64 p2_v)), (3, (fdp b3 0)), (7, (int i64 x48)), (8, (int i64 x49))] a := hS
   have hM : Mem Nob w0 w [(false, rd p1_orderv (List.map (int i64) p1_order)), (true, bx b3 29 [(int i64 p0_g_Size), p0_g_Rowsv]), (false, rd p0_g_Rowsv (List.map (int i64) p0_g_Rows))] := hM
   unfold S_spec_LaterNeighbours_l3 at hF
   refine wp_seq_k fun K62 hK62 => ?_
   refine wp_seq_k fun K67 hK67 => ?_
   have hJ4 : ∀ (p69 : Bool) (a : Act) (w : World), Sl 55 [(1, p1_orderv), (2, (int i64 p2_v)), (3, (fdp b3 0)), (7, (int i64 x48)), (8, (int i64 x49)), (38, (Value.bool p69))] a → Mem Nob w0 w [(false, rd p1_orderv (List.map (int i64) p1_order)), (true, bx b3 29 [(int i64 p0_g_Size), p0_g_Rowsv]), (false, rd p0_g_Rowsv (List.map (int i64) p0_g_Rows))] → S_spec_LaterNeighbours_j4 F p1_order x48 x49 p69 = some res3 → K67 a w := by
    intro p69 a w hS hM hF
    unfold S_spec_LaterNeighbours_j4 at hF
    refine hK67 _ _ ?_
    rcases ite_some hF with ⟨hc, hF⟩ | ⟨hc, hF⟩
    ·refine cond_t hS rfl hc ?_
     refine wp_skip ?_
     refine hK62 _ _ ?_
     refine wp_seq_k fun K70 hK70 => ?_
     refine wp_block ?_
     refine wp_region_lit ?_
     refine st_val hS rfl rfl (by decide) (rv_move (hS.ev rfl)) fun a hS => ?_
     refine st_val hS rfl rfl (by decide) (rv_move (hS.ev rfl)) fun a hS => ?_
     refine st_val hS rfl rfl (by decide) (rv_move (hS.ev rfl)) fun a hS => ?_
     obtain ⟨x72, hx, hF⟩ := bind_some hF
     obtain ⟨hi0, hi1, hex72⟩ := idxL_some hx
     refine st_val hS rfl rfl (by decide) (rv_indexAddr Try.underlying22 ty_el_3 (hS.ev rfl) (hS.ev rfl) (hM.get 0 rfl) hi0 (map_len hi1)) fun a hS => ?_
     refine st_val hS rfl rfl (by decide) (rv_load_el (hS.ev rfl) ty_ag_3 (hM.get 0 rfl) (mget hex72)) fun a hS => ?_
     obtain ⟨_, hx, hF⟩ := bind_some hF
     have hi0 := nnO_some hx
     refine st_val hS rfl rfl (by decide) (rv_shl (hS.ev rfl) (hS.ev rfl) hi0) fun a hS => ?_
     refine st_val hS rfl rfl (by decide) (rv_sub (hS.ev rfl) (hS.ev rfl)) fun a hS => ?_
     refine st_val hS rfl rfl (by decide) (rv_assign (hS.ev rfl)) fun a hS => ?_
     refine wpList_nil ?_
     refine hK70 _ _ ?_
     have hS : Sl 55 [(1, p1_orderv), (2, (int i64 p2_v)), (3, (fdp b3 0)), (7, (int i64 (i64.wrap (x48 - (shL 1 x72))))), (8, (int i64 x49))] a := hS.sub (sub_cons rfl (sub_cons rfl (sub_cons rfl (sub_cons rfl (sub_cons rfl sub_nil)))))
     refine wp_region_lit ?_
     refine st_val hS rfl rfl (by decide) (rv_move (hS.ev rfl)) fun a hS => ?_
     refine st_val hS rfl rfl (by decide) (rv_add (hS.ev rfl) (hS.ev rfl)) fun a hS => ?_
     refine st_val hS rfl rfl (by decide) (rv_assign (hS.ev rfl)) fun a hS => ?_
     refine wpList_nil ?_
     cases hF
     exact hN3 _ _ _ rfl ⟨(hS.sub (sub_cons rfl (sub_cons rfl (sub_cons rfl (sub_cons rfl (sub_cons rfl sub_nil)))))), (hM.pk [0, 1, 2] (by decide) (pc rfl (pc rfl (pc rfl pn))))⟩
    ·refine cond_f hS rfl hc ?_
     refine wp_exit ?_
     cases hF
     exact hJ2 x48 _ _ (hS.sub (sub_cons rfl (sub_cons rfl (sub_cons rfl sub_nil)))) (hM.pk [1, 2] (by decide) (pc rfl (pc rfl pn))) (by have e := hX3 _ rfl; subst e; exact hF3)
   refine wp_region_lit ?_
   refine st_val hS rfl rfl (by decide) (rv_move (hS.ev rfl)) fun a hS => ?_
   refine st_val hS rfl rfl (by decide) (rv_move (hS.ev rfl)) fun a hS => ?_
   refine st_val hS rfl rfl (by decide) (rv_len_rowM Try.underlying22 (hS.ev rfl) (hM.get 0 rfl)) fun a hS => ?_
   refine st_val hS rfl rfl (by decide) (rv_lss (hS.ev rfl) (hS.ev rfl)) fun a hS => ?_
   refine st_val hS rfl rfl (by decide) (rv_move (hS.ev rfl)) fun a hS => ?_
   rcases ite_some hF with ⟨hc, hF⟩ | ⟨hc, hF⟩
   ·have hS := hS.setb (t := 31) rfl hc
    refine st_val hS rfl rfl (by decide) (rv_move (hS.ev rfl)) fun a hS => ?_
    refine st_val hS rfl rfl (by decide) (rv_move (hS.ev rfl)) fun a hS => ?_
    obtain ⟨x73, hx, hF⟩ := bind_some hF
    obtain ⟨hi0, hi1, hex73⟩ := idxL_some hx
    refine st_val hS rfl rfl (by decide) (rv_indexAddr Try.underlying22 ty_el_3 (hS.ev rfl) (hS.ev rfl) (hM.get 0 rfl) hi0 (map_len hi1)) fun a hS => ?_
    refine st_val hS rfl rfl (by decide) (rv_load_el (hS.ev rfl) ty_ag_3 (hM.get 0 rfl) (mget hex73)) fun a hS => ?_
    refine st_val hS rfl rfl (by decide) (rv_move (hS.ev rfl)) fun a hS => ?_
    refine st_val hS rfl rfl (by decide) (rv_neq (hS.ev rfl) (hS.ev rfl)) fun a hS => ?_
    refine st_val hS rfl rfl (by decide) (rv_pick_t (hS.ev rfl) (hS.ev rfl)) fun a hS => ?_
    refine wpList_nil ?_
    exact hJ4 (x73 != p2_v) _ _ (hS.sub (sub_cons rfl (sub_cons rfl (sub_cons rfl (sub_cons rfl (sub_cons rfl (sub_cons rfl sub_nil))))))) (hM.pk [0, 1, 2] (by decide) (pc rfl (pc rfl (pc rfl pn)))) hF
   ·have hS := hS.setb (t := 31) rfl hc
    refine st_skip hS rfl rfl (by decide) fun a hS => ?_
    refine st_skip hS rfl rfl (by decide) fun a hS => ?_
    refine st_skip hS rfl rfl (by decide) fun a hS => ?_
    refine st_skip hS rfl rfl (by decide) fun a hS => ?_
    refine st_skip hS rfl rfl (by decide) fun a hS => ?_
    refine st_skip hS rfl rfl (by decide) fun a hS => ?_
    refine st_val hS rfl rfl (by decide) (rv_pick_f (hS.ev rfl) (hS.ev rfl)) fun a hS => ?_
    refine wpList_nil ?_
    exact hJ4 false _ _ (hS.sub (sub_cons rfl (sub_cons rfl (sub_cons rfl (sub_cons rfl (sub_cons rfl (sub_cons rfl sub_nil))))))) (hM.pk [0, 1, 2] (by decide) (pc rfl (pc rfl (pc rfl pn)))) hF
 refine wp_region_lit ?_
 refine st_val hS rfl rfl (by decide) (rv_load_agg (hS.ev rfl) ty_ag_29 (hM.get 0 rfl) ty_sz_29) fun a hS => ?_
 refine st_val hS rfl rfl (by decide) (rv_move (hS.ev rfl)) fun a hS => ?_
 obtain ⟨r74, hr, hF⟩ := bind_some hF
 refine st_wp hS rfl (wp_call hS rfl rfl (by decide) fn_ok_17 rfl (c_spec_IsOrder F p0_g_Size p0_g_Rows p1_order p0_g_Rowsv p1_orderv hr _ (hM.get 1 rfl) (hM.get 2 rfl)) fun v w a hK hS => ?_)
 obtain ⟨rfl, hN⟩ := hK
 have hM := hM.fra hN.fr
 refine st_val hS rfl rfl (by decide) (rv_not (hS.ev rfl)) fun a hS => ?_
 refine st_val hS rfl rfl (by decide) (rv_move (hS.ev rfl)) fun a hS => ?_
 rcases ite_some hF with ⟨hc, hF⟩ | ⟨hc, hF⟩
 ·have hS := hS.setb (t := 13) rfl hc
  refine st_skip hS rfl rfl (by decide) fun a hS => ?_
  refine st_skip hS rfl rfl (by decide) fun a hS => ?_
  refine st_val hS rfl rfl (by decide) (rv_pick_t (hS.ev rfl) (hS.ev rfl)) fun a hS => ?_
  refine st_val hS rfl rfl (by decide) (rv_move (hS.ev rfl)) fun a hS => ?_
  refine st_skip hS rfl rfl (by decide) fun a hS => ?_
  refine st_skip hS rfl rfl (by decide) fun a hS => ?_
  refine st_skip hS rfl rfl (by decide) fun a hS => ?_
  refine st_skip hS rfl rfl (by decide) fun a hS => ?_
  refine st_val hS rfl rfl (by decide) (rv_pick_t (hS.ev rfl) (hS.ev rfl)) fun a hS => ?_
  refine wpList_nil ?_
  exact hJ1 true _ _ (hS.sub (sub_cons rfl (sub_cons rfl (sub_cons rfl (sub_cons rfl sub_nil))))) (hM.pk [2, 0, 1] (by decide) (pc rfl (pc rfl (pc rfl pn)))) hF
 ·have hS := hS.setb (t := 13) rfl hc
  refine st_val hS rfl rfl (by decide) (rv_move (hS.ev rfl)) fun a hS => ?_
  refine st_val hS rfl rfl (by decide) (rv_lss (hS.ev rfl) (hS.ev rfl)) fun a hS => ?_
  refine st_val hS rfl rfl (by decide) (rv_pick_f (hS.ev rfl) (hS.ev rfl)) fun a hS => ?_
  refine st_val hS rfl rfl (by decide) (rv_move (hS.ev rfl)) fun a hS => ?_
  rcases ite_some hF with ⟨hc, hF⟩ | ⟨hc, hF⟩
  ·have hS := hS.setb (t := 17) rfl hc
   refine st_skip hS rfl rfl (by decide) fun a hS => ?_
   refine st_skip hS rfl rfl (by decide) fun a hS => ?_
   refine st_skip hS rfl rfl (by decide) fun a hS => ?_
   refine st_skip hS rfl rfl (by decide) fun a hS => ?_
   refine st_val hS rfl rfl (by decide) (rv_pick_t (hS.ev rfl) (hS.ev rfl)) fun a hS => ?_
   refine wpList_nil ?_
   exact hJ1 true _ _ (hS.sub (sub_cons rfl (sub_cons rfl (sub_cons rfl (sub_cons rfl sub_nil))))) (hM.pk [2, 0, 1] (by decide) (pc rfl (pc rfl (pc rfl pn)))) hF
  ·have hS := hS.setb (t := 17) rfl hc
   refine st_val hS rfl rfl (by decide) (rv_move (hS.ev rfl)) fun a hS => ?_
   refine st_val hS rfl rfl (by decide) (rv_fieldAddr ty_fd_29_0 (hS.ev rfl)) fun a hS => ?_
   refine st_val hS rfl rfl (by decide) (rv_load_bx (hS.ev rfl) ty_ag_3 (hM.get 0 rfl) rfl) fun a hS => ?_
   refine st_val hS rfl rfl (by decide) (rv_geq (hS.ev rfl) (hS.ev rfl)) fun a hS => ?_
   refine st_val hS rfl rfl (by decide) (rv_pick_f (hS.ev rfl) (hS.ev rfl)) fun a hS => ?_
   refine wpList_nil ?_
   exact hJ1 (decide (p0_g_Size ≤ p2_v)) _ _ (hS.sub (sub_cons rfl (sub_cons rfl (sub_cons rfl (sub_cons rfl sub_nil))))) (hM.pk [2, 0, 1] (by decide) (pc rfl (pc rfl (pc rfl pn)))) hF


theorem c_spec_l2Edge (F : Nat) (p0_g_Size : Int) (p0_g_Rows : List Int) (p1_v : Int) (p2_w : Int) (p0_g_Rowsv : Value) {r : Bool} (hF : S_spec_l2Edge F p0_g_Size p0_g_Rows p1_v p2_w = some r) (w0 : World) (h0 : RdRow w0 p0_g_Rowsv (List.map (int i64) p0_g_Rows)) :
    Calls Try.prog 20 [(Value.agg #[(int i64 p0_g_Size), p0_g_Rowsv]), (int i64 p1_v), (int i64 p2_w)].toArray w0 (retPost fun v w' => v = (Value.bool r) ∧ Mem Nob w0 w' []) := by
 have hM : Mem Nob w0 w0 [(false, rd p0_g_Rowsv (List.map (int i64) p0_g_Rows))] := (Mem.rcons (Mem.nil w0) h0 (by simp))
 refine enter2 Try.func20 rfl rfl rfl fun Q a hQr hQn hQp hS => ?_
 have hS : Sl 16 [(0, (Value.agg #[(int i64 p0_g_Size), p0_g_Rowsv])), (1, (int i64 p1_v)), (2, (int i64 p2_w))] a := hS
 unfold S_spec_l2Edge at hF
 refine wp_seq_k fun K1 hK1 => ?_
 refine wp_region_lit ?_
 obtain ⟨b3, w, hr, hM⟩ := hM.boxE (ρ := a.eval) (dst := some 3) (ty := _) (pos := _) (af := _) (gd := _) (x := .tmp 0) (T := 29) [(int i64 p0_g_Size), p0_g_Rowsv] (hS.ev rfl) rfl
 refine st_val hS rfl rfl (by decide) hr fun a hS => ?_
 refine st_val hS rfl rfl (by decide) (rv_assign (hS.ev rfl)) fun a hS => ?_
 refine wpList_nil ?_
 refine hK1 _ _ ?_
 refine wp_seq_k fun K4 hK4 => ?_
 refine wp_region_lit ?_
 refine st_val hS rfl rfl (by decide) (rv_fieldAddr ty_fd_29_1 (hS.ev rfl)) fun a hS => ?_
 refine st_val hS rfl rfl (by decide) (rv_load_bx (hS.ev rfl) ty_ag_22 (hM.get 0 rfl) rfl) fun a hS => ?_
 refine st_val hS rfl rfl (by decide) (rv_move (hS.ev rfl)) fun a hS => ?_
 obtain ⟨x6, hx, hF⟩ := bind_some hF
 obtain ⟨hi0, hi1, hex6⟩ := idxL_some hx
 refine st_val hS rfl rfl (by decide) (rv_indexAddr Try.underlying22 ty_el_3 (hS.ev rfl) (hS.ev rfl) (hM.get 1 rfl) hi0 (map_len hi1)) fun a hS => ?_
 refine st_val hS rfl rfl (by decide) (rv_load_el (hS.ev rfl) ty_ag_3 (hM.get 1 rfl) (mget hex6)) fun a hS => ?_
 refine st_val hS rfl rfl (by decide) (rv_move (hS.ev rfl)) fun a hS => ?_
 obtain ⟨_, hx, hF⟩ := bind_some hF
 have hi0 := nnO_some hx
 refine st_val hS rfl rfl (by decide) (rv_shr (hS.ev rfl) (hS.ev rfl) hi0) fun a hS => ?_
 refine st_val hS rfl rfl (by decide) (rv_and (hS.ev rfl) (hS.ev rfl)) fun a hS => ?_
 refine st_val hS rfl rfl (by decide) (rv_eql (hS.ev rfl) (hS.ev rfl)) fun a hS => ?_
 refine st_val hS rfl rfl (by decide) (rv_assign (hS.ev rfl)) fun a hS => ?_
 refine wpList_nil ?_
 refine hK4 _ _ ?_
 have hS : Sl 16 [(6, (Value.bool ((bAnd (shR x6 p2_w) 1) == 1)))] a := hS.sub (sub_cons rfl sub_nil)
 have hM := hM.pk [] (by decide) pn
 refine wp_ret ?_
 cases hF
 exact hQr _ _ (r_1 hS rfl rfl ⟨rfl, hM.pk [] (by decide) pn⟩)


theorem c_spec_l2Pair (F : Nat) (p0_g_Size : Int) (p0_g_Rows : List Int) (p1_v : Int) (p2_w : Int) (p0_g_Rowsv : Value) {r : Bool} (hF : S_spec_l2Pair F p0_g_Size p0_g_Rows p1_v p2_w = some r) (w0 : World) (h0 : RdRow w0 p0_g_Rowsv (List.map (int i64) p0_g_Rows)) :
    Calls Try.prog 42 [(Value.agg #[(int i64 p0_g_Size), p0_g_Rowsv]), (int i64 p1_v), (int i64 p2_w)].toArray w0 (retPost fun v w' => v = (Value.bool r) ∧ Mem Nob w0 w' []) := by
 have hM : Mem Nob w0 w0 [(false, rd p0_g_Rowsv (List.map (int i64) p0_g_Rows))] := (Mem.rcons (Mem.nil w0) h0 (by simp))
 refine enter2 Try.func42 rfl rfl rfl fun Q a hQr hQn hQp hS => ?_
 have hS : Sl 34 [(0, (Value.agg #[(int i64 p0_g_Size), p0_g_Rowsv])), (1, (int i64 p1_v)), (2, (int i64 p2_w))] a := hS
 unfold S_spec_l2Pair at hF
 refine wp_seq_k fun K1 hK1 => ?_
 refine wp_region_lit ?_
 obtain ⟨b3, w, hr, hM⟩ := hM.boxE (ρ := a.eval) (dst := some 3) (ty := _) (pos := _) (af := _) (gd := _) (x := .tmp 0) (T := 29) [(int i64 p0_g_Size), p0_g_Rowsv] (hS.ev rfl) rfl
 refine st_val hS rfl rfl (by decide) hr fun a hS => ?_
 refine st_val hS rfl rfl (by decide) (rv_assign (hS.ev rfl)) fun a hS => ?_
 refine wpList_nil ?_
 refine hK1 _ _ ?_
 refine wp_seq_k fun K4 hK4 => ?_
 have hJ1 : ∀ (p6 : Bool) (a : Act) (w : World), Sl 34 [(6, (Value.bool p6))] a → Mem Nob w0 w [] → S_spec_l2Pair_j1 F p6 = some r → K4 a w := by
  intro p6 a w hS hM hF
  unfold S_spec_l2Pair_j1 at hF
  refine hK4 _ _ ?_
  refine wp_ret ?_
  cases hF
  exact hQr _ _ (r_1 hS rfl rfl ⟨rfl, hM.pk [] (by decide) pn⟩)
 refine wp_region_lit ?_
 refine st_val hS rfl rfl (by decide) (rv_load_agg (hS.ev rfl) ty_ag_29 (hM.get 0 rfl) ty_sz_29) fun a hS => ?_
 obtain ⟨r7, hr, hF⟩ := bind_some hF
 refine st_wp hS rfl (wp_call hS rfl rfl (by decide) fn_ok_33 rfl (c_spec_IsGraph F p0_g_Size p0_g_Rows p0_g_Rowsv hr _ (hM.get 1 rfl)) fun v w a hK hS => ?_)
 obtain ⟨rfl, hN⟩ := hK
 have hM := hM.fra hN.fr
 refine st_val hS rfl rfl (by decide) (rv_move (hS.ev rfl)) fun a hS => ?_
 rcases ite_some hF with ⟨hc, hF⟩ | ⟨hc, hF⟩
 ·have hS := hS.setb (t := 9) rfl hc
  refine st_val hS rfl rfl (by decide) (rv_move (hS.ev rfl)) fun a hS => ?_
  refine st_val hS rfl rfl (by decide) (rv_geq (hS.ev rfl) (hS.ev rfl)) fun a hS => ?_
  refine st_val hS rfl rfl (by decide) (rv_pick_t (hS.ev rfl) (hS.ev rfl)) fun a hS => ?_
  refine st_val hS rfl rfl (by decide) (rv_move (hS.ev rfl)) fun a hS => ?_
  rcases ite_some hF with ⟨hc, hF⟩ | ⟨hc, hF⟩
  ·have hS := hS.setb (t := 13) rfl hc
   refine st_val hS rfl rfl (by decide) (rv_move (hS.ev rfl)) fun a hS => ?_
   refine st_val hS rfl rfl (by decide) (rv_geq (hS.ev rfl) (hS.ev rfl)) fun a hS => ?_
   refine st_val hS rfl rfl (by decide) (rv_pick_t (hS.ev rfl) (hS.ev rfl)) fun a hS => ?_
   refine st_val hS rfl rfl (by decide) (rv_move (hS.ev rfl)) fun a hS => ?_
   rcases ite_some hF with ⟨hc, hF⟩ | ⟨hc, hF⟩
   ·have hS := hS.setb (t := 17) rfl hc
    refine st_val hS rfl rfl (by decide) (rv_move (hS.ev rfl)) fun a hS => ?_
    refine st_val hS rfl rfl (by decide) (rv_fieldAddr ty_fd_29_0 (hS.ev rfl)) fun a hS => ?_
    refine st_val hS rfl rfl (by decide) (rv_load_bx (hS.ev rfl) ty_ag_3 (hM.get 0 rfl) rfl) fun a hS => ?_
    refine st_val hS rfl rfl (by decide) (rv_lss (hS.ev rfl) (hS.ev rfl)) fun a hS => ?_
    refine st_val hS rfl rfl (by decide) (rv_pick_t (hS.ev rfl) (hS.ev rfl)) fun a hS => ?_
    refine st_val hS rfl rfl (by decide) (rv_move (hS.ev rfl)) fun a hS => ?_
    rcases ite_some hF with ⟨hc, hF⟩ | ⟨hc, hF⟩
    ·have hS := hS.setb (t := 23) rfl hc
     refine st_val hS rfl rfl (by decide) (rv_move (hS.ev rfl)) fun a hS => ?_
     refine st_val hS rfl rfl (by decide) (rv_fieldAddr ty_fd_29_0 (hS.ev rfl)) fun a hS => ?_
     refine st_val hS rfl rfl (by decide) (rv_load_bx (hS.ev rfl) ty_ag_3 (hM.get 0 rfl) rfl) fun a hS => ?_
     refine st_val hS rfl rfl (by decide) (rv_lss (hS.ev rfl) (hS.ev rfl)) fun a hS => ?_
     refine st_val hS rfl rfl (by decide) (rv_pick_t (hS.ev rfl) (hS.ev rfl)) fun a hS => ?_
     refine st_val hS rfl rfl (by decide) (rv_move (hS.ev rfl)) fun a hS => ?_
     rcases ite_some hF with ⟨hc, hF⟩ | ⟨hc, hF⟩
     ·have hS := hS.setb (t := 29) rfl hc
      refine st_val hS rfl rfl (by decide) (rv_move (hS.ev rfl)) fun a hS => ?_
      refine st_val hS rfl rfl (by decide) (rv_move (hS.ev rfl)) fun a hS => ?_
      refine st_val hS rfl rfl (by decide) (rv_neq (hS.ev rfl) (hS.ev rfl)) fun a hS => ?_
      refine st_val hS rfl rfl (by decide) (rv_pick_t (hS.ev rfl) (hS.ev rfl)) fun a hS => ?_
      refine st_val hS rfl rfl (by decide) (rv_assign (hS.ev rfl)) fun a hS => ?_
      refine wpList_nil ?_
      exact hJ1 (p1_v != p2_w) _ _ (hS.sub (sub_cons rfl sub_nil)) (hM.pk [] (by decide) pn) hF
     ·have hS := hS.setb (t := 29) rfl hc
      refine st_skip hS rfl rfl (by decide) fun a hS => ?_
      refine st_skip hS rfl rfl (by decide) fun a hS => ?_
      refine st_skip hS rfl rfl (by decide) fun a hS => ?_
      refine st_val hS rfl rfl (by decide) (rv_pick_f (hS.ev rfl) (hS.ev rfl)) fun a hS => ?_
      refine st_val hS rfl rfl (by decide) (rv_assign (hS.ev rfl)) fun a hS => ?_
      refine wpList_nil ?_
      exact hJ1 false _ _ (hS.sub (sub_cons rfl sub_nil)) (hM.pk [] (by decide) pn) hF
    ·have hS := hS.setb (t := 23) rfl hc
     refine st_skip hS rfl rfl (by decide) fun a hS => ?_
     refine st_skip hS rfl rfl (by decide) fun a hS => ?_
     refine st_skip hS rfl rfl (by decide) fun a hS => ?_
     refine st_skip hS rfl rfl (by decide) fun a hS => ?_
     refine st_val hS rfl rfl (by decide) (rv_pick_f (hS.ev rfl) (hS.ev rfl)) fun a hS => ?_
     refine st_val hS rfl rfl (by decide) (rv_move (hS.ev rfl)) fun a hS => ?_
     refine st_skip hS rfl rfl (by decide) fun a hS => ?_
     refine st_skip hS rfl rfl (by decide) fun a hS => ?_
     refine st_skip hS rfl rfl (by decide) fun a hS => ?_
     refine st_val hS rfl rfl (by decide) (rv_pick_f (hS.ev rfl) (hS.ev rfl)) fun a hS => ?_
     refine st_val hS rfl rfl (by decide) (rv_assign (hS.ev rfl)) fun a hS => ?_
     refine wpList_nil ?_
     exact hJ1 false _ _ (hS.sub (sub_cons rfl sub_nil)) (hM.pk [] (by decide) pn) hF
   ·have hS := hS.setb (t := 17) rfl hc
    refine st_skip hS rfl rfl (by decide) fun a hS => ?_
    refine st_skip hS rfl rfl (by decide) fun a hS => ?_
    refine st_skip hS rfl rfl (by decide) fun a hS => ?_
    refine st_skip hS rfl rfl (by decide) fun a hS => ?_
    refine st_val hS rfl rfl (by decide) (rv_pick_f (hS.ev rfl) (hS.ev rfl)) fun a hS => ?_
    refine st_val hS rfl rfl (by decide) (rv_move (hS.ev rfl)) fun a hS => ?_
    refine st_skip hS rfl rfl (by decide) fun a hS => ?_
    refine st_skip hS rfl rfl (by decide) fun a hS => ?_
    refine st_skip hS rfl rfl (by decide) fun a hS => ?_
    refine st_skip hS rfl rfl (by decide) fun a hS => ?_
    refine st_val hS rfl rfl (by decide) (rv_pick_f (hS.ev rfl) (hS.ev rfl)) fun a hS => ?_
    refine st_val hS rfl rfl (by decide) (rv_move (hS.ev rfl)) fun a hS => ?_
    refine st_skip hS rfl rfl (by decide) fun a hS => ?_
    refine st_skip hS rfl rfl (by decide) fun a hS => ?_
    refine st_skip hS rfl rfl (by decide) fun a hS => ?_
    refine st_val hS rfl rfl (by decide) (rv_pick_f (hS.ev rfl) (hS.ev rfl)) fun a hS => ?_
    refine st_val hS rfl rfl (by decide) (rv_assign (hS.ev rfl)) fun a hS => ?_
    refine wpList_nil ?_
    exact hJ1 false _ _ (hS.sub (sub_cons rfl sub_nil)) (hM.pk [] (by decide) pn) hF
  ·have hS := hS.setb (t := 13) rfl hc
   refine st_skip hS rfl rfl (by decide) fun a hS => ?_
   refine st_skip hS rfl rfl (by decide) fun a hS => ?_
   refine st_val hS rfl rfl (by decide) (rv_pick_f (hS.ev rfl) (hS.ev rfl)) fun a hS => ?_
   refine st_val hS rfl rfl (by decide) (rv_move (hS.ev rfl)) fun a hS => ?_
   refine st_skip hS rfl rfl (by decide) fun a hS => ?_
   refine st_skip hS rfl rfl (by decide) fun a hS => ?_
   refine st_skip hS rfl rfl (by decide) fun a hS => ?_
   refine st_skip hS rfl rfl (by decide) fun a hS => ?_
   refine st_val hS rfl rfl (by decide) (rv_pick_f (hS.ev rfl) (hS.ev rfl)) fun a hS => ?_
   refine st_val hS rfl rfl (by decide) (rv_move (hS.ev rfl)) fun a hS => ?_
   refine st_skip hS rfl rfl (by decide) fun a hS => ?_
   refine st_skip hS rfl rfl (by decide) fun a hS => ?_
   refine st_skip hS rfl rfl (by decide) fun a hS => ?_
   refine st_skip hS rfl rfl (by decide) fun a hS => ?_
   refine st_val hS rfl rfl (by decide) (rv_pick_f (hS.ev rfl) (hS.ev rfl)) fun a hS => ?_
   refine st_val hS rfl rfl (by decide) (rv_move (hS.ev rfl)) fun a hS => ?_
   refine st_skip hS rfl rfl (by decide) fun a hS => ?_
   refine st_skip hS rfl rfl (by decide) fun a hS => ?_
   refine st_skip hS rfl rfl (by decide) fun a hS => ?_
   refine st_val hS rfl rfl (by decide) (rv_pick_f (hS.ev rfl) (hS.ev rfl)) fun a hS => ?_
   refine st_val hS rfl rfl (by decide) (rv_assign (hS.ev rfl)) fun a hS => ?_
   refine wpList_nil ?_
   exact hJ1 false _ _ (hS.sub (sub_cons rfl sub_nil)) (hM.pk [] (by decide) pn) hF
 ·have hS := hS.setb (t := 9) rfl hc
  refine st_skip hS rfl rfl (by decide) fun a hS => ?_
  refine st_skip hS rfl rfl (by decide) fun a hS => ?_
  refine st_val hS rfl rfl (by decide) (rv_pick_f (hS.ev rfl) (hS.ev rfl)) fun a hS => ?_
  refine st_val hS rfl rfl (by decide) (rv_move (hS.ev rfl)) fun a hS => ?_
  refine st_skip hS rfl rfl (by decide) fun a hS => ?_
  refine st_skip hS rfl rfl (by decide) fun a hS => ?_
  refine st_val hS rfl rfl (by decide) (rv_pick_f (hS.ev rfl) (hS.ev rfl)) fun a hS => ?_
  refine st_val hS rfl rfl (by decide) (rv_move (hS.ev rfl)) fun a hS => ?_
  refine st_skip hS rfl rfl (by decide) fun a hS => ?_
  refine st_skip hS rfl rfl (by decide) fun a hS => ?_
  refine st_skip hS rfl rfl (by decide) fun a hS => ?_
  refine st_skip hS rfl rfl (by decide) fun a hS => ?_
  refine st_val hS rfl rfl (by decide) (rv_pick_f (hS.ev rfl) (hS.ev rfl)) fun a hS => ?_
  refine st_val hS rfl rfl (by decide) (rv_move (hS.ev rfl)) fun a hS => ?_
  refine st_skip hS rfl rfl (by decide) fun a hS => ?_
  refine st_skip hS rfl rfl (by decide) fun a hS => ?_
  refine st_skip hS rfl rfl (by decide) fun a hS => ?_
  refine st_skip hS rfl rfl (by decide) fun a hS => ?_
  refine st_val hS rfl rfl (by decide) (rv_pick_f (hS.ev rfl) (hS.ev rfl)) fun a hS => ?_
  refine st_val hS rfl rfl (by decide) (rv_move (hS.ev rfl)) fun a hS => ?_
  refine st_skip hS rfl rfl (by decide) fun a hS => ?_
  refine st_skip hS rfl rfl (by decide) fun a hS => ?_
  refine st_skip hS rfl rfl (by decide) fun a hS => ?_
  refine st_val hS rfl rfl (by decide) (rv_pick_f (hS.ev rfl) (hS.ev rfl)) fun a hS => ?_
  refine st_val hS rfl rfl (by decide) (rv_assign (hS.ev rfl)) fun a hS => ?_
  refine wpList_nil ?_
  exact hJ1 false _ _ (hS.sub (sub_cons rfl sub_nil)) (hM.pk [] (by decide) pn) hF


theorem c_spec_AddEdge (F : Nat) (p0_g_Size : Int) (p0_g_Rows : List Int) (p1_v : Int) (p2_w : Int) (p0_g_Rowsv : Value) {r : Int × (List (Int)) × Bool} (hF : S_spec_AddEdge F p0_g_Size p0_g_Rows p1_v p2_w = some r) (w0 : World) (h0 : RdRow w0 p0_g_Rowsv (List.map (int i64) p0_g_Rows)) :
    Calls Try.prog 32 [(Value.agg #[(int i64 p0_g_Size), p0_g_Rowsv]), (int i64 p1_v), (int i64 p2_w)].toArray w0 (retPost fun v w' => ∃ v39, v = (Value.tuple #[(Value.agg #[(int i64 r.1), v39]), (Value.bool r.2.2)]) ∧ Mem Nob w0 w' [(true, ow 3 v39 (List.map (int i64) r.2.1))]) := by
 have hM : Mem Nob w0 w0 [(false, rd p0_g_Rowsv (List.map (int i64) p0_g_Rows))] := (Mem.rcons (Mem.nil w0) h0 (by simp))
 refine enter2 Try.func32 rfl rfl rfl fun Q a hQr hQn hQp hS => ?_
 have hS : Sl 48 [(0, (Value.agg #[(int i64 p0_g_Size), p0_g_Rowsv])), (1, (int i64 p1_v)), (2, (int i64 p2_w))] a := hS
 unfold S_spec_AddEdge at hF
 refine wp_seq_k fun K1 hK1 => ?_
 refine wp_region_lit ?_
 obtain ⟨b4, w, hr, hM⟩ := hM.boxE (ρ := a.eval) (dst := some 3) (ty := _) (pos := _) (af := _) (gd := _) (x := .tmp 0) (T := 29) [(int i64 p0_g_Size), p0_g_Rowsv] (hS.ev rfl) rfl
 refine st_val hS rfl rfl (by decide) hr fun a hS => ?_
 obtain ⟨b5, w, hr, hM⟩ := hM.allocE (ρ := a.eval) (dst := some 6) (ty := _) (pos := _) (af := _) (gd := _) (T := 29) (P := Try.prog) [(int i64 0), (Value.slice none 0 0)] ty_zr_29 rfl
 refine st_val hS rfl rfl (by decide) hr fun a hS => ?_
 have hM := hM.addNil 3
 refine st_val hS rfl rfl (by decide) (rv_assign (hS.ev rfl)) fun a hS => ?_
 refine wpList_nil ?_
 refine hK1 _ _ ?_
 refine wp_seq_k fun K6 hK6 => ?_
 refine wp_region_lit ?_
 refine st_val hS rfl rfl (by decide) (rv_load_agg (hS.ev rfl) ty_ag_29 (hM.get 2 rfl) ty_sz_29) fun a hS => ?_
 obtain ⟨r10, hr, hF⟩ := bind_some hF
 refine st_wp hS rfl (wp_call hS rfl rfl (by decide) fn_ok_29 rfl (c_spec_l2Copy F p0_g_Size p0_g_Rows p0_g_Rowsv hr _ (hM.get 3 rfl)) fun v w a hK hS => ?_)
 obtain ⟨v11, rfl, hN⟩ := hK
 have hM := hM.add hN rfl
 obtain ⟨b12, w, hr, hM⟩ := hM.allocE (ρ := a.eval) (dst := some 8) (ty := _) (pos := _) (af := _) (gd := _) (T := 29) (P := Try.prog) [(int i64 0), (Value.slice none 0 0)] ty_zr_29 rfl
 refine st_val hS rfl rfl (by decide) hr fun a hS => ?_
 have hM := hM.addNil 3
 have hM := hM.pk [1, 0, 2, 3, 4, 5, 6] (by decide) (pc rfl (pc rfl (pc rfl (pc rfl (pc rfl (pc rfl (pc rfl pn)))))))
 obtain ⟨w, hr, hM⟩ := hM.st_agg (us := [(int i64 r10.1), v11]) (ρ := a.eval) (dst := none) (ty := _) (pos := _) (af := _) (gd := _) (x := .tmp 8) (y := .tmp 10) (hS.ev rfl) (hS.ev rfl) ty_sz_29 (all1_cons rfl (all1_cons (rd_one (rd_of_ow (hM.get 2 rfl))) all1_nil)) rfl
 refine st_unit hS rfl rfl hr ?_
 refine wpList_nil ?_
 refine hK6 _ _ ?_
 refine wp_seq_k fun K13 hK13 => ?_
 refine wp_seq_k fun K21 hK21 => ?_
 have hJ1 : ∀ (p24 : Bool) (a : Act) (w : World), Sl 48 [(1, (int i64 p1_v)), (2, (int i64 p2_w)), (6, (fdp b5 0)), (8, (fdp b12 0)), (21, (Value.bool p24))] a → Mem Nob w0 w [(true, bx b5 29 [(int i64 0), (Value.slice none 0 0)]), (true, ow 3 (Value.slice none 0 0) (List.map (int i64) ([] : List (Int)))), (true, bx b12 29 [(int i64 r10.1), v11]), (true, ow 3 v11 (List.map (int i64) r10.2))] → S_spec_AddEdge_j1 F p1_v p2_w r10 p24 = some r → K21 a w := by
  intro p24 a w hS hM hF
  unfold S_spec_AddEdge_j1 at hF
  refine hK21 _ _ ?_
  rcases ite_some hF with ⟨hc, hF⟩ | ⟨hc, hF⟩
  ·refine cond_t hS rfl hc ?_
   refine wp_seq_k fun K25 hK25 => ?_
   refine wp_region_lit ?_
   refine st_val hS rfl rfl (by decide) (rv_load_agg (hS.ev rfl) ty_ag_29 (hM.get 2 rfl) ty_sz_29) fun a hS => ?_
   obtain ⟨w, hr, hM⟩ := hM.st_agg (us := [(int i64 r10.1), v11]) (ρ := a.eval) (dst := none) (ty := _) (pos := _) (af := _) (gd := _) (x := .tmp 6) (y := .tmp 22) (hS.ev rfl) (hS.ev rfl) ty_sz_29 (all1_cons rfl (all1_cons (rd_one (rd_of_ow (hM.get 3 rfl))) all1_nil)) rfl
   refine st_unit hS rfl rfl hr ?_
   refine st_val hS rfl rfl (by decide) (rv_assign (hS.ev rfl)) fun a hS => ?_
   refine wpList_nil ?_
   refine hK25 _ _ ?_
   refine wp_ret ?_
   cases hF
   exact hQr _ _ (r_cc hS rfl ⟨_, rfl, run_loadAgg ty_ag_29 (hM.get 0 rfl) ty_sz_29⟩ rfl ⟨v11, rfl, hM.pk [3] (by decide) (pc rfl pn)⟩)
  ·refine cond_f hS rfl hc ?_
   refine wp_skip ?_
   refine hK13 _ _ ?_
   refine wp_seq_k fun K26 hK26 => ?_
   have hM := hM.pk [3, 0, 1, 2] (by decide) (pc rfl (pc rfl (pc rfl (pc rfl pn))))
   refine an_startB 13 (feet [(true, ow 3 v11 (List.map (int i64) r10.2))]) ty_mixed (by kernel_rfl) fun w hf => ?_
   have hM := hM.fra hf
   have hB := hM
   have hM := hB.reg1 rfl
   refine tkB hS 0 1 (by kernel_rfl) rfl rfl rfl hQp rfl (fun w' hC' => (rv_fieldAddr ty_fd_29_1 (hS.ev rfl))) hM.fr fun a hS => ?_
   refine tkB hS 1 3 (by kernel_rfl) rfl rfl rfl hQp rfl (fun w' hC' => (rv_load_bx (hS.ev rfl) ty_ag_22 (hB.getF rfl 2 rfl hC') rfl)) hM.fr fun a hS => ?_
   refine tkB hS 2 7 (by kernel_rfl) rfl rfl rfl hQp rfl (fun w' hC' => (rv_move (hS.ev rfl))) hM.fr fun a hS => ?_
   refine tkB hS 3 15 (by kernel_rfl) rfl rfl rfl hQp rfl (fun w' hC' => (rv_fieldAddr ty_fd_29_1 (hS.ev rfl))) hM.fr fun a hS => ?_
   refine tkB hS 4 31 (by kernel_rfl) rfl rfl rfl hQp rfl (fun w' hC' => (rv_load_bx (hS.ev rfl) ty_ag_22 (hB.getF rfl 2 rfl hC') rfl)) hM.fr fun a hS => ?_
   refine tkB hS 5 63 (by kernel_rfl) rfl rfl rfl hQp rfl (fun w' hC' => (rv_move (hS.ev rfl))) hM.fr fun a hS => ?_
   obtain ⟨x29, hx, hF⟩ := bind_some hF
   obtain ⟨hi0, hi1, hex29⟩ := idxL_some hx
   refine tkB hS 6 127 (by kernel_rfl) rfl rfl rfl hQp rfl (fun w' hC' => (rv_indexAddr Try.underlying22 ty_el_3 (hS.ev rfl) (hS.ev rfl) (rd_of_ow (hM.get 0 rfl)) hi0 (map_len hi1))) hM.fr fun a hS => ?_
   refine tkB hS 8 383 (by kernel_rfl) rfl rfl rfl hQp rfl (fun w' hC' => (rv_move (hS.ev rfl))) hM.fr fun a hS => ?_
   obtain ⟨_, hx, hF⟩ := bind_some hF
   have hi0 := nnO_some hx
   refine tkB hS 9 895 (by kernel_rfl) rfl rfl rfl hQp rfl (fun w' hC' => (rv_shl (hS.ev rfl) (hS.ev rfl) hi0)) hM.fr fun a hS => ?_
   refine an_oneB hS (i := 7) 1023 (by kernel_rfl) rfl (by kernel_rfl) rfl ?_
   refine wp_val hS rfl (by decide) (rv_load_el (hS.ev rfl) ty_ag_3 (rd_of_ow (hM.get 0 rfl)) (mget hex29)) fun a hS => ⟨hM.fr, ?_⟩
   refine tkB hS 10 2047 (by kernel_rfl) rfl rfl rfl hQp rfl (fun w' hC' => (rv_add (hS.ev rfl) (hS.ev rfl))) hM.fr fun a hS => ?_
   obtain ⟨x30, hx, hF⟩ := bind_some hF
   obtain ⟨hi0, hi1, hex30⟩ := idxL_some hx
   refine tkB hS 11 4095 (by kernel_rfl) rfl rfl rfl hQp rfl (fun w' hC' => (rv_indexAddr Try.underlying22 ty_el_3 (hS.ev rfl) (hS.ev rfl) (rd_of_ow (hM.get 0 rfl)) hi0 (map_len hi1))) hM.fr fun a hS => ?_
   obtain ⟨w, hr, hM⟩ := hM.st_el (f := (int i64)) (n := p1_v.toNat) (c := (i64.wrap (x29 + (shL 1 p2_w)))) (ρ := a.eval) (dst := none) (ty := _) (pos := _) (af := _) (gd := _) (x := .tmp 34) (y := .tmp 33) i64_one (hS.ev rfl) (hS.ev rfl) ty_sz_3 (List.getElem?_eq_some_iff.1 hex30).1
   refine an_oneB hS (i := 12) 8191 (by kernel_rfl) rfl (by kernel_rfl) rfl ?_
   refine wp_unit hS rfl hr ⟨hM.fr, ?_⟩
   refine an_done (by kernel_rfl) ?_
   have hN := hM.pk [0] (by decide) (pc rfl pn)
   have hM := Mem.callo (A := [(true, ow 3 v11 (List.map (int i64) r10.2))]) (B := [(true, bx b5 29 [(int i64 0), (Value.slice none 0 0)]), (true, ow 3 (Value.slice none 0 0) (List.map (int i64) ([] : List (Int)))), (true, bx b12 29 [(int i64 r10.1), v11])]) hB rfl (hN.memS fun _ h => h) rfl
   refine hK26 _ _ ?_
   have hS : Sl 48 [(1, (int i64 p1_v)), (2, (int i64 p2_w)), (6, (fdp b5 0)), (8, (fdp b12 0))] a := hS.sub (sub_cons rfl (sub_cons rfl (sub_cons rfl (sub_cons rfl sub_nil))))
   refine wp_seq_k fun K31 hK31 => ?_
   refine an_startB 13 (feet [(true, ow 3 v11 (List.map (int i64) (r10.2.set (p1_v.toNat) (i64.wrap (x29 + (shL 1 p2_w))))))]) ty_mixed (by kernel_rfl) fun w hf => ?_
   have hM := hM.fra hf
   have hB := hM
   have hM := hB.reg1 rfl
   refine tkB hS 0 1 (by kernel_rfl) rfl rfl rfl hQp rfl (fun w' hC' => (rv_fieldAddr ty_fd_29_1 (hS.ev rfl))) hM.fr fun a hS => ?_
   refine tkB hS 1 3 (by kernel_rfl) rfl rfl rfl hQp rfl (fun w' hC' => (rv_load_bx (hS.ev rfl) ty_ag_22 (hB.getF rfl 2 rfl hC') rfl)) hM.fr fun a hS => ?_
   refine tkB hS 2 7 (by kernel_rfl) rfl rfl rfl hQp rfl (fun w' hC' => (rv_move (hS.ev rfl))) hM.fr fun a hS => ?_
   refine tkB hS 3 15 (by kernel_rfl) rfl rfl rfl hQp rfl (fun w' hC' => (rv_fieldAddr ty_fd_29_1 (hS.ev rfl))) hM.fr fun a hS => ?_
   refine tkB hS 4 31 (by kernel_rfl) rfl rfl rfl hQp rfl (fun w' hC' => (rv_load_bx (hS.ev rfl) ty_ag_22 (hB.getF rfl 2 rfl hC') rfl)) hM.fr fun a hS => ?_
   refine tkB hS 5 63 (by kernel_rfl) rfl rfl rfl hQp rfl (fun w' hC' => (rv_move (hS.ev rfl))) hM.fr fun a hS => ?_
   obtain ⟨x34, hx, hF⟩ := bind_some hF
   obtain ⟨hi0, hi1, hex34⟩ := idxL_some hx
   refine tkB hS 6 127 (by kernel_rfl) rfl rfl rfl hQp rfl (fun w' hC' => (rv_indexAddr Try.underlying22 ty_el_3 (hS.ev rfl) (hS.ev rfl) (rd_of_ow (hM.get 0 rfl)) hi0 (map_len hi1))) hM.fr fun a hS => ?_
   refine tkB hS 8 383 (by kernel_rfl) rfl rfl rfl hQp rfl (fun w' hC' => (rv_move (hS.ev rfl))) hM.fr fun a hS => ?_
   obtain ⟨_, hx, hF⟩ := bind_some hF
   have hi0 := nnO_some hx
   refine tkB hS 9 895 (by kernel_rfl) rfl rfl rfl hQp rfl (fun w' hC' => (rv_shl (hS.ev rfl) (hS.ev rfl) hi0)) hM.fr fun a hS => ?_
   refine an_oneB hS (i := 7) 1023 (by kernel_rfl) rfl (by kernel_rfl) rfl ?_
   refine wp_val hS rfl (by decide) (rv_load_el (hS.ev rfl) ty_ag_3 (rd_of_ow (hM.get 0 rfl)) (mget hex34)) fun a hS => ⟨hM.fr, ?_⟩
   refine tkB hS 10 2047 (by kernel_rfl) rfl rfl rfl hQp rfl (fun w' hC' => (rv_add (hS.ev rfl) (hS.ev rfl))) hM.fr fun a hS => ?_
   obtain ⟨x35, hx, hF⟩ := bind_some hF
   obtain ⟨hi0, hi1, hex35⟩ := idxL_some hx
   refine tkB hS 11 4095 (by kernel_rfl) rfl rfl rfl hQp rfl (fun w' hC' => (rv_indexAddr Try.underlying22 ty_el_3 (hS.ev rfl) (hS.ev rfl) (rd_of_ow (hM.get 0 rfl)) hi0 (map_len hi1))) hM.fr fun a hS => ?_
   obtain ⟨w, hr, hM⟩ := hM.st_el (f := (int i64)) (n := p2_w.toNat) (c := (i64.wrap (x34 + (shL 1 p1_v)))) (ρ := a.eval) (dst := none) (ty := _) (pos := _) (af := _) (gd := _) (x := .tmp 46) (y := .tmp 45) i64_one (hS.ev rfl) (hS.ev rfl) ty_sz_3 (List.getElem?_eq_some_iff.1 hex35).1
   refine an_oneB hS (i := 12) 8191 (by kernel_rfl) rfl (by kernel_rfl) rfl ?_
   refine wp_unit hS rfl hr ⟨hM.fr, ?_⟩
   refine an_done (by kernel_rfl) ?_
   have hN := hM.pk [0] (by decide) (pc rfl pn)
   have hM := Mem.callo (A := [(true, ow 3 v11 (List.map (int i64) (r10.2.set (p1_v.toNat) (i64.wrap (x29 + (shL 1 p2_w))))))]) (B := [(true, bx b5 29 [(int i64 0), (Value.slice none 0 0)]), (true, ow 3 (Value.slice none 0 0) (List.map (int i64) ([] : List (Int)))), (true, bx b12 29 [(int i64 r10.1), v11])]) hB rfl (hN.memS fun _ h => h) rfl
   refine hK31 _ _ ?_
   have hS : Sl 48 [(6, (fdp b5 0)), (8, (fdp b12 0))] a := hS.sub (sub_cons rfl (sub_cons rfl sub_nil))
   refine wp_seq_k fun K36 hK36 => ?_
   refine wp_region_lit ?_
   refine st_val hS rfl rfl (by decide) (rv_load_agg (hS.ev rfl) ty_ag_29 (hM.get 3 rfl) ty_sz_29) fun a hS => ?_
   have hM := hM.pk [1, 0, 2, 3] (by decide) (pc rfl (pc rfl (pc rfl (pc rfl pn))))
   obtain ⟨w, hr, hM⟩ := hM.st_agg (us := [(int i64 r10.1), v11]) (ρ := a.eval) (dst := none) (ty := _) (pos := _) (af := _) (gd := _) (x := .tmp 6) (y := .tmp 47) (hS.ev rfl) (hS.ev rfl) ty_sz_29 (all1_cons rfl (all1_cons (rd_one (rd_of_ow (hM.get 1 rfl))) all1_nil)) rfl
   refine st_unit hS rfl rfl hr ?_
   refine st_val hS rfl rfl (by decide) (rv_assign (hS.ev rfl)) fun a hS => ?_
   refine wpList_nil ?_
   refine hK36 _ _ ?_
   refine wp_ret ?_
   cases hF
   exact hQr _ _ (r_cc hS rfl ⟨_, rfl, run_loadAgg ty_ag_29 (hM.get 0 rfl) ty_sz_29⟩ rfl ⟨v11, rfl, hM.pk [1] (by decide) (pc rfl pn)⟩)
 refine wp_region_lit ?_
 refine st_val hS rfl rfl (by decide) (rv_load_agg (hS.ev rfl) ty_ag_29 (hM.get 5 rfl) ty_sz_29) fun a hS => ?_
 refine st_val hS rfl rfl (by decide) (rv_move (hS.ev rfl)) fun a hS => ?_
 refine st_val hS rfl rfl (by decide) (rv_move (hS.ev rfl)) fun a hS => ?_
 obtain ⟨r37, hr, hF⟩ := bind_some hF
 refine st_wp hS rfl (wp_call hS rfl rfl (by decide) fn_ok_42 rfl (c_spec_l2Pair F p0_g_Size p0_g_Rows p1_v p2_w p0_g_Rowsv hr _ (hM.get 6 rfl)) fun v w a hK hS => ?_)
 obtain ⟨rfl, hN⟩ := hK
 have hM := hM.fra hN.fr
 refine st_val hS rfl rfl (by decide) (rv_not (hS.ev rfl)) fun a hS => ?_
 refine st_val hS rfl rfl (by decide) (rv_move (hS.ev rfl)) fun a hS => ?_
 rcases ite_some hF with ⟨hc, hF⟩ | ⟨hc, hF⟩
 ·have hS := hS.setb (t := 16) rfl hc
  refine st_skip hS rfl rfl (by decide) fun a hS => ?_
  refine st_skip hS rfl rfl (by decide) fun a hS => ?_
  refine st_skip hS rfl rfl (by decide) fun a hS => ?_
  refine st_skip hS rfl rfl (by decide) fun a hS => ?_
  refine st_val hS rfl rfl (by decide) (rv_pick_t (hS.ev rfl) (hS.ev rfl)) fun a hS => ?_
  refine wpList_nil ?_
  exact hJ1 true _ _ (hS.sub (sub_cons rfl (sub_cons rfl (sub_cons rfl (sub_cons rfl (sub_cons rfl sub_nil)))))) (hM.pk [4, 3, 0, 2] (by decide) (pc rfl (pc rfl (pc rfl (pc rfl pn))))) hF
 ·have hS := hS.setb (t := 16) rfl hc
  refine st_val hS rfl rfl (by decide) (rv_load_agg (hS.ev rfl) ty_ag_29 (hM.get 5 rfl) ty_sz_29) fun a hS => ?_
  refine st_val hS rfl rfl (by decide) (rv_move (hS.ev rfl)) fun a hS => ?_
  refine st_val hS rfl rfl (by decide) (rv_move (hS.ev rfl)) fun a hS => ?_
  obtain ⟨r38, hr, hF⟩ := bind_some hF
  refine st_wp hS rfl (wp_call hS rfl rfl (by decide) fn_ok_20 rfl (c_spec_l2Edge F p0_g_Size p0_g_Rows p1_v p2_w p0_g_Rowsv hr _ (hM.get 6 rfl)) fun v w a hK hS => ?_)
  obtain ⟨rfl, hN⟩ := hK
  have hM := hM.fra hN.fr
  refine st_val hS rfl rfl (by decide) (rv_pick_f (hS.ev rfl) (hS.ev rfl)) fun a hS => ?_
  refine wpList_nil ?_
  exact hJ1 r38 _ _ (hS.sub (sub_cons rfl (sub_cons rfl (sub_cons rfl (sub_cons rfl (sub_cons rfl sub_nil)))))) (hM.pk [4, 3, 0, 2] (by decide) (pc rfl (pc rfl (pc rfl (pc rfl pn))))) hF


theorem c_spec_l6Filled (F : Nat) (p0_g_Size : Int) (p0_g_Rows : List Int) (p1_order : List Int) (p0_g_Rowsv : Value) (p1_orderv : Value) {r : Int × (List (Int))} (hF : S_spec_l6Filled F p0_g_Size p0_g_Rows p1_order = some r) (w0 : World) (h0 : RdRow w0 p0_g_Rowsv (List.map (int i64) p0_g_Rows)) (h1 : RdRow w0 p1_orderv (List.map (int i64) p1_order)) :
    Calls Try.prog 18 [(Value.agg #[(int i64 p0_g_Size), p0_g_Rowsv]), p1_orderv].toArray w0 (retPost fun v w' => ∃ v3528, v = (Value.agg #[(int i64 r.1), v3528]) ∧ Mem Nob w0 w' [(true, ow 3 v3528 (List.map (int i64) r.2))]) := by
 have hM : Mem Nob w0 w0 [(false, rd p0_g_Rowsv (List.map (int i64) p0_g_Rows)), (false, rd p1_orderv (List.map (int i64) p1_order))] := (Mem.rcons (Mem.rcons (Mem.nil w0) h1 (by simp)) h0 (by simp))
 refine enter2 Try.func18 rfl rfl rfl fun Q a hQr hQn hQp hS => ?_
 have hS : Sl 51 [(0, (Value.agg #[(int i64 p0_g_Size), p0_g_Rowsv])), (1, p1_orderv)] a := hS
 unfold S_spec_l6Filled at hF
 refine wp_seq_k fun K1 hK1 => ?_
 refine wp_region_lit ?_
 obtain ⟨b4, w, hr, hM⟩ := hM.boxE (ρ := a.eval) (dst := some 2) (ty := _) (pos := _) (af := _) (gd := _) (x := .tmp 0) (T := 29) [(int i64 p0_g_Size), p0_g_Rowsv] (hS.ev rfl) rfl
 refine st_val hS rfl rfl (by decide) hr fun a hS => ?_
 obtain ⟨b5, w, hr, hM⟩ := hM.allocE (ρ := a.eval) (dst := some 4) (ty := _) (pos := _) (af := _) (gd := _) (T := 29) (P := Try.prog) [(int i64 0), (Value.slice none 0 0)] ty_zr_29 rfl
 refine st_val hS rfl rfl (by decide) hr fun a hS => ?_
 have hM := hM.addNil 3
 refine wpList_nil ?_
 refine hK1 _ _ ?_
 refine wp_seq_k fun K6 hK6 => ?_
 refine wp_region_lit ?_
 refine st_val hS rfl rfl (by decide) (rv_load_agg (hS.ev rfl) ty_ag_29 (hM.get 2 rfl) ty_sz_29) fun a hS => ?_
 obtain ⟨r10, hr, hF⟩ := bind_some hF
 refine st_wp hS rfl (wp_call hS rfl rfl (by decide) fn_ok_29 rfl (c_spec_l2Copy F p0_g_Size p0_g_Rows p0_g_Rowsv hr _ (hM.get 3 rfl)) fun v w a hK hS => ?_)
 obtain ⟨v11, rfl, hN⟩ := hK
 have hM := hM.add hN rfl
 obtain ⟨b12, w, hr, hM⟩ := hM.allocE (ρ := a.eval) (dst := some 5) (ty := _) (pos := _) (af := _) (gd := _) (T := 29) (P := Try.prog) [(int i64 0), (Value.slice none 0 0)] ty_zr_29 rfl
 refine st_val hS rfl rfl (by decide) hr fun a hS => ?_
 have hM := hM.addNil 3
 have hM := hM.pk [1, 0, 2, 3, 4, 5, 6, 7] (by decide) (pc rfl (pc rfl (pc rfl (pc rfl (pc rfl (pc rfl (pc rfl (pc rfl pn))))))))
 obtain ⟨w, hr, hM⟩ := hM.st_agg (us := [(int i64 r10.1), v11]) (ρ := a.eval) (dst := none) (ty := _) (pos := _) (af := _) (gd := _) (x := .tmp 5) (y := .tmp 11) (hS.ev rfl) (hS.ev rfl) ty_sz_29 (all1_cons rfl (all1_cons (rd_one (rd_of_ow (hM.get 2 rfl))) all1_nil)) rfl
 refine st_unit hS rfl rfl hr ?_
 refine wpList_nil ?_
 refine hK6 _ _ ?_
 have hS : Sl 51 [(1, p1_orderv), (4, (fdp b5 0)), (5, (fdp b12 0))] a := hS.sub (sub_cons rfl (sub_cons rfl (sub_cons rfl sub_nil)))
 have hM := hM.pk [0, 2, 3, 4, 7] (by decide) (pc rfl (pc rfl (pc rfl (pc rfl (pc rfl pn)))))
 refine wp_seq_k fun K13 hK13 => ?_
 have hJ1 : ∀ (x1769 : Int) (l1771 : List Int) (v1770 : Value) (a : Act) (w : World), Sl 51 [(4, (fdp b5 0)), (5, (fdp b12 0))] a → Mem Nob w0 w [(true, bx b5 29 [(int i64 0), (Value.slice none 0 0)]), (true, ow 3 (Value.slice none 0 0) (List.map (int i64) ([] : List (Int)))), (true, bx b12 29 [(int i64 x1769), v1770]), (true, ow 3 v1770 (List.map (int i64) l1771))] → S_spec_l6Filled_j1 F x1769 l1771 = some r → K13 a w := by
  intro x1769 l1771 v1770 a w hS hM hF
  unfold S_spec_l6Filled_j1 at hF
  refine hK13 _ _ ?_
  refine wp_seq_k fun K1772 hK1772 => ?_
  refine wp_region_lit ?_
  refine st_val hS rfl rfl (by decide) (rv_load_agg (hS.ev rfl) ty_ag_29 (hM.get 2 rfl) ty_sz_29) fun a hS => ?_
  obtain ⟨w, hr, hM⟩ := hM.st_agg (us := [(int i64 x1769), v1770]) (ρ := a.eval) (dst := none) (ty := _) (pos := _) (af := _) (gd := _) (x := .tmp 4) (y := .tmp 50) (hS.ev rfl) (hS.ev rfl) ty_sz_29 (all1_cons rfl (all1_cons (rd_one (rd_of_ow (hM.get 3 rfl))) all1_nil)) rfl
  refine st_unit hS rfl rfl hr ?_
  refine wpList_nil ?_
  refine hK1772 _ _ ?_
  refine wp_ret ?_
  cases hF
  exact hQr _ _ (r_c hS rfl ⟨_, rfl, run_loadAgg ty_ag_29 (hM.get 0 rfl) ty_sz_29⟩ ⟨v1770, rfl, hM.pk [3] (by decide) (pc rfl pn)⟩)
 refine wp_seq_k fun K1773 hK1773 => ?_
 refine wp_region_lit ?_
 refine st_val hS rfl rfl (by decide) (rv_assign (hS.ev rfl)) fun a hS => ?_
 refine wpList_nil ?_
 refine hK1773 _ _ ?_
 refine wp_block ?_
 obtain ⟨lb2, hl2, hF2⟩ := bind_some hF
 refine wp_loop_sh (fun s => S_spec_l6Filled_l2 F p1_order s.1 s.2.1 s.2.2) (fun s a w => ∃ (v2359 : Value), Sl 51 [(1, p1_orderv), (4, (fdp b5 0)), (5, (fdp b12 0)), (6, (int i64 s.2.2))] a ∧ Mem Nob w0 w [(false, rd p1_orderv (List.map (int i64) p1_order)), (true, bx b5 29 [(int i64 0), (Value.slice none 0 0)]), (true, ow 3 (Value.slice none 0 0) (List.map (int i64) ([] : List (Int)))), (true, bx b12 29 [(int i64 s.1), v2359]), (true, ow 3 v2359 (List.map (int i64) s.2.1))]) hl2 ⟨v11, (hS.sub (sub_cons rfl (sub_cons rfl (sub_cons rfl (sub_cons rfl sub_nil))))), (hM.pk [4, 3, 2, 0, 1] (by decide) (pc rfl (pc rfl (pc rfl (pc rfl (pc rfl pn))))))⟩ ?_
 rintro K2 ⟨x2358, l2360, x2361⟩ a w res2 ⟨v2359, hS, hM⟩ hF hN2 hX2
 have hF : S_spec_l6Filled_l2 F p1_order x2358 l2360 x2361 = some res2 := hF
 have hS : Sl 51 [(1, p1_orderv), (4, (fdp b5 0)), (5, (fdp b12 0)), (6, (int i64 x2361))] a := hS
 have hM : Mem Nob w0 w [(false, rd p1_orderv (List.map (int i64) p1_order)), (true, bx b5 29 [(int i64 0), (Value.slice none 0 0)]), (true, ow 3 (Value.slice none 0 0) (List.map (int i64) ([] : List (Int)))), (true, bx b12 29 [(int i64 x2358), v2359]), (true, ow 3 v2359 (List.map (int i64) l2360))] := hM
 unfold S_spec_l6Filled_l2 at hF
 refine wp_seq_k fun K2945 hK2945 => ?_
 refine wp_seq_k fun K2947 hK2947 => ?_
 refine wp_region_lit ?_
 refine st_val hS rfl rfl (by decide) (rv_move (hS.ev rfl)) fun a hS => ?_
 refine st_val hS rfl rfl (by decide) (rv_move (hS.ev rfl)) fun a hS => ?_
 refine st_val hS rfl rfl (by decide) (rv_len_rowM Try.underlying22 (hS.ev rfl) (hM.get 0 rfl)) fun a hS => ?_
 refine st_val hS rfl rfl (by decide) (rv_lss (hS.ev rfl) (hS.ev rfl)) fun a hS => ?_
 refine wpList_nil ?_
 refine hK2947 _ _ ?_
 rcases ite_some hF with ⟨hc, hF⟩ | ⟨hc, hF⟩
 ·refine cond_t hS rfl hc ?_
  refine wp_skip ?_
  refine hK2945 _ _ ?_
  refine wp_seq_k fun K2948 hK2948 => ?_
  have hJ3 : ∀ (x3237 : Int) (l3239 : List Int) (v3238 : Value) (a : Act) (w : World), Sl 51 [(1, p1_orderv), (4, (fdp b5 0)), (5, (fdp b12 0)), (6, (int i64 x2361))] a → Mem Nob w0 w [(false, rd p1_orderv (List.map (int i64) p1_order)), (true, bx b5 29 [(int i64 0), (Value.slice none 0 0)]), (true, ow 3 (Value.slice none 0 0) (List.map (int i64) ([] : List (Int)))), (true, bx b12 29 [(int i64 x3237), v3238]), (true, ow 3 v3238 (List.map (int i64) l3239))] → S_spec_l6Filled_j3 F x2361 x3237 l3239 = some res2 → K2948 a w := by
   intro x3237 l3239 v3238 a w hS hM hF
   unfold S_spec_l6Filled_j3 at hF
   refine hK2948 _ _ ?_
   refine wp_region_lit ?_
   refine st_val hS rfl rfl (by decide) (rv_move (hS.ev rfl)) fun a hS => ?_
   refine st_val hS rfl rfl (by decide) (rv_add (hS.ev rfl) (hS.ev rfl)) fun a hS => ?_
   refine st_val hS rfl rfl (by decide) (rv_assign (hS.ev rfl)) fun a hS => ?_
   refine wpList_nil ?_
   cases hF
   exact hN2 _ _ _ rfl ⟨v3238, (hS.sub (sub_cons rfl (sub_cons rfl (sub_cons rfl (sub_cons rfl sub_nil))))), (hM.pk [0, 1, 2, 3, 4] (by decide) (pc rfl (pc rfl (pc rfl (pc rfl (pc rfl pn))))))⟩
  refine wp_block ?_
  refine wp_seq_k fun K3240 hK3240 => ?_
  refine an_startB 9 Nob ty_mixed (by kernel_rfl) fun w hf => ?_
  have hM := hM.fra hf
  have hB := hM
  have hM := hB.reg0
  try dsimp only [ro] at hM
  refine tkB hS 0 1 (by kernel_rfl) rfl rfl rfl hQp rfl (fun w' hC' => (rv_load_agg (hS.ev rfl) ty_ag_29 ((hB.fra hC').get 3 rfl) ty_sz_29)) hM.fr fun a hS => ?_
  refine tkB hS 1 3 (by kernel_rfl) rfl rfl rfl hQp rfl (fun w' hC' => (rv_move (hS.ev rfl))) hM.fr fun a hS => ?_
  refine tkB hS 2 7 (by kernel_rfl) rfl rfl rfl hQp rfl (fun w' hC' => (rv_move (hS.ev rfl))) hM.fr fun a hS => ?_
  refine tkB hS 3 15 (by kernel_rfl) rfl rfl rfl hQp rfl (fun w' hC' => (rv_move (hS.ev rfl))) hM.fr fun a hS => ?_
  obtain ⟨x3245, hx, hF⟩ := bind_some hF
  obtain ⟨hi0, hi1, hex3245⟩ := idxL_some hx
  refine tkB hS 4 31 (by kernel_rfl) rfl rfl rfl hQp rfl (fun w' hC' => (rv_indexAddr Try.underlying22 ty_el_3 (hS.ev rfl) (hS.ev rfl) (hM.get 0 rfl) hi0 (map_len hi1))) hM.fr fun a hS => ?_
  refine tkB hS 5 63 (by kernel_rfl) rfl rfl rfl hQp rfl (fun w' hC' => (rv_load_el (hS.ev rfl) ty_ag_3 ((hB.fra hC').get 0 rfl) (mget hex3245))) hM.fr fun a hS => ?_
  obtain ⟨r3246, hr, hF⟩ := bind_some hF
  refine an_oneB hS (i := 6) 127 (by kernel_rfl) rfl (by kernel_rfl) rfl ?_
  refine wp_call hS rfl rfl (by decide) fn_ok_31 rfl (c_spec_LaterNeighbours F x2358 l2360 p1_order x3245 v2359 p1_orderv hr _ (rd_of_ow (hM.get 4 rfl)) (hM.get 0 rfl)) fun v w a hK hS => ?_
  obtain ⟨rfl, hN⟩ := hK
  have hM := hM.fra hN.fr
  refine ⟨hM.fr, ?_⟩
  obtain ⟨r3247, hr, hF⟩ := bind_some hF
  refine an_oneB hS (i := 7) 255 (by kernel_rfl) rfl (by kernel_rfl) rfl ?_
  refine wp_call hS rfl rfl (by decide) fn_ok_30 rfl (c_spec_ListOf F r3246 hr _) fun v3248 w a hK hS => ?_
  have hN := hK
  have hM := hM.add hN rfl
  refine ⟨hM.fr, ?_⟩
  refine tkB hS 8 511 (by kernel_rfl) rfl rfl rfl hQp rfl (fun w' hC' => (rv_assign (hS.ev rfl))) hM.fr fun a hS => ?_
  refine an_done (by kernel_rfl) ?_
  have hN := hM.pk [0] (by decide) (pc rfl pn)
  have hM := Mem.callo0 hB hN rfl
  refine hK3240 _ _ ?_
  have hS : Sl 51 [(1, p1_orderv), (4, (fdp b5 0)), (5, (fdp b12 0)), (6, (int i64 x2361)), (7, v3248)] a := hS.sub (sub_cons rfl (sub_cons rfl (sub_cons rfl (sub_cons rfl (sub_cons rfl sub_nil)))))
  refine wp_seq_k fun K3249 hK3249 => ?_
  refine wp_region_lit ?_
  refine st_val hS rfl rfl (by decide) (rv_assign (hS.ev rfl)) fun a hS => ?_
  refine wpList_nil ?_
  refine hK3249 _ _ ?_
  refine wp_block ?_
  obtain ⟨lb4, hl4, hF4⟩ := bind_some hF
  refine wp_loop_sh (fun s => S_spec_l6Filled_l4 F r3247 s.1 s.2.1 s.2.2) (fun s a w => ∃ (v3343 : Value), Sl 51 [(1, p1_orderv), (4, (fdp b5 0)), (5, (fdp b12 0)), (6, (int i64 x2361)), (7, v3248), (8, (int i64 s.2.2))] a ∧ Mem Nob w0 w [(false, rd p1_orderv (List.map (int i64) p1_order)), (true, bx b5 29 [(int i64 0), (Value.slice none 0 0)]), (true, ow 3 (Value.slice none 0 0) (List.map (int i64) ([] : List (Int)))), (true, bx b12 29 [(int i64 s.1), v3343]), (true, ow 3 v3343 (List.map (int i64) s.2.1)), (true, ow 3 v3248 (List.map (int i64) r3247))]) hl4 ⟨v2359, (hS.sub (sub_cons rfl (sub_cons rfl (sub_cons rfl (sub_cons rfl (sub_cons rfl (sub_cons rfl sub_nil))))))), (hM.pk [1, 2, 3, 4, 5, 0] (by decide) (pc rfl (pc rfl (pc rfl (pc rfl (pc rfl (pc rfl pn)))))))⟩ ?_
  rintro K4 ⟨x3342, l3344, x3345⟩ a w res4 ⟨v3343, hS, hM⟩ hF hN4 hX4
  have hF : S_spec_l6Filled_l4 F r3247 x3342 l3344 x3345 = some res4 := hF
  have hS : Sl 51 [(1, p1_orderv), (4, (fdp b5 0)), (5, (fdp b12 0)), (6, (int i64 x2361)), (7, v3248), (8, (int i64 x3345))] a := hS
  have hM : Mem Nob w0 w [(false, rd p1_orderv (List.map (int i64) p1_order)), (true, bx b5 29 [(int i64 0), (Value.slice none 0 0)]), (true, ow 3 (Value.slice none 0 0) (List.map (int i64) ([] : List (Int)))), (true, bx b12 29 [(int i64 x3342), v3343]), (true, ow 3 v3343 (List.map (int i64) l3344)), (true, ow 3 v3248 (List.map (int i64) r3247))] := hM
  unfold S_spec_l6Filled_l4 at hF
  refine wp_seq_k fun K3437 hK3437 => ?_
  refine wp_seq_k fun K3439 hK3439 => ?_
  refine wp_region_lit ?_
  refine st_val hS rfl rfl (by decide) (rv_move (hS.ev rfl)) fun a hS => ?_
  refine st_val hS rfl rfl (by decide) (rv_move (hS.ev rfl)) fun a hS => ?_
  refine st_val hS rfl rfl (by decide) (rv_len_rowM Try.underlying22 (hS.ev rfl) (rd_of_ow (hM.get 5 rfl))) fun a hS => ?_
  refine st_val hS rfl rfl (by decide) (rv_lss (hS.ev rfl) (hS.ev rfl)) fun a hS => ?_
  refine wpList_nil ?_
  refine hK3439 _ _ ?_
  rcases ite_some hF with ⟨hc, hF⟩ | ⟨hc, hF⟩
  ·refine cond_t hS rfl hc ?_
   refine wp_skip ?_
   refine hK3437 _ _ ?_
   refine wp_seq_k fun K3440 hK3440 => ?_
   have hJ5 : ∀ (x3483 : Int) (l3485 : List Int) (v3484 : Value) (a : Act) (w : World), Sl 51 [(1, p1_orderv), (4, (fdp b5 0)), (5, (fdp b12 0)), (6, (int i64 x2361)), (7, v3248), (8, (int i64 x3345))] a → Mem Nob w0 w [(false, rd p1_orderv (List.map (int i64) p1_order)), (true, bx b5 29 [(int i64 0), (Value.slice none 0 0)]), (true, ow 3 (Value.slice none 0 0) (List.map (int i64) ([] : List (Int)))), (true, bx b12 29 [(int i64 x3483), v3484]), (true, ow 3 v3484 (List.map (int i64) l3485)), (true, ow 3 v3248 (List.map (int i64) r3247))] → S_spec_l6Filled_j5 F x3345 x3483 l3485 = some res4 → K3440 a w := by
    intro x3483 l3485 v3484 a w hS hM hF
    unfold S_spec_l6Filled_j5 at hF
    refine hK3440 _ _ ?_
    refine wp_region_lit ?_
    refine st_val hS rfl rfl (by decide) (rv_move (hS.ev rfl)) fun a hS => ?_
    refine st_val hS rfl rfl (by decide) (rv_add (hS.ev rfl) (hS.ev rfl)) fun a hS => ?_
    refine st_val hS rfl rfl (by decide) (rv_assign (hS.ev rfl)) fun a hS => ?_
    refine wpList_nil ?_
    cases hF
    exact hN4 _ _ _ rfl ⟨v3484, (hS.sub (sub_cons rfl (sub_cons rfl (sub_cons rfl (sub_cons rfl (sub_cons rfl (sub_cons rfl sub_nil))))))), (hM.pk [0, 1, 2, 3, 4, 5] (by decide) (pc rfl (pc rfl (pc rfl (pc rfl (pc rfl (pc rfl pn)))))))⟩
   refine wp_block ?_
   refine wp_seq_k fun K3486 hK3486 => ?_
   refine wp_region_lit ?_
   refine st_val hS rfl rfl (by decide) (rv_assign (hS.ev rfl)) fun a hS => ?_
   refine wpList_nil ?_
   refine hK3486 _ _ ?_
   refine wp_block ?_
   obtain ⟨lb6, hl6, hF6⟩ := bind_some hF
   refine wp_loop_sh (fun s => S_spec_l6Filled_l6 F r3247 x3345 s.1 s.2.1 s.2.2) (fun s a w => ∃ (v3501 : Value), Sl 51 [(1, p1_orderv), (4, (fdp b5 0)), (5, (fdp b12 0)), (6, (int i64 x2361)), (7, v3248), (8, (int i64 x3345)), (9, (int i64 s.2.2))] a ∧ Mem Nob w0 w [(false, rd p1_orderv (List.map (int i64) p1_order)), (true, bx b5 29 [(int i64 0), (Value.slice none 0 0)]), (true, ow 3 (Value.slice none 0 0) (List.map (int i64) ([] : List (Int)))), (true, bx b12 29 [(int i64 s.1), v3501]), (true, ow 3 v3501 (List.map (int i64) s.2.1)), (true, ow 3 v3248 (List.map (int i64) r3247))]) hl6 ⟨v3343, (hS.sub (sub_cons rfl (sub_cons rfl (sub_cons rfl (sub_cons rfl (sub_cons rfl (sub_cons rfl (sub_cons rfl sub_nil)))))))), (hM.pk [0, 1, 2, 3, 4, 5] (by decide) (pc rfl (pc rfl (pc rfl (pc rfl (pc rfl (pc rfl pn)))))))⟩ ?_
   rintro K6 ⟨x3500, l3502, x3503⟩ a w res6 ⟨v3501, hS, hM⟩ hF hN6 hX6
   have hF : S_spec_l6Filled_l6 F r3247 x3345 x3500 l3502 x3503 = some res6 := hF
   have hS : Sl 51 [(1, p1_orderv), (4, (fdp b5 0)), (5, (fdp b12 0)), (6, (int i64 x2361)), (7, v3248), (8, (int i64 x3345)), (9, (int i64 x3503))] a := hS
   have hM : Mem Nob w0 w [(false, rd p1_orderv (List.map (int i64) p1_order)), (true, bx b5 29 [(int i64 0), (Value.slice none 0 0)]), (true, ow 3 (Value.slice none 0 0) (List.map (int i64) ([] : List (Int)))), (true, bx b12 29 [(int i64 x3500), v3501]), (true, ow 3 v3501 (List.map (int i64) l3502)), (true, ow 3 v3248 (List.map (int i64) r3247))] := hM
   unfold S_spec_l6Filled_l6 at hF
   refine wp_seq_k fun K3516 hK3516 => ?_
   refine wp_seq_k fun K3518 hK3518 => ?_
   refine wp_region_lit ?_
   refine st_val hS rfl rfl (by decide) (rv_move (hS.ev rfl)) fun a hS => ?_
   refine st_val hS rfl rfl (by decide) (rv_move (hS.ev rfl)) fun a hS => ?_
   refine st_val hS rfl rfl (by decide) (rv_lss (hS.ev rfl) (hS.ev rfl)) fun a hS => ?_
   refine wpList_nil ?_
   refine hK3518 _ _ ?_
   rcases ite_some hF with ⟨hc, hF⟩ | ⟨hc, hF⟩
   ·refine cond_t hS rfl hc ?_
    refine wp_skip ?_
    refine hK3516 _ _ ?_
    refine wp_seq_k fun K3519 hK3519 => ?_
    refine wp_block ?_
    have hM := hM.pk [3, 0, 1, 2, 4, 5] (by decide) (pc rfl (pc rfl (pc rfl (pc rfl (pc rfl (pc rfl pn))))))
    refine an_startB 14 (feet [(true, bx b12 29 [(int i64 x3500), v3501])]) ty_mixed (by kernel_rfl) fun w hf => ?_
    have hM := hM.fra hf
    have hB := hM
    have hM := hB.reg1 rfl
    refine tkB hS 1 2 (by kernel_rfl) rfl rfl rfl hQp rfl (fun w' hC' => (rv_move (hS.ev rfl))) hM.fr fun a hS => ?_
    refine tkB hS 2 6 (by kernel_rfl) rfl rfl rfl hQp rfl (fun w' hC' => (rv_move (hS.ev rfl))) hM.fr fun a hS => ?_
    obtain ⟨x3524, hx, hF⟩ := bind_some hF
    obtain ⟨hi0, hi1, hex3524⟩ := idxL_some hx
    refine tkB hS 3 14 (by kernel_rfl) rfl rfl rfl hQp rfl (fun w' hC' => (rv_indexAddr Try.underlying22 ty_el_3 (hS.ev rfl) (hS.ev rfl) (rd_of_ow (hM.get 5 rfl)) hi0 (map_len hi1))) hM.fr fun a hS => ?_
    refine tkB hS 4 30 (by kernel_rfl) rfl rfl rfl hQp rfl (fun w' hC' => (rv_load_el (hS.ev rfl) ty_ag_3 (rd_of_ow (hB.getF rfl 4 rfl hC')) (mget hex3524))) hM.fr fun a hS => ?_
    refine tkB hS 5 62 (by kernel_rfl) rfl rfl rfl hQp rfl (fun w' hC' => (rv_move (hS.ev rfl))) hM.fr fun a hS => ?_
    refine tkB hS 6 126 (by kernel_rfl) rfl rfl rfl hQp rfl (fun w' hC' => (rv_move (hS.ev rfl))) hM.fr fun a hS => ?_
    obtain ⟨x3525, hx, hF⟩ := bind_some hF
    obtain ⟨hi0, hi1, hex3525⟩ := idxL_some hx
    refine tkB hS 7 254 (by kernel_rfl) rfl rfl rfl hQp rfl (fun w' hC' => (rv_indexAddr Try.underlying22 ty_el_3 (hS.ev rfl) (hS.ev rfl) (rd_of_ow (hM.get 5 rfl)) hi0 (map_len hi1))) hM.fr fun a hS => ?_
    refine tkB hS 8 510 (by kernel_rfl) rfl rfl rfl hQp rfl (fun w' hC' => (rv_load_el (hS.ev rfl) ty_ag_3 (rd_of_ow (hB.getF rfl 4 rfl hC')) (mget hex3525))) hM.fr fun a hS => ?_
    refine an_oneB hS (i := 0) 511 (by kernel_rfl) rfl (by kernel_rfl) rfl ?_
    refine wp_val hS rfl (by decide) (rv_load_agg (hS.ev rfl) ty_ag_29 (hM.get 0 rfl) ty_sz_29) fun a hS => ⟨hM.fr, ?_⟩
    obtain ⟨r3526, hr, hF⟩ := bind_some hF
    refine an_oneB hS (i := 9) 1023 (by kernel_rfl) rfl (by kernel_rfl) rfl ?_
    refine wp_call hS rfl rfl (by decide) fn_ok_32 rfl (c_spec_AddEdge F x3500 l3502 x3524 x3525 v3501 hr _ (rd_of_ow (hM.get 4 rfl))) fun v w a hK hS => ?_
    obtain ⟨v3527, rfl, hN⟩ := hK
    have hM := hM.add hN rfl
    refine ⟨hM.fr, ?_⟩
    refine tkB hS 10 2047 (by kernel_rfl) rfl rfl rfl hQp rfl (fun w' hC' => (rv_move (hS.ev rfl))) hM.fr fun a hS => ?_
    refine tkB hS 11 4095 (by kernel_rfl) rfl rfl rfl hQp rfl (fun w' hC' => (rv_extract (hS.ev rfl) rfl)) hM.fr fun a hS => ?_
    refine tkB hS 12 8191 (by kernel_rfl) rfl rfl rfl hQp rfl (fun w' hC' => (rv_extract (hS.ev rfl) rfl)) hM.fr fun a hS => ?_
    have hM := hM.pk [1, 0, 2, 3, 4, 5, 6] (by decide) (pc rfl (pc rfl (pc rfl (pc rfl (pc rfl (pc rfl (pc rfl pn)))))))
    obtain ⟨w, hr, hM⟩ := hM.st_agg (us := [(int i64 r3526.1), v3527]) (ρ := a.eval) (dst := none) (ty := _) (pos := _) (af := _) (gd := _) (x := .tmp 5) (y := .tmp 48) (hS.ev rfl) (hS.ev rfl) ty_sz_29 (all1_cons rfl (all1_cons (rd_one (rd_of_ow (hM.get 1 rfl))) all1_nil)) rfl
    refine an_oneB hS (i := 13) 16383 (by kernel_rfl) rfl (by kernel_rfl) rfl ?_
    refine wp_unit hS rfl hr ⟨hM.fr, ?_⟩
    refine an_done (by kernel_rfl) ?_
    have hN := hM.pk [0, 1] (by decide) (pc rfl (pc rfl pn))
    have hM := Mem.callo (A := [(true, bx b12 29 [(int i64 x3500), v3501])]) (B := [(false, rd p1_orderv (List.map (int i64) p1_order)), (true, bx b5 29 [(int i64 0), (Value.slice none 0 0)]), (true, ow 3 (Value.slice none 0 0) (List.map (int i64) ([] : List (Int)))), (true, ow 3 v3501 (List.map (int i64) l3502)), (true, ow 3 v3248 (List.map (int i64) r3247))]) hB rfl (hN.memS fun _ h => h) rfl
    refine hK3519 _ _ ?_
    have hS : Sl 51 [(1, p1_orderv), (4, (fdp b5 0)), (5, (fdp b12 0)), (6, (int i64 x2361)), (7, v3248), (8, (int i64 x3345)), (9, (int i64 x3503))] a := hS.sub (sub_cons rfl (sub_cons rfl (sub_cons rfl (sub_cons rfl (sub_cons rfl (sub_cons rfl (sub_cons rfl sub_nil)))))))
    have hM := hM.pk [0, 1, 2, 3, 4, 6] (by decide) (pc rfl (pc rfl (pc rfl (pc rfl (pc rfl (pc rfl pn))))))
    refine wp_region_lit ?_
    refine st_val hS rfl rfl (by decide) (rv_move (hS.ev rfl)) fun a hS => ?_
    refine st_val hS rfl rfl (by decide) (rv_add (hS.ev rfl) (hS.ev rfl)) fun a hS => ?_
    refine st_val hS rfl rfl (by decide) (rv_assign (hS.ev rfl)) fun a hS => ?_
    refine wpList_nil ?_
    cases hF
    exact hN6 _ _ _ rfl ⟨v3527, (hS.sub (sub_cons rfl (sub_cons rfl (sub_cons rfl (sub_cons rfl (sub_cons rfl (sub_cons rfl (sub_cons rfl sub_nil)))))))), (hM.pk [2, 3, 4, 0, 1, 5] (by decide) (pc rfl (pc rfl (pc rfl (pc rfl (pc rfl (pc rfl pn)))))))⟩
   ·refine cond_f hS rfl hc ?_
    refine wp_exit ?_
    cases hF
    exact hJ5 x3500 l3502 v3501 _ _ (hS.sub (sub_cons rfl (sub_cons rfl (sub_cons rfl (sub_cons rfl (sub_cons rfl (sub_cons rfl sub_nil))))))) (hM.pk [0, 1, 2, 3, 4, 5] (by decide) (pc rfl (pc rfl (pc rfl (pc rfl (pc rfl (pc rfl pn))))))) (by have e := hX6 _ rfl; subst e; exact hF6)
  ·refine cond_f hS rfl hc ?_
   refine wp_exit ?_
   cases hF
   exact hJ3 x3342 l3344 v3343 _ _ (hS.sub (sub_cons rfl (sub_cons rfl (sub_cons rfl (sub_cons rfl sub_nil))))) (hM.pk [0, 1, 2, 3, 4] (by decide) (pc rfl (pc rfl (pc rfl (pc rfl (pc rfl pn)))))) (by have e := hX4 _ rfl; subst e; exact hF4)
 ·refine cond_f hS rfl hc ?_
  refine wp_exit ?_
  cases hF
  exact hJ1 x2358 l2360 v2359 _ _ (hS.sub (sub_cons rfl (sub_cons rfl sub_nil))) (hM.pk [1, 2, 3, 4] (by decide) (pc rfl (pc rfl (pc rfl (pc rfl pn))))) (by have e := hX2 _ rfl; subst e; exact hF2)


theorem c_spec_EdgesOf (F : Nat) (p0_g_Size : Int) (p0_g_Rows : List Int) (p0_g_Rowsv : Value) {r : (List (List Int))} (hF : S_spec_EdgesOf F p0_g_Size p0_g_Rows = some r) (w0 : World) (h0 : RdRow w0 p0_g_Rowsv (List.map (int i64) p0_g_Rows)) :
    Calls Try.prog 19 [(Value.agg #[(int i64 p0_g_Size), p0_g_Rowsv])].toArray w0 (retPost fun v w' => ∃ v418 hs419, v = v418 ∧ Mem Nob w0 w' [(true, mx 22 3 v418 hs419 (List.map (List.map (int i64)) r))]) := by
 have hM : Mem Nob w0 w0 [(false, rd p0_g_Rowsv (List.map (int i64) p0_g_Rows))] := (Mem.rcons (Mem.nil w0) h0 (by simp))
 refine enter2 Try.func19 rfl rfl rfl fun Q a hQr hQn hQp hS => ?_
 have hS : Sl 36 [(0, (Value.agg #[(int i64 p0_g_Size), p0_g_Rowsv]))] a := hS
 unfold S_spec_EdgesOf at hF
 refine wp_seq_k fun K1 hK1 => ?_
 refine wp_region_lit ?_
 obtain ⟨b3, w, hr, hM⟩ := hM.boxE (ρ := a.eval) (dst := some 1) (ty := _) (pos := _) (af := _) (gd := _) (x := .tmp 0) (T := 29) [(int i64 p0_g_Size), p0_g_Rowsv] (hS.ev rfl) rfl
 refine st_val hS rfl rfl (by decide) hr fun a hS => ?_
 refine st_val hS rfl rfl (by decide) (rv_assign (hS.ev rfl)) fun a hS => ?_
 refine wpList_nil ?_
 refine hK1 _ _ ?_
 refine wp_seq_k fun K4 hK4 => ?_
 refine wp_region_lit ?_
 obtain ⟨v6, w, hr, hM⟩ := Mem.mxLit0 (e2 := 3) (dst := some 6) (ty := _) (pos := _) (af := _) (gd := _) hM hS Try.underlying26 ty_el_22 rfl
 refine st_val hS rfl rfl (by decide) hr fun a hS => ?_
 refine st_val hS rfl rfl (by decide) (rv_assign (hS.ev rfl)) fun a hS => ?_
 refine wpList_nil ?_
 refine hK4 _ _ ?_
 refine wp_seq_k fun K7 hK7 => ?_
 have hJ1 : ∀ (l213 : List (List Int)) (v211 : Value) (hs212 : List Value) (a : Act) (w : World), Sl 36 [(3, v211)] a → Mem Nob w0 w [(true, mx 22 3 v211 hs212 (List.map (List.map (int i64)) l213))] → S_spec_EdgesOf_j1 F l213 = some r → K7 a w := by
  intro l213 v211 hs212 a w hS hM hF
  unfold S_spec_EdgesOf_j1 at hF
  refine hK7 _ _ ?_
  refine wp_seq_k fun K214 hK214 => ?_
  refine wp_region_lit ?_
  refine st_val hS rfl rfl (by decide) (rv_move (hS.ev rfl)) fun a hS => ?_
  refine st_val hS rfl rfl (by decide) (rv_assign (hS.ev rfl)) fun a hS => ?_
  refine wpList_nil ?_
  refine hK214 _ _ ?_
  refine wp_ret ?_
  cases hF
  exact hQr _ _ (r_1 hS rfl rfl ⟨v211, hs212, rfl, hM.pk [0] (by decide) (pc rfl pn)⟩)
 refine wp_seq_k fun K215 hK215 => ?_
 refine wp_region_lit ?_
 refine st_val hS rfl rfl (by decide) (rv_assign (hS.ev rfl)) fun a hS => ?_
 refine wpList_nil ?_
 refine hK215 _ _ ?_
 refine wp_block ?_
 obtain ⟨lb2, hl2, hF2⟩ := bind_some hF
 refine wp_loop_sh (fun s => S_spec_EdgesOf_l2 F p0_g_Size p0_g_Rows s.1 s.2) (fun s a w => ∃ (v216 : Value) (hs217 : List Value), Sl 36 [(1, (fdp b3 0)), (3, v216), (4, (int i64 s.2))] a ∧ Mem Nob w0 w [(true, bx b3 29 [(int i64 p0_g_Size), p0_g_Rowsv]), (false, rd p0_g_Rowsv (List.map (int i64) p0_g_Rows)), (true, mx 22 3 v216 hs217 (List.map (List.map (int i64)) s.1))]) hl2 ⟨v6, [], (hS.sub (sub_cons rfl (sub_cons rfl (sub_cons rfl sub_nil)))), (hM.pk [1, 2, 0] (by decide) (pc rfl (pc rfl (pc rfl pn))))⟩ ?_
 rintro K2 ⟨l218, x219⟩ a w res2 ⟨v216, hs217, hS, hM⟩ hF hN2 hX2
 have hF : S_spec_EdgesOf_l2 F p0_g_Size p0_g_Rows l218 x219 = some res2 := hF
 have hS : Sl 36 [(1, (fdp b3 0)), (3, v216), (4, (int i64 x219))] a := hS
 have hM : Mem Nob w0 w [(true, bx b3 29 [(int i64 p0_g_Size), p0_g_Rowsv]), (false, rd p0_g_Rowsv (List.map (int i64) p0_g_Rows)), (true, mx 22 3 v216 hs217 (List.map (List.map (int i64)) l218))] := hM
 unfold S_spec_EdgesOf_l2 at hF
 refine wp_seq_k fun K319 hK319 => ?_
 refine wp_seq_k fun K324 hK324 => ?_
 have hJ3 : ∀ (p326 : Bool) (a : Act) (w : World), Sl 36 [(1, (fdp b3 0)), (3, v216), (4, (int i64 x219)), (14, (Value.bool p326))] a → Mem Nob w0 w [(true, bx b3 29 [(int i64 p0_g_Size), p0_g_Rowsv]), (false, rd p0_g_Rowsv (List.map (int i64) p0_g_Rows)), (true, mx 22 3 v216 hs217 (List.map (List.map (int i64)) l218))] → S_spec_EdgesOf_j3 F p0_g_Size p0_g_Rows l218 x219 p326 = some res2 → K324 a w := by
  intro p326 a w hS hM hF
  unfold S_spec_EdgesOf_j3 at hF
  refine hK324 _ _ ?_
  rcases ite_some hF with ⟨hc, hF⟩ | ⟨hc, hF⟩
  ·refine cond_t hS rfl hc ?_
   refine wp_skip ?_
   refine hK319 _ _ ?_
   refine wp_seq_k fun K327 hK327 => ?_
   have hJ4 : ∀ (l373 : List (List Int)) (v371 : Value) (hs372 : List Value) (a : Act) (w : World), Sl 36 [(1, (fdp b3 0)), (3, v371), (4, (int i64 x219))] a → Mem Nob w0 w [(true, bx b3 29 [(int i64 p0_g_Size), p0_g_Rowsv]), (false, rd p0_g_Rowsv (List.map (int i64) p0_g_Rows)), (true, mx 22 3 v371 hs372 (List.map (List.map (int i64)) l373))] → S_spec_EdgesOf_j4 F x219 l373 = some res2 → K327 a w := by
    intro l373 v371 hs372 a w hS hM hF
    unfold S_spec_EdgesOf_j4 at hF
    refine hK327 _ _ ?_
    refine wp_region_lit ?_
    refine st_val hS rfl rfl (by decide) (rv_move (hS.ev rfl)) fun a hS => ?_
    refine st_val hS rfl rfl (by decide) (rv_add (hS.ev rfl) (hS.ev rfl)) fun a hS => ?_
    refine st_val hS rfl rfl (by decide) (rv_assign (hS.ev rfl)) fun a hS => ?_
    refine wpList_nil ?_
    cases hF
    exact hN2 _ _ _ rfl ⟨v371, hs372, (hS.sub (sub_cons rfl (sub_cons rfl (sub_cons rfl sub_nil)))), (hM.pk [0, 1, 2] (by decide) (pc rfl (pc rfl (pc rfl pn))))⟩
   refine wp_block ?_
   refine wp_seq_k fun K374 hK374 => ?_
   refine wp_region_lit ?_
   refine st_val hS rfl rfl (by decide) (rv_move (hS.ev rfl)) fun a hS => ?_
   refine st_val hS rfl rfl (by decide) (rv_add (hS.ev rfl) (hS.ev rfl)) fun a hS => ?_
   refine st_val hS rfl rfl (by decide) (rv_assign (hS.ev rfl)) fun a hS => ?_
   refine wpList_nil ?_
   refine hK374 _ _ ?_
   refine wp_block ?_
   obtain ⟨lb5, hl5, hF5⟩ := bind_some hF
   refine wp_loop_sh (fun s => S_spec_EdgesOf_l5 F p0_g_Size p0_g_Rows x219 s.1 s.2) (fun s a w => ∃ (v375 : Value) (hs376 : List Value), Sl 36 [(1, (fdp b3 0)), (3, v375), (4, (int i64 x219)), (5, (int i64 s.2))] a ∧ Mem Nob w0 w [(true, bx b3 29 [(int i64 p0_g_Size), p0_g_Rowsv]), (false, rd p0_g_Rowsv (List.map (int i64) p0_g_Rows)), (true, mx 22 3 v375 hs376 (List.map (List.map (int i64)) s.1))]) hl5 ⟨v216, hs217, (hS.sub (sub_cons rfl (sub_cons rfl (sub_cons rfl (sub_cons rfl sub_nil))))), (hM.pk [0, 1, 2] (by decide) (pc rfl (pc rfl (pc rfl pn))))⟩ ?_
   rintro K5 ⟨l377, x378⟩ a w res5 ⟨v375, hs376, hS, hM⟩ hF hN5 hX5
   have hF : S_spec_EdgesOf_l5 F p0_g_Size p0_g_Rows x219 l377 x378 = some res5 := hF
   have hS : Sl 36 [(1, (fdp b3 0)), (3, v375), (4, (int i64 x219)), (5, (int i64 x378))] a := hS
   have hM : Mem Nob w0 w [(true, bx b3 29 [(int i64 p0_g_Size), p0_g_Rowsv]), (false, rd p0_g_Rowsv (List.map (int i64) p0_g_Rows)), (true, mx 22 3 v375 hs376 (List.map (List.map (int i64)) l377))] := hM
   unfold S_spec_EdgesOf_l5 at hF
   refine wp_seq_k fun K398 hK398 => ?_
   refine wp_seq_k fun K400 hK400 => ?_
   refine wp_region_lit ?_
   refine st_val hS rfl rfl (by decide) (rv_move (hS.ev rfl)) fun a hS => ?_
   refine st_val hS rfl rfl (by decide) (rv_fieldAddr ty_fd_29_0 (hS.ev rfl)) fun a hS => ?_
   refine st_val hS rfl rfl (by decide) (rv_load_bx (hS.ev rfl) ty_ag_3 (hM.get 0 rfl) rfl) fun a hS => ?_
   refine st_val hS rfl rfl (by decide) (rv_lss (hS.ev rfl) (hS.ev rfl)) fun a hS => ?_
   refine wpList_nil ?_
   refine hK400 _ _ ?_
   rcases ite_some hF with ⟨hc, hF⟩ | ⟨hc, hF⟩
   ·refine cond_t hS rfl hc ?_
    refine wp_skip ?_
    refine hK398 _ _ ?_
    refine wp_seq_k fun K401 hK401 => ?_
    have hJ6 : ∀ (l410 : List (List Int)) (v408 : Value) (hs409 : List Value) (a : Act) (w : World), Sl 36 [(1, (fdp b3 0)), (3, v408), (4, (int i64 x219)), (5, (int i64 x378))] a → Mem Nob w0 w [(true, bx b3 29 [(int i64 p0_g_Size), p0_g_Rowsv]), (false, rd p0_g_Rowsv (List.map (int i64) p0_g_Rows)), (true, mx 22 3 v408 hs409 (List.map (List.map (int i64)) l410))] → S_spec_EdgesOf_j6 F x378 l410 = some res5 → K401 a w := by
     intro l410 v408 hs409 a w hS hM hF
     unfold S_spec_EdgesOf_j6 at hF
     refine hK401 _ _ ?_
     refine wp_region_lit ?_
     refine st_val hS rfl rfl (by decide) (rv_move (hS.ev rfl)) fun a hS => ?_
     refine st_val hS rfl rfl (by decide) (rv_add (hS.ev rfl) (hS.ev rfl)) fun a hS => ?_
     refine st_val hS rfl rfl (by decide) (rv_assign (hS.ev rfl)) fun a hS => ?_
     refine wpList_nil ?_
     cases hF
     exact hN5 _ _ _ rfl ⟨v408, hs409, (hS.sub (sub_cons rfl (sub_cons rfl (sub_cons rfl (sub_cons rfl sub_nil))))), (hM.pk [0, 1, 2] (by decide) (pc rfl (pc rfl (pc rfl pn))))⟩
    refine wp_block ?_
    refine wp_seq_k fun K411 hK411 => ?_
    refine wp_region_lit ?_
    refine st_val hS rfl rfl (by decide) (rv_load_agg (hS.ev rfl) ty_ag_29 (hM.get 0 rfl) ty_sz_29) fun a hS => ?_
    refine st_val hS rfl rfl (by decide) (rv_move (hS.ev rfl)) fun a hS => ?_
    refine st_val hS rfl rfl (by decide) (rv_move (hS.ev rfl)) fun a hS => ?_
    obtain ⟨r413, hr, hF⟩ := bind_some hF
    refine st_wp hS rfl (wp_call hS rfl rfl (by decide) fn_ok_20 rfl (c_spec_l2Edge F p0_g_Size p0_g_Rows x219 x378 p0_g_Rowsv hr _ (hM.get 1 rfl)) fun v w a hK hS => ?_)
    obtain ⟨rfl, hN⟩ := hK
    have hM := hM.fra hN.fr
    refine wpList_nil ?_
    refine hK411 _ _ ?_
    rcases ite_some hF with ⟨hc, hF⟩ | ⟨hc, hF⟩
    ·refine cond_t hS rfl hc ?_
     refine wp_region_lit ?_
     refine st_val hS rfl rfl (by decide) (rv_move (hS.ev rfl)) fun a hS => ?_
     refine st_val hS rfl rfl (by decide) (rv_move (hS.ev rfl)) fun a hS => ?_
     refine st_val hS rfl rfl (by decide) (rv_move (hS.ev rfl)) fun a hS => ?_
     obtain ⟨v414, w, hr, hM⟩ := Mem.litE (f := (int i64)) (dst := some 32) (ty := _) (pos := _) (af := _) (gd := _) (ps := [(0, .tmp 30), (1, .tmp 31)]) ([x219, x378] : List (Int)) i64_one hM hS Try.underlying22 ty_el_3 rfl rfl rfl rfl
     refine st_val hS rfl rfl (by decide) hr fun a hS => ?_
     obtain ⟨v415, w, hr, hM⟩ := Mem.mxLit1 (dst := some 33) (ty := _) (pos := _) (af := _) (gd := _) (x := .tmp 32) hM hS Try.underlying26 ty_el_22 rfl rfl
     refine st_val hS rfl rfl (by decide) hr fun a hS => ?_
     obtain ⟨_, hx, hF⟩ := bind_some hF
     have hM := hM.pk [3, 0, 1, 2] (by decide) (pc rfl (pc rfl (pc rfl (pc rfl pn))))
     obtain ⟨v416, w, hr, hM⟩ := Mem.mxApp (ρ := a.eval) (dst := some 34) (ty := _) (pos := _) (af := _) (gd := _) (x := .tmp 29) (y := .tmp 33) hM Try.underlying26 ty_el_22 rfl (by decide) (hS.ev rfl) (hS.ev rfl) (by simpa using catO_some hx)
     have hM : Mem Nob w0 w [(true, mx 22 3 v416 (hs376 ++ [v414]) (List.map (List.map (int i64)) (l377 ++ ([([x219, x378] : List (Int))] : List (List Int))))), (true, bx b3 29 [(int i64 p0_g_Size), p0_g_Rowsv]), (false, rd p0_g_Rowsv (List.map (int i64) p0_g_Rows))] := by rw [List.map_append]; exact hM
     refine st_val hS rfl rfl (by decide) hr fun a hS => ?_
     refine st_val hS rfl rfl (by decide) (rv_assign (hS.ev rfl)) fun a hS => ?_
     refine wpList_nil ?_
     exact hJ6 (l377 ++ ([([x219, x378] : List (Int))] : List (List Int))) v416 (hs376 ++ [v414]) _ _ (hS.sub (sub_cons rfl (sub_cons rfl (sub_cons rfl (sub_cons rfl sub_nil))))) (hM.pk [1, 2, 0] (by decide) (pc rfl (pc rfl (pc rfl pn)))) hF
    ·refine cond_f hS rfl hc ?_
     refine wp_skip ?_
     exact hJ6 l377 v375 hs376 _ _ (hS.sub (sub_cons rfl (sub_cons rfl (sub_cons rfl (sub_cons rfl sub_nil))))) (hM.pk [0, 1, 2] (by decide) (pc rfl (pc rfl (pc rfl pn)))) hF
   ·refine cond_f hS rfl hc ?_
    refine wp_exit ?_
    cases hF
    exact hJ4 l377 v375 hs376 _ _ (hS.sub (sub_cons rfl (sub_cons rfl (sub_cons rfl sub_nil)))) (hM.pk [0, 1, 2] (by decide) (pc rfl (pc rfl (pc rfl pn)))) (by have e := hX5 _ rfl; subst e; exact hF5)
  ·refine cond_f hS rfl hc ?_
   refine wp_exit ?_
   cases hF
   exact hJ1 l218 v216 hs217 _ _ (hS.sub (sub_cons rfl sub_nil)) (hM.pk [2] (by decide) (pc rfl pn)) (by have e := hX2 _ rfl; subst e; exact hF2)
 refine wp_region_lit ?_
 refine st_val hS rfl rfl (by decide) (rv_move (hS.ev rfl)) fun a hS => ?_
 refine st_val hS rfl rfl (by decide) (rv_fieldAddr ty_fd_29_0 (hS.ev rfl)) fun a hS => ?_
 refine st_val hS rfl rfl (by decide) (rv_load_bx (hS.ev rfl) ty_ag_3 (hM.get 0 rfl) rfl) fun a hS => ?_
 refine st_val hS rfl rfl (by decide) (rv_lss (hS.ev rfl) (hS.ev rfl)) fun a hS => ?_
 refine st_val hS rfl rfl (by decide) (rv_move (hS.ev rfl)) fun a hS => ?_
 rcases ite_some hF with ⟨hc, hF⟩ | ⟨hc, hF⟩
 ·have hS := hS.setb (t := 11) rfl hc
  refine st_val hS rfl rfl (by decide) (rv_load_agg (hS.ev rfl) ty_ag_29 (hM.get 0 rfl) ty_sz_29) fun a hS => ?_
  obtain ⟨r417, hr, hF⟩ := bind_some hF
  refine st_wp hS rfl (wp_call hS rfl rfl (by decide) fn_ok_33 rfl (c_spec_IsGraph F p0_g_Size p0_g_Rows p0_g_Rowsv hr _ (hM.get 1 rfl)) fun v w a hK hS => ?_)
  obtain ⟨rfl, hN⟩ := hK
  have hM := hM.fra hN.fr
  refine st_val hS rfl rfl (by decide) (rv_pick_t (hS.ev rfl) (hS.ev rfl)) fun a hS => ?_
  refine wpList_nil ?_
  exact hJ3 r417 _ _ (hS.sub (sub_cons rfl (sub_cons rfl (sub_cons rfl (sub_cons rfl sub_nil))))) (hM.pk [0, 1, 2] (by decide) (pc rfl (pc rfl (pc rfl pn)))) hF
 ·have hS := hS.setb (t := 11) rfl hc
  refine st_skip hS rfl rfl (by decide) fun a hS => ?_
  refine st_skip hS rfl rfl (by decide) fun a hS => ?_
  refine st_val hS rfl rfl (by decide) (rv_pick_f (hS.ev rfl) (hS.ev rfl)) fun a hS => ?_
  refine wpList_nil ?_
  exact hJ3 false _ _ (hS.sub (sub_cons rfl (sub_cons rfl (sub_cons rfl (sub_cons rfl sub_nil))))) (hM.pk [0, 1, 2] (by decide) (pc rfl (pc rfl (pc rfl pn)))) hF


theorem c_spec_FillOf (F : Nat) (p0_g_Size : Int) (p0_g_Rows : List Int) (p1_order : List Int) (p0_g_Rowsv : Value) (p1_orderv : Value) {r : (List (List Int)) × Bool} (hF : S_spec_FillOf F p0_g_Size p0_g_Rows p1_order = some r) (w0 : World) (h0 : RdRow w0 p0_g_Rowsv (List.map (int i64) p0_g_Rows)) (h1 : RdRow w0 p1_orderv (List.map (int i64) p1_order)) :
    Calls Try.prog 5 [(Value.agg #[(int i64 p0_g_Size), p0_g_Rowsv]), p1_orderv].toArray w0 (retPost fun v w' => ∃ v229 hs230, v = (Value.tuple #[v229, (Value.bool r.2)]) ∧ Mem Nob w0 w' [(true, mx 22 3 v229 hs230 (List.map (List.map (int i64)) r.1))]) := by
 have hM : Mem Nob w0 w0 [(false, rd p0_g_Rowsv (List.map (int i64) p0_g_Rows)), (false, rd p1_orderv (List.map (int i64) p1_order))] := (Mem.rcons (Mem.rcons (Mem.nil w0) h1 (by simp)) h0 (by simp))
 refine enter2 Try.func5 rfl rfl rfl fun Q a hQr hQn hQp hS => ?_
 have hS : Sl 50 [(0, (Value.agg #[(int i64 p0_g_Size), p0_g_Rowsv])), (1, p1_orderv)] a := hS
 unfold S_spec_FillOf at hF
 refine wp_seq_k fun K1 hK1 => ?_
 refine wp_region_lit ?_
 obtain ⟨b3, w, hr, hM⟩ := hM.boxE (ρ := a.eval) (dst := some 2) (ty := _) (pos := _) (af := _) (gd := _) (x := .tmp 0) (T := 29) [(int i64 p0_g_Size), p0_g_Rowsv] (hS.ev rfl) rfl
 refine st_val hS rfl rfl (by decide) hr fun a hS => ?_
 refine st_val hS rfl rfl (by decide) (rv_assign (hS.ev rfl)) fun a hS => ?_
 refine st_val hS rfl rfl (by decide) (rv_assign (hS.ev rfl)) fun a hS => ?_
 refine wpList_nil ?_
 refine hK1 _ _ ?_
 refine wp_seq_k fun K4 hK4 => ?_
 refine wp_seq_k fun K11 hK11 => ?_
 refine wp_region_lit ?_
 refine st_val hS rfl rfl (by decide) (rv_load_agg (hS.ev rfl) ty_ag_29 (hM.get 0 rfl) ty_sz_29) fun a hS => ?_
 refine st_val hS rfl rfl (by decide) (rv_move (hS.ev rfl)) fun a hS => ?_
 obtain ⟨r13, hr, hF⟩ := bind_some hF
 refine st_wp hS rfl (wp_call hS rfl rfl (by decide) fn_ok_17 rfl (c_spec_IsOrder F p0_g_Size p0_g_Rows p1_order p0_g_Rowsv p1_orderv hr _ (hM.get 1 rfl) (hM.get 2 rfl)) fun v w a hK hS => ?_)
 obtain ⟨rfl, hN⟩ := hK
 have hM := hM.fra hN.fr
 refine st_val hS rfl rfl (by decide) (rv_not (hS.ev rfl)) fun a hS => ?_
 refine wpList_nil ?_
 refine hK11 _ _ ?_
 rcases ite_some hF with ⟨hc, hF⟩ | ⟨hc, hF⟩
 ·refine cond_t hS rfl hc ?_
  refine wp_seq_k fun K14 hK14 => ?_
  refine wp_region_lit ?_
  obtain ⟨v16, w, hr, hM⟩ := Mem.mxLit0 (e2 := 3) (dst := some 14) (ty := _) (pos := _) (af := _) (gd := _) hM hS Try.underlying26 ty_el_22 rfl
  refine st_val hS rfl rfl (by decide) hr fun a hS => ?_
  refine st_val hS rfl rfl (by decide) (rv_assign (hS.ev rfl)) fun a hS => ?_
  refine st_val hS rfl rfl (by decide) (rv_assign (hS.ev rfl)) fun a hS => ?_
  refine wpList_nil ?_
  refine hK14 _ _ ?_
  have hS : Sl 50 [(4, v16), (5, (Value.bool false))] a := hS.sub (sub_cons rfl (sub_cons rfl sub_nil))
  have hM := hM.pk [0] (by decide) (pc rfl pn)
  refine wp_ret ?_
  cases hF
  exact hQr _ _ (r_2 hS rfl rfl rfl ⟨v16, [], rfl, hM.pk [0] (by decide) (pc rfl pn)⟩)
 ·refine cond_f hS rfl hc ?_
  refine wp_skip ?_
  refine hK4 _ _ ?_
  refine wp_seq_k fun K17 hK17 => ?_
  refine wp_region_lit ?_
  refine st_val hS rfl rfl (by decide) (rv_load_agg (hS.ev rfl) ty_ag_29 (hM.get 0 rfl) ty_sz_29) fun a hS => ?_
  refine st_val hS rfl rfl (by decide) (rv_move (hS.ev rfl)) fun a hS => ?_
  obtain ⟨r21, hr, hF⟩ := bind_some hF
  refine st_wp hS rfl (wp_call hS rfl rfl (by decide) fn_ok_18 rfl (c_spec_l6Filled F p0_g_Size p0_g_Rows p1_order p0_g_Rowsv p1_orderv hr _ (hM.get 1 rfl) (hM.get 2 rfl)) fun v w a hK hS => ?_)
  obtain ⟨v22, rfl, hN⟩ := hK
  have hM := hM.add hN rfl
  obtain ⟨b23, w, hr, hM⟩ := hM.allocE (ρ := a.eval) (dst := some 6) (ty := _) (pos := _) (af := _) (gd := _) (T := 29) (P := Try.prog) [(int i64 0), (Value.slice none 0 0)] ty_zr_29 rfl
  refine st_val hS rfl rfl (by decide) hr fun a hS => ?_
  have hM := hM.addNil 3
  have hM := hM.pk [1, 0, 2, 3, 4, 5] (by decide) (pc rfl (pc rfl (pc rfl (pc rfl (pc rfl (pc rfl pn))))))
  obtain ⟨w, hr, hM⟩ := hM.st_agg (us := [(int i64 r21.1), v22]) (ρ := a.eval) (dst := none) (ty := _) (pos := _) (af := _) (gd := _) (x := .tmp 6) (y := .tmp 17) (hS.ev rfl) (hS.ev rfl) ty_sz_29 (all1_cons rfl (all1_cons (rd_one (rd_of_ow (hM.get 2 rfl))) all1_nil)) rfl
  refine st_unit hS rfl rfl hr ?_
  refine wpList_nil ?_
  refine hK17 _ _ ?_
  have hS : Sl 50 [(2, (fdp b3 0)), (6, (fdp b23 0))] a := hS.sub (sub_cons rfl (sub_cons rfl sub_nil))
  have hM := hM.pk [0, 2, 3, 4] (by decide) (pc rfl (pc rfl (pc rfl (pc rfl pn))))
  refine wp_seq_k fun K24 hK24 => ?_
  refine wp_region_lit ?_
  obtain ⟨v26, w, hr, hM⟩ := Mem.mxLit0 (e2 := 3) (dst := some 18) (ty := _) (pos := _) (af := _) (gd := _) hM hS Try.underlying26 ty_el_22 rfl
  refine st_val hS rfl rfl (by decide) hr fun a hS => ?_
  refine st_val hS rfl rfl (by decide) (rv_assign (hS.ev rfl)) fun a hS => ?_
  refine wpList_nil ?_
  refine hK24 _ _ ?_
  refine wp_seq_k fun K27 hK27 => ?_
  refine wp_region_lit ?_
  refine st_val hS rfl rfl (by decide) (rv_load_agg (hS.ev rfl) ty_ag_29 (hM.get 1 rfl) ty_sz_29) fun a hS => ?_
  obtain ⟨r31, hr, hF⟩ := bind_some hF
  refine st_wp hS rfl (wp_call hS rfl rfl (by decide) fn_ok_19 rfl (c_spec_EdgesOf F r21.1 r21.2 v22 hr _ (rd_of_ow (hM.get 2 rfl))) fun v w a hK hS => ?_)
  obtain ⟨v32, hs33, hv0, hN⟩ := hK
  subst v
  have hM := hM.add hN rfl
  refine st_val hS rfl rfl (by decide) (rv_assign (hS.ev rfl)) fun a hS => ?_
  refine wpList_nil ?_
  refine hK27 _ _ ?_
  refine wp_seq_k fun K34 hK34 => ?_
  have hJ1 : ∀ (l132 : List (List Int)) (v130 : Value) (hs131 : List Value) (a : Act) (w : World), Sl 50 [(7, v130)] a → Mem Nob w0 w [(true, mx 22 3 v130 hs131 (List.map (List.map (int i64)) l132))] → S_spec_FillOf_j1 F l132 = some r → K34 a w := by
   intro l132 v130 hs131 a w hS hM hF
   unfold S_spec_FillOf_j1 at hF
   refine hK34 _ _ ?_
   refine wp_seq_k fun K133 hK133 => ?_
   refine wp_region_lit ?_
   refine st_val hS rfl rfl (by decide) (rv_move (hS.ev rfl)) fun a hS => ?_
   refine st_val hS rfl rfl (by decide) (rv_assign (hS.ev rfl)) fun a hS => ?_
   refine st_val hS rfl rfl (by decide) (rv_assign (hS.ev rfl)) fun a hS => ?_
   refine wpList_nil ?_
   refine hK133 _ _ ?_
   refine wp_ret ?_
   cases hF
   exact hQr _ _ (r_2 hS rfl rfl rfl ⟨v130, hs131, rfl, hM.pk [0] (by decide) (pc rfl pn)⟩)
  refine wp_seq_k fun K134 hK134 => ?_
  refine wp_region_lit ?_
  refine st_val hS rfl rfl (by decide) (rv_assign (hS.ev rfl)) fun a hS => ?_
  refine wpList_nil ?_
  refine hK134 _ _ ?_
  refine wp_block ?_
  have hM := hM.tlIn
  obtain ⟨lb2, hl2, hF2⟩ := bind_some hF
  refine wp_loop_sh (fun s => S_spec_FillOf_l2 F p0_g_Size p0_g_Rows r31 s.1 s.2) (fun s a w => ∃ (v135 : Value) (hs136 : List Value), Sl 50 [(2, (fdp b3 0)), (7, v135), (8, v32), (9, (int i64 s.2))] a ∧ Mem Nob w0 w [(true, bx b3 29 [(int i64 p0_g_Size), p0_g_Rowsv]), (false, rd p0_g_Rowsv (List.map (int i64) p0_g_Rows)), (true, mx 22 3 v135 hs136 (List.map (List.map (int i64)) s.1)), (true, tl 22 3 v32 hs33 (List.map (List.map (int i64)) r31) s.2)]) hl2 ⟨v26, [], (hS.sub (sub_cons rfl (sub_cons rfl (sub_cons rfl (sub_cons rfl sub_nil))))), (hM.pk [4, 5, 1, 0] (by decide) (pc rfl (pc rfl (pc rfl (pc rfl pn)))))⟩ ?_
  rintro K2 ⟨l137, x138⟩ a w res2 ⟨v135, hs136, hS, hM⟩ hF hN2 hX2
  have hF : S_spec_FillOf_l2 F p0_g_Size p0_g_Rows r31 l137 x138 = some res2 := hF
  have hS : Sl 50 [(2, (fdp b3 0)), (7, v135), (8, v32), (9, (int i64 x138))] a := hS
  have hM : Mem Nob w0 w [(true, bx b3 29 [(int i64 p0_g_Size), p0_g_Rowsv]), (false, rd p0_g_Rowsv (List.map (int i64) p0_g_Rows)), (true, mx 22 3 v135 hs136 (List.map (List.map (int i64)) l137)), (true, tl 22 3 v32 hs33 (List.map (List.map (int i64)) r31) x138)] := hM
  unfold S_spec_FillOf_l2 at hF
  refine wp_seq_k fun K184 hK184 => ?_
  refine wp_seq_k fun K186 hK186 => ?_
  refine wp_region_lit ?_
  refine st_val hS rfl rfl (by decide) (rv_move (hS.ev rfl)) fun a hS => ?_
  refine st_val hS rfl rfl (by decide) (rv_move (hS.ev rfl)) fun a hS => ?_
  refine st_val hS rfl rfl (by decide) (rv_len_tlM Try.underlying26 (hS.ev rfl) (hM.get 3 rfl)) fun a hS => ?_
  refine st_val hS rfl rfl (by decide) (rv_lss (hS.ev rfl) (hS.ev rfl)) fun a hS => ?_
  refine wpList_nil ?_
  refine hK186 _ _ ?_
  rcases ite_some hF with ⟨hc, hF⟩ | ⟨hc, hF⟩
  ·refine cond_t hS rfl hc ?_
   refine wp_skip ?_
   refine hK184 _ _ ?_
   refine wp_seq_k fun K187 hK187 => ?_
   have hJ3 : ∀ (l209 : List (List Int)) (v207 : Value) (hs208 : List Value) (a : Act) (w : World), Sl 50 [(2, (fdp b3 0)), (7, v207), (8, v32), (9, (int i64 x138))] a → Mem Nob w0 w [(true, bx b3 29 [(int i64 p0_g_Size), p0_g_Rowsv]), (false, rd p0_g_Rowsv (List.map (int i64) p0_g_Rows)), (true, mx 22 3 v207 hs208 (List.map (List.map (int i64)) l209)), (true, tl 22 3 v32 hs33 (List.map (List.map (int i64)) r31) (i64.wrap (x138 + 1)))] → S_spec_FillOf_j3 F x138 l209 = some res2 → K187 a w := by
    intro l209 v207 hs208 a w hS hM hF
    unfold S_spec_FillOf_j3 at hF
    refine hK187 _ _ ?_
    refine wp_region_lit ?_
    refine st_val hS rfl rfl (by decide) (rv_move (hS.ev rfl)) fun a hS => ?_
    refine st_val hS rfl rfl (by decide) (rv_add (hS.ev rfl) (hS.ev rfl)) fun a hS => ?_
    refine st_val hS rfl rfl (by decide) (rv_assign (hS.ev rfl)) fun a hS => ?_
    refine wpList_nil ?_
    cases hF
    exact hN2 _ _ _ rfl ⟨v207, hs208, (hS.sub (sub_cons rfl (sub_cons rfl (sub_cons rfl (sub_cons rfl sub_nil))))), (hM.pk [0, 1, 2, 3] (by decide) (pc rfl (pc rfl (pc rfl (pc rfl pn)))))⟩
   refine wp_block ?_
   refine wp_seq_k fun K210 hK210 => ?_
   refine an_startB 15 Nob ty_mixed (by kernel_rfl) fun w hf => ?_
   have hM := hM.fra hf
   have hB := hM
   have hM := hB.reg0
   try dsimp only [ro] at hM
   refine tkB hS 0 1 (by kernel_rfl) rfl rfl rfl hQp rfl (fun w' hC' => (rv_load_agg (hS.ev rfl) ty_ag_29 ((hB.fra hC').get 0 rfl) ty_sz_29)) hM.fr fun a hS => ?_
   refine tkB hS 1 3 (by kernel_rfl) rfl rfl rfl hQp rfl (fun w' hC' => (rv_move (hS.ev rfl))) hM.fr fun a hS => ?_
   refine tkB hS 2 7 (by kernel_rfl) rfl rfl rfl hQp rfl (fun w' hC' => (rv_move (hS.ev rfl))) hM.fr fun a hS => ?_
   obtain ⟨x218, hx, hF⟩ := bind_some hF
   obtain ⟨hi0, hi1, hex218⟩ := idxL_some hx
   have hzx218 := hi0
   refine tkB hS 3 15 (by kernel_rfl) rfl rfl rfl hQp rfl (fun w' hC' => (rv_indexAddr Try.underlying26 ty_el_22 (hS.ev rfl) (hS.ev rfl) (tl_rd (hM.get 3 rfl)) hi0 (tl_lt (hM.get 3 rfl) hi1))) hM.fr fun a hS => ?_
   obtain ⟨v219, hgx218⟩ := tl_get (hM.get 3 rfl) (mget hex218)
   refine tkB hS 4 31 (by kernel_rfl) rfl rfl rfl hQp rfl (fun w' hC' => (rv_load_el (hS.ev rfl) ty_ag_22 (tl_rd ((hB.fra hC').get 3 rfl)) hgx218)) hM.fr fun a hS => ?_
   obtain ⟨x220, hx, hF⟩ := bind_some hF
   obtain ⟨hi0, hi1, hex220⟩ := idxL_some hx
   refine tkB hS 5 63 (by kernel_rfl) rfl rfl rfl hQp rfl (fun w' hC' => (rv_indexAddr Try.underlying22 ty_el_3 (hS.ev rfl) (hS.ev rfl) (tl_row (hM.get 3 rfl) hgx218 (mget hex218)) hi0 (map_len hi1))) hM.fr fun a hS => ?_
   refine tkB hS 6 127 (by kernel_rfl) rfl rfl rfl hQp rfl (fun w' hC' => (rv_load_el (hS.ev rfl) ty_ag_3 (tl_row ((hB.fra hC').get 3 rfl) hgx218 (mget hex218)) (mget hex220))) hM.fr fun a hS => ?_
   refine tkB hS 7 255 (by kernel_rfl) rfl rfl rfl hQp rfl (fun w' hC' => (rv_move (hS.ev rfl))) hM.fr fun a hS => ?_
   refine tkB hS 8 511 (by kernel_rfl) rfl rfl rfl hQp rfl (fun w' hC' => (rv_move (hS.ev rfl))) hM.fr fun a hS => ?_
   obtain ⟨x221, hx, hF⟩ := bind_some hF
   obtain ⟨hi0, hi1, hex221⟩ := idxL_some hx
   have hzx221 := hi0
   refine tkB hS 9 1023 (by kernel_rfl) rfl rfl rfl hQp rfl (fun w' hC' => (rv_indexAddr Try.underlying26 ty_el_22 (hS.ev rfl) (hS.ev rfl) (tl_rd (hM.get 3 rfl)) hi0 (tl_lt (hM.get 3 rfl) hi1))) hM.fr fun a hS => ?_
   obtain ⟨v222, hgx221⟩ := tl_get (hM.get 3 rfl) (mget hex221)
   refine tkB hS 10 2047 (by kernel_rfl) rfl rfl rfl hQp rfl (fun w' hC' => (rv_load_el (hS.ev rfl) ty_ag_22 (tl_rd ((hB.fra hC').get 3 rfl)) hgx221)) hM.fr fun a hS => ?_
   obtain ⟨x223, hx, hF⟩ := bind_some hF
   obtain ⟨hi0, hi1, hex223⟩ := idxL_some hx
   refine tkB hS 11 4095 (by kernel_rfl) rfl rfl rfl hQp rfl (fun w' hC' => (rv_indexAddr Try.underlying22 ty_el_3 (hS.ev rfl) (hS.ev rfl) (tl_row (hM.get 3 rfl) hgx221 (mget hex221)) hi0 (map_len hi1))) hM.fr fun a hS => ?_
   refine tkB hS 12 8191 (by kernel_rfl) rfl rfl rfl hQp rfl (fun w' hC' => (rv_load_el (hS.ev rfl) ty_ag_3 (tl_row ((hB.fra hC').get 3 rfl) hgx221 (mget hex221)) (mget hex223))) hM.fr fun a hS => ?_
   obtain ⟨r224, hr, hF⟩ := bind_some hF
   refine an_oneB hS (i := 13) 16383 (by kernel_rfl) rfl (by kernel_rfl) rfl ?_
   refine wp_call hS rfl rfl (by decide) fn_ok_20 rfl (c_spec_l2Edge F p0_g_Size p0_g_Rows x220 x223 p0_g_Rowsv hr _ (hM.get 1 rfl)) fun v w a hK hS => ?_
   obtain ⟨rfl, hN⟩ := hK
   have hM := hM.fra hN.fr
   refine ⟨hM.fr, ?_⟩
   refine tkB hS 14 32767 (by kernel_rfl) rfl rfl rfl hQp rfl (fun w' hC' => (rv_not (hS.ev rfl))) hM.fr fun a hS => ?_
   refine an_done (by kernel_rfl) ?_
   have hN := hM.pk [] (by decide) pn
   have hM := Mem.callo0 hB hN rfl
   refine hK210 _ _ ?_
   have hS : Sl 50 [(2, (fdp b3 0)), (7, v135), (8, v32), (9, (int i64 x138)), (41, (Value.bool (!r224)))] a := hS.sub (sub_cons rfl (sub_cons rfl (sub_cons rfl (sub_cons rfl (sub_cons rfl sub_nil)))))
   rcases ite_some hF with ⟨hc, hF⟩ | ⟨hc, hF⟩
   ·refine cond_t hS rfl hc ?_
    refine wp_region_lit ?_
    refine st_val hS rfl rfl (by decide) (rv_move (hS.ev rfl)) fun a hS => ?_
    refine st_val hS rfl rfl (by decide) (rv_move (hS.ev rfl)) fun a hS => ?_
    refine st_val hS rfl rfl (by decide) (rv_move (hS.ev rfl)) fun a hS => ?_
    obtain ⟨x225, hx, hF⟩ := bind_some hF
    obtain ⟨hi0, hi1, hex225⟩ := idxL_some hx
    have hzx225 := hi0
    refine st_val hS rfl rfl (by decide) (rv_indexAddr Try.underlying26 ty_el_22 (hS.ev rfl) (hS.ev rfl) (tl_rd (hM.get 3 rfl)) hi0 (tl_lt (hM.get 3 rfl) hi1)) fun a hS => ?_
    obtain ⟨v226, hgx225⟩ := tl_get (hM.get 3 rfl) (mget hex225)
    refine st_val hS rfl rfl (by decide) (rv_load_el (hS.ev rfl) ty_ag_22 (tl_rd (hM.get 3 rfl)) hgx225) fun a hS => ?_
    have hM := hM.pk [3, 0, 1, 2] (by decide) (pc rfl (pc rfl (pc rfl (pc rfl pn))))
    have hM := hM.tlTake hzx225 hgx225 (mget hex225)
    obtain ⟨v227, w, hr, hM⟩ := Mem.mxLit1 (dst := some 47) (ty := _) (pos := _) (af := _) (gd := _) (x := .tmp 46) hM hS Try.underlying26 ty_el_22 rfl rfl
    refine st_val hS rfl rfl (by decide) hr fun a hS => ?_
    obtain ⟨_, hx, hF⟩ := bind_some hF
    have hM := hM.pk [4, 0, 1, 2, 3] (by decide) (pc rfl (pc rfl (pc rfl (pc rfl (pc rfl pn)))))
    obtain ⟨v228, w, hr, hM⟩ := Mem.mxApp (ρ := a.eval) (dst := some 48) (ty := _) (pos := _) (af := _) (gd := _) (x := .tmp 42) (y := .tmp 47) hM Try.underlying26 ty_el_22 rfl (by decide) (hS.ev rfl) (hS.ev rfl) (by simpa using catO_some hx)
    have hM : Mem Nob w0 w [(true, mx 22 3 v228 (hs136 ++ [v226]) (List.map (List.map (int i64)) (l137 ++ ([x225] : List (List Int))))), (true, tl 22 3 v32 hs33 (List.map (List.map (int i64)) r31) (i64.wrap (x138 + 1))), (true, bx b3 29 [(int i64 p0_g_Size), p0_g_Rowsv]), (false, rd p0_g_Rowsv (List.map (int i64) p0_g_Rows))] := by rw [List.map_append]; exact hM
    refine st_val hS rfl rfl (by decide) hr fun a hS => ?_
    refine st_val hS rfl rfl (by decide) (rv_assign (hS.ev rfl)) fun a hS => ?_
    refine wpList_nil ?_
    exact hJ3 (l137 ++ ([x225] : List (List Int))) v228 (hs136 ++ [v226]) _ _ (hS.sub (sub_cons rfl (sub_cons rfl (sub_cons rfl (sub_cons rfl sub_nil))))) (hM.pk [2, 3, 0, 1] (by decide) (pc rfl (pc rfl (pc rfl (pc rfl pn))))) hF
   ·refine cond_f hS rfl hc ?_
    refine wp_skip ?_
    exact hJ3 l137 v135 hs136 _ _ (hS.sub (sub_cons rfl (sub_cons rfl (sub_cons rfl (sub_cons rfl sub_nil))))) (((hM.pk [3, 0, 1, 2] (by decide) (pc rfl (pc rfl (pc rfl (pc rfl pn))))).tlDrop hzx221 (mget hex221)).pk [1, 2, 3, 0] (by decide) (pc rfl (pc rfl (pc rfl (pc rfl pn))))) hF
  ·refine cond_f hS rfl hc ?_
   refine wp_exit ?_
   cases hF
   exact hJ1 l137 v135 hs136 _ _ (hS.sub (sub_cons rfl sub_nil)) (hM.pk [2] (by decide) (pc rfl pn)) (by have e := hX2 _ rfl; subst e; exact hF2)


theorem c_laws_toIntS (F : Nat) (p0_a : List Int) (p0_av : Value) {r : (List (Int))} (hF : S_laws_toIntS F p0_a = some r) (w0 : World) (h0 : RdRow w0 p0_av (List.map (int i64) p0_a)) :
    Calls Try.prog 7 [p0_av].toArray w0 (retPost fun v w' => Mem Nob w0 w' [(true, ow 3 v (List.map (int i64) r))]) := by
 have hM : Mem Nob w0 w0 [(false, rd p0_av (List.map (int i64) p0_a))] := (Mem.rcons (Mem.nil w0) h0 (by simp))
 refine enter2 Try.func7 rfl rfl rfl fun Q a hQr hQn hQp hS => ?_
 have hS : Sl 22 [(0, p0_av)] a := hS
 unfold S_laws_toIntS at hF
 refine wp_seq_k fun K1 hK1 => ?_
 refine wp_region_lit ?_
 refine st_val hS rfl rfl (by decide) (rv_assign (hS.ev rfl)) fun a hS => ?_
 refine wpList_nil ?_
 refine hK1 _ _ ?_
 refine wp_seq_k fun K2 hK2 => ?_
 refine wp_region_lit ?_
 refine st_val hS rfl rfl (by decide) (rv_move (hS.ev rfl)) fun a hS => ?_
 refine st_val hS rfl rfl (by decide) (rv_len_rowM Try.underlying22 (hS.ev rfl) (hM.get 0 rfl)) fun a hS => ?_
 obtain ⟨_, hx, hF⟩ := bind_some hF
 obtain ⟨v4, w, hr, hM⟩ := hM.makeE (f := (int i64)) (c := (0 : Int)) (ρ := a.eval) (dst := some 7) (ty := _) (pos := _) (af := _) (gd := _) (x := .tmp 6) (y := .tmp 6) Try.underlying22 ty_el_3 i64_one (by decide) (hS.ev rfl) (hS.ev rfl) (mkO_some hx)
 refine st_val hS rfl rfl (by decide) hr fun a hS => ?_
 refine st_val hS rfl rfl (by decide) (rv_assign (hS.ev rfl)) fun a hS => ?_
 refine wpList_nil ?_
 refine hK2 _ _ ?_
 refine wp_seq_k fun K5 hK5 => ?_
 have hJ1 : ∀ (l34 : List Int) (a : Act) (w : World), Sl 22 [(3, v4)] a → Mem Nob w0 w [(true, ow 3 v4 (List.map (int i64) l34))] → S_laws_toIntS_j1 F l34 = some r → K5 a w := by
  intro l34 a w hS hM hF
  unfold S_laws_toIntS_j1 at hF
  refine hK5 _ _ ?_
  refine wp_seq_k fun K35 hK35 => ?_
  refine wp_region_lit ?_
  refine st_val hS rfl rfl (by decide) (rv_move (hS.ev rfl)) fun a hS => ?_
  refine st_val hS rfl rfl (by decide) (rv_assign (hS.ev rfl)) fun a hS => ?_
  refine wpList_nil ?_
  refine hK35 _ _ ?_
  refine wp_ret ?_
  cases hF
  exact hQr _ _ (r_1 hS rfl rfl (hM.pk [0] (by decide) (pc rfl pn)))
 refine wp_seq_k fun K36 hK36 => ?_
 refine wp_region_lit ?_
 refine st_val hS rfl rfl (by decide) (rv_assign (hS.ev rfl)) fun a hS => ?_
 refine wpList_nil ?_
 refine hK36 _ _ ?_
 refine wp_block ?_
 obtain ⟨lb2, hl2, hF2⟩ := bind_some hF
 refine wp_loop_sh (fun s => S_laws_toIntS_l2 F p0_a s.1 s.2) (fun s a w => Sl 22 [(0, p0_av), (3, v4), (4, (int i64 s.2))] a ∧ Mem Nob w0 w [(false, rd p0_av (List.map (int i64) p0_a)), (true, ow 3 v4 (List.map (int i64) s.1))]) hl2 ⟨(hS.sub (sub_cons rfl (sub_cons rfl (sub_cons rfl sub_nil)))), (hM.pk [1, 0] (by decide) (pc rfl (pc rfl pn)))⟩ ?_
 rintro K2 ⟨l46, x47⟩ a w res2 ⟨hS, hM⟩ hF hN2 hX2
 have hF : S_laws_toIntS_l2 F p0_a l46 x47 = some res2 := hF
 have hS : Sl 22 [(0, p0_av), (3, v4), (4, (int i64 x47))] a := hS
 have hM : Mem Nob w0 w [(false, rd p0_av (List.map (int i64) p0_a)), (true, ow 3 v4 (List.map (int i64) l46))] := hM
 unfold S_laws_toIntS_l2 at hF
 refine wp_seq_k fun K56 hK56 => ?_
 refine wp_seq_k fun K58 hK58 => ?_
 refine wp_region_lit ?_
 refine st_val hS rfl rfl (by decide) (rv_move (hS.ev rfl)) fun a hS => ?_
 refine st_val hS rfl rfl (by decide) (rv_move (hS.ev rfl)) fun a hS => ?_
 refine st_val hS rfl rfl (by decide) (rv_len_rowM Try.underlying22 (hS.ev rfl) (hM.get 0 rfl)) fun a hS => ?_
 refine st_val hS rfl rfl (by decide) (rv_lss (hS.ev rfl) (hS.ev rfl)) fun a hS => ?_
 refine wpList_nil ?_
 refine hK58 _ _ ?_
 rcases ite_some hF with ⟨hc, hF⟩ | ⟨hc, hF⟩
 ·refine cond_t hS rfl hc ?_
  refine wp_skip ?_
  refine hK56 _ _ ?_
  refine wp_seq_k fun K59 hK59 => ?_
  refine wp_block ?_
  refine wp_region_lit ?_
  refine st_val hS rfl rfl (by decide) (rv_move (hS.ev rfl)) fun a hS => ?_
  refine st_val hS rfl rfl (by decide) (rv_move (hS.ev rfl)) fun a hS => ?_
  refine st_val hS rfl rfl (by decide) (rv_move (hS.ev rfl)) fun a hS => ?_
  refine st_val hS rfl rfl (by decide) (rv_move (hS.ev rfl)) fun a hS => ?_
  obtain ⟨x62, hx, hF⟩ := bind_some hF
  obtain ⟨hi0, hi1, hex62⟩ := idxL_some hx
  refine st_val hS rfl rfl (by decide) (rv_indexAddr Try.underlying22 ty_el_3 (hS.ev rfl) (hS.ev rfl) (hM.get 0 rfl) hi0 (map_len hi1)) fun a hS => ?_
  refine st_val hS rfl rfl (by decide) (rv_load_el (hS.ev rfl) ty_ag_3 (hM.get 0 rfl) (mget hex62)) fun a hS => ?_
  obtain ⟨x63, hx, hF⟩ := bind_some hF
  obtain ⟨hi0, hi1, hex63⟩ := idxL_some hx
  refine st_val hS rfl rfl (by decide) (rv_indexAddr Try.underlying22 ty_el_3 (hS.ev rfl) (hS.ev rfl) (rd_of_ow (hM.get 1 rfl)) hi0 (map_len hi1)) fun a hS => ?_
  have hM := hM.pk [1, 0] (by decide) (pc rfl (pc rfl pn))
  obtain ⟨w, hr, hM⟩ := hM.st_el (f := (int i64)) (n := x47.toNat) (c := x62) (ρ := a.eval) (dst := none) (ty := _) (pos := _) (af := _) (gd := _) (x := .tmp 20) (y := .tmp 19) i64_one (hS.ev rfl) (hS.ev rfl) ty_sz_3 (List.getElem?_eq_some_iff.1 hex63).1
  refine st_unit hS rfl rfl hr ?_
  refine wpList_nil ?_
  refine hK59 _ _ ?_
  have hS : Sl 22 [(0, p0_av), (3, v4), (4, (int i64 x47))] a := hS.sub (sub_cons rfl (sub_cons rfl (sub_cons rfl sub_nil)))
  refine wp_region_lit ?_
  refine st_val hS rfl rfl (by decide) (rv_move (hS.ev rfl)) fun a hS => ?_
  refine st_val hS rfl rfl (by decide) (rv_add (hS.ev rfl) (hS.ev rfl)) fun a hS => ?_
  refine st_val hS rfl rfl (by decide) (rv_assign (hS.ev rfl)) fun a hS => ?_
  refine wpList_nil ?_
  cases hF
  exact hN2 _ _ _ rfl ⟨(hS.sub (sub_cons rfl (sub_cons rfl (sub_cons rfl sub_nil)))), (hM.pk [1, 0] (by decide) (pc rfl (pc rfl pn)))⟩
 ·refine cond_f hS rfl hc ?_
  refine wp_exit ?_
  cases hF
  exact hJ1 l46 _ _ (hS.sub (sub_cons rfl sub_nil)) (hM.pk [1] (by decide) (pc rfl pn)) (by have e := hX2 _ rfl; subst e; exact hF2)


theorem c_laws_toGraph (F : Nat) (p0_a_Size : Int) (p0_a_Rows : List Int) (p0_a_Rowsv : Value) {r : Int × (List (Int))} (hF : S_laws_toGraph F p0_a_Size p0_a_Rows = some r) (w0 : World) (h0 : RdRow w0 p0_a_Rowsv (List.map (int i64) p0_a_Rows)) :
    Calls Try.prog 6 [(Value.agg #[(int i64 p0_a_Size), p0_a_Rowsv])].toArray w0 (retPost fun v w' => ∃ v16, v = (Value.agg #[(int i64 r.1), v16]) ∧ Mem Nob w0 w' [(true, ow 3 v16 (List.map (int i64) r.2))]) := by
 have hM : Mem Nob w0 w0 [(false, rd p0_a_Rowsv (List.map (int i64) p0_a_Rows))] := (Mem.rcons (Mem.nil w0) h0 (by simp))
 refine enter2 Try.func6 rfl rfl rfl fun Q a hQr hQn hQp hS => ?_
 have hS : Sl 12 [(0, (Value.agg #[(int i64 p0_a_Size), p0_a_Rowsv]))] a := hS
 unfold S_laws_toGraph at hF
 refine wp_seq_k fun K1 hK1 => ?_
 refine wp_region_lit ?_
 obtain ⟨b4, w, hr, hM⟩ := hM.boxE (ρ := a.eval) (dst := some 1) (ty := _) (pos := _) (af := _) (gd := _) (x := .tmp 0) (T := 24) [(int i64 p0_a_Size), p0_a_Rowsv] (hS.ev rfl) rfl
 refine st_val hS rfl rfl (by decide) hr fun a hS => ?_
 obtain ⟨b5, w, hr, hM⟩ := hM.allocE (ρ := a.eval) (dst := some 2) (ty := _) (pos := _) (af := _) (gd := _) (T := 29) (P := Try.prog) [(int i64 0), (Value.slice none 0 0)] ty_zr_29 rfl
 refine st_val hS rfl rfl (by decide) hr fun a hS => ?_
 have hM := hM.addNil 3
 refine wpList_nil ?_
 refine hK1 _ _ ?_
 refine wp_seq_k fun K6 hK6 => ?_
 refine wp_region_lit ?_
 obtain ⟨b8, w, hr, hM⟩ := hM.allocE (ρ := a.eval) (dst := some 3) (ty := _) (pos := _) (af := _) (gd := _) (T := 29) (P := Try.prog) [(int i64 0), (Value.slice none 0 0)] ty_zr_29 rfl
 refine st_val hS rfl rfl (by decide) hr fun a hS => ?_
 have hM := hM.addNil 3
 refine wpList_nil ?_
 refine hK6 _ _ ?_
 refine wp_seq_k fun K9 hK9 => ?_
 refine wp_region_lit ?_
 refine st_val hS rfl rfl (by decide) (rv_fieldAddr ty_fd_24_0 (hS.ev rfl)) fun a hS => ?_
 refine st_val hS rfl rfl (by decide) (rv_load_bx (hS.ev rfl) ty_ag_3 (hM.get 4 rfl) rfl) fun a hS => ?_
 refine st_val hS rfl rfl (by decide) (rv_fieldAddr ty_fd_29_0 (hS.ev rfl)) fun a hS => ?_
 have hM := hM.pk [1, 0, 2, 3, 4, 5] (by decide) (pc rfl (pc rfl (pc rfl (pc rfl (pc rfl (pc rfl pn))))))
 obtain ⟨w, hr, hM⟩ := hM.st_bx1 (n := 0) (cs' := [(int i64 p0_a_Size), (Value.slice none 0 0)]) (ρ := a.eval) (dst := none) (ty := _) (pos := _) (af := _) (gd := _) (x := .tmp 6) (y := .tmp 5) (hS.ev rfl) (hS.ev rfl) ty_sz_3 rfl rfl rfl
 refine st_unit hS rfl rfl hr ?_
 refine wpList_nil ?_
 refine hK9 _ _ ?_
 refine wp_seq_k fun K10 hK10 => ?_
 refine wp_region_lit ?_
 refine st_val hS rfl rfl (by decide) (rv_fieldAddr ty_fd_24_1 (hS.ev rfl)) fun a hS => ?_
 refine st_val hS rfl rfl (by decide) (rv_load_bx (hS.ev rfl) ty_ag_22 (hM.get 4 rfl) rfl) fun a hS => ?_
 obtain ⟨r13, hr, hF⟩ := bind_some hF
 refine st_wp hS rfl (wp_call hS rfl rfl (by decide) fn_ok_7 rfl (c_laws_toIntS F p0_a_Rows p0_a_Rowsv hr _ (hM.get 5 rfl)) fun v14 w a hK hS => ?_)
 have hN := hK
 have hM := hM.add hN rfl
 refine st_val hS rfl rfl (by decide) (rv_fieldAddr ty_fd_29_1 (hS.ev rfl)) fun a hS => ?_
 have hM := hM.pk [1, 0, 2, 3, 4, 5, 6] (by decide) (pc rfl (pc rfl (pc rfl (pc rfl (pc rfl (pc rfl (pc rfl pn)))))))
 obtain ⟨w, hr, hM⟩ := hM.st_bx1 (n := 1) (cs' := [(int i64 p0_a_Size), v14]) (ρ := a.eval) (dst := none) (ty := _) (pos := _) (af := _) (gd := _) (x := .tmp 10) (y := .tmp 9) (hS.ev rfl) (hS.ev rfl) ty_sz_22 (rd_one (rd_of_ow (hM.get 1 rfl))) rfl rfl
 refine st_unit hS rfl rfl hr ?_
 refine wpList_nil ?_
 refine hK10 _ _ ?_
 have hS : Sl 12 [(2, (fdp b5 0)), (3, (fdp b8 0))] a := hS.sub (sub_cons rfl (sub_cons rfl sub_nil))
 have hM := hM.pk [0, 1, 3, 4] (by decide) (pc rfl (pc rfl (pc rfl (pc rfl pn))))
 refine wp_seq_k fun K15 hK15 => ?_
 refine wp_region_lit ?_
 refine st_val hS rfl rfl (by decide) (rv_load_agg (hS.ev rfl) ty_ag_29 (hM.get 0 rfl) ty_sz_29) fun a hS => ?_
 have hM := hM.pk [3, 0, 1, 2] (by decide) (pc rfl (pc rfl (pc rfl (pc rfl pn))))
 obtain ⟨w, hr, hM⟩ := hM.st_agg (us := [(int i64 p0_a_Size), v14]) (ρ := a.eval) (dst := none) (ty := _) (pos := _) (af := _) (gd := _) (x := .tmp 2) (y := .tmp 11) (hS.ev rfl) (hS.ev rfl) ty_sz_29 (all1_cons rfl (all1_cons (rd_one (rd_of_ow (hM.get 2 rfl))) all1_nil)) rfl
 refine st_unit hS rfl rfl hr ?_
 refine wpList_nil ?_
 refine hK15 _ _ ?_
 refine wp_ret ?_
 cases hF
 exact hQr _ _ (r_c hS rfl ⟨_, rfl, run_loadAgg ty_ag_29 (hM.get 0 rfl) ty_sz_29⟩ ⟨v14, rfl, hM.pk [2] (by decide) (pc rfl pn)⟩)


theorem c_impl_within (F : Nat) (p0_n : Int) (p1_low : Int) (p2_high : Int) {r : Bool} (hF : S_impl_within F p0_n p1_low p2_high = some r) (w0 : World) :
    Calls Try.prog 35 [(int i64 p0_n), (int i64 p1_low), (int i64 p2_high)].toArray w0 (retPost fun v w' => v = (Value.bool r) ∧ Mem Nob w0 w' []) := by
 have hM : Mem Nob w0 w0 [] := (Mem.nil w0)
 refine enter2 Try.func35 rfl rfl rfl fun Q a hQr hQn hQp hS => ?_
 have hS : Sl 15 [(0, (int i64 p0_n)), (1, (int i64 p1_low)), (2, (int i64 p2_high))] a := hS
 unfold S_impl_within at hF
 refine wp_seq_k fun K1 hK1 => ?_
 refine wp_region_lit ?_
 refine st_val hS rfl rfl (by decide) (rv_assign (hS.ev rfl)) fun a hS => ?_
 refine wpList_nil ?_
 refine hK1 _ _ ?_
 refine wp_seq_k fun K2 hK2 => ?_
 have hJ1 : ∀ (p3 : Bool) (a : Act) (w : World), Sl 15 [(6, (Value.bool p3))] a → Mem Nob w0 w [] → S_impl_within_j1 F p3 = some r → K2 a w := by
  intro p3 a w hS hM hF
  unfold S_impl_within_j1 at hF
  refine hK2 _ _ ?_
  refine wp_ret ?_
  cases hF
  exact hQr _ _ (r_1 hS rfl rfl ⟨rfl, hM.pk [] (by decide) pn⟩)
 refine wp_region_lit ?_
 refine st_val hS rfl rfl (by decide) (rv_move (hS.ev rfl)) fun a hS => ?_
 refine st_val hS rfl rfl (by decide) (rv_move (hS.ev rfl)) fun a hS => ?_
 refine st_val hS rfl rfl (by decide) (rv_leq (hS.ev rfl) (hS.ev rfl)) fun a hS => ?_
 refine st_val hS rfl rfl (by decide) (rv_move (hS.ev rfl)) fun a hS => ?_
 rcases ite_some hF with ⟨hc, hF⟩ | ⟨hc, hF⟩
 ·have hS := hS.setb (t := 10) rfl hc
  refine st_val hS rfl rfl (by decide) (rv_move (hS.ev rfl)) fun a hS => ?_
  refine st_val hS rfl rfl (by decide) (rv_move (hS.ev rfl)) fun a hS => ?_
  refine st_val hS rfl rfl (by decide) (rv_leq (hS.ev rfl) (hS.ev rfl)) fun a hS => ?_
  refine st_val hS rfl rfl (by decide) (rv_pick_t (hS.ev rfl) (hS.ev rfl)) fun a hS => ?_
  refine st_val hS rfl rfl (by decide) (rv_assign (hS.ev rfl)) fun a hS => ?_
  refine wpList_nil ?_
  exact hJ1 (decide (p0_n ≤ p2_high)) _ _ (hS.sub (sub_cons rfl sub_nil)) (hM.pk [] (by decide) pn) hF
 ·have hS := hS.setb (t := 10) rfl hc
  refine st_skip hS rfl rfl (by decide) fun a hS => ?_
  refine st_skip hS rfl rfl (by decide) fun a hS => ?_
  refine st_skip hS rfl rfl (by decide) fun a hS => ?_
  refine st_val hS rfl rfl (by decide) (rv_pick_f (hS.ev rfl) (hS.ev rfl)) fun a hS => ?_
  refine st_val hS rfl rfl (by decide) (rv_assign (hS.ev rfl)) fun a hS => ?_
  refine wpList_nil ?_
  exact hJ1 false _ _ (hS.sub (sub_cons rfl sub_nil)) (hM.pk [] (by decide) pn) hF


theorem c_impl_has (F : Nat) (p0_set : Int) (p1_v : Int) {r : Bool} (hF : S_impl_has F p0_set p1_v = some r) (w0 : World) :
    Calls Try.prog 26 [(int i64 p0_set), (int i64 p1_v)].toArray w0 (retPost fun v w' => v = (Value.bool r) ∧ Mem Nob w0 w' []) := by
 have hM : Mem Nob w0 w0 [] := (Mem.nil w0)
 refine enter2 Try.func26 rfl rfl rfl fun Q a hQr hQn hQp hS => ?_
 have hS : Sl 10 [(0, (int i64 p0_set)), (1, (int i64 p1_v))] a := hS
 unfold S_impl_has at hF
 refine wp_seq_k fun K1 hK1 => ?_
 refine wp_region_lit ?_
 refine st_val hS rfl rfl (by decide) (rv_assign (hS.ev rfl)) fun a hS => ?_
 refine wpList_nil ?_
 refine hK1 _ _ ?_
 refine wp_seq_k fun K2 hK2 => ?_
 refine wp_region_lit ?_
 refine st_val hS rfl rfl (by decide) (rv_move (hS.ev rfl)) fun a hS => ?_
 refine st_val hS rfl rfl (by decide) (rv_move (hS.ev rfl)) fun a hS => ?_
 obtain ⟨_, hx, hF⟩ := bind_some hF
 have hi0 := nnO_some hx
 refine st_val hS rfl rfl (by decide) (rv_shr (hS.ev rfl) (hS.ev rfl) hi0) fun a hS => ?_
 refine st_val hS rfl rfl (by decide) (rv_and (hS.ev rfl) (hS.ev rfl)) fun a hS => ?_
 refine st_val hS rfl rfl (by decide) (rv_eql (hS.ev rfl) (hS.ev rfl)) fun a hS => ?_
 refine st_val hS rfl rfl (by decide) (rv_assign (hS.ev rfl)) fun a hS => ?_
 refine wpList_nil ?_
 refine hK2 _ _ ?_
 refine wp_ret ?_
 cases hF
 exact hQr _ _ (r_1 hS rfl rfl ⟨rfl, hM.pk [] (by decide) pn⟩)


end Go.Proofs.Ytblbimlobacciaa
