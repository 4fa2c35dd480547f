/- Proved here: that each Go function does what its shallow function says -/
import Derived.Test.YtdalcpadcggklaaDoorSh
import Derived.Test.YtdalcpadcggklaaDoorTy
import Derived.Test.YtdalcpadcggklaaDoorK13
import Derived.Test.YtdalcpadcggklaaDoorKS
import Derived.Test.YtdalcpadcggklaaDoorW0
namespace Go.Proofs.YtdalcpadcggklaaDoor
open Go Go.RowKit
set_option linter.unusedVariables false
set_option linter.unusedSimpArgs false
set_option maxRecDepth 100000
set_option maxHeartbeats 40000000

open Go.IntKind (i64)
open Go.Value (int)
theorem c_spec_l1Below (F : Nat) (p0_c_b : List Int) (p0_c_i : Int) (p0_c_h : Int) (p1_n : Int) (p0_c_bv : Value) (p0_cb : Nat) {r : Int × Int × Int} (hF : S_spec_l1Below F p0_c_b p0_c_i p0_c_h p1_n = some r) (w0 : World) (hM : Mem (feet [(true, bx p0_cb 84 [p0_c_bv, (int i64 p0_c_i), (int i64 p0_c_h)])]) w0 w0 [(true, bx p0_cb 84 [p0_c_bv, (int i64 p0_c_i), (int i64 p0_c_h)]), (false, rd p0_c_bv (List.map (int IntKind.u8) p0_c_b))]) :
    Calls Tryd.prog 72 [(fdp p0_cb 0), (int i64 p1_n)].toArray w0 (retPost fun v w' => v = (int i64 r.1) ∧ Mem (feet [(true, bx p0_cb 84 [p0_c_bv, (int i64 p0_c_i), (int i64 p0_c_h)])]) w0 w' [(true, bx p0_cb 84 [p0_c_bv, (int i64 r.2.1), (int i64 r.2.2)])]) := by
 have hM := hM.pk [1, 0] (by decide) (pc rfl (pc rfl pn))
 refine enter2 Tryd.func72 rfl rfl rfl fun Q a hQr hQn hQp hS => ?_
 have hS : Sl 37 [(0, (fdp p0_cb 0)), (1, (int i64 p1_n))] a := hS
 unfold S_spec_l1Below at hF
 refine wp_seq_k fun K1 hK1 => ?_
 refine wp_region_lit ?_
 refine st_val hS rfl rfl (by decide) (rv_assign (hS.ev rfl)) fun a hS => ?_
 refine wpList_nil ?_
 refine hK1 _ _ ?_
 refine wp_seq_k fun K2 hK2 => ?_
 refine wp_seq_k fun K5 hK5 => ?_
 refine wp_region_lit ?_
 refine st_val hS rfl rfl (by decide) (rv_move (hS.ev rfl)) fun a hS => ?_
 refine st_val hS rfl rfl (by decide) (rv_leq (hS.ev rfl) (hS.ev rfl)) fun a hS => ?_
 refine wpList_nil ?_
 refine hK5 _ _ ?_
 rcases ite_some hF with ⟨hc, hF⟩ | ⟨hc, hF⟩
 ·refine cond_t hS rfl hc ?_
  refine wp_seq_k fun K6 hK6 => ?_
  refine wp_region_lit ?_
  refine st_val hS rfl rfl (by decide) (rv_assign (hS.ev rfl)) fun a hS => ?_
  refine wpList_nil ?_
  refine hK6 _ _ ?_
  refine wp_ret ?_
  cases hF
  exact hQr _ _ (r_1 hS rfl rfl ⟨rfl, hM.pk [1] (by decide) (pc rfl pn)⟩)
 ·refine cond_f hS rfl hc ?_
  refine wp_skip ?_
  refine hK2 _ _ ?_
  refine wp_seq_k fun K7 hK7 => ?_
  refine wp_seq_k fun K12 hK12 => ?_
  refine wp_region_lit ?_
  refine st_val hS rfl rfl (by decide) (rv_move (hS.ev rfl)) fun a hS => ?_
  refine st_val hS rfl rfl (by decide) (rv_leq (hS.ev rfl) (hS.ev rfl)) fun a hS => ?_
  refine wpList_nil ?_
  refine hK12 _ _ ?_
  rcases ite_some hF with ⟨hc, hF⟩ | ⟨hc, hF⟩
  ·refine cond_t hS rfl hc ?_
   refine wp_seq_k fun K13 hK13 => ?_
   refine wp_region_lit ?_
   refine st_val hS rfl rfl (by decide) (rv_move (hS.ev rfl)) fun a hS => ?_
   obtain ⟨r15, hr, hF⟩ := bind_some hF
   have hM := hM.pk [1, 0] (by decide) (pc rfl (pc rfl pn))
   have hP := Mem.pre (A := [(true, bx p0_cb 84 [p0_c_bv, (int i64 p0_c_i), (int i64 p0_c_h)])]) (C := [(false, rd p0_c_bv (List.map (int IntKind.u8) p0_c_b))]) (B := []) hM rfl (weaks_cons (weak_self _ _) weaks_nil)
   refine st_wp hS rfl (wp_call hS rfl rfl (by decide) fn_ok_92 rfl (c_spec_l1Byte F p0_c_b p0_c_i p0_c_h p0_c_bv p0_cb hr _ hP) fun v w a hK hS => ?_)
   obtain ⟨rfl, hN⟩ := hK
   have hM := Mem.callo (A := [(true, bx p0_cb 84 [p0_c_bv, (int i64 p0_c_i), (int i64 p0_c_h)])]) (B := [(false, rd p0_c_bv (List.map (int IntKind.u8) p0_c_b))]) hM rfl hN rfl
   refine st_val hS rfl rfl (by decide) (rv_move (hS.ev rfl)) fun a hS => ?_
   obtain ⟨_, hx, hF⟩ := bind_some hF
   have hi0 := nzO_some hx
   refine st_val hS rfl rfl (by decide) (rv_rem (hS.ev rfl) (hS.ev rfl) hi0) fun a hS => ?_
   refine st_val hS rfl rfl (by decide) (rv_assign (hS.ev rfl)) fun a hS => ?_
   refine wpList_nil ?_
   refine hK13 _ _ ?_
   have hS : Sl 37 [(4, (int i64 (r15.1.tmod p1_n)))] a := hS.sub (sub_cons rfl sub_nil)
   refine wp_ret ?_
   cases hF
   exact hQr _ _ (r_1 hS rfl rfl ⟨rfl, hM.pk [0] (by decide) (pc rfl pn)⟩)
  ·refine cond_f hS rfl hc ?_
   refine wp_skip ?_
   refine hK7 _ _ ?_
   refine wp_seq_k fun K16 hK16 => ?_
   refine wp_region_lit ?_
   refine st_val hS rfl rfl (by decide) (rv_move (hS.ev rfl)) fun a hS => ?_
   obtain ⟨r18, hr, hF⟩ := bind_some hF
   have hM := hM.pk [1, 0] (by decide) (pc rfl (pc rfl pn))
   have hP := Mem.pre (A := [(true, bx p0_cb 84 [p0_c_bv, (int i64 p0_c_i), (int i64 p0_c_h)])]) (C := [(false, rd p0_c_bv (List.map (int IntKind.u8) p0_c_b))]) (B := []) hM rfl (weaks_cons (weak_self _ _) weaks_nil)
   refine st_wp hS rfl (wp_call hS rfl rfl (by decide) fn_ok_92 rfl (c_spec_l1Byte F p0_c_b p0_c_i p0_c_h p0_c_bv p0_cb hr _ hP) fun v w a hK hS => ?_)
   obtain ⟨rfl, hN⟩ := hK
   have hM := Mem.callo (A := [(true, bx p0_cb 84 [p0_c_bv, (int i64 p0_c_i), (int i64 p0_c_h)])]) (B := [(false, rd p0_c_bv (List.map (int IntKind.u8) p0_c_b))]) hM rfl hN rfl
   refine st_val hS rfl rfl (by decide) (rv_assign (hS.ev rfl)) fun a hS => ?_
   refine wpList_nil ?_
   refine hK16 _ _ ?_
   refine wp_seq_k fun K19 hK19 => ?_
   refine wp_region_lit ?_
   refine st_val hS rfl rfl (by decide) (rv_move (hS.ev rfl)) fun a hS => ?_
   obtain ⟨r21, hr, hF⟩ := bind_some hF
   have hM := hM.pk [0, 1] (by decide) (pc rfl (pc rfl pn))
   have hP := Mem.pre (A := [(true, bx p0_cb 84 [p0_c_bv, (int i64 r18.2.1), (int i64 r18.2.2)])]) (C := [(false, rd p0_c_bv (List.map (int IntKind.u8) p0_c_b))]) (B := []) hM rfl (weaks_cons (weak_self _ _) weaks_nil)
   refine st_wp hS rfl (wp_call hS rfl rfl (by decide) fn_ok_92 rfl (c_spec_l1Byte F p0_c_b r18.2.1 r18.2.2 p0_c_bv p0_cb hr _ hP) fun v w a hK hS => ?_)
   obtain ⟨rfl, hN⟩ := hK
   have hM := Mem.callo (A := [(true, bx p0_cb 84 [p0_c_bv, (int i64 r18.2.1), (int i64 r18.2.2)])]) (B := [(false, rd p0_c_bv (List.map (int IntKind.u8) p0_c_b))]) hM rfl hN rfl
   refine st_val hS rfl rfl (by decide) (rv_assign (hS.ev rfl)) fun a hS => ?_
   refine wpList_nil ?_
   refine hK19 _ _ ?_
   have hS : Sl 37 [(0, (fdp p0_cb 0)), (1, (int i64 p1_n)), (5, (int i64 r18.1)), (6, (int i64 r21.1))] a := hS.sub (sub_cons rfl (sub_cons rfl (sub_cons rfl (sub_cons rfl sub_nil))))
   refine wp_seq_k fun K22 hK22 => ?_
   refine wp_region_lit ?_
   refine st_val hS rfl rfl (by decide) (rv_move (hS.ev rfl)) fun a hS => ?_
   obtain ⟨r24, hr, hF⟩ := bind_some hF
   have hM := hM.pk [0, 1] (by decide) (pc rfl (pc rfl pn))
   have hP := Mem.pre (A := [(true, bx p0_cb 84 [p0_c_bv, (int i64 r21.2.1), (int i64 r21.2.2)])]) (C := [(false, rd p0_c_bv (List.map (int IntKind.u8) p0_c_b))]) (B := []) hM rfl (weaks_cons (weak_self _ _) weaks_nil)
   refine st_wp hS rfl (wp_call hS rfl rfl (by decide) fn_ok_92 rfl (c_spec_l1Byte F p0_c_b r21.2.1 r21.2.2 p0_c_bv p0_cb hr _ hP) fun v w a hK hS => ?_)
   obtain ⟨rfl, hN⟩ := hK
   have hM := Mem.callo (A := [(true, bx p0_cb 84 [p0_c_bv, (int i64 r21.2.1), (int i64 r21.2.2)])]) (B := [(false, rd p0_c_bv (List.map (int IntKind.u8) p0_c_b))]) hM rfl hN rfl
   refine st_val hS rfl rfl (by decide) (rv_assign (hS.ev rfl)) fun a hS => ?_
   refine wpList_nil ?_
   refine hK22 _ _ ?_
   refine wp_seq_k fun K25 hK25 => ?_
   refine wp_region_lit ?_
   refine st_val hS rfl rfl (by decide) (rv_move (hS.ev rfl)) fun a hS => ?_
   obtain ⟨r27, hr, hF⟩ := bind_some hF
   have hM := hM.pk [0, 1] (by decide) (pc rfl (pc rfl pn))
   have hP := Mem.pre (A := [(true, bx p0_cb 84 [p0_c_bv, (int i64 r24.2.1), (int i64 r24.2.2)])]) (C := [(false, rd p0_c_bv (List.map (int IntKind.u8) p0_c_b))]) (B := []) hM rfl (weaks_cons (weak_self _ _) weaks_nil)
   refine st_wp hS rfl (wp_call hS rfl rfl (by decide) fn_ok_92 rfl (c_spec_l1Byte F p0_c_b r24.2.1 r24.2.2 p0_c_bv p0_cb hr _ hP) fun v w a hK hS => ?_)
   obtain ⟨rfl, hN⟩ := hK
   have hM := Mem.callo (A := [(true, bx p0_cb 84 [p0_c_bv, (int i64 r24.2.1), (int i64 r24.2.2)])]) (B := [(false, rd p0_c_bv (List.map (int IntKind.u8) p0_c_b))]) hM rfl hN rfl
   refine st_val hS rfl rfl (by decide) (rv_assign (hS.ev rfl)) fun a hS => ?_
   refine wpList_nil ?_
   refine hK25 _ _ ?_
   refine wp_seq_k fun K28 hK28 => ?_
   refine wp_region_lit ?_
   refine st_val hS rfl rfl (by decide) (rv_move (hS.ev rfl)) fun a hS => ?_
   refine st_val hS rfl rfl (by decide) (rv_mul (hS.ev rfl) (hS.ev rfl)) fun a hS => ?_
   refine st_val hS rfl rfl (by decide) (rv_move (hS.ev rfl)) fun a hS => ?_
   refine st_val hS rfl rfl (by decide) (rv_mul (hS.ev rfl) (hS.ev rfl)) fun a hS => ?_
   refine st_val hS rfl rfl (by decide) (rv_add (hS.ev rfl) (hS.ev rfl)) fun a hS => ?_
   refine st_val hS rfl rfl (by decide) (rv_move (hS.ev rfl)) fun a hS => ?_
   refine st_val hS rfl rfl (by decide) (rv_mul (hS.ev rfl) (hS.ev rfl)) fun a hS => ?_
   refine st_val hS rfl rfl (by decide) (rv_add (hS.ev rfl) (hS.ev rfl)) fun a hS => ?_
   refine st_val hS rfl rfl (by decide) (rv_move (hS.ev rfl)) fun a hS => ?_
   refine st_val hS rfl rfl (by decide) (rv_add (hS.ev rfl) (hS.ev rfl)) fun a hS => ?_
   refine st_val hS rfl rfl (by decide) (rv_move (hS.ev rfl)) fun a hS => ?_
   obtain ⟨_, hx, hF⟩ := bind_some hF
   have hi0 := nzO_some hx
   refine st_val hS rfl rfl (by decide) (rv_rem (hS.ev rfl) (hS.ev rfl) hi0) fun a hS => ?_
   refine st_val hS rfl rfl (by decide) (rv_assign (hS.ev rfl)) fun a hS => ?_
   refine wpList_nil ?_
   refine hK28 _ _ ?_
   have hS : Sl 37 [(4, (int i64 ((i64.wrap ((i64.wrap ((i64.wrap ((i64.wrap (r18.1 * 16777216)) + (i64.wrap (r21.1 * 65536)))) + (i64.wrap (r24.1 * 256)))) + r27.1)).tmod p1_n)))] a := hS.sub (sub_cons rfl sub_nil)
   refine wp_ret ?_
   cases hF
   exact hQr _ _ (r_1 hS rfl rfl ⟨rfl, hM.pk [0] (by decide) (pc rfl pn)⟩)


theorem c_spec_l1PickInt (F : Nat) (p0_c_b : List Int) (p0_c_i : Int) (p0_c_h : Int) (p1_list : List Int) (p0_c_bv : Value) (p0_cb : Nat) (p1_listv : Value) {r : Int × Int × Int} (hF : S_spec_l1PickInt F p0_c_b p0_c_i p0_c_h p1_list = some r) (w0 : World) (hM : Mem (feet [(true, bx p0_cb 84 [p0_c_bv, (int i64 p0_c_i), (int i64 p0_c_h)])]) w0 w0 [(true, bx p0_cb 84 [p0_c_bv, (int i64 p0_c_i), (int i64 p0_c_h)]), (false, rd p0_c_bv (List.map (int IntKind.u8) p0_c_b)), (false, rd p1_listv (List.map (int i64) p1_list))]) :
    Calls Tryd.prog 74 [(fdp p0_cb 0), p1_listv].toArray w0 (retPost fun v w' => v = (int i64 r.1) ∧ Mem (feet [(true, bx p0_cb 84 [p0_c_bv, (int i64 p0_c_i), (int i64 p0_c_h)])]) w0 w' [(true, bx p0_cb 84 [p0_c_bv, (int i64 r.2.1), (int i64 r.2.2)])]) := by
 have hM := hM.pk [1, 0, 2] (by decide) (pc rfl (pc rfl (pc rfl pn)))
 refine enter2 Tryd.func74 rfl rfl rfl fun Q a hQr hQn hQp hS => ?_
 have hS : Sl 12 [(0, (fdp p0_cb 0)), (1, p1_listv)] a := hS
 unfold S_spec_l1PickInt at hF
 refine wp_seq_k fun K1 hK1 => ?_
 refine wp_region_lit ?_
 refine st_val hS rfl rfl (by decide) (rv_assign (hS.ev rfl)) fun a hS => ?_
 refine wpList_nil ?_
 refine hK1 _ _ ?_
 refine wp_seq_k fun K2 hK2 => ?_
 refine wp_region_lit ?_
 refine st_val hS rfl rfl (by decide) (rv_move (hS.ev rfl)) fun a hS => ?_
 refine st_val hS rfl rfl (by decide) (rv_move (hS.ev rfl)) fun a hS => ?_
 refine st_val hS rfl rfl (by decide) (rv_move (hS.ev rfl)) fun a hS => ?_
 refine st_val hS rfl rfl (by decide) (rv_len_rowM Tryd.underlying24 (hS.ev rfl) (hM.get 2 rfl)) fun a hS => ?_
 obtain ⟨r5, hr, hF⟩ := bind_some hF
 have hM := hM.pk [1, 0, 2] (by decide) (pc rfl (pc rfl (pc rfl pn)))
 have hP := Mem.pre (A := [(true, bx p0_cb 84 [p0_c_bv, (int i64 p0_c_i), (int i64 p0_c_h)])]) (C := [(false, rd p0_c_bv (List.map (int IntKind.u8) p0_c_b))]) (B := [(false, rd p1_listv (List.map (int i64) p1_list))]) hM rfl (weaks_cons (weak_self _ _) weaks_nil)
 refine st_wp hS rfl (wp_call hS rfl rfl (by decide) fn_ok_72 rfl (c_spec_l1Below F p0_c_b p0_c_i p0_c_h (p1_list.length : Int) p0_c_bv p0_cb hr _ hP) fun v w a hK hS => ?_)
 obtain ⟨rfl, hN⟩ := hK
 have hM := Mem.callo (A := [(true, bx p0_cb 84 [p0_c_bv, (int i64 p0_c_i), (int i64 p0_c_h)])]) (B := [(false, rd p0_c_bv (List.map (int IntKind.u8) p0_c_b)), (false, rd p1_listv (List.map (int i64) p1_list))]) hM rfl hN rfl
 obtain ⟨x6, hx, hF⟩ := bind_some hF
 obtain ⟨hi0, hi1, hex6⟩ := idxL_some hx
 refine st_val hS rfl rfl (by decide) (rv_indexAddr Tryd.underlying24 ty_el_3 (hS.ev rfl) (hS.ev rfl) (hM.get 2 rfl) hi0 (map_len hi1)) fun a hS => ?_
 refine st_val hS rfl rfl (by decide) (rv_load_el (hS.ev rfl) ty_ag_3 (hM.get 2 rfl) (mget hex6)) fun a hS => ?_
 refine st_val hS rfl rfl (by decide) (rv_assign (hS.ev rfl)) fun a hS => ?_
 refine wpList_nil ?_
 refine hK2 _ _ ?_
 have hS : Sl 12 [(4, (int i64 x6))] a := hS.sub (sub_cons rfl sub_nil)
 have hM := hM.pk [0, 1] (by decide) (pc rfl (pc rfl pn))
 refine wp_ret ?_
 cases hF
 exact hQr _ _ (r_1 hS rfl rfl ⟨rfl, hM.pk [0] (by decide) (pc rfl pn)⟩)


theorem c_spec_l2Edge (F : Nat) (p0_g_Size : Int) (p0_g_Rows : List Int) (p1_v : Int) (p2_w : Int) (p0_g_Rowsv : Value) {r : Bool} (hF : S_spec_l2Edge F p0_g_Size p0_g_Rows p1_v p2_w = some r) (w0 : World) (h0 : RdRow w0 p0_g_Rowsv (List.map (int i64) p0_g_Rows)) :
    Calls Tryd.prog 69 [(Value.agg #[(int i64 p0_g_Size), p0_g_Rowsv]), (int i64 p1_v), (int i64 p2_w)].toArray w0 (retPost fun v w' => v = (Value.bool r) ∧ Mem Nob w0 w' []) := by
 have hM : Mem Nob w0 w0 [(false, rd p0_g_Rowsv (List.map (int i64) p0_g_Rows))] := (Mem.rcons (Mem.nil w0) h0 (by simp))
 refine enter2 Tryd.func69 rfl rfl rfl fun Q a hQr hQn hQp hS => ?_
 have hS : Sl 16 [(0, (Value.agg #[(int i64 p0_g_Size), p0_g_Rowsv])), (1, (int i64 p1_v)), (2, (int i64 p2_w))] a := hS
 unfold S_spec_l2Edge at hF
 refine wp_seq_k fun K1 hK1 => ?_
 refine wp_region_lit ?_
 obtain ⟨b3, w, hr, hM⟩ := hM.boxE (ρ := a.eval) (dst := some 3) (ty := _) (pos := _) (af := _) (gd := _) (x := .tmp 0) (T := 26) [(int i64 p0_g_Size), p0_g_Rowsv] (hS.ev rfl) rfl
 refine st_val hS rfl rfl (by decide) hr fun a hS => ?_
 refine st_val hS rfl rfl (by decide) (rv_assign (hS.ev rfl)) fun a hS => ?_
 refine wpList_nil ?_
 refine hK1 _ _ ?_
 refine wp_seq_k fun K4 hK4 => ?_
 refine wp_region_lit ?_
 refine st_val hS rfl rfl (by decide) (rv_fieldAddr ty_fd_26_1 (hS.ev rfl)) fun a hS => ?_
 refine st_val hS rfl rfl (by decide) (rv_load_bx (hS.ev rfl) ty_ag_24 (hM.get 0 rfl) rfl) fun a hS => ?_
 refine st_val hS rfl rfl (by decide) (rv_move (hS.ev rfl)) fun a hS => ?_
 obtain ⟨x6, hx, hF⟩ := bind_some hF
 obtain ⟨hi0, hi1, hex6⟩ := idxL_some hx
 refine st_val hS rfl rfl (by decide) (rv_indexAddr Tryd.underlying24 ty_el_3 (hS.ev rfl) (hS.ev rfl) (hM.get 1 rfl) hi0 (map_len hi1)) fun a hS => ?_
 refine st_val hS rfl rfl (by decide) (rv_load_el (hS.ev rfl) ty_ag_3 (hM.get 1 rfl) (mget hex6)) fun a hS => ?_
 refine st_val hS rfl rfl (by decide) (rv_move (hS.ev rfl)) fun a hS => ?_
 obtain ⟨_, hx, hF⟩ := bind_some hF
 have hi0 := nnO_some hx
 refine st_val hS rfl rfl (by decide) (rv_shr (hS.ev rfl) (hS.ev rfl) hi0) fun a hS => ?_
 refine st_val hS rfl rfl (by decide) (rv_and (hS.ev rfl) (hS.ev rfl)) fun a hS => ?_
 refine st_val hS rfl rfl (by decide) (rv_eql (hS.ev rfl) (hS.ev rfl)) fun a hS => ?_
 refine st_val hS rfl rfl (by decide) (rv_assign (hS.ev rfl)) fun a hS => ?_
 refine wpList_nil ?_
 refine hK4 _ _ ?_
 have hS : Sl 16 [(6, (Value.bool ((bAnd (shR x6 p2_w) 1) == 1)))] a := hS.sub (sub_cons rfl sub_nil)
 have hM := hM.pk [] (by decide) pn
 refine wp_ret ?_
 cases hF
 exact hQr _ _ (r_1 hS rfl rfl ⟨rfl, hM.pk [] (by decide) pn⟩)


theorem c_spec_l2Copy (F : Nat) (p0_g_Size : Int) (p0_g_Rows : List Int) (p0_g_Rowsv : Value) {r : Int × (List (Int))} (hF : S_spec_l2Copy F p0_g_Size p0_g_Rows = some r) (w0 : World) (h0 : RdRow w0 p0_g_Rowsv (List.map (int i64) p0_g_Rows)) :
    Calls Tryd.prog 85 [(Value.agg #[(int i64 p0_g_Size), p0_g_Rowsv])].toArray w0 (retPost fun v w' => ∃ v11, v = (Value.agg #[(int i64 r.1), v11]) ∧ Mem Nob w0 w' [(true, ow 3 v11 (List.map (int i64) r.2))]) := by
 have hM : Mem Nob w0 w0 [(false, rd p0_g_Rowsv (List.map (int i64) p0_g_Rows))] := (Mem.rcons (Mem.nil w0) h0 (by simp))
 refine enter2 Tryd.func85 rfl rfl rfl fun Q a hQr hQn hQp hS => ?_
 have hS : Sl 10 [(0, (Value.agg #[(int i64 p0_g_Size), p0_g_Rowsv]))] a := hS
 unfold S_spec_l2Copy at hF
 refine wp_seq_k fun K1 hK1 => ?_
 refine wp_region_lit ?_
 obtain ⟨b4, w, hr, hM⟩ := hM.boxE (ρ := a.eval) (dst := some 1) (ty := _) (pos := _) (af := _) (gd := _) (x := .tmp 0) (T := 26) [(int i64 p0_g_Size), p0_g_Rowsv] (hS.ev rfl) rfl
 refine st_val hS rfl rfl (by decide) hr fun a hS => ?_
 obtain ⟨b5, w, hr, hM⟩ := hM.allocE (ρ := a.eval) (dst := some 2) (ty := _) (pos := _) (af := _) (gd := _) (T := 26) (P := Tryd.prog) [(int i64 0), (Value.slice none 0 0)] ty_zr_26 rfl
 refine st_val hS rfl rfl (by decide) hr fun a hS => ?_
 have hM := hM.addNil 3
 refine wpList_nil ?_
 refine hK1 _ _ ?_
 refine wp_seq_k fun K6 hK6 => ?_
 have hM := hM.pk [1, 0, 2, 3] (by decide) (pc rfl (pc rfl (pc rfl (pc rfl pn))))
 refine an_startB 8 (feet [(true, bx b5 26 [(int i64 0), (Value.slice none 0 0)])]) ty_mixed (by kernel_rfl) fun w hf => ?_
 have hM := hM.fra hf
 have hB := hM
 have hM := hB.reg1 rfl
 refine tkB hS 0 1 (by kernel_rfl) rfl rfl rfl hQp rfl (fun w' hC' => (rv_fieldAddr ty_fd_26_0 (hS.ev rfl))) hM.fr fun a hS => ?_
 refine tkB hS 1 3 (by kernel_rfl) rfl rfl rfl hQp rfl (fun w' hC' => (rv_load_bx (hS.ev rfl) ty_ag_3 (hB.getF rfl 1 rfl hC') rfl)) hM.fr fun a hS => ?_
 refine tkB hS 3 11 (by kernel_rfl) rfl rfl rfl hQp rfl (fun w' hC' => (rv_fieldAddr ty_fd_26_1 (hS.ev rfl))) hM.fr fun a hS => ?_
 refine tkB hS 4 27 (by kernel_rfl) rfl rfl rfl hQp rfl (fun w' hC' => (rv_load_bx (hS.ev rfl) ty_ag_24 (hB.getF rfl 1 rfl hC') rfl)) hM.fr fun a hS => ?_
 obtain ⟨v9, w, hr, hM⟩ := Mem.litE (f := (int i64)) (dst := some 5) (ty := _) (pos := _) (af := _) (gd := _) (ps := []) ([] : List (Int)) i64_one hM hS Tryd.underlying24 ty_el_3 rfl rfl rfl rfl
 refine an_oneB hS (i := 2) 31 (by kernel_rfl) rfl (by kernel_rfl) rfl ?_
 refine wp_val hS rfl (by decide) hr fun a hS => ⟨hM.fr, ?_⟩
 obtain ⟨_, hx, hF⟩ := bind_some hF
 obtain ⟨v10, w, hr, hM⟩ := Mem.appE (f := (int i64)) (S := _) (R := [(true, bx b5 26 [(int i64 0), (Value.slice none 0 0)]), (false, ow 3 (Value.slice none 0 0) (List.map (int i64) ([] : List (Int)))), (false, bx b4 26 [(int i64 p0_g_Size), p0_g_Rowsv]), (false, rd p0_g_Rowsv (List.map (int i64) p0_g_Rows))]) (ρ := a.eval) (dst := some 8) (ty := _) (pos := _) (af := _) (gd := _) (x := .tmp 5) (y := .tmp 7) i64_one hM Tryd.underlying24 ty_el_3 rfl (by decide) (hS.ev rfl) (hS.ev rfl) (hM.get 4 rfl) (catO_some hx)
 refine an_oneB hS (i := 5) 63 (by kernel_rfl) rfl (by kernel_rfl) rfl ?_
 refine wp_val hS rfl (by decide) hr fun a hS => ⟨hM.fr, ?_⟩
 refine tkB hS 6 127 (by kernel_rfl) rfl rfl rfl hQp rfl (fun w' hC' => (rv_build hS ty_st_26 rfl (by simp) (ones_cons (by rw [hS.ev (v := (int i64 p0_g_Size)) rfl]; rfl) (ones_cons (by rw [hS.ev (v := v10) rfl]; exact rd_one (rd_of_ow (hM.get 0 rfl))) ones_nil)))) hM.fr fun a hS => ?_
 have hM := hM.pk [1, 0, 2, 3, 4] (by decide) (pc rfl (pc rfl (pc rfl (pc rfl (pc rfl pn)))))
 obtain ⟨w, hr, hM⟩ := hM.st_agg (us := [(int i64 p0_g_Size), v10]) (ρ := a.eval) (dst := none) (ty := _) (pos := _) (af := _) (gd := _) (x := .tmp 2) (y := .tmp 9) (hS.ev rfl) (hS.ev rfl) ty_sz_26 (all1_cons rfl (all1_cons (rd_one (rd_of_ow (hM.get 1 rfl))) all1_nil)) rfl
 refine an_oneB hS (i := 7) 255 (by kernel_rfl) rfl (by kernel_rfl) rfl ?_
 refine wp_unit hS rfl hr ⟨hM.fr, ?_⟩
 refine an_done (by kernel_rfl) ?_
 have hN := hM.pk [0, 1] (by decide) (pc rfl (pc rfl pn))
 have hM := Mem.callo (A := [(true, bx b5 26 [(int i64 0), (Value.slice none 0 0)])]) (B := [(true, ow 3 (Value.slice none 0 0) (List.map (int i64) ([] : List (Int)))), (true, bx b4 26 [(int i64 p0_g_Size), p0_g_Rowsv]), (false, rd p0_g_Rowsv (List.map (int i64) p0_g_Rows))]) hB rfl (hN.memS fun _ h => h) rfl
 refine hK6 _ _ ?_
 have hS : Sl 10 [(2, (fdp b5 0))] a := hS.sub (sub_cons rfl sub_nil)
 have hM := hM.pk [0, 1] (by decide) (pc rfl (pc rfl pn))
 refine wp_ret ?_
 cases hF
 exact hQr _ _ (r_c hS rfl ⟨_, rfl, run_loadAgg ty_ag_26 (hM.get 0 rfl) ty_sz_26⟩ ⟨v10, rfl, hM.pk [1] (by decide) (pc rfl pn)⟩)


theorem c_spec_l2Pair (F : Nat) (p0_g_Size : Int) (p0_g_Rows : List Int) (p1_v : Int) (p2_w : Int) (p0_g_Rowsv : Value) {r : Bool} (hF : S_spec_l2Pair F p0_g_Size p0_g_Rows p1_v p2_w = some r) (w0 : World) (h0 : RdRow w0 p0_g_Rowsv (List.map (int i64) p0_g_Rows)) :
    Calls Tryd.prog 86 [(Value.agg #[(int i64 p0_g_Size), p0_g_Rowsv]), (int i64 p1_v), (int i64 p2_w)].toArray w0 (retPost fun v w' => v = (Value.bool r) ∧ Mem Nob w0 w' []) := by
 have hM : Mem Nob w0 w0 [(false, rd p0_g_Rowsv (List.map (int i64) p0_g_Rows))] := (Mem.rcons (Mem.nil w0) h0 (by simp))
 refine enter2 Tryd.func86 rfl rfl rfl fun Q a hQr hQn hQp hS => ?_
 have hS : Sl 34 [(0, (Value.agg #[(int i64 p0_g_Size), p0_g_Rowsv])), (1, (int i64 p1_v)), (2, (int i64 p2_w))] a := hS
 unfold S_spec_l2Pair at hF
 refine wp_seq_k fun K1 hK1 => ?_
 refine wp_region_lit ?_
 obtain ⟨b3, w, hr, hM⟩ := hM.boxE (ρ := a.eval) (dst := some 3) (ty := _) (pos := _) (af := _) (gd := _) (x := .tmp 0) (T := 26) [(int i64 p0_g_Size), p0_g_Rowsv] (hS.ev rfl) rfl
 refine st_val hS rfl rfl (by decide) hr fun a hS => ?_
 refine st_val hS rfl rfl (by decide) (rv_assign (hS.ev rfl)) fun a hS => ?_
 refine wpList_nil ?_
 refine hK1 _ _ ?_
 refine wp_seq_k fun K4 hK4 => ?_
 have hJ1 : ∀ (p6 : Bool) (a : Act) (w : World), Sl 34 [(6, (Value.bool p6))] a → Mem Nob w0 w [] → S_spec_l2Pair_j1 F p6 = some r → K4 a w := by
  intro p6 a w hS hM hF
  unfold S_spec_l2Pair_j1 at hF
  refine hK4 _ _ ?_
  refine wp_ret ?_
  cases hF
  exact hQr _ _ (r_1 hS rfl rfl ⟨rfl, hM.pk [] (by decide) pn⟩)
 refine wp_region_lit ?_
 refine st_val hS rfl rfl (by decide) (rv_load_agg (hS.ev rfl) ty_ag_26 (hM.get 0 rfl) ty_sz_26) fun a hS => ?_
 obtain ⟨r7, hr, hF⟩ := bind_some hF
 refine st_wp hS rfl (wp_call hS rfl rfl (by decide) fn_ok_39 rfl (c_spec_IsGraph F p0_g_Size p0_g_Rows p0_g_Rowsv hr _ (hM.get 1 rfl)) fun v w a hK hS => ?_)
 obtain ⟨rfl, hN⟩ := hK
 have hM := hM.fra hN.fr
 refine st_val hS rfl rfl (by decide) (rv_move (hS.ev rfl)) fun a hS => ?_
 rcases ite_some hF with ⟨hc, hF⟩ | ⟨hc, hF⟩
 ·have hS := hS.setb (t := 9) rfl hc
  refine st_val hS rfl rfl (by decide) (rv_move (hS.ev rfl)) fun a hS => ?_
  refine st_val hS rfl rfl (by decide) (rv_geq (hS.ev rfl) (hS.ev rfl)) fun a hS => ?_
  refine st_val hS rfl rfl (by decide) (rv_pick_t (hS.ev rfl) (hS.ev rfl)) fun a hS => ?_
  refine st_val hS rfl rfl (by decide) (rv_move (hS.ev rfl)) fun a hS => ?_
  rcases ite_some hF with ⟨hc, hF⟩ | ⟨hc, hF⟩
  ·have hS := hS.setb (t := 13) rfl hc
   refine st_val hS rfl rfl (by decide) (rv_move (hS.ev rfl)) fun a hS => ?_
   refine st_val hS rfl rfl (by decide) (rv_geq (hS.ev rfl) (hS.ev rfl)) fun a hS => ?_
   refine st_val hS rfl rfl (by decide) (rv_pick_t (hS.ev rfl) (hS.ev rfl)) fun a hS => ?_
   refine st_val hS rfl rfl (by decide) (rv_move (hS.ev rfl)) fun a hS => ?_
   rcases ite_some hF with ⟨hc, hF⟩ | ⟨hc, hF⟩
   ·have hS := hS.setb (t := 17) rfl hc
    refine st_val hS rfl rfl (by decide) (rv_move (hS.ev rfl)) fun a hS => ?_
    refine st_val hS rfl rfl (by decide) (rv_fieldAddr ty_fd_26_0 (hS.ev rfl)) fun a hS => ?_
    refine st_val hS rfl rfl (by decide) (rv_load_bx (hS.ev rfl) ty_ag_3 (hM.get 0 rfl) rfl) fun a hS => ?_
    refine st_val hS rfl rfl (by decide) (rv_lss (hS.ev rfl) (hS.ev rfl)) fun a hS => ?_
    refine st_val hS rfl rfl (by decide) (rv_pick_t (hS.ev rfl) (hS.ev rfl)) fun a hS => ?_
    refine st_val hS rfl rfl (by decide) (rv_move (hS.ev rfl)) fun a hS => ?_
    rcases ite_some hF with ⟨hc, hF⟩ | ⟨hc, hF⟩
    ·have hS := hS.setb (t := 23) rfl hc
     refine st_val hS rfl rfl (by decide) (rv_move (hS.ev rfl)) fun a hS => ?_
     refine st_val hS rfl rfl (by decide) (rv_fieldAddr ty_fd_26_0 (hS.ev rfl)) fun a hS => ?_
     refine st_val hS rfl rfl (by decide) (rv_load_bx (hS.ev rfl) ty_ag_3 (hM.get 0 rfl) rfl) fun a hS => ?_
     refine st_val hS rfl rfl (by decide) (rv_lss (hS.ev rfl) (hS.ev rfl)) fun a hS => ?_
     refine st_val hS rfl rfl (by decide) (rv_pick_t (hS.ev rfl) (hS.ev rfl)) fun a hS => ?_
     refine st_val hS rfl rfl (by decide) (rv_move (hS.ev rfl)) fun a hS => ?_
     rcases ite_some hF with ⟨hc, hF⟩ | ⟨hc, hF⟩
     ·have hS := hS.setb (t := 29) rfl hc
      refine st_val hS rfl rfl (by decide) (rv_move (hS.ev rfl)) fun a hS => ?_
      refine st_val hS rfl rfl (by decide) (rv_move (hS.ev rfl)) fun a hS => ?_
      refine st_val hS rfl rfl (by decide) (rv_neq (hS.ev rfl) (hS.ev rfl)) fun a hS => ?_
      refine st_val hS rfl rfl (by decide) (rv_pick_t (hS.ev rfl) (hS.ev rfl)) fun a hS => ?_
      refine st_val hS rfl rfl (by decide) (rv_assign (hS.ev rfl)) fun a hS => ?_
      refine wpList_nil ?_
      exact hJ1 (p1_v != p2_w) _ _ (hS.sub (sub_cons rfl sub_nil)) (hM.pk [] (by decide) pn) hF
     ·have hS := hS.setb (t := 29) rfl hc
      refine st_skip hS rfl rfl (by decide) fun a hS => ?_
      refine st_skip hS rfl rfl (by decide) fun a hS => ?_
      refine st_skip hS rfl rfl (by decide) fun a hS => ?_
      refine st_val hS rfl rfl (by decide) (rv_pick_f (hS.ev rfl) (hS.ev rfl)) fun a hS => ?_
      refine st_val hS rfl rfl (by decide) (rv_assign (hS.ev rfl)) fun a hS => ?_
      refine wpList_nil ?_
      exact hJ1 false _ _ (hS.sub (sub_cons rfl sub_nil)) (hM.pk [] (by decide) pn) hF
    ·have hS := hS.setb (t := 23) rfl hc
     refine st_skip hS rfl rfl (by decide) fun a hS => ?_
     refine st_skip hS rfl rfl (by decide) fun a hS => ?_
     refine st_skip hS rfl rfl (by decide) fun a hS => ?_
     refine st_skip hS rfl rfl (by decide) fun a hS => ?_
     refine st_val hS rfl rfl (by decide) (rv_pick_f (hS.ev rfl) (hS.ev rfl)) fun a hS => ?_
     refine st_val hS rfl rfl (by decide) (rv_move (hS.ev rfl)) fun a hS => ?_
     refine st_skip hS rfl rfl (by decide) fun a hS => ?_
     refine st_skip hS rfl rfl (by decide) fun a hS => ?_
     refine st_skip hS rfl rfl (by decide) fun a hS => ?_
     refine st_val hS rfl rfl (by decide) (rv_pick_f (hS.ev rfl) (hS.ev rfl)) fun a hS => ?_
     refine st_val hS rfl rfl (by decide) (rv_assign (hS.ev rfl)) fun a hS => ?_
     refine wpList_nil ?_
     exact hJ1 false _ _ (hS.sub (sub_cons rfl sub_nil)) (hM.pk [] (by decide) pn) hF
   ·have hS := hS.setb (t := 17) rfl hc
    refine st_skip hS rfl rfl (by decide) fun a hS => ?_
    refine st_skip hS rfl rfl (by decide) fun a hS => ?_
    refine st_skip hS rfl rfl (by decide) fun a hS => ?_
    refine st_skip hS rfl rfl (by decide) fun a hS => ?_
    refine st_val hS rfl rfl (by decide) (rv_pick_f (hS.ev rfl) (hS.ev rfl)) fun a hS => ?_
    refine st_val hS rfl rfl (by decide) (rv_move (hS.ev rfl)) fun a hS => ?_
    refine st_skip hS rfl rfl (by decide) fun a hS => ?_
    refine st_skip hS rfl rfl (by decide) fun a hS => ?_
    refine st_skip hS rfl rfl (by decide) fun a hS => ?_
    refine st_skip hS rfl rfl (by decide) fun a hS => ?_
    refine st_val hS rfl rfl (by decide) (rv_pick_f (hS.ev rfl) (hS.ev rfl)) fun a hS => ?_
    refine st_val hS rfl rfl (by decide) (rv_move (hS.ev rfl)) fun a hS => ?_
    refine st_skip hS rfl rfl (by decide) fun a hS => ?_
    refine st_skip hS rfl rfl (by decide) fun a hS => ?_
    refine st_skip hS rfl rfl (by decide) fun a hS => ?_
    refine st_val hS rfl rfl (by decide) (rv_pick_f (hS.ev rfl) (hS.ev rfl)) fun a hS => ?_
    refine st_val hS rfl rfl (by decide) (rv_assign (hS.ev rfl)) fun a hS => ?_
    refine wpList_nil ?_
    exact hJ1 false _ _ (hS.sub (sub_cons rfl sub_nil)) (hM.pk [] (by decide) pn) hF
  ·have hS := hS.setb (t := 13) rfl hc
   refine st_skip hS rfl rfl (by decide) fun a hS => ?_
   refine st_skip hS rfl rfl (by decide) fun a hS => ?_
   refine st_val hS rfl rfl (by decide) (rv_pick_f (hS.ev rfl) (hS.ev rfl)) fun a hS => ?_
   refine st_val hS rfl rfl (by decide) (rv_move (hS.ev rfl)) fun a hS => ?_
   refine st_skip hS rfl rfl (by decide) fun a hS => ?_
   refine st_skip hS rfl rfl (by decide) fun a hS => ?_
   refine st_skip hS rfl rfl (by decide) fun a hS => ?_
   refine st_skip hS rfl rfl (by decide) fun a hS => ?_
   refine st_val hS rfl rfl (by decide) (rv_pick_f (hS.ev rfl) (hS.ev rfl)) fun a hS => ?_
   refine st_val hS rfl rfl (by decide) (rv_move (hS.ev rfl)) fun a hS => ?_
   refine st_skip hS rfl rfl (by decide) fun a hS => ?_
   refine st_skip hS rfl rfl (by decide) fun a hS => ?_
   refine st_skip hS rfl rfl (by decide) fun a hS => ?_
   refine st_skip hS rfl rfl (by decide) fun a hS => ?_
   refine st_val hS rfl rfl (by decide) (rv_pick_f (hS.ev rfl) (hS.ev rfl)) fun a hS => ?_
   refine st_val hS rfl rfl (by decide) (rv_move (hS.ev rfl)) fun a hS => ?_
   refine st_skip hS rfl rfl (by decide) fun a hS => ?_
   refine st_skip hS rfl rfl (by decide) fun a hS => ?_
   refine st_skip hS rfl rfl (by decide) fun a hS => ?_
   refine st_val hS rfl rfl (by decide) (rv_pick_f (hS.ev rfl) (hS.ev rfl)) fun a hS => ?_
   refine st_val hS rfl rfl (by decide) (rv_assign (hS.ev rfl)) fun a hS => ?_
   refine wpList_nil ?_
   exact hJ1 false _ _ (hS.sub (sub_cons rfl sub_nil)) (hM.pk [] (by decide) pn) hF
 ·have hS := hS.setb (t := 9) rfl hc
  refine st_skip hS rfl rfl (by decide) fun a hS => ?_
  refine st_skip hS rfl rfl (by decide) fun a hS => ?_
  refine st_val hS rfl rfl (by decide) (rv_pick_f (hS.ev rfl) (hS.ev rfl)) fun a hS => ?_
  refine st_val hS rfl rfl (by decide) (rv_move (hS.ev rfl)) fun a hS => ?_
  refine st_skip hS rfl rfl (by decide) fun a hS => ?_
  refine st_skip hS rfl rfl (by decide) fun a hS => ?_
  refine st_val hS rfl rfl (by decide) (rv_pick_f (hS.ev rfl) (hS.ev rfl)) fun a hS => ?_
  refine st_val hS rfl rfl (by decide) (rv_move (hS.ev rfl)) fun a hS => ?_
  refine st_skip hS rfl rfl (by decide) fun a hS => ?_
  refine st_skip hS rfl rfl (by decide) fun a hS => ?_
  refine st_skip hS rfl rfl (by decide) fun a hS => ?_
  refine st_skip hS rfl rfl (by decide) fun a hS => ?_
  refine st_val hS rfl rfl (by decide) (rv_pick_f (hS.ev rfl) (hS.ev rfl)) fun a hS => ?_
  refine st_val hS rfl rfl (by decide) (rv_move (hS.ev rfl)) fun a hS => ?_
  refine st_skip hS rfl rfl (by decide) fun a hS => ?_
  refine st_skip hS rfl rfl (by decide) fun a hS => ?_
  refine st_skip hS rfl rfl (by decide) fun a hS => ?_
  refine st_skip hS rfl rfl (by decide) fun a hS => ?_
  refine st_val hS rfl rfl (by decide) (rv_pick_f (hS.ev rfl) (hS.ev rfl)) fun a hS => ?_
  refine st_val hS rfl rfl (by decide) (rv_move (hS.ev rfl)) fun a hS => ?_
  refine st_skip hS rfl rfl (by decide) fun a hS => ?_
  refine st_skip hS rfl rfl (by decide) fun a hS => ?_
  refine st_skip hS rfl rfl (by decide) fun a hS => ?_
  refine st_val hS rfl rfl (by decide) (rv_pick_f (hS.ev rfl) (hS.ev rfl)) fun a hS => ?_
  refine st_val hS rfl rfl (by decide) (rv_assign (hS.ev rfl)) fun a hS => ?_
  refine wpList_nil ?_
  exact hJ1 false _ _ (hS.sub (sub_cons rfl sub_nil)) (hM.pk [] (by decide) pn) hF


theorem c_spec_AddEdge (F : Nat) (p0_g_Size : Int) (p0_g_Rows : List Int) (p1_v : Int) (p2_w : Int) (p0_g_Rowsv : Value) {r : Int × (List (Int)) × Bool} (hF : S_spec_AddEdge F p0_g_Size p0_g_Rows p1_v p2_w = some r) (w0 : World) (h0 : RdRow w0 p0_g_Rowsv (List.map (int i64) p0_g_Rows)) :
    Calls Tryd.prog 44 [(Value.agg #[(int i64 p0_g_Size), p0_g_Rowsv]), (int i64 p1_v), (int i64 p2_w)].toArray w0 (retPost fun v w' => ∃ v39, v = (Value.tuple #[(Value.agg #[(int i64 r.1), v39]), (Value.bool r.2.2)]) ∧ Mem Nob w0 w' [(true, ow 3 v39 (List.map (int i64) r.2.1))]) := by
 have hM : Mem Nob w0 w0 [(false, rd p0_g_Rowsv (List.map (int i64) p0_g_Rows))] := (Mem.rcons (Mem.nil w0) h0 (by simp))
 refine enter2 Tryd.func44 rfl rfl rfl fun Q a hQr hQn hQp hS => ?_
 have hS : Sl 48 [(0, (Value.agg #[(int i64 p0_g_Size), p0_g_Rowsv])), (1, (int i64 p1_v)), (2, (int i64 p2_w))] a := hS
 unfold S_spec_AddEdge at hF
 refine wp_seq_k fun K1 hK1 => ?_
 refine wp_region_lit ?_
 obtain ⟨b4, w, hr, hM⟩ := hM.boxE (ρ := a.eval) (dst := some 3) (ty := _) (pos := _) (af := _) (gd := _) (x := .tmp 0) (T := 26) [(int i64 p0_g_Size), p0_g_Rowsv] (hS.ev rfl) rfl
 refine st_val hS rfl rfl (by decide) hr fun a hS => ?_
 obtain ⟨b5, w, hr, hM⟩ := hM.allocE (ρ := a.eval) (dst := some 6) (ty := _) (pos := _) (af := _) (gd := _) (T := 26) (P := Tryd.prog) [(int i64 0), (Value.slice none 0 0)] ty_zr_26 rfl
 refine st_val hS rfl rfl (by decide) hr fun a hS => ?_
 have hM := hM.addNil 3
 refine st_val hS rfl rfl (by decide) (rv_assign (hS.ev rfl)) fun a hS => ?_
 refine wpList_nil ?_
 refine hK1 _ _ ?_
 refine wp_seq_k fun K6 hK6 => ?_
 refine wp_region_lit ?_
 refine st_val hS rfl rfl (by decide) (rv_load_agg (hS.ev rfl) ty_ag_26 (hM.get 2 rfl) ty_sz_26) fun a hS => ?_
 obtain ⟨r10, hr, hF⟩ := bind_some hF
 refine st_wp hS rfl (wp_call hS rfl rfl (by decide) fn_ok_85 rfl (c_spec_l2Copy F p0_g_Size p0_g_Rows p0_g_Rowsv hr _ (hM.get 3 rfl)) fun v w a hK hS => ?_)
 obtain ⟨v11, rfl, hN⟩ := hK
 have hM := hM.add hN rfl
 obtain ⟨b12, w, hr, hM⟩ := hM.allocE (ρ := a.eval) (dst := some 8) (ty := _) (pos := _) (af := _) (gd := _) (T := 26) (P := Tryd.prog) [(int i64 0), (Value.slice none 0 0)] ty_zr_26 rfl
 refine st_val hS rfl rfl (by decide) hr fun a hS => ?_
 have hM := hM.addNil 3
 have hM := hM.pk [1, 0, 2, 3, 4, 5, 6] (by decide) (pc rfl (pc rfl (pc rfl (pc rfl (pc rfl (pc rfl (pc rfl pn)))))))
 obtain ⟨w, hr, hM⟩ := hM.st_agg (us := [(int i64 r10.1), v11]) (ρ := a.eval) (dst := none) (ty := _) (pos := _) (af := _) (gd := _) (x := .tmp 8) (y := .tmp 10) (hS.ev rfl) (hS.ev rfl) ty_sz_26 (all1_cons rfl (all1_cons (rd_one (rd_of_ow (hM.get 2 rfl))) all1_nil)) rfl
 refine st_unit hS rfl rfl hr ?_
 refine wpList_nil ?_
 refine hK6 _ _ ?_
 refine wp_seq_k fun K13 hK13 => ?_
 refine wp_seq_k fun K21 hK21 => ?_
 have hJ1 : ∀ (p24 : Bool) (a : Act) (w : World), Sl 48 [(1, (int i64 p1_v)), (2, (int i64 p2_w)), (6, (fdp b5 0)), (8, (fdp b12 0)), (21, (Value.bool p24))] a → Mem Nob w0 w [(true, bx b5 26 [(int i64 0), (Value.slice none 0 0)]), (true, ow 3 (Value.slice none 0 0) (List.map (int i64) ([] : List (Int)))), (true, bx b12 26 [(int i64 r10.1), v11]), (true, ow 3 v11 (List.map (int i64) r10.2))] → S_spec_AddEdge_j1 F p1_v p2_w r10 p24 = some r → K21 a w := by
  intro p24 a w hS hM hF
  unfold S_spec_AddEdge_j1 at hF
  refine hK21 _ _ ?_
  rcases ite_some hF with ⟨hc, hF⟩ | ⟨hc, hF⟩
  ·refine cond_t hS rfl hc ?_
   refine wp_seq_k fun K25 hK25 => ?_
   refine wp_region_lit ?_
   refine st_val hS rfl rfl (by decide) (rv_load_agg (hS.ev rfl) ty_ag_26 (hM.get 2 rfl) ty_sz_26) fun a hS => ?_
   obtain ⟨w, hr, hM⟩ := hM.st_agg (us := [(int i64 r10.1), v11]) (ρ := a.eval) (dst := none) (ty := _) (pos := _) (af := _) (gd := _) (x := .tmp 6) (y := .tmp 22) (hS.ev rfl) (hS.ev rfl) ty_sz_26 (all1_cons rfl (all1_cons (rd_one (rd_of_ow (hM.get 3 rfl))) all1_nil)) rfl
   refine st_unit hS rfl rfl hr ?_
   refine st_val hS rfl rfl (by decide) (rv_assign (hS.ev rfl)) fun a hS => ?_
   refine wpList_nil ?_
   refine hK25 _ _ ?_
   refine wp_ret ?_
   cases hF
   exact hQr _ _ (r_cc hS rfl ⟨_, rfl, run_loadAgg ty_ag_26 (hM.get 0 rfl) ty_sz_26⟩ rfl ⟨v11, rfl, hM.pk [3] (by decide) (pc rfl pn)⟩)
  ·refine cond_f hS rfl hc ?_
   refine wp_skip ?_
   refine hK13 _ _ ?_
   refine wp_seq_k fun K26 hK26 => ?_
   have hM := hM.pk [3, 0, 1, 2] (by decide) (pc rfl (pc rfl (pc rfl (pc rfl pn))))
   refine an_startB 13 (feet [(true, ow 3 v11 (List.map (int i64) r10.2))]) ty_mixed (by kernel_rfl) fun w hf => ?_
   have hM := hM.fra hf
   have hB := hM
   have hM := hB.reg1 rfl
   refine tkB hS 0 1 (by kernel_rfl) rfl rfl rfl hQp rfl (fun w' hC' => (rv_fieldAddr ty_fd_26_1 (hS.ev rfl))) hM.fr fun a hS => ?_
   refine tkB hS 1 3 (by kernel_rfl) rfl rfl rfl hQp rfl (fun w' hC' => (rv_load_bx (hS.ev rfl) ty_ag_24 (hB.getF rfl 2 rfl hC') rfl)) hM.fr fun a hS => ?_
   refine tkB hS 2 7 (by kernel_rfl) rfl rfl rfl hQp rfl (fun w' hC' => (rv_move (hS.ev rfl))) hM.fr fun a hS => ?_
   refine tkB hS 3 15 (by kernel_rfl) rfl rfl rfl hQp rfl (fun w' hC' => (rv_fieldAddr ty_fd_26_1 (hS.ev rfl))) hM.fr fun a hS => ?_
   refine tkB hS 4 31 (by kernel_rfl) rfl rfl rfl hQp rfl (fun w' hC' => (rv_load_bx (hS.ev rfl) ty_ag_24 (hB.getF rfl 2 rfl hC') rfl)) hM.fr fun a hS => ?_
   refine tkB hS 5 63 (by kernel_rfl) rfl rfl rfl hQp rfl (fun w' hC' => (rv_move (hS.ev rfl))) hM.fr fun a hS => ?_
   obtain ⟨x29, hx, hF⟩ := bind_some hF
   obtain ⟨hi0, hi1, hex29⟩ := idxL_some hx
   refine tkB hS 6 127 (by kernel_rfl) rfl rfl rfl hQp rfl (fun w' hC' => (rv_indexAddr Tryd.underlying24 ty_el_3 (hS.ev rfl) (hS.ev rfl) (rd_of_ow (hM.get 0 rfl)) hi0 (map_len hi1))) hM.fr fun a hS => ?_
   refine tkB hS 8 383 (by kernel_rfl) rfl rfl rfl hQp rfl (fun w' hC' => (rv_move (hS.ev rfl))) hM.fr fun a hS => ?_
   obtain ⟨_, hx, hF⟩ := bind_some hF
   have hi0 := nnO_some hx
   refine tkB hS 9 895 (by kernel_rfl) rfl rfl rfl hQp rfl (fun w' hC' => (rv_shl (hS.ev rfl) (hS.ev rfl) hi0)) hM.fr fun a hS => ?_
   refine an_oneB hS (i := 7) 1023 (by kernel_rfl) rfl (by kernel_rfl) rfl ?_
   refine wp_val hS rfl (by decide) (rv_load_el (hS.ev rfl) ty_ag_3 (rd_of_ow (hM.get 0 rfl)) (mget hex29)) fun a hS => ⟨hM.fr, ?_⟩
   refine tkB hS 10 2047 (by kernel_rfl) rfl rfl rfl hQp rfl (fun w' hC' => (rv_add (hS.ev rfl) (hS.ev rfl))) hM.fr fun a hS => ?_
   obtain ⟨x30, hx, hF⟩ := bind_some hF
   obtain ⟨hi0, hi1, hex30⟩ := idxL_some hx
   refine tkB hS 11 4095 (by kernel_rfl) rfl rfl rfl hQp rfl (fun w' hC' => (rv_indexAddr Tryd.underlying24 ty_el_3 (hS.ev rfl) (hS.ev rfl) (rd_of_ow (hM.get 0 rfl)) hi0 (map_len hi1))) hM.fr fun a hS => ?_
   obtain ⟨w, hr, hM⟩ := hM.st_el (f := (int i64)) (n := p1_v.toNat) (c := (i64.wrap (x29 + (shL 1 p2_w)))) (ρ := a.eval) (dst := none) (ty := _) (pos := _) (af := _) (gd := _) (x := .tmp 34) (y := .tmp 33) i64_one (hS.ev rfl) (hS.ev rfl) ty_sz_3 (List.getElem?_eq_some_iff.1 hex30).1
   refine an_oneB hS (i := 12) 8191 (by kernel_rfl) rfl (by kernel_rfl) rfl ?_
   refine wp_unit hS rfl hr ⟨hM.fr, ?_⟩
   refine an_done (by kernel_rfl) ?_
   have hN := hM.pk [0] (by decide) (pc rfl pn)
   have hM := Mem.callo (A := [(true, ow 3 v11 (List.map (int i64) r10.2))]) (B := [(true, bx b5 26 [(int i64 0), (Value.slice none 0 0)]), (true, ow 3 (Value.slice none 0 0) (List.map (int i64) ([] : List (Int)))), (true, bx b12 26 [(int i64 r10.1), v11])]) hB rfl (hN.memS fun _ h => h) rfl
   refine hK26 _ _ ?_
   have hS : Sl 48 [(1, (int i64 p1_v)), (2, (int i64 p2_w)), (6, (fdp b5 0)), (8, (fdp b12 0))] a := hS.sub (sub_cons rfl (sub_cons rfl (sub_cons rfl (sub_cons rfl sub_nil))))
   refine wp_seq_k fun K31 hK31 => ?_
   refine an_startB 13 (feet [(true, ow 3 v11 (List.map (int i64) (r10.2.set (p1_v.toNat) (i64.wrap (x29 + (shL 1 p2_w))))))]) ty_mixed (by kernel_rfl) fun w hf => ?_
   have hM := hM.fra hf
   have hB := hM
   have hM := hB.reg1 rfl
   refine tkB hS 0 1 (by kernel_rfl) rfl rfl rfl hQp rfl (fun w' hC' => (rv_fieldAddr ty_fd_26_1 (hS.ev rfl))) hM.fr fun a hS => ?_
   refine tkB hS 1 3 (by kernel_rfl) rfl rfl rfl hQp rfl (fun w' hC' => (rv_load_bx (hS.ev rfl) ty_ag_24 (hB.getF rfl 2 rfl hC') rfl)) hM.fr fun a hS => ?_
   refine tkB hS 2 7 (by kernel_rfl) rfl rfl rfl hQp rfl (fun w' hC' => (rv_move (hS.ev rfl))) hM.fr fun a hS => ?_
   refine tkB hS 3 15 (by kernel_rfl) rfl rfl rfl hQp rfl (fun w' hC' => (rv_fieldAddr ty_fd_26_1 (hS.ev rfl))) hM.fr fun a hS => ?_
   refine tkB hS 4 31 (by kernel_rfl) rfl rfl rfl hQp rfl (fun w' hC' => (rv_load_bx (hS.ev rfl) ty_ag_24 (hB.getF rfl 2 rfl hC') rfl)) hM.fr fun a hS => ?_
   refine tkB hS 5 63 (by kernel_rfl) rfl rfl rfl hQp rfl (fun w' hC' => (rv_move (hS.ev rfl))) hM.fr fun a hS => ?_
   obtain ⟨x34, hx, hF⟩ := bind_some hF
   obtain ⟨hi0, hi1, hex34⟩ := idxL_some hx
   refine tkB hS 6 127 (by kernel_rfl) rfl rfl rfl hQp rfl (fun w' hC' => (rv_indexAddr Tryd.underlying24 ty_el_3 (hS.ev rfl) (hS.ev rfl) (rd_of_ow (hM.get 0 rfl)) hi0 (map_len hi1))) hM.fr fun a hS => ?_
   refine tkB hS 8 383 (by kernel_rfl) rfl rfl rfl hQp rfl (fun w' hC' => (rv_move (hS.ev rfl))) hM.fr fun a hS => ?_
   obtain ⟨_, hx, hF⟩ := bind_some hF
   have hi0 := nnO_some hx
   refine tkB hS 9 895 (by kernel_rfl) rfl rfl rfl hQp rfl (fun w' hC' => (rv_shl (hS.ev rfl) (hS.ev rfl) hi0)) hM.fr fun a hS => ?_
   refine an_oneB hS (i := 7) 1023 (by kernel_rfl) rfl (by kernel_rfl) rfl ?_
   refine wp_val hS rfl (by decide) (rv_load_el (hS.ev rfl) ty_ag_3 (rd_of_ow (hM.get 0 rfl)) (mget hex34)) fun a hS => ⟨hM.fr, ?_⟩
   refine tkB hS 10 2047 (by kernel_rfl) rfl rfl rfl hQp rfl (fun w' hC' => (rv_add (hS.ev rfl) (hS.ev rfl))) hM.fr fun a hS => ?_
   obtain ⟨x35, hx, hF⟩ := bind_some hF
   obtain ⟨hi0, hi1, hex35⟩ := idxL_some hx
   refine tkB hS 11 4095 (by kernel_rfl) rfl rfl rfl hQp rfl (fun w' hC' => (rv_indexAddr Tryd.underlying24 ty_el_3 (hS.ev rfl) (hS.ev rfl) (rd_of_ow (hM.get 0 rfl)) hi0 (map_len hi1))) hM.fr fun a hS => ?_
   obtain ⟨w, hr, hM⟩ := hM.st_el (f := (int i64)) (n := p2_w.toNat) (c := (i64.wrap (x34 + (shL 1 p1_v)))) (ρ := a.eval) (dst := none) (ty := _) (pos := _) (af := _) (gd := _) (x := .tmp 46) (y := .tmp 45) i64_one (hS.ev rfl) (hS.ev rfl) ty_sz_3 (List.getElem?_eq_some_iff.1 hex35).1
   refine an_oneB hS (i := 12) 8191 (by kernel_rfl) rfl (by kernel_rfl) rfl ?_
   refine wp_unit hS rfl hr ⟨hM.fr, ?_⟩
   refine an_done (by kernel_rfl) ?_
   have hN := hM.pk [0] (by decide) (pc rfl pn)
   have hM := Mem.callo (A := [(true, ow 3 v11 (List.map (int i64) (r10.2.set (p1_v.toNat) (i64.wrap (x29 + (shL 1 p2_w))))))]) (B := [(true, bx b5 26 [(int i64 0), (Value.slice none 0 0)]), (true, ow 3 (Value.slice none 0 0) (List.map (int i64) ([] : List (Int)))), (true, bx b12 26 [(int i64 r10.1), v11])]) hB rfl (hN.memS fun _ h => h) rfl
   refine hK31 _ _ ?_
   have hS : Sl 48 [(6, (fdp b5 0)), (8, (fdp b12 0))] a := hS.sub (sub_cons rfl (sub_cons rfl sub_nil))
   refine wp_seq_k fun K36 hK36 => ?_
   refine wp_region_lit ?_
   refine st_val hS rfl rfl (by decide) (rv_load_agg (hS.ev rfl) ty_ag_26 (hM.get 3 rfl) ty_sz_26) fun a hS => ?_
   have hM := hM.pk [1, 0, 2, 3] (by decide) (pc rfl (pc rfl (pc rfl (pc rfl pn))))
   obtain ⟨w, hr, hM⟩ := hM.st_agg (us := [(int i64 r10.1), v11]) (ρ := a.eval) (dst := none) (ty := _) (pos := _) (af := _) (gd := _) (x := .tmp 6) (y := .tmp 47) (hS.ev rfl) (hS.ev rfl) ty_sz_26 (all1_cons rfl (all1_cons (rd_one (rd_of_ow (hM.get 1 rfl))) all1_nil)) rfl
   refine st_unit hS rfl rfl hr ?_
   refine st_val hS rfl rfl (by decide) (rv_assign (hS.ev rfl)) fun a hS => ?_
   refine wpList_nil ?_
   refine hK36 _ _ ?_
   refine wp_ret ?_
   cases hF
   exact hQr _ _ (r_cc hS rfl ⟨_, rfl, run_loadAgg ty_ag_26 (hM.get 0 rfl) ty_sz_26⟩ rfl ⟨v11, rfl, hM.pk [1] (by decide) (pc rfl pn)⟩)
 refine wp_region_lit ?_
 refine st_val hS rfl rfl (by decide) (rv_load_agg (hS.ev rfl) ty_ag_26 (hM.get 5 rfl) ty_sz_26) fun a hS => ?_
 refine st_val hS rfl rfl (by decide) (rv_move (hS.ev rfl)) fun a hS => ?_
 refine st_val hS rfl rfl (by decide) (rv_move (hS.ev rfl)) fun a hS => ?_
 obtain ⟨r37, hr, hF⟩ := bind_some hF
 refine st_wp hS rfl (wp_call hS rfl rfl (by decide) fn_ok_86 rfl (c_spec_l2Pair F p0_g_Size p0_g_Rows p1_v p2_w p0_g_Rowsv hr _ (hM.get 6 rfl)) fun v w a hK hS => ?_)
 obtain ⟨rfl, hN⟩ := hK
 have hM := hM.fra hN.fr
 refine st_val hS rfl rfl (by decide) (rv_not (hS.ev rfl)) fun a hS => ?_
 refine st_val hS rfl rfl (by decide) (rv_move (hS.ev rfl)) fun a hS => ?_
 rcases ite_some hF with ⟨hc, hF⟩ | ⟨hc, hF⟩
 ·have hS := hS.setb (t := 16) rfl hc
  refine st_skip hS rfl rfl (by decide) fun a hS => ?_
  refine st_skip hS rfl rfl (by decide) fun a hS => ?_
  refine st_skip hS rfl rfl (by decide) fun a hS => ?_
  refine st_skip hS rfl rfl (by decide) fun a hS => ?_
  refine st_val hS rfl rfl (by decide) (rv_pick_t (hS.ev rfl) (hS.ev rfl)) fun a hS => ?_
  refine wpList_nil ?_
  exact hJ1 true _ _ (hS.sub (sub_cons rfl (sub_cons rfl (sub_cons rfl (sub_cons rfl (sub_cons rfl sub_nil)))))) (hM.pk [4, 3, 0, 2] (by decide) (pc rfl (pc rfl (pc rfl (pc rfl pn))))) hF
 ·have hS := hS.setb (t := 16) rfl hc
  refine st_val hS rfl rfl (by decide) (rv_load_agg (hS.ev rfl) ty_ag_26 (hM.get 5 rfl) ty_sz_26) fun a hS => ?_
  refine st_val hS rfl rfl (by decide) (rv_move (hS.ev rfl)) fun a hS => ?_
  refine st_val hS rfl rfl (by decide) (rv_move (hS.ev rfl)) fun a hS => ?_
  obtain ⟨r38, hr, hF⟩ := bind_some hF
  refine st_wp hS rfl (wp_call hS rfl rfl (by decide) fn_ok_69 rfl (c_spec_l2Edge F p0_g_Size p0_g_Rows p1_v p2_w p0_g_Rowsv hr _ (hM.get 6 rfl)) fun v w a hK hS => ?_)
  obtain ⟨rfl, hN⟩ := hK
  have hM := hM.fra hN.fr
  refine st_val hS rfl rfl (by decide) (rv_pick_f (hS.ev rfl) (hS.ev rfl)) fun a hS => ?_
  refine wpList_nil ?_
  exact hJ1 r38 _ _ (hS.sub (sub_cons rfl (sub_cons rfl (sub_cons rfl (sub_cons rfl (sub_cons rfl sub_nil)))))) (hM.pk [4, 3, 0, 2] (by decide) (pc rfl (pc rfl (pc rfl (pc rfl pn))))) hF


theorem c_spec_NamedGraph (F : Nat) (p0_name : List UInt8) (p1_n : Int) {r : Int × (List (Int)) × Bool} (hF : S_spec_NamedGraph F p0_name p1_n = some r) (w0 : World) :
    Calls Tryd.prog 52 [(Value.string (bs p0_name)), (int i64 p1_n)].toArray w0 (retPost fun v w' => ∃ v1992, v = (Value.tuple #[(Value.agg #[(int i64 r.1), v1992]), (Value.bool r.2.2)]) ∧ Mem Nob w0 w' [(true, ow 3 v1992 (List.map (int i64) r.2.1))]) := by
 have hM : Mem Nob w0 w0 [] := (Mem.nil w0)
 refine enter2 Tryd.func52 rfl rfl rfl fun Q a hQr hQn hQp hS => ?_
 have hS : Sl 118 [(0, (Value.string (bs p0_name))), (1, (int i64 p1_n))] a := hS
 unfold S_spec_NamedGraph at hF
 refine wp_seq_k fun K1 hK1 => ?_
 refine wp_region_lit ?_
 obtain ⟨b3, w, hr, hM⟩ := hM.allocE (ρ := a.eval) (dst := some 4) (ty := _) (pos := _) (af := _) (gd := _) (T := 26) (P := Tryd.prog) [(int i64 0), (Value.slice none 0 0)] ty_zr_26 rfl
 refine st_val hS rfl rfl (by decide) hr fun a hS => ?_
 have hM := hM.addNil 3
 refine st_val hS rfl rfl (by decide) (rv_assign (hS.ev rfl)) fun a hS => ?_
 refine wpList_nil ?_
 refine hK1 _ _ ?_
 refine wp_seq_k fun K4 hK4 => ?_
 refine wp_seq_k fun K9 hK9 => ?_
 refine wp_region_lit ?_
 refine st_val hS rfl rfl (by decide) (rv_move (hS.ev rfl)) fun a hS => ?_
 obtain ⟨r11, hr, hF⟩ := bind_some hF
 refine st_wp hS rfl (wp_call hS rfl rfl (by decide) fn_ok_75 rfl (c_spec_l1In F p1_n 1 7 hr _) fun v w a hK hS => ?_)
 obtain ⟨rfl, hN⟩ := hK
 have hM := hM.fra hN.fr
 refine st_val hS rfl rfl (by decide) (rv_not (hS.ev rfl)) fun a hS => ?_
 refine wpList_nil ?_
 refine hK9 _ _ ?_
 rcases ite_some hF with ⟨hc, hF⟩ | ⟨hc, hF⟩
 ·refine cond_t hS rfl hc ?_
  refine wp_seq_k fun K12 hK12 => ?_
  refine wp_region_lit ?_
  refine st_val hS rfl rfl (by decide) (rv_build hS ty_st_26 rfl (by simp) ones_nil) fun a hS => ?_
  have hM := hM.pk [1, 0] (by decide) (pc rfl (pc rfl pn))
  obtain ⟨w, hr, hM⟩ := hM.st_agg (us := [(int i64 0), (Value.slice none 0 0)]) (ρ := a.eval) (dst := none) (ty := _) (pos := _) (af := _) (gd := _) (x := .tmp 4) (y := .tmp 13) (hS.ev rfl) (hS.ev rfl) ty_sz_26 (all1_cons rfl (all1_cons rfl all1_nil)) rfl
  refine st_unit hS rfl rfl hr ?_
  have hM := hM.addNil 3
  refine st_val hS rfl rfl (by decide) (rv_assign (hS.ev rfl)) fun a hS => ?_
  refine wpList_nil ?_
  refine hK12 _ _ ?_
  refine wp_ret ?_
  cases hF
  exact hQr _ _ (r_cc hS rfl ⟨_, rfl, run_loadAgg ty_ag_26 (hM.get 1 rfl) ty_sz_26⟩ rfl ⟨(Value.slice none 0 0), rfl, hM.pk [0] (by decide) (pc rfl pn)⟩)
 ·refine cond_f hS rfl hc ?_
  refine wp_skip ?_
  refine hK4 _ _ ?_
  refine wp_seq_k fun K13 hK13 => ?_
  refine wp_region_lit ?_
  refine st_val hS rfl rfl (by decide) (rv_move (hS.ev rfl)) fun a hS => ?_
  refine st_val hS rfl rfl (by decide) (rv_move (hS.ev rfl)) fun a hS => ?_
  obtain ⟨_, hx, hF⟩ := bind_some hF
  obtain ⟨v16, w, hr, hM⟩ := hM.makeE (f := (int i64)) (c := (0 : Int)) (ρ := a.eval) (dst := some 16) (ty := _) (pos := _) (af := _) (gd := _) (x := .tmp 15) (y := .tmp 15) Tryd.underlying24 ty_el_3 i64_one (by decide) (hS.ev rfl) (hS.ev rfl) (mkO_some hx)
  refine st_val hS rfl rfl (by decide) hr fun a hS => ?_
  refine st_val hS rfl rfl (by decide) (rv_build hS ty_st_26 rfl (by simp) (ones_cons (by rw [hS.ev (v := (int i64 p1_n)) rfl]; rfl) (ones_cons (by rw [hS.ev (v := v16) rfl]; exact rd_one (rd_of_ow (hM.get 0 rfl))) ones_nil))) fun a hS => ?_
  obtain ⟨b17, w, hr, hM⟩ := hM.allocE (ρ := a.eval) (dst := some 6) (ty := _) (pos := _) (af := _) (gd := _) (T := 26) (P := Tryd.prog) [(int i64 0), (Value.slice none 0 0)] ty_zr_26 rfl
  refine st_val hS rfl rfl (by decide) hr fun a hS => ?_
  have hM := hM.addNil 3
  have hM := hM.pk [1, 0, 2, 3, 4] (by decide) (pc rfl (pc rfl (pc rfl (pc rfl (pc rfl pn)))))
  obtain ⟨w, hr, hM⟩ := hM.st_agg (us := [(int i64 p1_n), v16]) (ρ := a.eval) (dst := none) (ty := _) (pos := _) (af := _) (gd := _) (x := .tmp 6) (y := .tmp 17) (hS.ev rfl) (hS.ev rfl) ty_sz_26 (all1_cons rfl (all1_cons (rd_one (rd_of_ow (hM.get 2 rfl))) all1_nil)) rfl
  refine st_unit hS rfl rfl hr ?_
  refine wpList_nil ?_
  refine hK13 _ _ ?_
  have hS : Sl 118 [(0, (Value.string (bs p0_name))), (1, (int i64 p1_n)), (4, (fdp b3 0)), (6, (fdp b17 0))] a := hS.sub (sub_cons rfl (sub_cons rfl (sub_cons rfl (sub_cons rfl sub_nil))))
  have hM := hM.pk [0, 2, 3, 4] (by decide) (pc rfl (pc rfl (pc rfl (pc rfl pn))))
  refine wp_seq_k fun K18 hK18 => ?_
  have hJ1 : ∀ (x1000 : Int) (l1002 : List Int) (v1001 : Value) (a : Act) (w : World), Sl 118 [(0, (Value.string (bs p0_name))), (1, (int i64 p1_n)), (4, (fdp b3 0)), (6, (fdp b17 0))] a → Mem Nob w0 w [(true, bx b3 26 [(int i64 0), (Value.slice none 0 0)]), (true, ow 3 (Value.slice none 0 0) (List.map (int i64) ([] : List (Int)))), (true, bx b17 26 [(int i64 x1000), v1001]), (true, ow 3 v1001 (List.map (int i64) l1002))] → S_spec_NamedGraph_j1 F p0_name p1_n x1000 l1002 = some r → K18 a w := by
   intro x1000 l1002 v1001 a w hS hM hF
   unfold S_spec_NamedGraph_j1 at hF
   refine hK18 _ _ ?_
   refine wp_seq_k fun K1003 hK1003 => ?_
   refine wp_seq_k fun K1007 hK1007 => ?_
   have hJ2 : ∀ (p1008 : Bool) (a : Act) (w : World), Sl 118 [(4, (fdp b3 0)), (6, (fdp b17 0)), (115, (Value.bool p1008))] a → Mem Nob w0 w [(true, bx b3 26 [(int i64 0), (Value.slice none 0 0)]), (true, ow 3 (Value.slice none 0 0) (List.map (int i64) ([] : List (Int)))), (true, bx b17 26 [(int i64 x1000), v1001]), (true, ow 3 v1001 (List.map (int i64) l1002))] → S_spec_NamedGraph_j2 F x1000 l1002 p1008 = some r → K1007 a w := by
    intro p1008 a w hS hM hF
    unfold S_spec_NamedGraph_j2 at hF
    refine hK1007 _ _ ?_
    rcases ite_some hF with ⟨hc, hF⟩ | ⟨hc, hF⟩
    ·refine cond_t hS rfl hc ?_
     refine wp_seq_k fun K1009 hK1009 => ?_
     refine wp_region_lit ?_
     refine st_val hS rfl rfl (by decide) (rv_build hS ty_st_26 rfl (by simp) ones_nil) fun a hS => ?_
     obtain ⟨w, hr, hM⟩ := hM.st_agg (us := [(int i64 0), (Value.slice none 0 0)]) (ρ := a.eval) (dst := none) (ty := _) (pos := _) (af := _) (gd := _) (x := .tmp 4) (y := .tmp 116) (hS.ev rfl) (hS.ev rfl) ty_sz_26 (all1_cons rfl (all1_cons rfl all1_nil)) rfl
     refine st_unit hS rfl rfl hr ?_
     have hM := hM.addNil 3
     refine st_val hS rfl rfl (by decide) (rv_assign (hS.ev rfl)) fun a hS => ?_
     refine wpList_nil ?_
     refine hK1009 _ _ ?_
     have hS : Sl 118 [(4, (fdp b3 0)), (5, (Value.bool false))] a := hS.sub (sub_cons rfl (sub_cons rfl sub_nil))
     have hM := hM.pk [0, 1] (by decide) (pc rfl (pc rfl pn))
     refine wp_ret ?_
     cases hF
     exact hQr _ _ (r_cc hS rfl ⟨_, rfl, run_loadAgg ty_ag_26 (hM.get 1 rfl) ty_sz_26⟩ rfl ⟨(Value.slice none 0 0), rfl, hM.pk [0] (by decide) (pc rfl pn)⟩)
    ·refine cond_f hS rfl hc ?_
     refine wp_skip ?_
     refine hK1003 _ _ ?_
     refine wp_seq_k fun K1010 hK1010 => ?_
     refine wp_region_lit ?_
     refine st_val hS rfl rfl (by decide) (rv_load_agg (hS.ev rfl) ty_ag_26 (hM.get 2 rfl) ty_sz_26) fun a hS => ?_
     obtain ⟨w, hr, hM⟩ := hM.st_agg (us := [(int i64 x1000), v1001]) (ρ := a.eval) (dst := none) (ty := _) (pos := _) (af := _) (gd := _) (x := .tmp 4) (y := .tmp 117) (hS.ev rfl) (hS.ev rfl) ty_sz_26 (all1_cons rfl (all1_cons (rd_one (rd_of_ow (hM.get 3 rfl))) all1_nil)) rfl
     refine st_unit hS rfl rfl hr ?_
     refine st_val hS rfl rfl (by decide) (rv_assign (hS.ev rfl)) fun a hS => ?_
     refine wpList_nil ?_
     refine hK1010 _ _ ?_
     refine wp_ret ?_
     cases hF
     exact hQr _ _ (r_cc hS rfl ⟨_, rfl, run_loadAgg ty_ag_26 (hM.get 0 rfl) ty_sz_26⟩ rfl ⟨v1001, rfl, hM.pk [3] (by decide) (pc rfl pn)⟩)
   refine wp_region_lit ?_
   refine st_val hS rfl rfl (by decide) (rv_move (hS.ev rfl)) fun a hS => ?_
   refine st_val hS rfl rfl (by decide) (rv_eql (hS.ev rfl) (hS.ev rfl)) fun a hS => ?_
   refine st_val hS rfl rfl (by decide) (rv_move (hS.ev rfl)) fun a hS => ?_
   rcases ite_some hF with ⟨hc, hF⟩ | ⟨hc, hF⟩
   ·have hS := hS.setb (t := 92) rfl hc
    refine st_val hS rfl rfl (by decide) (rv_move (hS.ev rfl)) fun a hS => ?_
    refine st_val hS rfl rfl (by decide) (rv_str_neq (hS.ev rfl) (hS.ev rfl)) fun a hS => ?_
    refine st_val hS rfl rfl (by decide) (rv_pick_t (hS.ev rfl) (hS.ev rfl)) fun a hS => ?_
    refine st_val hS rfl rfl (by decide) (rv_move (hS.ev rfl)) fun a hS => ?_
    rcases ite_some hF with ⟨hc, hF⟩ | ⟨hc, hF⟩
    ·have hS := hS.setb (t := 96) rfl hc
     refine st_val hS rfl rfl (by decide) (rv_move (hS.ev rfl)) fun a hS => ?_
     refine st_val hS rfl rfl (by decide) (rv_str_neq (hS.ev rfl) (hS.ev rfl)) fun a hS => ?_
     refine st_val hS rfl rfl (by decide) (rv_pick_t (hS.ev rfl) (hS.ev rfl)) fun a hS => ?_
     refine st_val hS rfl rfl (by decide) (rv_move (hS.ev rfl)) fun a hS => ?_
     rcases ite_some hF with ⟨hc, hF⟩ | ⟨hc, hF⟩
     ·have hS := hS.setb (t := 100) rfl hc
      refine st_val hS rfl rfl (by decide) (rv_move (hS.ev rfl)) fun a hS => ?_
      refine st_val hS rfl rfl (by decide) (rv_str_neq (hS.ev rfl) (hS.ev rfl)) fun a hS => ?_
      refine st_val hS rfl rfl (by decide) (rv_pick_t (hS.ev rfl) (hS.ev rfl)) fun a hS => ?_
      refine st_val hS rfl rfl (by decide) (rv_move (hS.ev rfl)) fun a hS => ?_
      rcases ite_some hF with ⟨hc, hF⟩ | ⟨hc, hF⟩
      ·have hS := hS.setb (t := 104) rfl hc
       refine st_val hS rfl rfl (by decide) (rv_move (hS.ev rfl)) fun a hS => ?_
       refine st_val hS rfl rfl (by decide) (rv_str_neq (hS.ev rfl) (hS.ev rfl)) fun a hS => ?_
       refine st_val hS rfl rfl (by decide) (rv_pick_t (hS.ev rfl) (hS.ev rfl)) fun a hS => ?_
       refine st_val hS rfl rfl (by decide) (rv_move (hS.ev rfl)) fun a hS => ?_
       rcases ite_some hF with ⟨hc, hF⟩ | ⟨hc, hF⟩
       ·have hS := hS.setb (t := 108) rfl hc
        refine st_val hS rfl rfl (by decide) (rv_move (hS.ev rfl)) fun a hS => ?_
        refine st_val hS rfl rfl (by decide) (rv_str_neq (hS.ev rfl) (hS.ev rfl)) fun a hS => ?_
        refine st_val hS rfl rfl (by decide) (rv_pick_t (hS.ev rfl) (hS.ev rfl)) fun a hS => ?_
        refine st_val hS rfl rfl (by decide) (rv_move (hS.ev rfl)) fun a hS => ?_
        rcases ite_some hF with ⟨hc, hF⟩ | ⟨hc, hF⟩
        ·have hS := hS.setb (t := 112) rfl hc
         refine st_val hS rfl rfl (by decide) (rv_move (hS.ev rfl)) fun a hS => ?_
         refine st_val hS rfl rfl (by decide) (rv_str_neq (hS.ev rfl) (hS.ev rfl)) fun a hS => ?_
         refine st_val hS rfl rfl (by decide) (rv_pick_t (hS.ev rfl) (hS.ev rfl)) fun a hS => ?_
         refine wpList_nil ?_
         exact hJ2 (p0_name != ([101, 109, 112, 116, 121] : List UInt8)) _ _ (hS.sub (sub_cons rfl (sub_cons rfl (sub_cons rfl sub_nil)))) (hM.pk [0, 1, 2, 3] (by decide) (pc rfl (pc rfl (pc rfl (pc rfl pn))))) hF
        ·have hS := hS.setb (t := 112) rfl hc
         refine st_skip hS rfl rfl (by decide) fun a hS => ?_
         refine st_skip hS rfl rfl (by decide) fun a hS => ?_
         refine st_val hS rfl rfl (by decide) (rv_pick_f (hS.ev rfl) (hS.ev rfl)) fun a hS => ?_
         refine wpList_nil ?_
         exact hJ2 false _ _ (hS.sub (sub_cons rfl (sub_cons rfl (sub_cons rfl sub_nil)))) (hM.pk [0, 1, 2, 3] (by decide) (pc rfl (pc rfl (pc rfl (pc rfl pn))))) hF
       ·have hS := hS.setb (t := 108) rfl hc
        refine st_skip hS rfl rfl (by decide) fun a hS => ?_
        refine st_skip hS rfl rfl (by decide) fun a hS => ?_
        refine st_val hS rfl rfl (by decide) (rv_pick_f (hS.ev rfl) (hS.ev rfl)) fun a hS => ?_
        refine st_val hS rfl rfl (by decide) (rv_move (hS.ev rfl)) fun a hS => ?_
        refine st_skip hS rfl rfl (by decide) fun a hS => ?_
        refine st_skip hS rfl rfl (by decide) fun a hS => ?_
        refine st_val hS rfl rfl (by decide) (rv_pick_f (hS.ev rfl) (hS.ev rfl)) fun a hS => ?_
        refine wpList_nil ?_
        exact hJ2 false _ _ (hS.sub (sub_cons rfl (sub_cons rfl (sub_cons rfl sub_nil)))) (hM.pk [0, 1, 2, 3] (by decide) (pc rfl (pc rfl (pc rfl (pc rfl pn))))) hF
      ·have hS := hS.setb (t := 104) rfl hc
       refine st_skip hS rfl rfl (by decide) fun a hS => ?_
       refine st_skip hS rfl rfl (by decide) fun a hS => ?_
       refine st_val hS rfl rfl (by decide) (rv_pick_f (hS.ev rfl) (hS.ev rfl)) fun a hS => ?_
       refine st_val hS rfl rfl (by decide) (rv_move (hS.ev rfl)) fun a hS => ?_
       refine st_skip hS rfl rfl (by decide) fun a hS => ?_
       refine st_skip hS rfl rfl (by decide) fun a hS => ?_
       refine st_val hS rfl rfl (by decide) (rv_pick_f (hS.ev rfl) (hS.ev rfl)) fun a hS => ?_
       refine st_val hS rfl rfl (by decide) (rv_move (hS.ev rfl)) fun a hS => ?_
       refine st_skip hS rfl rfl (by decide) fun a hS => ?_
       refine st_skip hS rfl rfl (by decide) fun a hS => ?_
       refine st_val hS rfl rfl (by decide) (rv_pick_f (hS.ev rfl) (hS.ev rfl)) fun a hS => ?_
       refine wpList_nil ?_
       exact hJ2 false _ _ (hS.sub (sub_cons rfl (sub_cons rfl (sub_cons rfl sub_nil)))) (hM.pk [0, 1, 2, 3] (by decide) (pc rfl (pc rfl (pc rfl (pc rfl pn))))) hF
     ·have hS := hS.setb (t := 100) rfl hc
      refine st_skip hS rfl rfl (by decide) fun a hS => ?_
      refine st_skip hS rfl rfl (by decide) fun a hS => ?_
      refine st_val hS rfl rfl (by decide) (rv_pick_f (hS.ev rfl) (hS.ev rfl)) fun a hS => ?_
      refine st_val hS rfl rfl (by decide) (rv_move (hS.ev rfl)) fun a hS => ?_
      refine st_skip hS rfl rfl (by decide) fun a hS => ?_
      refine st_skip hS rfl rfl (by decide) fun a hS => ?_
      refine st_val hS rfl rfl (by decide) (rv_pick_f (hS.ev rfl) (hS.ev rfl)) fun a hS => ?_
      refine st_val hS rfl rfl (by decide) (rv_move (hS.ev rfl)) fun a hS => ?_
      refine st_skip hS rfl rfl (by decide) fun a hS => ?_
      refine st_skip hS rfl rfl (by decide) fun a hS => ?_
      refine st_val hS rfl rfl (by decide) (rv_pick_f (hS.ev rfl) (hS.ev rfl)) fun a hS => ?_
      refine st_val hS rfl rfl (by decide) (rv_move (hS.ev rfl)) fun a hS => ?_
      refine st_skip hS rfl rfl (by decide) fun a hS => ?_
      refine st_skip hS rfl rfl (by decide) fun a hS => ?_
      refine st_val hS rfl rfl (by decide) (rv_pick_f (hS.ev rfl) (hS.ev rfl)) fun a hS => ?_
      refine wpList_nil ?_
      exact hJ2 false _ _ (hS.sub (sub_cons rfl (sub_cons rfl (sub_cons rfl sub_nil)))) (hM.pk [0, 1, 2, 3] (by decide) (pc rfl (pc rfl (pc rfl (pc rfl pn))))) hF
    ·have hS := hS.setb (t := 96) rfl hc
     refine st_skip hS rfl rfl (by decide) fun a hS => ?_
     refine st_skip hS rfl rfl (by decide) fun a hS => ?_
     refine st_val hS rfl rfl (by decide) (rv_pick_f (hS.ev rfl) (hS.ev rfl)) fun a hS => ?_
     refine st_val hS rfl rfl (by decide) (rv_move (hS.ev rfl)) fun a hS => ?_
     refine st_skip hS rfl rfl (by decide) fun a hS => ?_
     refine st_skip hS rfl rfl (by decide) fun a hS => ?_
     refine st_val hS rfl rfl (by decide) (rv_pick_f (hS.ev rfl) (hS.ev rfl)) fun a hS => ?_
     refine st_val hS rfl rfl (by decide) (rv_move (hS.ev rfl)) fun a hS => ?_
     refine st_skip hS rfl rfl (by decide) fun a hS => ?_
     refine st_skip hS rfl rfl (by decide) fun a hS => ?_
     refine st_val hS rfl rfl (by decide) (rv_pick_f (hS.ev rfl) (hS.ev rfl)) fun a hS => ?_
     refine st_val hS rfl rfl (by decide) (rv_move (hS.ev rfl)) fun a hS => ?_
     refine st_skip hS rfl rfl (by decide) fun a hS => ?_
     refine st_skip hS rfl rfl (by decide) fun a hS => ?_
     refine st_val hS rfl rfl (by decide) (rv_pick_f (hS.ev rfl) (hS.ev rfl)) fun a hS => ?_
     refine st_val hS rfl rfl (by decide) (rv_move (hS.ev rfl)) fun a hS => ?_
     refine st_skip hS rfl rfl (by decide) fun a hS => ?_
     refine st_skip hS rfl rfl (by decide) fun a hS => ?_
     refine st_val hS rfl rfl (by decide) (rv_pick_f (hS.ev rfl) (hS.ev rfl)) fun a hS => ?_
     refine wpList_nil ?_
     exact hJ2 false _ _ (hS.sub (sub_cons rfl (sub_cons rfl (sub_cons rfl sub_nil)))) (hM.pk [0, 1, 2, 3] (by decide) (pc rfl (pc rfl (pc rfl (pc rfl pn))))) hF
   ·have hS := hS.setb (t := 92) rfl hc
    refine st_skip hS rfl rfl (by decide) fun a hS => ?_
    refine st_skip hS rfl rfl (by decide) fun a hS => ?_
    refine st_val hS rfl rfl (by decide) (rv_pick_f (hS.ev rfl) (hS.ev rfl)) fun a hS => ?_
    refine st_val hS rfl rfl (by decide) (rv_move (hS.ev rfl)) fun a hS => ?_
    refine st_skip hS rfl rfl (by decide) fun a hS => ?_
    refine st_skip hS rfl rfl (by decide) fun a hS => ?_
    refine st_val hS rfl rfl (by decide) (rv_pick_f (hS.ev rfl) (hS.ev rfl)) fun a hS => ?_
    refine st_val hS rfl rfl (by decide) (rv_move (hS.ev rfl)) fun a hS => ?_
    refine st_skip hS rfl rfl (by decide) fun a hS => ?_
    refine st_skip hS rfl rfl (by decide) fun a hS => ?_
    refine st_val hS rfl rfl (by decide) (rv_pick_f (hS.ev rfl) (hS.ev rfl)) fun a hS => ?_
    refine st_val hS rfl rfl (by decide) (rv_move (hS.ev rfl)) fun a hS => ?_
    refine st_skip hS rfl rfl (by decide) fun a hS => ?_
    refine st_skip hS rfl rfl (by decide) fun a hS => ?_
    refine st_val hS rfl rfl (by decide) (rv_pick_f (hS.ev rfl) (hS.ev rfl)) fun a hS => ?_
    refine st_val hS rfl rfl (by decide) (rv_move (hS.ev rfl)) fun a hS => ?_
    refine st_skip hS rfl rfl (by decide) fun a hS => ?_
    refine st_skip hS rfl rfl (by decide) fun a hS => ?_
    refine st_val hS rfl rfl (by decide) (rv_pick_f (hS.ev rfl) (hS.ev rfl)) fun a hS => ?_
    refine st_val hS rfl rfl (by decide) (rv_move (hS.ev rfl)) fun a hS => ?_
    refine st_skip hS rfl rfl (by decide) fun a hS => ?_
    refine st_skip hS rfl rfl (by decide) fun a hS => ?_
    refine st_val hS rfl rfl (by decide) (rv_pick_f (hS.ev rfl) (hS.ev rfl)) fun a hS => ?_
    refine wpList_nil ?_
    exact hJ2 false _ _ (hS.sub (sub_cons rfl (sub_cons rfl (sub_cons rfl sub_nil)))) (hM.pk [0, 1, 2, 3] (by decide) (pc rfl (pc rfl (pc rfl (pc rfl pn))))) hF
  refine wp_seq_k fun K1011 hK1011 => ?_
  refine wp_region_lit ?_
  refine st_val hS rfl rfl (by decide) (rv_assign (hS.ev rfl)) fun a hS => ?_
  refine wpList_nil ?_
  refine hK1011 _ _ ?_
  refine wp_block ?_
  obtain ⟨lb3, hl3, hF3⟩ := bind_some hF
  refine wp_loop_sh (fun s => S_spec_NamedGraph_l3 F p0_name p1_n s.1 s.2.1 s.2.2) (fun s a w => ∃ (v1339 : Value), Sl 118 [(0, (Value.string (bs p0_name))), (1, (int i64 p1_n)), (4, (fdp b3 0)), (6, (fdp b17 0)), (7, (int i64 s.2.2))] a ∧ Mem Nob w0 w [(true, bx b3 26 [(int i64 0), (Value.slice none 0 0)]), (true, ow 3 (Value.slice none 0 0) (List.map (int i64) ([] : List (Int)))), (true, bx b17 26 [(int i64 s.1), v1339]), (true, ow 3 v1339 (List.map (int i64) s.2.1))]) hl3 ⟨v16, (hS.sub (sub_cons rfl (sub_cons rfl (sub_cons rfl (sub_cons rfl (sub_cons rfl sub_nil)))))), (hM.pk [3, 2, 0, 1] (by decide) (pc rfl (pc rfl (pc rfl (pc rfl pn)))))⟩ ?_
  rintro K3 ⟨x1338, l1340, x1341⟩ a w res3 ⟨v1339, hS, hM⟩ hF hN3 hX3
  have hF : S_spec_NamedGraph_l3 F p0_name p1_n x1338 l1340 x1341 = some res3 := hF
  have hS : Sl 118 [(0, (Value.string (bs p0_name))), (1, (int i64 p1_n)), (4, (fdp b3 0)), (6, (fdp b17 0)), (7, (int i64 x1341))] a := hS
  have hM : Mem Nob w0 w [(true, bx b3 26 [(int i64 0), (Value.slice none 0 0)]), (true, ow 3 (Value.slice none 0 0) (List.map (int i64) ([] : List (Int)))), (true, bx b17 26 [(int i64 x1338), v1339]), (true, ow 3 v1339 (List.map (int i64) l1340))] := hM
  unfold S_spec_NamedGraph_l3 at hF
  refine wp_seq_k fun K1667 hK1667 => ?_
  refine wp_seq_k fun K1669 hK1669 => ?_
  refine wp_region_lit ?_
  refine st_val hS rfl rfl (by decide) (rv_move (hS.ev rfl)) fun a hS => ?_
  refine st_val hS rfl rfl (by decide) (rv_move (hS.ev rfl)) fun a hS => ?_
  refine st_val hS rfl rfl (by decide) (rv_lss (hS.ev rfl) (hS.ev rfl)) fun a hS => ?_
  refine wpList_nil ?_
  refine hK1669 _ _ ?_
  rcases ite_some hF with ⟨hc, hF⟩ | ⟨hc, hF⟩
  ·refine cond_t hS rfl hc ?_
   refine wp_skip ?_
   refine hK1667 _ _ ?_
   refine wp_seq_k fun K1670 hK1670 => ?_
   have hJ4 : ∀ (x1830 : Int) (l1832 : List Int) (v1831 : Value) (a : Act) (w : World), Sl 118 [(0, (Value.string (bs p0_name))), (1, (int i64 p1_n)), (4, (fdp b3 0)), (6, (fdp b17 0)), (7, (int i64 x1341))] a → Mem Nob w0 w [(true, bx b3 26 [(int i64 0), (Value.slice none 0 0)]), (true, ow 3 (Value.slice none 0 0) (List.map (int i64) ([] : List (Int)))), (true, bx b17 26 [(int i64 x1830), v1831]), (true, ow 3 v1831 (List.map (int i64) l1832))] → S_spec_NamedGraph_j4 F x1341 x1830 l1832 = some res3 → K1670 a w := by
    intro x1830 l1832 v1831 a w hS hM hF
    unfold S_spec_NamedGraph_j4 at hF
    refine hK1670 _ _ ?_
    refine wp_region_lit ?_
    refine st_val hS rfl rfl (by decide) (rv_move (hS.ev rfl)) fun a hS => ?_
    refine st_val hS rfl rfl (by decide) (rv_add (hS.ev rfl) (hS.ev rfl)) fun a hS => ?_
    refine st_val hS rfl rfl (by decide) (rv_assign (hS.ev rfl)) fun a hS => ?_
    refine wpList_nil ?_
    cases hF
    exact hN3 _ _ _ rfl ⟨v1831, (hS.sub (sub_cons rfl (sub_cons rfl (sub_cons rfl (sub_cons rfl (sub_cons rfl sub_nil)))))), (hM.pk [0, 1, 2, 3] (by decide) (pc rfl (pc rfl (pc rfl (pc rfl pn)))))⟩
   refine wp_block ?_
   refine wp_seq_k fun K1833 hK1833 => ?_
   refine wp_region_lit ?_
   refine st_val hS rfl rfl (by decide) (rv_move (hS.ev rfl)) fun a hS => ?_
   refine st_val hS rfl rfl (by decide) (rv_add (hS.ev rfl) (hS.ev rfl)) fun a hS => ?_
   refine st_val hS rfl rfl (by decide) (rv_assign (hS.ev rfl)) fun a hS => ?_
   refine wpList_nil ?_
   refine hK1833 _ _ ?_
   refine wp_block ?_
   obtain ⟨lb5, hl5, hF5⟩ := bind_some hF
   refine wp_loop_sh (fun s => S_spec_NamedGraph_l5 F p0_name p1_n x1341 s.1 s.2.1 s.2.2) (fun s a w => ∃ (v1887 : Value), Sl 118 [(0, (Value.string (bs p0_name))), (1, (int i64 p1_n)), (4, (fdp b3 0)), (6, (fdp b17 0)), (7, (int i64 x1341)), (8, (int i64 s.2.2))] a ∧ Mem Nob w0 w [(true, bx b3 26 [(int i64 0), (Value.slice none 0 0)]), (true, ow 3 (Value.slice none 0 0) (List.map (int i64) ([] : List (Int)))), (true, bx b17 26 [(int i64 s.1), v1887]), (true, ow 3 v1887 (List.map (int i64) s.2.1))]) hl5 ⟨v1339, (hS.sub (sub_cons rfl (sub_cons rfl (sub_cons rfl (sub_cons rfl (sub_cons rfl (sub_cons rfl sub_nil))))))), (hM.pk [0, 1, 2, 3] (by decide) (pc rfl (pc rfl (pc rfl (pc rfl pn)))))⟩ ?_
   rintro K5 ⟨x1886, l1888, x1889⟩ a w res5 ⟨v1887, hS, hM⟩ hF hN5 hX5
   have hF : S_spec_NamedGraph_l5 F p0_name p1_n x1341 x1886 l1888 x1889 = some res5 := hF
   have hS : Sl 118 [(0, (Value.string (bs p0_name))), (1, (int i64 p1_n)), (4, (fdp b3 0)), (6, (fdp b17 0)), (7, (int i64 x1341)), (8, (int i64 x1889))] a := hS
   have hM : Mem Nob w0 w [(true, bx b3 26 [(int i64 0), (Value.slice none 0 0)]), (true, ow 3 (Value.slice none 0 0) (List.map (int i64) ([] : List (Int)))), (true, bx b17 26 [(int i64 x1886), v1887]), (true, ow 3 v1887 (List.map (int i64) l1888))] := hM
   unfold S_spec_NamedGraph_l5 at hF
   refine wp_seq_k fun K1941 hK1941 => ?_
   refine wp_seq_k fun K1943 hK1943 => ?_
   refine wp_region_lit ?_
   refine st_val hS rfl rfl (by decide) (rv_move (hS.ev rfl)) fun a hS => ?_
   refine st_val hS rfl rfl (by decide) (rv_move (hS.ev rfl)) fun a hS => ?_
   refine st_val hS rfl rfl (by decide) (rv_lss (hS.ev rfl) (hS.ev rfl)) fun a hS => ?_
   refine wpList_nil ?_
   refine hK1943 _ _ ?_
   rcases ite_some hF with ⟨hc, hF⟩ | ⟨hc, hF⟩
   ·refine cond_t hS rfl hc ?_
    refine wp_skip ?_
    refine hK1941 _ _ ?_
    refine wp_seq_k fun K1944 hK1944 => ?_
    have hJ6 : ∀ (x1967 : Int) (l1969 : List Int) (v1968 : Value) (a : Act) (w : World), Sl 118 [(0, (Value.string (bs p0_name))), (1, (int i64 p1_n)), (4, (fdp b3 0)), (6, (fdp b17 0)), (7, (int i64 x1341)), (8, (int i64 x1889))] a → Mem Nob w0 w [(true, bx b3 26 [(int i64 0), (Value.slice none 0 0)]), (true, ow 3 (Value.slice none 0 0) (List.map (int i64) ([] : List (Int)))), (true, bx b17 26 [(int i64 x1967), v1968]), (true, ow 3 v1968 (List.map (int i64) l1969))] → S_spec_NamedGraph_j6 F x1889 x1967 l1969 = some res5 → K1944 a w := by
     intro x1967 l1969 v1968 a w hS hM hF
     unfold S_spec_NamedGraph_j6 at hF
     refine hK1944 _ _ ?_
     refine wp_region_lit ?_
     refine st_val hS rfl rfl (by decide) (rv_move (hS.ev rfl)) fun a hS => ?_
     refine st_val hS rfl rfl (by decide) (rv_add (hS.ev rfl) (hS.ev rfl)) fun a hS => ?_
     refine st_val hS rfl rfl (by decide) (rv_assign (hS.ev rfl)) fun a hS => ?_
     refine wpList_nil ?_
     cases hF
     exact hN5 _ _ _ rfl ⟨v1968, (hS.sub (sub_cons rfl (sub_cons rfl (sub_cons rfl (sub_cons rfl (sub_cons rfl (sub_cons rfl sub_nil))))))), (hM.pk [0, 1, 2, 3] (by decide) (pc rfl (pc rfl (pc rfl (pc rfl pn)))))⟩
    refine wp_block ?_
    refine wp_seq_k fun K1970 hK1970 => ?_
    refine wp_region_lit ?_
    refine st_val hS rfl rfl (by decide) (rv_assign (hS.ev rfl)) fun a hS => ?_
    refine wpList_nil ?_
    refine hK1970 _ _ ?_
    refine wp_seq_k fun K1971 hK1971 => ?_
    have hJ7 : ∀ (p1980 : Bool) (a : Act) (w : World), Sl 118 [(0, (Value.string (bs p0_name))), (1, (int i64 p1_n)), (4, (fdp b3 0)), (6, (fdp b17 0)), (7, (int i64 x1341)), (8, (int i64 x1889)), (9, (Value.bool p1980))] a → Mem Nob w0 w [(true, bx b3 26 [(int i64 0), (Value.slice none 0 0)]), (true, ow 3 (Value.slice none 0 0) (List.map (int i64) ([] : List (Int)))), (true, bx b17 26 [(int i64 x1886), v1887]), (true, ow 3 v1887 (List.map (int i64) l1888))] → S_spec_NamedGraph_j7 F x1341 x1886 l1888 x1889 p1980 = some res5 → K1971 a w := by
     intro p1980 a w hS hM hF
     unfold S_spec_NamedGraph_j7 at hF
     refine hK1971 _ _ ?_
     refine wp_seq_k fun K1981 hK1981 => ?_
     refine wp_region_lit ?_
     refine st_val hS rfl rfl (by decide) (rv_move (hS.ev rfl)) fun a hS => ?_
     refine wpList_nil ?_
     refine hK1981 _ _ ?_
     rcases ite_some hF with ⟨hc, hF⟩ | ⟨hc, hF⟩
     ·refine cond_t hS rfl hc ?_
      refine wp_region_lit ?_
      refine st_val hS rfl rfl (by decide) (rv_load_agg (hS.ev rfl) ty_ag_26 (hM.get 2 rfl) ty_sz_26) fun a hS => ?_
      refine st_val hS rfl rfl (by decide) (rv_move (hS.ev rfl)) fun a hS => ?_
      refine st_val hS rfl rfl (by decide) (rv_move (hS.ev rfl)) fun a hS => ?_
      obtain ⟨r1982, hr, hF⟩ := bind_some hF
      refine st_wp hS rfl (wp_call hS rfl rfl (by decide) fn_ok_44 rfl (c_spec_AddEdge F x1886 l1888 x1341 x1889 v1887 hr _ (rd_of_ow (hM.get 3 rfl))) fun v w a hK hS => ?_)
      obtain ⟨v1983, rfl, hN⟩ := hK
      have hM := hM.add hN rfl
      refine st_val hS rfl rfl (by decide) (rv_move (hS.ev rfl)) fun a hS => ?_
      refine st_val hS rfl rfl (by decide) (rv_extract (hS.ev rfl) rfl) fun a hS => ?_
      refine st_val hS rfl rfl (by decide) (rv_extract (hS.ev rfl) rfl) fun a hS => ?_
      have hM := hM.pk [3, 0, 1, 2, 4] (by decide) (pc rfl (pc rfl (pc rfl (pc rfl (pc rfl pn)))))
      obtain ⟨w, hr, hM⟩ := hM.st_agg (us := [(int i64 r1982.1), v1983]) (ρ := a.eval) (dst := none) (ty := _) (pos := _) (af := _) (gd := _) (x := .tmp 6) (y := .tmp 88) (hS.ev rfl) (hS.ev rfl) ty_sz_26 (all1_cons rfl (all1_cons (rd_one (rd_of_ow (hM.get 1 rfl))) all1_nil)) rfl
      refine st_unit hS rfl rfl hr ?_
      refine wpList_nil ?_
      exact hJ6 r1982.1 r1982.2.1 v1983 _ _ (hS.sub (sub_cons rfl (sub_cons rfl (sub_cons rfl (sub_cons rfl (sub_cons rfl (sub_cons rfl sub_nil))))))) (hM.pk [2, 3, 0, 1] (by decide) (pc rfl (pc rfl (pc rfl (pc rfl pn))))) hF
     ·refine cond_f hS rfl hc ?_
      refine wp_skip ?_
      exact hJ6 x1886 l1888 v1887 _ _ (hS.sub (sub_cons rfl (sub_cons rfl (sub_cons rfl (sub_cons rfl (sub_cons rfl (sub_cons rfl sub_nil))))))) (hM.pk [0, 1, 2, 3] (by decide) (pc rfl (pc rfl (pc rfl (pc rfl pn))))) hF
    refine wp_seq_k fun K1984 hK1984 => ?_
    refine wp_region_lit ?_
    refine st_val hS rfl rfl (by decide) (rv_move (hS.ev rfl)) fun a hS => ?_
    refine wpList_nil ?_
    refine hK1984 _ _ ?_
    refine wp_block ?_
    refine wp_seq_k fun K1985 hK1985 => ?_
    refine wp_region_lit ?_
    refine st_val hS rfl rfl (by decide) (rv_str_eql (hS.ev rfl) (hS.ev rfl)) fun a hS => ?_
    refine st_val hS rfl rfl (by decide) (rv_assign (hS.ev rfl)) fun a hS => ?_
    refine wpList_nil ?_
    refine hK1985 _ _ ?_
    rcases ite_some hF with ⟨hc, hF⟩ | ⟨hc, hF⟩
    ·refine cond_t hS rfl hc ?_
     refine wp_region_lit ?_
     refine st_val hS rfl rfl (by decide) (rv_move (hS.ev rfl)) fun a hS => ?_
     refine st_val hS rfl rfl (by decide) (rv_move (hS.ev rfl)) fun a hS => ?_
     refine st_val hS rfl rfl (by decide) (rv_add (hS.ev rfl) (hS.ev rfl)) fun a hS => ?_
     refine st_val hS rfl rfl (by decide) (rv_eql (hS.ev rfl) (hS.ev rfl)) fun a hS => ?_
     refine st_val hS rfl rfl (by decide) (rv_assign (hS.ev rfl)) fun a hS => ?_
     refine wpList_nil ?_
     exact hJ7 (x1889 == (i64.wrap (x1341 + 1))) _ _ (hS.sub (sub_cons rfl (sub_cons rfl (sub_cons rfl (sub_cons rfl (sub_cons rfl (sub_cons rfl (sub_cons rfl sub_nil)))))))) (hM.pk [0, 1, 2, 3] (by decide) (pc rfl (pc rfl (pc rfl (pc rfl pn))))) hF
    ·refine cond_f hS rfl hc ?_
     refine wp_seq_k fun K1986 hK1986 => ?_
     refine wp_region_lit ?_
     refine st_val hS rfl rfl (by decide) (rv_str_eql (hS.ev rfl) (hS.ev rfl)) fun a hS => ?_
     refine st_val hS rfl rfl (by decide) (rv_assign (hS.ev rfl)) fun a hS => ?_
     refine wpList_nil ?_
     refine hK1986 _ _ ?_
     rcases ite_some hF with ⟨hc, hF⟩ | ⟨hc, hF⟩
     ·refine cond_t hS rfl hc ?_
      refine wp_region_lit ?_
      refine st_val hS rfl rfl (by decide) (rv_move (hS.ev rfl)) fun a hS => ?_
      refine st_val hS rfl rfl (by decide) (rv_move (hS.ev rfl)) fun a hS => ?_
      refine st_val hS rfl rfl (by decide) (rv_add (hS.ev rfl) (hS.ev rfl)) fun a hS => ?_
      refine st_val hS rfl rfl (by decide) (rv_eql (hS.ev rfl) (hS.ev rfl)) fun a hS => ?_
      refine st_val hS rfl rfl (by decide) (rv_move (hS.ev rfl)) fun a hS => ?_
      rcases ite_some hF with ⟨hc, hF⟩ | ⟨hc, hF⟩
      ·have hS := hS.setb (t := 44) rfl hc
       refine st_skip hS rfl rfl (by decide) fun a hS => ?_
       refine st_skip hS rfl rfl (by decide) fun a hS => ?_
       refine st_skip hS rfl rfl (by decide) fun a hS => ?_
       refine st_skip hS rfl rfl (by decide) fun a hS => ?_
       refine st_skip hS rfl rfl (by decide) fun a hS => ?_
       refine st_skip hS rfl rfl (by decide) fun a hS => ?_
       refine st_skip hS rfl rfl (by decide) fun a hS => ?_
       refine st_skip hS rfl rfl (by decide) fun a hS => ?_
       refine st_val hS rfl rfl (by decide) (rv_pick_t (hS.ev rfl) (hS.ev rfl)) fun a hS => ?_
       refine st_val hS rfl rfl (by decide) (rv_assign (hS.ev rfl)) fun a hS => ?_
       refine wpList_nil ?_
       exact hJ7 true _ _ (hS.sub (sub_cons rfl (sub_cons rfl (sub_cons rfl (sub_cons rfl (sub_cons rfl (sub_cons rfl (sub_cons rfl sub_nil)))))))) (hM.pk [0, 1, 2, 3] (by decide) (pc rfl (pc rfl (pc rfl (pc rfl pn))))) hF
      ·have hS := hS.setb (t := 44) rfl hc
       refine st_val hS rfl rfl (by decide) (rv_move (hS.ev rfl)) fun a hS => ?_
       refine st_val hS rfl rfl (by decide) (rv_eql (hS.ev rfl) (hS.ev rfl)) fun a hS => ?_
       refine st_val hS rfl rfl (by decide) (rv_move (hS.ev rfl)) fun a hS => ?_
       rcases ite_some hF with ⟨hc, hF⟩ | ⟨hc, hF⟩
       ·have hS := hS.setb (t := 47) rfl hc
        refine st_val hS rfl rfl (by decide) (rv_move (hS.ev rfl)) fun a hS => ?_
        refine st_val hS rfl rfl (by decide) (rv_move (hS.ev rfl)) fun a hS => ?_
        refine st_val hS rfl rfl (by decide) (rv_sub (hS.ev rfl) (hS.ev rfl)) fun a hS => ?_
        refine st_val hS rfl rfl (by decide) (rv_eql (hS.ev rfl) (hS.ev rfl)) fun a hS => ?_
        refine st_val hS rfl rfl (by decide) (rv_pick_t (hS.ev rfl) (hS.ev rfl)) fun a hS => ?_
        refine st_val hS rfl rfl (by decide) (rv_pick_f (hS.ev rfl) (hS.ev rfl)) fun a hS => ?_
        refine st_val hS rfl rfl (by decide) (rv_assign (hS.ev rfl)) fun a hS => ?_
        refine wpList_nil ?_
        exact hJ7 (x1889 == (i64.wrap (p1_n - 1))) _ _ (hS.sub (sub_cons rfl (sub_cons rfl (sub_cons rfl (sub_cons rfl (sub_cons rfl (sub_cons rfl (sub_cons rfl sub_nil)))))))) (hM.pk [0, 1, 2, 3] (by decide) (pc rfl (pc rfl (pc rfl (pc rfl pn))))) hF
       ·have hS := hS.setb (t := 47) rfl hc
        refine st_skip hS rfl rfl (by decide) fun a hS => ?_
        refine st_skip hS rfl rfl (by decide) fun a hS => ?_
        refine st_skip hS rfl rfl (by decide) fun a hS => ?_
        refine st_skip hS rfl rfl (by decide) fun a hS => ?_
        refine st_val hS rfl rfl (by decide) (rv_pick_f (hS.ev rfl) (hS.ev rfl)) fun a hS => ?_
        refine st_val hS rfl rfl (by decide) (rv_pick_f (hS.ev rfl) (hS.ev rfl)) fun a hS => ?_
        refine st_val hS rfl rfl (by decide) (rv_assign (hS.ev rfl)) fun a hS => ?_
        refine wpList_nil ?_
        exact hJ7 false _ _ (hS.sub (sub_cons rfl (sub_cons rfl (sub_cons rfl (sub_cons rfl (sub_cons rfl (sub_cons rfl (sub_cons rfl sub_nil)))))))) (hM.pk [0, 1, 2, 3] (by decide) (pc rfl (pc rfl (pc rfl (pc rfl pn))))) hF
     ·refine cond_f hS rfl hc ?_
      refine wp_seq_k fun K1987 hK1987 => ?_
      refine wp_region_lit ?_
      refine st_val hS rfl rfl (by decide) (rv_str_eql (hS.ev rfl) (hS.ev rfl)) fun a hS => ?_
      refine st_val hS rfl rfl (by decide) (rv_assign (hS.ev rfl)) fun a hS => ?_
      refine wpList_nil ?_
      refine hK1987 _ _ ?_
      have hS : Sl 118 [(0, (Value.string (bs p0_name))), (1, (int i64 p1_n)), (4, (fdp b3 0)), (6, (fdp b17 0)), (7, (int i64 x1341)), (8, (int i64 x1889)), (9, (Value.bool false)), (30, (Value.string (bs p0_name))), (54, (Value.bool (p0_name == ([99, 111, 109, 112, 108, 101, 116, 101] : List UInt8))))] a := hS.sub (sub_cons rfl (sub_cons rfl (sub_cons rfl (sub_cons rfl (sub_cons rfl (sub_cons rfl (sub_cons rfl (sub_cons rfl (sub_cons rfl sub_nil)))))))))
      rcases ite_some hF with ⟨hc, hF⟩ | ⟨hc, hF⟩
      ·refine cond_t hS rfl hc ?_
       refine wp_region_lit ?_
       refine st_val hS rfl rfl (by decide) (rv_assign (hS.ev rfl)) fun a hS => ?_
       refine wpList_nil ?_
       exact hJ7 true _ _ (hS.sub (sub_cons rfl (sub_cons rfl (sub_cons rfl (sub_cons rfl (sub_cons rfl (sub_cons rfl (sub_cons rfl sub_nil)))))))) (hM.pk [0, 1, 2, 3] (by decide) (pc rfl (pc rfl (pc rfl (pc rfl pn))))) hF
      ·refine cond_f hS rfl hc ?_
       refine wp_seq_k fun K1988 hK1988 => ?_
       refine wp_region_lit ?_
       refine st_val hS rfl rfl (by decide) (rv_str_eql (hS.ev rfl) (hS.ev rfl)) fun a hS => ?_
       refine st_val hS rfl rfl (by decide) (rv_assign (hS.ev rfl)) fun a hS => ?_
       refine wpList_nil ?_
       refine hK1988 _ _ ?_
       rcases ite_some hF with ⟨hc, hF⟩ | ⟨hc, hF⟩
       ·refine cond_t hS rfl hc ?_
        refine wp_region_lit ?_
        refine st_val hS rfl rfl (by decide) (rv_move (hS.ev rfl)) fun a hS => ?_
        refine st_val hS rfl rfl (by decide) (rv_eql (hS.ev rfl) (hS.ev rfl)) fun a hS => ?_
        refine st_val hS rfl rfl (by decide) (rv_assign (hS.ev rfl)) fun a hS => ?_
        refine wpList_nil ?_
        exact hJ7 (x1341 == 0) _ _ (hS.sub (sub_cons rfl (sub_cons rfl (sub_cons rfl (sub_cons rfl (sub_cons rfl (sub_cons rfl (sub_cons rfl sub_nil)))))))) (hM.pk [0, 1, 2, 3] (by decide) (pc rfl (pc rfl (pc rfl (pc rfl pn))))) hF
       ·refine cond_f hS rfl hc ?_
        refine wp_seq_k fun K1989 hK1989 => ?_
        refine wp_region_lit ?_
        refine st_val hS rfl rfl (by decide) (rv_str_eql (hS.ev rfl) (hS.ev rfl)) fun a hS => ?_
        refine st_val hS rfl rfl (by decide) (rv_assign (hS.ev rfl)) fun a hS => ?_
        refine wpList_nil ?_
        refine hK1989 _ _ ?_
        rcases ite_some hF with ⟨hc, hF⟩ | ⟨hc, hF⟩
        ·refine cond_t hS rfl hc ?_
         refine wp_region_lit ?_
         refine st_val hS rfl rfl (by decide) (rv_move (hS.ev rfl)) fun a hS => ?_
         refine st_val hS rfl rfl (by decide) (rv_eql (hS.ev rfl) (hS.ev rfl)) fun a hS => ?_
         refine st_val hS rfl rfl (by decide) (rv_move (hS.ev rfl)) fun a hS => ?_
         rcases ite_some hF with ⟨hc, hF⟩ | ⟨hc, hF⟩
         ·have hS := hS.setb (t := 64) rfl hc
          refine st_skip hS rfl rfl (by decide) fun a hS => ?_
          refine st_skip hS rfl rfl (by decide) fun a hS => ?_
          refine st_skip hS rfl rfl (by decide) fun a hS => ?_
          refine st_skip hS rfl rfl (by decide) fun a hS => ?_
          refine st_val hS rfl rfl (by decide) (rv_pick_t (hS.ev rfl) (hS.ev rfl)) fun a hS => ?_
          refine st_val hS rfl rfl (by decide) (rv_move (hS.ev rfl)) fun a hS => ?_
          refine st_skip hS rfl rfl (by decide) fun a hS => ?_
          refine st_skip hS rfl rfl (by decide) fun a hS => ?_
          refine st_skip hS rfl rfl (by decide) fun a hS => ?_
          refine st_skip hS rfl rfl (by decide) fun a hS => ?_
          refine st_skip hS rfl rfl (by decide) fun a hS => ?_
          refine st_skip hS rfl rfl (by decide) fun a hS => ?_
          refine st_skip hS rfl rfl (by decide) fun a hS => ?_
          refine st_skip hS rfl rfl (by decide) fun a hS => ?_
          refine st_val hS rfl rfl (by decide) (rv_pick_t (hS.ev rfl) (hS.ev rfl)) fun a hS => ?_
          refine st_val hS rfl rfl (by decide) (rv_assign (hS.ev rfl)) fun a hS => ?_
          refine wpList_nil ?_
          exact hJ7 true _ _ (hS.sub (sub_cons rfl (sub_cons rfl (sub_cons rfl (sub_cons rfl (sub_cons rfl (sub_cons rfl (sub_cons rfl sub_nil)))))))) (hM.pk [0, 1, 2, 3] (by decide) (pc rfl (pc rfl (pc rfl (pc rfl pn))))) hF
         ·have hS := hS.setb (t := 64) rfl hc
          refine st_val hS rfl rfl (by decide) (rv_move (hS.ev rfl)) fun a hS => ?_
          refine st_val hS rfl rfl (by decide) (rv_move (hS.ev rfl)) fun a hS => ?_
          refine st_val hS rfl rfl (by decide) (rv_add (hS.ev rfl) (hS.ev rfl)) fun a hS => ?_
          refine st_val hS rfl rfl (by decide) (rv_eql (hS.ev rfl) (hS.ev rfl)) fun a hS => ?_
          refine st_val hS rfl rfl (by decide) (rv_pick_f (hS.ev rfl) (hS.ev rfl)) fun a hS => ?_
          refine st_val hS rfl rfl (by decide) (rv_move (hS.ev rfl)) fun a hS => ?_
          rcases ite_some hF with ⟨hc, hF⟩ | ⟨hc, hF⟩
          ·have hS := hS.setb (t := 70) rfl hc
           refine st_skip hS rfl rfl (by decide) fun a hS => ?_
           refine st_skip hS rfl rfl (by decide) fun a hS => ?_
           refine st_skip hS rfl rfl (by decide) fun a hS => ?_
           refine st_skip hS rfl rfl (by decide) fun a hS => ?_
           refine st_skip hS rfl rfl (by decide) fun a hS => ?_
           refine st_skip hS rfl rfl (by decide) fun a hS => ?_
           refine st_skip hS rfl rfl (by decide) fun a hS => ?_
           refine st_skip hS rfl rfl (by decide) fun a hS => ?_
           refine st_val hS rfl rfl (by decide) (rv_pick_t (hS.ev rfl) (hS.ev rfl)) fun a hS => ?_
           refine st_val hS rfl rfl (by decide) (rv_assign (hS.ev rfl)) fun a hS => ?_
           refine wpList_nil ?_
           exact hJ7 true _ _ (hS.sub (sub_cons rfl (sub_cons rfl (sub_cons rfl (sub_cons rfl (sub_cons rfl (sub_cons rfl (sub_cons rfl sub_nil)))))))) (hM.pk [0, 1, 2, 3] (by decide) (pc rfl (pc rfl (pc rfl (pc rfl pn))))) hF
          ·have hS := hS.setb (t := 70) rfl hc
           refine st_val hS rfl rfl (by decide) (rv_move (hS.ev rfl)) fun a hS => ?_
           refine st_val hS rfl rfl (by decide) (rv_eql (hS.ev rfl) (hS.ev rfl)) fun a hS => ?_
           refine st_val hS rfl rfl (by decide) (rv_move (hS.ev rfl)) fun a hS => ?_
           rcases ite_some hF with ⟨hc, hF⟩ | ⟨hc, hF⟩
           ·have hS := hS.setb (t := 73) rfl hc
            refine st_val hS rfl rfl (by decide) (rv_move (hS.ev rfl)) fun a hS => ?_
            refine st_val hS rfl rfl (by decide) (rv_move (hS.ev rfl)) fun a hS => ?_
            refine st_val hS rfl rfl (by decide) (rv_sub (hS.ev rfl) (hS.ev rfl)) fun a hS => ?_
            refine st_val hS rfl rfl (by decide) (rv_eql (hS.ev rfl) (hS.ev rfl)) fun a hS => ?_
            refine st_val hS rfl rfl (by decide) (rv_pick_t (hS.ev rfl) (hS.ev rfl)) fun a hS => ?_
            refine st_val hS rfl rfl (by decide) (rv_pick_f (hS.ev rfl) (hS.ev rfl)) fun a hS => ?_
            refine st_val hS rfl rfl (by decide) (rv_assign (hS.ev rfl)) fun a hS => ?_
            refine wpList_nil ?_
            exact hJ7 (x1889 == (i64.wrap (p1_n - 1))) _ _ (hS.sub (sub_cons rfl (sub_cons rfl (sub_cons rfl (sub_cons rfl (sub_cons rfl (sub_cons rfl (sub_cons rfl sub_nil)))))))) (hM.pk [0, 1, 2, 3] (by decide) (pc rfl (pc rfl (pc rfl (pc rfl pn))))) hF
           ·have hS := hS.setb (t := 73) rfl hc
            refine st_skip hS rfl rfl (by decide) fun a hS => ?_
            refine st_skip hS rfl rfl (by decide) fun a hS => ?_
            refine st_skip hS rfl rfl (by decide) fun a hS => ?_
            refine st_skip hS rfl rfl (by decide) fun a hS => ?_
            refine st_val hS rfl rfl (by decide) (rv_pick_f (hS.ev rfl) (hS.ev rfl)) fun a hS => ?_
            refine st_val hS rfl rfl (by decide) (rv_pick_f (hS.ev rfl) (hS.ev rfl)) fun a hS => ?_
            refine st_val hS rfl rfl (by decide) (rv_assign (hS.ev rfl)) fun a hS => ?_
            refine wpList_nil ?_
            exact hJ7 false _ _ (hS.sub (sub_cons rfl (sub_cons rfl (sub_cons rfl (sub_cons rfl (sub_cons rfl (sub_cons rfl (sub_cons rfl sub_nil)))))))) (hM.pk [0, 1, 2, 3] (by decide) (pc rfl (pc rfl (pc rfl (pc rfl pn))))) hF
        ·refine cond_f hS rfl hc ?_
         refine wp_seq_k fun K1990 hK1990 => ?_
         refine wp_region_lit ?_
         refine st_val hS rfl rfl (by decide) (rv_str_eql (hS.ev rfl) (hS.ev rfl)) fun a hS => ?_
         refine st_val hS rfl rfl (by decide) (rv_assign (hS.ev rfl)) fun a hS => ?_
         refine wpList_nil ?_
         refine hK1990 _ _ ?_
         rcases ite_some hF with ⟨hc, hF⟩ | ⟨hc, hF⟩
         ·refine cond_t hS rfl hc ?_
          refine wp_skip ?_
          exact hJ7 false _ _ (hS.sub (sub_cons rfl (sub_cons rfl (sub_cons rfl (sub_cons rfl (sub_cons rfl (sub_cons rfl (sub_cons rfl sub_nil)))))))) (hM.pk [0, 1, 2, 3] (by decide) (pc rfl (pc rfl (pc rfl (pc rfl pn))))) hF
         ·refine cond_f hS rfl hc ?_
          refine wp_seq_k fun K1991 hK1991 => ?_
          refine wp_region_lit ?_
          refine st_val hS rfl rfl (by decide) (rv_build hS ty_st_26 rfl (by simp) ones_nil) fun a hS => ?_
          obtain ⟨w, hr, hM⟩ := hM.st_agg (us := [(int i64 0), (Value.slice none 0 0)]) (ρ := a.eval) (dst := none) (ty := _) (pos := _) (af := _) (gd := _) (x := .tmp 4) (y := .tmp 31) (hS.ev rfl) (hS.ev rfl) ty_sz_26 (all1_cons rfl (all1_cons rfl all1_nil)) rfl
          refine st_unit hS rfl rfl hr ?_
          have hM := hM.addNil 3
          refine st_val hS rfl rfl (by decide) (rv_assign (hS.ev rfl)) fun a hS => ?_
          refine wpList_nil ?_
          refine hK1991 _ _ ?_
          have hS : Sl 118 [(4, (fdp b3 0)), (5, (Value.bool false))] a := hS.sub (sub_cons rfl (sub_cons rfl sub_nil))
          have hM := hM.pk [0, 1] (by decide) (pc rfl (pc rfl pn))
          refine wp_ret ?_
          cases hF
          have e := hX5 _ rfl
          subst e
          have hF := hF5
          cases hF
          have e := hX3 _ rfl
          subst e
          have hF := hF3
          cases hF
          exact hQr _ _ (r_cc hS rfl ⟨_, rfl, run_loadAgg ty_ag_26 (hM.get 1 rfl) ty_sz_26⟩ rfl ⟨(Value.slice none 0 0), rfl, hM.pk [0] (by decide) (pc rfl pn)⟩)
   ·refine cond_f hS rfl hc ?_
    refine wp_exit ?_
    cases hF
    exact hJ4 x1886 l1888 v1887 _ _ (hS.sub (sub_cons rfl (sub_cons rfl (sub_cons rfl (sub_cons rfl (sub_cons rfl sub_nil)))))) (hM.pk [0, 1, 2, 3] (by decide) (pc rfl (pc rfl (pc rfl (pc rfl pn))))) (by have e := hX5 _ rfl; subst e; exact hF5)
  ·refine cond_f hS rfl hc ?_
   refine wp_exit ?_
   cases hF
   exact hJ1 x1338 l1340 v1339 _ _ (hS.sub (sub_cons rfl (sub_cons rfl (sub_cons rfl (sub_cons rfl sub_nil))))) (hM.pk [0, 1, 2, 3] (by decide) (pc rfl (pc rfl (pc rfl (pc rfl pn))))) (by have e := hX3 _ rfl; subst e; exact hF3)


theorem c_spec_l1Once (F : Nat) (p0_c_b : List Int) (p0_c_i : Int) (p0_c_h : Int) (p1_n : Int) (p0_c_bv : Value) (p0_cb : Nat) {r : Bool × Int × Int} (hF : S_spec_l1Once F p0_c_b p0_c_i p0_c_h p1_n = some r) (w0 : World) (hM : Mem (feet [(true, bx p0_cb 84 [p0_c_bv, (int i64 p0_c_i), (int i64 p0_c_h)])]) w0 w0 [(true, bx p0_cb 84 [p0_c_bv, (int i64 p0_c_i), (int i64 p0_c_h)]), (false, rd p0_c_bv (List.map (int IntKind.u8) p0_c_b))]) :
    Calls Tryd.prog 73 [(fdp p0_cb 0), (int i64 p1_n)].toArray w0 (retPost fun v w' => v = (Value.bool r.1) ∧ Mem (feet [(true, bx p0_cb 84 [p0_c_bv, (int i64 p0_c_i), (int i64 p0_c_h)])]) w0 w' [(true, bx p0_cb 84 [p0_c_bv, (int i64 r.2.1), (int i64 r.2.2)])]) := by
 have hM := hM.pk [1, 0] (by decide) (pc rfl (pc rfl pn))
 refine enter2 Tryd.func73 rfl rfl rfl fun Q a hQr hQn hQp hS => ?_
 have hS : Sl 9 [(0, (fdp p0_cb 0)), (1, (int i64 p1_n))] a := hS
 unfold S_spec_l1Once at hF
 refine wp_seq_k fun K1 hK1 => ?_
 refine wp_region_lit ?_
 refine st_val hS rfl rfl (by decide) (rv_assign (hS.ev rfl)) fun a hS => ?_
 refine wpList_nil ?_
 refine hK1 _ _ ?_
 refine wp_seq_k fun K2 hK2 => ?_
 refine wp_region_lit ?_
 refine st_val hS rfl rfl (by decide) (rv_move (hS.ev rfl)) fun a hS => ?_
 refine st_val hS rfl rfl (by decide) (rv_move (hS.ev rfl)) fun a hS => ?_
 obtain ⟨r4, hr, hF⟩ := bind_some hF
 have hM := hM.pk [1, 0] (by decide) (pc rfl (pc rfl pn))
 have hP := Mem.pre (A := [(true, bx p0_cb 84 [p0_c_bv, (int i64 p0_c_i), (int i64 p0_c_h)])]) (C := [(false, rd p0_c_bv (List.map (int IntKind.u8) p0_c_b))]) (B := []) hM rfl (weaks_cons (weak_self _ _) weaks_nil)
 refine st_wp hS rfl (wp_call hS rfl rfl (by decide) fn_ok_72 rfl (c_spec_l1Below F p0_c_b p0_c_i p0_c_h p1_n p0_c_bv p0_cb hr _ hP) fun v w a hK hS => ?_)
 obtain ⟨rfl, hN⟩ := hK
 have hM := Mem.callo (A := [(true, bx p0_cb 84 [p0_c_bv, (int i64 p0_c_i), (int i64 p0_c_h)])]) (B := [(false, rd p0_c_bv (List.map (int IntKind.u8) p0_c_b))]) hM rfl hN rfl
 refine st_val hS rfl rfl (by decide) (rv_eql (hS.ev rfl) (hS.ev rfl)) fun a hS => ?_
 refine st_val hS rfl rfl (by decide) (rv_assign (hS.ev rfl)) fun a hS => ?_
 refine wpList_nil ?_
 refine hK2 _ _ ?_
 refine wp_ret ?_
 cases hF
 exact hQr _ _ (r_1 hS rfl rfl ⟨rfl, hM.pk [0] (by decide) (pc rfl pn)⟩)


theorem c_spec_l1Pick (F : Nat) (p0_c_b : List Int) (p0_c_i : Int) (p0_c_h : Int) (p1_list : List (List UInt8)) (p0_c_bv : Value) (p0_cb : Nat) (p1_listv : Value) {r : (List UInt8) × Int × Int} (hF : S_spec_l1Pick F p0_c_b p0_c_i p0_c_h p1_list = some r) (w0 : World) (hM : Mem (feet [(true, bx p0_cb 84 [p0_c_bv, (int i64 p0_c_i), (int i64 p0_c_h)])]) w0 w0 [(true, bx p0_cb 84 [p0_c_bv, (int i64 p0_c_i), (int i64 p0_c_h)]), (false, rd p0_c_bv (List.map (int IntKind.u8) p0_c_b)), (false, rd p1_listv (List.map (fun s => Value.string (bs s)) p1_list))]) :
    Calls Tryd.prog 79 [(fdp p0_cb 0), p1_listv].toArray w0 (retPost fun v w' => v = (Value.string (bs r.1)) ∧ Mem (feet [(true, bx p0_cb 84 [p0_c_bv, (int i64 p0_c_i), (int i64 p0_c_h)])]) w0 w' [(true, bx p0_cb 84 [p0_c_bv, (int i64 r.2.1), (int i64 r.2.2)])]) := by
 have hM := hM.pk [1, 0, 2] (by decide) (pc rfl (pc rfl (pc rfl pn)))
 refine enter2 Tryd.func79 rfl rfl rfl fun Q a hQr hQn hQp hS => ?_
 have hS : Sl 12 [(0, (fdp p0_cb 0)), (1, p1_listv)] a := hS
 unfold S_spec_l1Pick at hF
 refine wp_seq_k fun K1 hK1 => ?_
 refine wp_region_lit ?_
 refine st_val hS rfl rfl (by decide) (rv_assign (hS.ev rfl)) fun a hS => ?_
 refine wpList_nil ?_
 refine hK1 _ _ ?_
 refine wp_seq_k fun K2 hK2 => ?_
 refine wp_region_lit ?_
 refine st_val hS rfl rfl (by decide) (rv_move (hS.ev rfl)) fun a hS => ?_
 refine st_val hS rfl rfl (by decide) (rv_move (hS.ev rfl)) fun a hS => ?_
 refine st_val hS rfl rfl (by decide) (rv_move (hS.ev rfl)) fun a hS => ?_
 refine st_val hS rfl rfl (by decide) (rv_len_rowM Tryd.underlying75 (hS.ev rfl) (hM.get 2 rfl)) fun a hS => ?_
 obtain ⟨r5, hr, hF⟩ := bind_some hF
 have hM := hM.pk [1, 0, 2] (by decide) (pc rfl (pc rfl (pc rfl pn)))
 have hP := Mem.pre (A := [(true, bx p0_cb 84 [p0_c_bv, (int i64 p0_c_i), (int i64 p0_c_h)])]) (C := [(false, rd p0_c_bv (List.map (int IntKind.u8) p0_c_b))]) (B := [(false, rd p1_listv (List.map (fun s => Value.string (bs s)) p1_list))]) hM rfl (weaks_cons (weak_self _ _) weaks_nil)
 refine st_wp hS rfl (wp_call hS rfl rfl (by decide) fn_ok_72 rfl (c_spec_l1Below F p0_c_b p0_c_i p0_c_h (p1_list.length : Int) p0_c_bv p0_cb hr _ hP) fun v w a hK hS => ?_)
 obtain ⟨rfl, hN⟩ := hK
 have hM := Mem.callo (A := [(true, bx p0_cb 84 [p0_c_bv, (int i64 p0_c_i), (int i64 p0_c_h)])]) (B := [(false, rd p0_c_bv (List.map (int IntKind.u8) p0_c_b)), (false, rd p1_listv (List.map (fun s => Value.string (bs s)) p1_list))]) hM rfl hN rfl
 obtain ⟨x6, hx, hF⟩ := bind_some hF
 obtain ⟨hi0, hi1, hex6⟩ := idxL_some hx
 refine st_val hS rfl rfl (by decide) (rv_indexAddr Tryd.underlying75 ty_el_9 (hS.ev rfl) (hS.ev rfl) (hM.get 2 rfl) hi0 (map_len hi1)) fun a hS => ?_
 refine st_val hS rfl rfl (by decide) (rv_load_el (hS.ev rfl) ty_ag_9 (hM.get 2 rfl) (mget hex6)) fun a hS => ?_
 refine st_val hS rfl rfl (by decide) (rv_assign (hS.ev rfl)) fun a hS => ?_
 refine wpList_nil ?_
 refine hK2 _ _ ?_
 have hS : Sl 12 [(4, (Value.string (bs x6)))] a := hS.sub (sub_cons rfl sub_nil)
 have hM := hM.pk [0, 1] (by decide) (pc rfl (pc rfl pn))
 refine wp_ret ?_
 cases hF
 exact hQr _ _ (r_1 hS rfl rfl ⟨rfl, hM.pk [0] (by decide) (pc rfl pn)⟩)


theorem c_spec_l2Random (F : Nat) (p0_c_b : List Int) (p0_c_i : Int) (p0_c_h : Int) (p1_n : Int) (p2_odd : Int) (p0_c_bv : Value) (p0_cb : Nat) {r : Int × (List (Int)) × Int × Int} (hF : S_spec_l2Random F p0_c_b p0_c_i p0_c_h p1_n p2_odd = some r) (w0 : World) (hM : Mem (feet [(true, bx p0_cb 84 [p0_c_bv, (int i64 p0_c_i), (int i64 p0_c_h)])]) w0 w0 [(true, bx p0_cb 84 [p0_c_bv, (int i64 p0_c_i), (int i64 p0_c_h)]), (false, rd p0_c_bv (List.map (int IntKind.u8) p0_c_b))]) :
    Calls Tryd.prog 97 [(fdp p0_cb 0), (int i64 p1_n), (int i64 p2_odd)].toArray w0 (retPost fun v w' => ∃ v866, v = (Value.agg #[(int i64 r.1), v866]) ∧ Mem (feet [(true, bx p0_cb 84 [p0_c_bv, (int i64 p0_c_i), (int i64 p0_c_h)])]) w0 w' [(true, bx p0_cb 84 [p0_c_bv, (int i64 r.2.2.1), (int i64 r.2.2.2)]), (true, ow 3 v866 (List.map (int i64) r.2.1))]) := by
 have hM := hM.pk [1, 0] (by decide) (pc rfl (pc rfl pn))
 refine enter2 Tryd.func97 rfl rfl rfl fun Q a hQr hQn hQp hS => ?_
 have hS : Sl 38 [(0, (fdp p0_cb 0)), (1, (int i64 p1_n)), (2, (int i64 p2_odd))] a := hS
 unfold S_spec_l2Random at hF
 refine wp_seq_k fun K1 hK1 => ?_
 refine wp_region_lit ?_
 obtain ⟨b3, w, hr, hM⟩ := hM.allocE (ρ := a.eval) (dst := some 6) (ty := _) (pos := _) (af := _) (gd := _) (T := 26) (P := Tryd.prog) [(int i64 0), (Value.slice none 0 0)] ty_zr_26 rfl
 refine st_val hS rfl rfl (by decide) hr fun a hS => ?_
 have hM := hM.addNil 3
 refine wpList_nil ?_
 refine hK1 _ _ ?_
 refine wp_seq_k fun K4 hK4 => ?_
 refine wp_region_lit ?_
 refine st_val hS rfl rfl (by decide) (rv_move (hS.ev rfl)) fun a hS => ?_
 refine st_val hS rfl rfl (by decide) (rv_move (hS.ev rfl)) fun a hS => ?_
 obtain ⟨_, hx, hF⟩ := bind_some hF
 obtain ⟨v7, w, hr, hM⟩ := hM.makeE (f := (int i64)) (c := (0 : Int)) (ρ := a.eval) (dst := some 12) (ty := _) (pos := _) (af := _) (gd := _) (x := .tmp 11) (y := .tmp 11) Tryd.underlying24 ty_el_3 i64_one (by decide) (hS.ev rfl) (hS.ev rfl) (mkO_some hx)
 refine st_val hS rfl rfl (by decide) hr fun a hS => ?_
 refine st_val hS rfl rfl (by decide) (rv_build hS ty_st_26 rfl (by simp) (ones_cons (by rw [hS.ev (v := (int i64 p1_n)) rfl]; rfl) (ones_cons (by rw [hS.ev (v := v7) rfl]; exact rd_one (rd_of_ow (hM.get 0 rfl))) ones_nil))) fun a hS => ?_
 obtain ⟨b8, w, hr, hM⟩ := hM.allocE (ρ := a.eval) (dst := some 7) (ty := _) (pos := _) (af := _) (gd := _) (T := 26) (P := Tryd.prog) [(int i64 0), (Value.slice none 0 0)] ty_zr_26 rfl
 refine st_val hS rfl rfl (by decide) hr fun a hS => ?_
 have hM := hM.addNil 3
 have hM := hM.pk [1, 0, 2, 3, 4, 5, 6] (by decide) (pc rfl (pc rfl (pc rfl (pc rfl (pc rfl (pc rfl (pc rfl pn)))))))
 obtain ⟨w, hr, hM⟩ := hM.st_agg (us := [(int i64 p1_n), v7]) (ρ := a.eval) (dst := none) (ty := _) (pos := _) (af := _) (gd := _) (x := .tmp 7) (y := .tmp 13) (hS.ev rfl) (hS.ev rfl) ty_sz_26 (all1_cons rfl (all1_cons (rd_one (rd_of_ow (hM.get 2 rfl))) all1_nil)) rfl
 refine st_unit hS rfl rfl hr ?_
 refine wpList_nil ?_
 refine hK4 _ _ ?_
 refine wp_seq_k fun K9 hK9 => ?_
 have hJ1 : ∀ (x435 : Int) (l437 : List Int) (x438 : Int) (x439 : Int) (v436 : Value) (a : Act) (w : World), Sl 38 [(6, (fdp b3 0)), (7, (fdp b8 0))] a → Mem (feet [(true, bx p0_cb 84 [p0_c_bv, (int i64 p0_c_i), (int i64 p0_c_h)])]) w0 w [(true, bx b3 26 [(int i64 0), (Value.slice none 0 0)]), (true, ow 3 (Value.slice none 0 0) (List.map (int i64) ([] : List (Int)))), (true, bx b8 26 [(int i64 x435), v436]), (true, ow 3 v436 (List.map (int i64) l437)), (true, bx p0_cb 84 [p0_c_bv, (int i64 x438), (int i64 x439)]), (false, rd p0_c_bv (List.map (int IntKind.u8) p0_c_b))] → S_spec_l2Random_j1 F x435 l437 x438 x439 = some r → K9 a w := by
  intro x435 l437 x438 x439 v436 a w hS hM hF
  unfold S_spec_l2Random_j1 at hF
  refine hK9 _ _ ?_
  refine wp_seq_k fun K440 hK440 => ?_
  refine wp_region_lit ?_
  refine st_val hS rfl rfl (by decide) (rv_load_agg (hS.ev rfl) ty_ag_26 (hM.get 2 rfl) ty_sz_26) fun a hS => ?_
  obtain ⟨w, hr, hM⟩ := hM.st_agg (us := [(int i64 x435), v436]) (ρ := a.eval) (dst := none) (ty := _) (pos := _) (af := _) (gd := _) (x := .tmp 6) (y := .tmp 37) (hS.ev rfl) (hS.ev rfl) ty_sz_26 (all1_cons rfl (all1_cons (rd_one (rd_of_ow (hM.get 3 rfl))) all1_nil)) rfl
  refine st_unit hS rfl rfl hr ?_
  refine wpList_nil ?_
  refine hK440 _ _ ?_
  refine wp_ret ?_
  cases hF
  exact hQr _ _ (r_c hS rfl ⟨_, rfl, run_loadAgg ty_ag_26 (hM.get 0 rfl) ty_sz_26⟩ ⟨v436, rfl, hM.pk [4, 3] (by decide) (pc rfl (pc rfl pn))⟩)
 refine wp_seq_k fun K441 hK441 => ?_
 refine wp_region_lit ?_
 refine st_val hS rfl rfl (by decide) (rv_assign (hS.ev rfl)) fun a hS => ?_
 refine wpList_nil ?_
 refine hK441 _ _ ?_
 refine wp_block ?_
 obtain ⟨lb2, hl2, hF2⟩ := bind_some hF
 refine wp_loop_sh (fun s => S_spec_l2Random_l2 F p0_c_b p1_n p2_odd s.1 s.2.1 s.2.2.1 s.2.2.2.1 s.2.2.2.2) (fun s a w => ∃ (v585 : Value), Sl 38 [(0, (fdp p0_cb 0)), (1, (int i64 p1_n)), (2, (int i64 p2_odd)), (6, (fdp b3 0)), (7, (fdp b8 0)), (8, (int i64 s.2.2.2.2))] a ∧ Mem (feet [(true, bx p0_cb 84 [p0_c_bv, (int i64 p0_c_i), (int i64 p0_c_h)])]) w0 w [(true, bx p0_cb 84 [p0_c_bv, (int i64 s.1), (int i64 s.2.1)]), (false, rd p0_c_bv (List.map (int IntKind.u8) p0_c_b)), (true, bx b3 26 [(int i64 0), (Value.slice none 0 0)]), (true, ow 3 (Value.slice none 0 0) (List.map (int i64) ([] : List (Int)))), (true, bx b8 26 [(int i64 s.2.2.1), v585]), (true, ow 3 v585 (List.map (int i64) s.2.2.2.1))]) hl2 ⟨v7, (hS.sub (sub_cons rfl (sub_cons rfl (sub_cons rfl (sub_cons rfl (sub_cons rfl (sub_cons rfl sub_nil))))))), (hM.pk [6, 5, 4, 3, 0, 2] (by decide) (pc rfl (pc rfl (pc rfl (pc rfl (pc rfl (pc rfl pn)))))))⟩ ?_
 rintro K2 ⟨x582, x583, x584, l586, x587⟩ a w res2 ⟨v585, hS, hM⟩ hF hN2 hX2
 have hF : S_spec_l2Random_l2 F p0_c_b p1_n p2_odd x582 x583 x584 l586 x587 = some res2 := hF
 have hS : Sl 38 [(0, (fdp p0_cb 0)), (1, (int i64 p1_n)), (2, (int i64 p2_odd)), (6, (fdp b3 0)), (7, (fdp b8 0)), (8, (int i64 x587))] a := hS
 have hM : Mem (feet [(true, bx p0_cb 84 [p0_c_bv, (int i64 p0_c_i), (int i64 p0_c_h)])]) w0 w [(true, bx p0_cb 84 [p0_c_bv, (int i64 x582), (int i64 x583)]), (false, rd p0_c_bv (List.map (int IntKind.u8) p0_c_b)), (true, bx b3 26 [(int i64 0), (Value.slice none 0 0)]), (true, ow 3 (Value.slice none 0 0) (List.map (int i64) ([] : List (Int)))), (true, bx b8 26 [(int i64 x584), v585]), (true, ow 3 v585 (List.map (int i64) l586))] := hM
 unfold S_spec_l2Random_l2 at hF
 refine wp_seq_k fun K727 hK727 => ?_
 refine wp_seq_k fun K729 hK729 => ?_
 refine wp_region_lit ?_
 refine st_val hS rfl rfl (by decide) (rv_move (hS.ev rfl)) fun a hS => ?_
 refine st_val hS rfl rfl (by decide) (rv_move (hS.ev rfl)) fun a hS => ?_
 refine st_val hS rfl rfl (by decide) (rv_lss (hS.ev rfl) (hS.ev rfl)) fun a hS => ?_
 refine wpList_nil ?_
 refine hK729 _ _ ?_
 rcases ite_some hF with ⟨hc, hF⟩ | ⟨hc, hF⟩
 ·refine cond_t hS rfl hc ?_
  refine wp_skip ?_
  refine hK727 _ _ ?_
  refine wp_seq_k fun K730 hK730 => ?_
  have hJ3 : ∀ (x796 : Int) (x797 : Int) (x798 : Int) (l800 : List Int) (v799 : Value) (a : Act) (w : World), Sl 38 [(0, (fdp p0_cb 0)), (1, (int i64 p1_n)), (2, (int i64 p2_odd)), (6, (fdp b3 0)), (7, (fdp b8 0)), (8, (int i64 x587))] a → Mem (feet [(true, bx p0_cb 84 [p0_c_bv, (int i64 p0_c_i), (int i64 p0_c_h)])]) w0 w [(true, bx p0_cb 84 [p0_c_bv, (int i64 x796), (int i64 x797)]), (false, rd p0_c_bv (List.map (int IntKind.u8) p0_c_b)), (true, bx b3 26 [(int i64 0), (Value.slice none 0 0)]), (true, ow 3 (Value.slice none 0 0) (List.map (int i64) ([] : List (Int)))), (true, bx b8 26 [(int i64 x798), v799]), (true, ow 3 v799 (List.map (int i64) l800))] → S_spec_l2Random_j3 F x587 x796 x797 x798 l800 = some res2 → K730 a w := by
   intro x796 x797 x798 l800 v799 a w hS hM hF
   unfold S_spec_l2Random_j3 at hF
   refine hK730 _ _ ?_
   refine wp_region_lit ?_
   refine st_val hS rfl rfl (by decide) (rv_move (hS.ev rfl)) fun a hS => ?_
   refine st_val hS rfl rfl (by decide) (rv_add (hS.ev rfl) (hS.ev rfl)) fun a hS => ?_
   refine st_val hS rfl rfl (by decide) (rv_assign (hS.ev rfl)) fun a hS => ?_
   refine wpList_nil ?_
   cases hF
   exact hN2 _ _ _ rfl ⟨v799, (hS.sub (sub_cons rfl (sub_cons rfl (sub_cons rfl (sub_cons rfl (sub_cons rfl (sub_cons rfl sub_nil))))))), (hM.pk [0, 1, 2, 3, 4, 5] (by decide) (pc rfl (pc rfl (pc rfl (pc rfl (pc rfl (pc rfl pn)))))))⟩
  refine wp_block ?_
  refine wp_seq_k fun K801 hK801 => ?_
  refine wp_region_lit ?_
  refine st_val hS rfl rfl (by decide) (rv_move (hS.ev rfl)) fun a hS => ?_
  refine st_val hS rfl rfl (by decide) (rv_add (hS.ev rfl) (hS.ev rfl)) fun a hS => ?_
  refine st_val hS rfl rfl (by decide) (rv_assign (hS.ev rfl)) fun a hS => ?_
  refine wpList_nil ?_
  refine hK801 _ _ ?_
  refine wp_block ?_
  obtain ⟨lb4, hl4, hF4⟩ := bind_some hF
  refine wp_loop_sh (fun s => S_spec_l2Random_l4 F p0_c_b p1_n p2_odd x587 s.1 s.2.1 s.2.2.1 s.2.2.2.1 s.2.2.2.2) (fun s a w => ∃ (v825 : Value), Sl 38 [(0, (fdp p0_cb 0)), (1, (int i64 p1_n)), (2, (int i64 p2_odd)), (6, (fdp b3 0)), (7, (fdp b8 0)), (8, (int i64 x587)), (9, (int i64 s.2.2.2.2))] a ∧ Mem (feet [(true, bx p0_cb 84 [p0_c_bv, (int i64 p0_c_i), (int i64 p0_c_h)])]) w0 w [(true, bx p0_cb 84 [p0_c_bv, (int i64 s.1), (int i64 s.2.1)]), (false, rd p0_c_bv (List.map (int IntKind.u8) p0_c_b)), (true, bx b3 26 [(int i64 0), (Value.slice none 0 0)]), (true, ow 3 (Value.slice none 0 0) (List.map (int i64) ([] : List (Int)))), (true, bx b8 26 [(int i64 s.2.2.1), v825]), (true, ow 3 v825 (List.map (int i64) s.2.2.2.1))]) hl4 ⟨v585, (hS.sub (sub_cons rfl (sub_cons rfl (sub_cons rfl (sub_cons rfl (sub_cons rfl (sub_cons rfl (sub_cons rfl sub_nil)))))))), (hM.pk [0, 1, 2, 3, 4, 5] (by decide) (pc rfl (pc rfl (pc rfl (pc rfl (pc rfl (pc rfl pn)))))))⟩ ?_
  rintro K4 ⟨x822, x823, x824, l826, x827⟩ a w res4 ⟨v825, hS, hM⟩ hF hN4 hX4
  have hF : S_spec_l2Random_l4 F p0_c_b p1_n p2_odd x587 x822 x823 x824 l826 x827 = some res4 := hF
  have hS : Sl 38 [(0, (fdp p0_cb 0)), (1, (int i64 p1_n)), (2, (int i64 p2_odd)), (6, (fdp b3 0)), (7, (fdp b8 0)), (8, (int i64 x587)), (9, (int i64 x827))] a := hS
  have hM : Mem (feet [(true, bx p0_cb 84 [p0_c_bv, (int i64 p0_c_i), (int i64 p0_c_h)])]) w0 w [(true, bx p0_cb 84 [p0_c_bv, (int i64 x822), (int i64 x823)]), (false, rd p0_c_bv (List.map (int IntKind.u8) p0_c_b)), (true, bx b3 26 [(int i64 0), (Value.slice none 0 0)]), (true, ow 3 (Value.slice none 0 0) (List.map (int i64) ([] : List (Int)))), (true, bx b8 26 [(int i64 x824), v825]), (true, ow 3 v825 (List.map (int i64) l826))] := hM
  unfold S_spec_l2Random_l4 at hF
  refine wp_seq_k fun K847 hK847 => ?_
  refine wp_seq_k fun K849 hK849 => ?_
  refine wp_region_lit ?_
  refine st_val hS rfl rfl (by decide) (rv_move (hS.ev rfl)) fun a hS => ?_
  refine st_val hS rfl rfl (by decide) (rv_move (hS.ev rfl)) fun a hS => ?_
  refine st_val hS rfl rfl (by decide) (rv_lss (hS.ev rfl) (hS.ev rfl)) fun a hS => ?_
  refine wpList_nil ?_
  refine hK849 _ _ ?_
  rcases ite_some hF with ⟨hc, hF⟩ | ⟨hc, hF⟩
  ·refine cond_t hS rfl hc ?_
   refine wp_skip ?_
   refine hK847 _ _ ?_
   refine wp_seq_k fun K850 hK850 => ?_
   have hJ5 : ∀ (x856 : Int) (x857 : Int) (x858 : Int) (l860 : List Int) (v859 : Value) (a : Act) (w : World), Sl 38 [(0, (fdp p0_cb 0)), (1, (int i64 p1_n)), (2, (int i64 p2_odd)), (6, (fdp b3 0)), (7, (fdp b8 0)), (8, (int i64 x587)), (9, (int i64 x827))] a → Mem (feet [(true, bx p0_cb 84 [p0_c_bv, (int i64 p0_c_i), (int i64 p0_c_h)])]) w0 w [(true, bx p0_cb 84 [p0_c_bv, (int i64 x856), (int i64 x857)]), (false, rd p0_c_bv (List.map (int IntKind.u8) p0_c_b)), (true, bx b3 26 [(int i64 0), (Value.slice none 0 0)]), (true, ow 3 (Value.slice none 0 0) (List.map (int i64) ([] : List (Int)))), (true, bx b8 26 [(int i64 x858), v859]), (true, ow 3 v859 (List.map (int i64) l860))] → S_spec_l2Random_j5 F x827 x856 x857 x858 l860 = some res4 → K850 a w := by
    intro x856 x857 x858 l860 v859 a w hS hM hF
    unfold S_spec_l2Random_j5 at hF
    refine hK850 _ _ ?_
    refine wp_region_lit ?_
    refine st_val hS rfl rfl (by decide) (rv_move (hS.ev rfl)) fun a hS => ?_
    refine st_val hS rfl rfl (by decide) (rv_add (hS.ev rfl) (hS.ev rfl)) fun a hS => ?_
    refine st_val hS rfl rfl (by decide) (rv_assign (hS.ev rfl)) fun a hS => ?_
    refine wpList_nil ?_
    cases hF
    exact hN4 _ _ _ rfl ⟨v859, (hS.sub (sub_cons rfl (sub_cons rfl (sub_cons rfl (sub_cons rfl (sub_cons rfl (sub_cons rfl (sub_cons rfl sub_nil)))))))), (hM.pk [0, 1, 2, 3, 4, 5] (by decide) (pc rfl (pc rfl (pc rfl (pc rfl (pc rfl (pc rfl pn)))))))⟩
   refine wp_block ?_
   refine wp_seq_k fun K861 hK861 => ?_
   refine wp_region_lit ?_
   refine st_val hS rfl rfl (by decide) (rv_move (hS.ev rfl)) fun a hS => ?_
   obtain ⟨r863, hr, hF⟩ := bind_some hF
   have hM := hM.pk [0, 1, 2, 3, 4, 5] (by decide) (pc rfl (pc rfl (pc rfl (pc rfl (pc rfl (pc rfl pn))))))
   have hP := Mem.pre (A := [(true, bx p0_cb 84 [p0_c_bv, (int i64 x822), (int i64 x823)])]) (C := [(false, rd p0_c_bv (List.map (int IntKind.u8) p0_c_b))]) (B := [(true, bx b3 26 [(int i64 0), (Value.slice none 0 0)]), (true, ow 3 (Value.slice none 0 0) (List.map (int i64) ([] : List (Int)))), (true, bx b8 26 [(int i64 x824), v825]), (true, ow 3 v825 (List.map (int i64) l826))]) hM rfl (weaks_cons (weak_self _ _) weaks_nil)
   refine st_wp hS rfl (wp_call hS rfl rfl (by decide) fn_ok_72 rfl (c_spec_l1Below F p0_c_b x822 x823 10 p0_c_bv p0_cb hr _ hP) fun v w a hK hS => ?_)
   obtain ⟨rfl, hN⟩ := hK
   have hM := Mem.callo (A := [(true, bx p0_cb 84 [p0_c_bv, (int i64 x822), (int i64 x823)])]) (B := [(false, rd p0_c_bv (List.map (int IntKind.u8) p0_c_b)), (true, bx b3 26 [(int i64 0), (Value.slice none 0 0)]), (true, ow 3 (Value.slice none 0 0) (List.map (int i64) ([] : List (Int)))), (true, bx b8 26 [(int i64 x824), v825]), (true, ow 3 v825 (List.map (int i64) l826))]) hM rfl hN rfl
   refine st_val hS rfl rfl (by decide) (rv_move (hS.ev rfl)) fun a hS => ?_
   refine st_val hS rfl rfl (by decide) (rv_lss (hS.ev rfl) (hS.ev rfl)) fun a hS => ?_
   refine wpList_nil ?_
   refine hK861 _ _ ?_
   rcases ite_some hF with ⟨hc, hF⟩ | ⟨hc, hF⟩
   ·refine cond_t hS rfl hc ?_
    refine wp_region_lit ?_
    refine st_val hS rfl rfl (by decide) (rv_load_agg (hS.ev rfl) ty_ag_26 (hM.get 4 rfl) ty_sz_26) fun a hS => ?_
    refine st_val hS rfl rfl (by decide) (rv_move (hS.ev rfl)) fun a hS => ?_
    refine st_val hS rfl rfl (by decide) (rv_move (hS.ev rfl)) fun a hS => ?_
    obtain ⟨r864, hr, hF⟩ := bind_some hF
    refine st_wp hS rfl (wp_call hS rfl rfl (by decide) fn_ok_44 rfl (c_spec_AddEdge F x824 l826 x587 x827 v825 hr _ (rd_of_ow (hM.get 5 rfl))) fun v w a hK hS => ?_)
    obtain ⟨v865, rfl, hN⟩ := hK
    have hM := hM.add hN rfl
    refine st_val hS rfl rfl (by decide) (rv_move (hS.ev rfl)) fun a hS => ?_
    refine st_val hS rfl rfl (by decide) (rv_extract (hS.ev rfl) rfl) fun a hS => ?_
    refine st_val hS rfl rfl (by decide) (rv_extract (hS.ev rfl) rfl) fun a hS => ?_
    have hM := hM.pk [5, 0, 1, 2, 3, 4, 6] (by decide) (pc rfl (pc rfl (pc rfl (pc rfl (pc rfl (pc rfl (pc rfl pn)))))))
    obtain ⟨w, hr, hM⟩ := hM.st_agg (us := [(int i64 r864.1), v865]) (ρ := a.eval) (dst := none) (ty := _) (pos := _) (af := _) (gd := _) (x := .tmp 7) (y := .tmp 35) (hS.ev rfl) (hS.ev rfl) ty_sz_26 (all1_cons rfl (all1_cons (rd_one (rd_of_ow (hM.get 1 rfl))) all1_nil)) rfl
    refine st_unit hS rfl rfl hr ?_
    refine wpList_nil ?_
    exact hJ5 r863.2.1 r863.2.2 r864.1 r864.2.1 v865 _ _ (hS.sub (sub_cons rfl (sub_cons rfl (sub_cons rfl (sub_cons rfl (sub_cons rfl (sub_cons rfl (sub_cons rfl sub_nil)))))))) (hM.pk [2, 3, 4, 5, 0, 1] (by decide) (pc rfl (pc rfl (pc rfl (pc rfl (pc rfl (pc rfl pn))))))) hF
   ·refine cond_f hS rfl hc ?_
    refine wp_skip ?_
    exact hJ5 r863.2.1 r863.2.2 x824 l826 v825 _ _ (hS.sub (sub_cons rfl (sub_cons rfl (sub_cons rfl (sub_cons rfl (sub_cons rfl (sub_cons rfl (sub_cons rfl sub_nil)))))))) (hM.pk [0, 1, 2, 3, 4, 5] (by decide) (pc rfl (pc rfl (pc rfl (pc rfl (pc rfl (pc rfl pn))))))) hF
  ·refine cond_f hS rfl hc ?_
   refine wp_exit ?_
   cases hF
   exact hJ3 x822 x823 x824 l826 v825 _ _ (hS.sub (sub_cons rfl (sub_cons rfl (sub_cons rfl (sub_cons rfl (sub_cons rfl (sub_cons rfl sub_nil))))))) (hM.pk [0, 1, 2, 3, 4, 5] (by decide) (pc rfl (pc rfl (pc rfl (pc rfl (pc rfl (pc rfl pn))))))) (by have e := hX4 _ rfl; subst e; exact hF4)
 ·refine cond_f hS rfl hc ?_
  refine wp_exit ?_
  cases hF
  exact hJ1 x584 l586 x582 x583 v585 _ _ (hS.sub (sub_cons rfl (sub_cons rfl sub_nil))) (hM.pk [2, 3, 4, 5, 0, 1] (by decide) (pc rfl (pc rfl (pc rfl (pc rfl (pc rfl (pc rfl pn))))))) (by have e := hX2 _ rfl; subst e; exact hF2)


end Go.Proofs.YtdalcpadcggklaaDoor
