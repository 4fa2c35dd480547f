/- Proved here: that each Go function does what its shallow function says -/
import Derived.Test.YtilfniehellmmaaSh
import Derived.Test.YtilfniehellmmaaTy
import Derived.Test.YtilfniehellmmaaK13
import Derived.Test.YtilfniehellmmaaW0
namespace Go.Proofs.Ytilfniehellmmaa
open Go Go.RowKit
set_option linter.unusedVariables false
set_option linter.unusedSimpArgs false
set_option maxRecDepth 100000
set_option maxHeartbeats 40000000

open Go.IntKind (i64)
open Go.Value (int)
theorem c_spec_l4Four (F : Nat) (p0_g_Size : Int) (p0_g_Rows : List Int) (p1_kind : Int) (p0_g_Rowsv : Value) {r : (List (Int)) × Bool} (hF : S_spec_l4Four F p0_g_Size p0_g_Rows p1_kind = some r) (w0 : World) (h0 : RdRow w0 p0_g_Rowsv (List.map (int i64) p0_g_Rows)) :
    Calls Try.prog 67 [(Value.agg #[(int i64 p0_g_Size), p0_g_Rowsv]), (int i64 p1_kind)].toArray w0 (retPost fun v w' => ∃ v156, v = (Value.tuple #[v156, (Value.bool r.2)]) ∧ Mem Nob w0 w' [(true, ow 3 v156 (List.map (int i64) r.1))]) := by
 have hM : Mem Nob w0 w0 [(false, rd p0_g_Rowsv (List.map (int i64) p0_g_Rows))] := (Mem.rcons (Mem.nil w0) h0 (by simp))
 refine enter2 Try.func67 rfl rfl rfl fun Q a hQr hQn hQp hS => ?_
 have hS : Sl 71 [(0, (Value.agg #[(int i64 p0_g_Size), p0_g_Rowsv])), (1, (int i64 p1_kind))] a := hS
 unfold S_spec_l4Four at hF
 refine wp_seq_k fun K1 hK1 => ?_
 refine wp_region_lit ?_
 obtain ⟨b3, w, hr, hM⟩ := hM.boxE (ρ := a.eval) (dst := some 2) (ty := _) (pos := _) (af := _) (gd := _) (x := .tmp 0) (T := 28) [(int i64 p0_g_Size), p0_g_Rowsv] (hS.ev rfl) rfl
 refine st_val hS rfl rfl (by decide) hr fun a hS => ?_
 refine st_val hS rfl rfl (by decide) (rv_assign (hS.ev rfl)) fun a hS => ?_
 refine st_val hS rfl rfl (by decide) (rv_assign (hS.ev rfl)) fun a hS => ?_
 refine wpList_nil ?_
 refine hK1 _ _ ?_
 refine wp_seq_k fun K4 hK4 => ?_
 have hJ1 : ∀ (a : Act) (w : World), Sl 71 [] a → Mem Nob w0 w [] → S_spec_l4Four_j1 F = some r → K4 a w := by
  intro a w hS hM hF
  unfold S_spec_l4Four_j1 at hF
  refine hK4 _ _ ?_
  refine wp_seq_k fun K79 hK79 => ?_
  refine wp_region_lit ?_
  obtain ⟨v81, w, hr, hM⟩ := Mem.litE (f := (int i64)) (dst := some 70) (ty := _) (pos := _) (af := _) (gd := _) (ps := []) ([] : List (Int)) i64_one hM hS Try.underlying22 ty_el_3 rfl rfl rfl rfl
  refine st_val hS rfl rfl (by decide) hr fun a hS => ?_
  refine st_val hS rfl rfl (by decide) (rv_assign (hS.ev rfl)) fun a hS => ?_
  refine st_val hS rfl rfl (by decide) (rv_assign (hS.ev rfl)) fun a hS => ?_
  refine wpList_nil ?_
  refine hK79 _ _ ?_
  refine wp_ret ?_
  cases hF
  exact hQr _ _ (r_2 hS rfl rfl rfl ⟨v81, rfl, hM.pick [0] (by decide) rfl⟩)
 refine wp_seq_k fun K82 hK82 => ?_
 refine wp_region_lit ?_
 refine st_val hS rfl rfl (by decide) (rv_assign (hS.ev rfl)) fun a hS => ?_
 refine wpList_nil ?_
 refine hK82 _ _ ?_
 refine wp_block ?_
 obtain ⟨lb2, hl2, hF2⟩ := bind_some hF
 refine wp_loop_sh (fun s => S_spec_l4Four_l2 F p0_g_Size p0_g_Rows p1_kind s) (fun s a w => Sl 71 [(1, (int i64 p1_kind)), (2, (fdp b3 0)), (6, (int i64 s))] a ∧ Mem Nob w0 w [(true, bx b3 28 [(int i64 p0_g_Size), p0_g_Rowsv]), (false, rd p0_g_Rowsv (List.map (int i64) p0_g_Rows))]) hl2 ⟨(hS.sub (sub_cons rfl (sub_cons rfl (sub_cons rfl sub_nil)))), (hM.pick [0, 1] (by decide) rfl)⟩ ?_
 rintro K2 x83 a w res2 ⟨hS, hM⟩ hF hN2 hX2
 have hF : S_spec_l4Four_l2 F p0_g_Size p0_g_Rows p1_kind x83 = some res2 := hF
 have hS : Sl 71 [(1, (int i64 p1_kind)), (2, (fdp b3 0)), (6, (int i64 x83))] a := hS
 have hM : Mem Nob w0 w [(true, bx b3 28 [(int i64 p0_g_Size), p0_g_Rowsv]), (false, rd p0_g_Rowsv (List.map (int i64) p0_g_Rows))] := hM
 unfold S_spec_l4Four_l2 at hF
 refine wp_seq_k fun K120 hK120 => ?_
 refine wp_seq_k fun K125 hK125 => ?_
 have hJ3 : ∀ (p127 : Bool) (a : Act) (w : World), Sl 71 [(1, (int i64 p1_kind)), (2, (fdp b3 0)), (6, (int i64 x83)), (25, (Value.bool p127))] a → Mem Nob w0 w [(true, bx b3 28 [(int i64 p0_g_Size), p0_g_Rowsv]), (false, rd p0_g_Rowsv (List.map (int i64) p0_g_Rows))] → S_spec_l4Four_j3 F p0_g_Size p0_g_Rows p1_kind x83 p127 = some res2 → K125 a w := by
  intro p127 a w hS hM hF
  unfold S_spec_l4Four_j3 at hF
  refine hK125 _ _ ?_
  rcases ite_some hF with ⟨hc, hF⟩ | ⟨hc, hF⟩
  ·refine cond_t hS rfl hc ?_
   refine wp_skip ?_
   refine hK120 _ _ ?_
   refine wp_seq_k fun K128 hK128 => ?_
   refine wp_block ?_
   refine wp_seq_k fun K142 hK142 => ?_
   refine wp_region_lit ?_
   refine st_val hS rfl rfl (by decide) (rv_fieldAddr ty_fd_28_0 (hS.ev rfl)) fun a hS => ?_
   refine st_val hS rfl rfl (by decide) (rv_load_bx (hS.ev rfl) ty_ag_3 (hM.get 0 rfl) rfl) fun a hS => ?_
   refine st_val hS rfl rfl (by decide) (rv_assign (hS.ev rfl)) fun a hS => ?_
   refine wpList_nil ?_
   refine hK142 _ _ ?_
   refine wp_seq_k fun K143 hK143 => ?_
   refine an_startB 24 Nob ty_mixed (by kernel_rfl) fun w hf => ?_
   have hM := hM.fra hf
   have hB := hM
   have hM := hB.reg0
   refine tkB hS 0 1 (by kernel_rfl) rfl rfl rfl hQp rfl (fun w' hC' => (rv_move (hS.ev rfl))) hM.fr fun a hS => ?_
   refine tkB hS 1 3 (by kernel_rfl) rfl rfl rfl hQp rfl (fun w' hC' => (rv_move (hS.ev rfl))) hM.fr fun a hS => ?_
   refine tkB hS 2 7 (by kernel_rfl) rfl rfl rfl hQp rfl (fun w' hC' => (rv_move (hS.ev rfl))) hM.fr fun a hS => ?_
   refine tkB hS 3 15 (by kernel_rfl) rfl rfl rfl hQp rfl (fun w' hC' => (rv_mul (hS.ev rfl) (hS.ev rfl))) hM.fr fun a hS => ?_
   refine tkB hS 4 31 (by kernel_rfl) rfl rfl rfl hQp rfl (fun w' hC' => (rv_move (hS.ev rfl))) hM.fr fun a hS => ?_
   refine tkB hS 5 63 (by kernel_rfl) rfl rfl rfl hQp rfl (fun w' hC' => (rv_mul (hS.ev rfl) (hS.ev rfl))) hM.fr fun a hS => ?_
   obtain ⟨_, hx, hF⟩ := bind_some hF
   have hi0 := nzO_some hx
   refine tkB hS 6 127 (by kernel_rfl) rfl rfl rfl hQp rfl (fun w' hC' => (rv_quo (hS.ev rfl) (hS.ev rfl) hi0)) hM.fr fun a hS => ?_
   refine tkB hS 7 255 (by kernel_rfl) rfl rfl rfl hQp rfl (fun w' hC' => (rv_move (hS.ev rfl))) hM.fr fun a hS => ?_
   refine tkB hS 8 511 (by kernel_rfl) rfl rfl rfl hQp rfl (fun w' hC' => (rv_move (hS.ev rfl))) hM.fr fun a hS => ?_
   refine tkB hS 9 1023 (by kernel_rfl) rfl rfl rfl hQp rfl (fun w' hC' => (rv_move (hS.ev rfl))) hM.fr fun a hS => ?_
   refine tkB hS 10 2047 (by kernel_rfl) rfl rfl rfl hQp rfl (fun w' hC' => (rv_mul (hS.ev rfl) (hS.ev rfl))) hM.fr fun a hS => ?_
   obtain ⟨_, hx, hF⟩ := bind_some hF
   have hi0 := nzO_some hx
   refine tkB hS 11 4095 (by kernel_rfl) rfl rfl rfl hQp rfl (fun w' hC' => (rv_quo (hS.ev rfl) (hS.ev rfl) hi0)) hM.fr fun a hS => ?_
   refine tkB hS 12 8191 (by kernel_rfl) rfl rfl rfl hQp rfl (fun w' hC' => (rv_move (hS.ev rfl))) hM.fr fun a hS => ?_
   obtain ⟨_, hx, hF⟩ := bind_some hF
   have hi0 := nzO_some hx
   refine tkB hS 13 16383 (by kernel_rfl) rfl rfl rfl hQp rfl (fun w' hC' => (rv_rem (hS.ev rfl) (hS.ev rfl) hi0)) hM.fr fun a hS => ?_
   refine tkB hS 14 32767 (by kernel_rfl) rfl rfl rfl hQp rfl (fun w' hC' => (rv_move (hS.ev rfl))) hM.fr fun a hS => ?_
   refine tkB hS 15 65535 (by kernel_rfl) rfl rfl rfl hQp rfl (fun w' hC' => (rv_move (hS.ev rfl))) hM.fr fun a hS => ?_
   obtain ⟨_, hx, hF⟩ := bind_some hF
   have hi0 := nzO_some hx
   refine tkB hS 16 131071 (by kernel_rfl) rfl rfl rfl hQp rfl (fun w' hC' => (rv_quo (hS.ev rfl) (hS.ev rfl) hi0)) hM.fr fun a hS => ?_
   refine tkB hS 17 262143 (by kernel_rfl) rfl rfl rfl hQp rfl (fun w' hC' => (rv_move (hS.ev rfl))) hM.fr fun a hS => ?_
   obtain ⟨_, hx, hF⟩ := bind_some hF
   have hi0 := nzO_some hx
   refine tkB hS 18 524287 (by kernel_rfl) rfl rfl rfl hQp rfl (fun w' hC' => (rv_rem (hS.ev rfl) (hS.ev rfl) hi0)) hM.fr fun a hS => ?_
   refine tkB hS 19 1048575 (by kernel_rfl) rfl rfl rfl hQp rfl (fun w' hC' => (rv_move (hS.ev rfl))) hM.fr fun a hS => ?_
   refine tkB hS 20 2097151 (by kernel_rfl) rfl rfl rfl hQp rfl (fun w' hC' => (rv_move (hS.ev rfl))) hM.fr fun a hS => ?_
   obtain ⟨_, hx, hF⟩ := bind_some hF
   have hi0 := nzO_some hx
   refine tkB hS 21 4194303 (by kernel_rfl) rfl rfl rfl hQp rfl (fun w' hC' => (rv_rem (hS.ev rfl) (hS.ev rfl) hi0)) hM.fr fun a hS => ?_
   obtain ⟨v145, w, hr, hM⟩ := Mem.litE (f := (int i64)) (dst := some 52) (ty := _) (pos := _) (af := _) (gd := _) (ps := [(0, .tmp 36), (1, .tmp 43), (2, .tmp 48), (3, .tmp 51)]) ([(i64.wrap (x83.tdiv (i64.wrap ((i64.wrap (p0_g_Size * p0_g_Size)) * p0_g_Size)))), ((i64.wrap (x83.tdiv (i64.wrap (p0_g_Size * p0_g_Size)))).tmod p0_g_Size), ((i64.wrap (x83.tdiv p0_g_Size)).tmod p0_g_Size), (x83.tmod p0_g_Size)] : List (Int)) i64_one hM hS Try.underlying22 ty_el_3 rfl rfl rfl rfl
   refine an_oneB hS (i := 22) 8388607 (by kernel_rfl) rfl (by kernel_rfl) rfl ?_
   refine wp_val hS rfl (by decide) hr fun a hS => ⟨hM.fr, ?_⟩
   refine tkB hS 23 16777215 (by kernel_rfl) rfl rfl rfl hQp rfl (fun w' hC' => (rv_assign (hS.ev rfl))) hM.fr fun a hS => ?_
   refine an_done (by kernel_rfl) ?_
   have hN := hM.pick [0] (by decide) rfl
   have hM := Mem.callo0 hB hN rfl
   refine hK143 _ _ ?_
   have hS : Sl 71 [(1, (int i64 p1_kind)), (2, (fdp b3 0)), (6, (int i64 x83)), (8, v145)] a := hS.sub (sub_cons rfl (sub_cons rfl (sub_cons rfl (sub_cons rfl sub_nil))))
   refine wp_seq_k fun K146 hK146 => ?_
   have hJ4 : ∀ (p150 : Bool) (a : Act) (w : World), Sl 71 [(1, (int i64 p1_kind)), (2, (fdp b3 0)), (6, (int i64 x83)), (8, v145), (68, (Value.bool p150))] a → Mem Nob w0 w [(true, bx b3 28 [(int i64 p0_g_Size), p0_g_Rowsv]), (false, rd p0_g_Rowsv (List.map (int i64) p0_g_Rows)), (true, ow 3 v145 (List.map (int i64) ([(i64.wrap (x83.tdiv (i64.wrap ((i64.wrap (p0_g_Size * p0_g_Size)) * p0_g_Size)))), ((i64.wrap (x83.tdiv (i64.wrap (p0_g_Size * p0_g_Size)))).tmod p0_g_Size), ((i64.wrap (x83.tdiv p0_g_Size)).tmod p0_g_Size), (x83.tmod p0_g_Size)] : List (Int))))] → S_spec_l4Four_j4 F p0_g_Size x83 p150 = some res2 → K146 a w := by
    intro p150 a w hS hM hF
    unfold S_spec_l4Four_j4 at hF
    refine hK146 _ _ ?_
    rcases ite_some hF with ⟨hc, hF⟩ | ⟨hc, hF⟩
    ·refine cond_t hS rfl hc ?_
     refine wp_seq_k fun K151 hK151 => ?_
     refine wp_region_lit ?_
     refine st_val hS rfl rfl (by decide) (rv_move (hS.ev rfl)) fun a hS => ?_
     refine st_val hS rfl rfl (by decide) (rv_assign (hS.ev rfl)) fun a hS => ?_
     refine st_val hS rfl rfl (by decide) (rv_assign (hS.ev rfl)) fun a hS => ?_
     refine wpList_nil ?_
     refine hK151 _ _ ?_
     refine wp_ret ?_
     cases hF
     have e := hX2 _ rfl
     subst e
     have hF := hF2
     cases hF
     exact hQr _ _ (r_2 hS rfl rfl rfl ⟨v145, rfl, hM.pick [2] (by decide) rfl⟩)
    ·refine cond_f hS rfl hc ?_
     refine wp_skip ?_
     refine hK128 _ _ ?_
     refine wp_region_lit ?_
     refine st_val hS rfl rfl (by decide) (rv_move (hS.ev rfl)) fun a hS => ?_
     refine st_val hS rfl rfl (by decide) (rv_add (hS.ev rfl) (hS.ev rfl)) fun a hS => ?_
     refine st_val hS rfl rfl (by decide) (rv_assign (hS.ev rfl)) fun a hS => ?_
     refine wpList_nil ?_
     cases hF
     exact hN2 _ _ _ rfl ⟨(hS.sub (sub_cons rfl (sub_cons rfl (sub_cons rfl sub_nil)))), (hM.pick [0, 1] (by decide) rfl)⟩
   refine wp_region_lit ?_
   refine st_val hS rfl rfl (by decide) (rv_move (hS.ev rfl)) fun a hS => ?_
   refine st_val hS rfl rfl (by decide) (rv_eql (hS.ev rfl) (hS.ev rfl)) fun a hS => ?_
   refine st_val hS rfl rfl (by decide) (rv_move (hS.ev rfl)) fun a hS => ?_
   rcases ite_some hF with ⟨hc, hF⟩ | ⟨hc, hF⟩
   ·have hS := hS.setb (t := 55) rfl hc
    refine st_val hS rfl rfl (by decide) (rv_load_agg (hS.ev rfl) ty_ag_28 (hM.get 1 rfl) ty_sz_28) fun a hS => ?_
    refine st_val hS rfl rfl (by decide) (rv_move (hS.ev rfl)) fun a hS => ?_
    obtain ⟨r152, hr, hF⟩ := bind_some hF
    refine st_wp hS rfl (wp_call hS rfl rfl (by decide) fn_ok_44 rfl (c_spec_IsTwoEdges F p0_g_Size p0_g_Rows ([(i64.wrap (x83.tdiv (i64.wrap ((i64.wrap (p0_g_Size * p0_g_Size)) * p0_g_Size)))), ((i64.wrap (x83.tdiv (i64.wrap (p0_g_Size * p0_g_Size)))).tmod p0_g_Size), ((i64.wrap (x83.tdiv p0_g_Size)).tmod p0_g_Size), (x83.tmod p0_g_Size)] : List (Int)) p0_g_Rowsv v145 hr _ (hM.get 2 rfl) (rd_of_ow (hM.get 0 rfl))) fun v w a hK hS => ?_)
    obtain ⟨rfl, hN⟩ := hK
    have hM := hM.fra hN.fr
    refine st_val hS rfl rfl (by decide) (rv_pick_t (hS.ev rfl) (hS.ev rfl)) fun a hS => ?_
    refine st_val hS rfl rfl (by decide) (rv_move (hS.ev rfl)) fun a hS => ?_
    rcases ite_some hF with ⟨hc, hF⟩ | ⟨hc, hF⟩
    ·have hS := hS.setb (t := 60) rfl hc
     refine st_skip hS rfl rfl (by decide) fun a hS => ?_
     refine st_skip hS rfl rfl (by decide) fun a hS => ?_
     refine st_skip hS rfl rfl (by decide) fun a hS => ?_
     refine st_skip hS rfl rfl (by decide) fun a hS => ?_
     refine st_skip hS rfl rfl (by decide) fun a hS => ?_
     refine st_skip hS rfl rfl (by decide) fun a hS => ?_
     refine st_skip hS rfl rfl (by decide) fun a hS => ?_
     refine st_val hS rfl rfl (by decide) (rv_pick_t (hS.ev rfl) (hS.ev rfl)) fun a hS => ?_
     refine wpList_nil ?_
     exact hJ4 true _ _ (hS.sub (sub_cons rfl (sub_cons rfl (sub_cons rfl (sub_cons rfl (sub_cons rfl sub_nil)))))) (hM.pick [1, 2, 0] (by decide) rfl) hF
    ·have hS := hS.setb (t := 60) rfl hc
     refine st_val hS rfl rfl (by decide) (rv_move (hS.ev rfl)) fun a hS => ?_
     refine st_val hS rfl rfl (by decide) (rv_eql (hS.ev rfl) (hS.ev rfl)) fun a hS => ?_
     refine st_val hS rfl rfl (by decide) (rv_move (hS.ev rfl)) fun a hS => ?_
     rcases ite_some hF with ⟨hc, hF⟩ | ⟨hc, hF⟩
     ·have hS := hS.setb (t := 63) rfl hc
      refine st_val hS rfl rfl (by decide) (rv_load_agg (hS.ev rfl) ty_ag_28 (hM.get 1 rfl) ty_sz_28) fun a hS => ?_
      refine st_val hS rfl rfl (by decide) (rv_move (hS.ev rfl)) fun a hS => ?_
      obtain ⟨r153, hr, hF⟩ := bind_some hF
      refine st_wp hS rfl (wp_call hS rfl rfl (by decide) fn_ok_43 rfl (c_spec_IsClaw F p0_g_Size p0_g_Rows ([(i64.wrap (x83.tdiv (i64.wrap ((i64.wrap (p0_g_Size * p0_g_Size)) * p0_g_Size)))), ((i64.wrap (x83.tdiv (i64.wrap (p0_g_Size * p0_g_Size)))).tmod p0_g_Size), ((i64.wrap (x83.tdiv p0_g_Size)).tmod p0_g_Size), (x83.tmod p0_g_Size)] : List (Int)) p0_g_Rowsv v145 hr _ (hM.get 2 rfl) (rd_of_ow (hM.get 0 rfl))) fun v w a hK hS => ?_)
      obtain ⟨rfl, hN⟩ := hK
      have hM := hM.fra hN.fr
      refine st_val hS rfl rfl (by decide) (rv_pick_t (hS.ev rfl) (hS.ev rfl)) fun a hS => ?_
      refine st_val hS rfl rfl (by decide) (rv_pick_f (hS.ev rfl) (hS.ev rfl)) fun a hS => ?_
      refine wpList_nil ?_
      exact hJ4 r153 _ _ (hS.sub (sub_cons rfl (sub_cons rfl (sub_cons rfl (sub_cons rfl (sub_cons rfl sub_nil)))))) (hM.pick [1, 2, 0] (by decide) rfl) hF
     ·have hS := hS.setb (t := 63) rfl hc
      refine st_skip hS rfl rfl (by decide) fun a hS => ?_
      refine st_skip hS rfl rfl (by decide) fun a hS => ?_
      refine st_skip hS rfl rfl (by decide) fun a hS => ?_
      refine st_val hS rfl rfl (by decide) (rv_pick_f (hS.ev rfl) (hS.ev rfl)) fun a hS => ?_
      refine st_val hS rfl rfl (by decide) (rv_pick_f (hS.ev rfl) (hS.ev rfl)) fun a hS => ?_
      refine wpList_nil ?_
      exact hJ4 false _ _ (hS.sub (sub_cons rfl (sub_cons rfl (sub_cons rfl (sub_cons rfl (sub_cons rfl sub_nil)))))) (hM.pick [1, 2, 0] (by decide) rfl) hF
   ·have hS := hS.setb (t := 55) rfl hc
    refine st_skip hS rfl rfl (by decide) fun a hS => ?_
    refine st_skip hS rfl rfl (by decide) fun a hS => ?_
    refine st_skip hS rfl rfl (by decide) fun a hS => ?_
    refine st_val hS rfl rfl (by decide) (rv_pick_f (hS.ev rfl) (hS.ev rfl)) fun a hS => ?_
    refine st_val hS rfl rfl (by decide) (rv_move (hS.ev rfl)) fun a hS => ?_
    refine st_val hS rfl rfl (by decide) (rv_move (hS.ev rfl)) fun a hS => ?_
    refine st_val hS rfl rfl (by decide) (rv_eql (hS.ev rfl) (hS.ev rfl)) fun a hS => ?_
    refine st_val hS rfl rfl (by decide) (rv_move (hS.ev rfl)) fun a hS => ?_
    rcases ite_some hF with ⟨hc, hF⟩ | ⟨hc, hF⟩
    ·have hS := hS.setb (t := 63) rfl hc
     refine st_val hS rfl rfl (by decide) (rv_load_agg (hS.ev rfl) ty_ag_28 (hM.get 1 rfl) ty_sz_28) fun a hS => ?_
     refine st_val hS rfl rfl (by decide) (rv_move (hS.ev rfl)) fun a hS => ?_
     obtain ⟨r154, hr, hF⟩ := bind_some hF
     refine st_wp hS rfl (wp_call hS rfl rfl (by decide) fn_ok_43 rfl (c_spec_IsClaw F p0_g_Size p0_g_Rows ([(i64.wrap (x83.tdiv (i64.wrap ((i64.wrap (p0_g_Size * p0_g_Size)) * p0_g_Size)))), ((i64.wrap (x83.tdiv (i64.wrap (p0_g_Size * p0_g_Size)))).tmod p0_g_Size), ((i64.wrap (x83.tdiv p0_g_Size)).tmod p0_g_Size), (x83.tmod p0_g_Size)] : List (Int)) p0_g_Rowsv v145 hr _ (hM.get 2 rfl) (rd_of_ow (hM.get 0 rfl))) fun v w a hK hS => ?_)
     obtain ⟨rfl, hN⟩ := hK
     have hM := hM.fra hN.fr
     refine st_val hS rfl rfl (by decide) (rv_pick_t (hS.ev rfl) (hS.ev rfl)) fun a hS => ?_
     refine st_val hS rfl rfl (by decide) (rv_pick_f (hS.ev rfl) (hS.ev rfl)) fun a hS => ?_
     refine wpList_nil ?_
     exact hJ4 r154 _ _ (hS.sub (sub_cons rfl (sub_cons rfl (sub_cons rfl (sub_cons rfl (sub_cons rfl sub_nil)))))) (hM.pick [1, 2, 0] (by decide) rfl) hF
    ·have hS := hS.setb (t := 63) rfl hc
     refine st_skip hS rfl rfl (by decide) fun a hS => ?_
     refine st_skip hS rfl rfl (by decide) fun a hS => ?_
     refine st_skip hS rfl rfl (by decide) fun a hS => ?_
     refine st_val hS rfl rfl (by decide) (rv_pick_f (hS.ev rfl) (hS.ev rfl)) fun a hS => ?_
     refine st_val hS rfl rfl (by decide) (rv_pick_f (hS.ev rfl) (hS.ev rfl)) fun a hS => ?_
     refine wpList_nil ?_
     exact hJ4 false _ _ (hS.sub (sub_cons rfl (sub_cons rfl (sub_cons rfl (sub_cons rfl (sub_cons rfl sub_nil)))))) (hM.pick [1, 2, 0] (by decide) rfl) hF
  ·refine cond_f hS rfl hc ?_
   refine wp_exit ?_
   cases hF
   exact hJ1 _ _ (hS.sub sub_nil) (hM.pick [] (by decide) rfl) (by have e := hX2 _ rfl; subst e; exact hF2)
 refine wp_region_lit ?_
 refine st_val hS rfl rfl (by decide) (rv_load_agg (hS.ev rfl) ty_ag_28 (hM.get 0 rfl) ty_sz_28) fun a hS => ?_
 obtain ⟨r155, hr, hF⟩ := bind_some hF
 refine st_wp hS rfl (wp_call hS rfl rfl (by decide) fn_ok_73 rfl (c_spec_IsGraph F p0_g_Size p0_g_Rows p0_g_Rowsv hr _ (hM.get 1 rfl)) fun v w a hK hS => ?_)
 obtain ⟨rfl, hN⟩ := hK
 have hM := hM.fra hN.fr
 refine st_val hS rfl rfl (by decide) (rv_move (hS.ev rfl)) fun a hS => ?_
 rcases ite_some hF with ⟨hc, hF⟩ | ⟨hc, hF⟩
 ·have hS := hS.setb (t := 11) rfl hc
  refine st_val hS rfl rfl (by decide) (rv_move (hS.ev rfl)) fun a hS => ?_
  refine st_val hS rfl rfl (by decide) (rv_fieldAddr ty_fd_28_0 (hS.ev rfl)) fun a hS => ?_
  refine st_val hS rfl rfl (by decide) (rv_load_bx (hS.ev rfl) ty_ag_3 (hM.get 0 rfl) rfl) fun a hS => ?_
  refine st_val hS rfl rfl (by decide) (rv_fieldAddr ty_fd_28_0 (hS.ev rfl)) fun a hS => ?_
  refine st_val hS rfl rfl (by decide) (rv_load_bx (hS.ev rfl) ty_ag_3 (hM.get 0 rfl) rfl) fun a hS => ?_
  refine st_val hS rfl rfl (by decide) (rv_mul (hS.ev rfl) (hS.ev rfl)) fun a hS => ?_
  refine st_val hS rfl rfl (by decide) (rv_fieldAddr ty_fd_28_0 (hS.ev rfl)) fun a hS => ?_
  refine st_val hS rfl rfl (by decide) (rv_load_bx (hS.ev rfl) ty_ag_3 (hM.get 0 rfl) rfl) fun a hS => ?_
  refine st_val hS rfl rfl (by decide) (rv_mul (hS.ev rfl) (hS.ev rfl)) fun a hS => ?_
  refine st_val hS rfl rfl (by decide) (rv_fieldAddr ty_fd_28_0 (hS.ev rfl)) fun a hS => ?_
  refine st_val hS rfl rfl (by decide) (rv_load_bx (hS.ev rfl) ty_ag_3 (hM.get 0 rfl) rfl) fun a hS => ?_
  refine st_val hS rfl rfl (by decide) (rv_mul (hS.ev rfl) (hS.ev rfl)) fun a hS => ?_
  refine st_val hS rfl rfl (by decide) (rv_lss (hS.ev rfl) (hS.ev rfl)) fun a hS => ?_
  refine st_val hS rfl rfl (by decide) (rv_pick_t (hS.ev rfl) (hS.ev rfl)) fun a hS => ?_
  refine wpList_nil ?_
  exact hJ3 (decide (x83 < (i64.wrap ((i64.wrap ((i64.wrap (p0_g_Size * p0_g_Size)) * p0_g_Size)) * p0_g_Size)))) _ _ (hS.sub (sub_cons rfl (sub_cons rfl (sub_cons rfl (sub_cons rfl sub_nil))))) (hM.pick [0, 1] (by decide) rfl) hF
 ·have hS := hS.setb (t := 11) rfl hc
  refine st_skip hS rfl rfl (by decide) fun a hS => ?_
  refine st_skip hS rfl rfl (by decide) fun a hS => ?_
  refine st_skip hS rfl rfl (by decide) fun a hS => ?_
  refine st_skip hS rfl rfl (by decide) fun a hS => ?_
  refine st_skip hS rfl rfl (by decide) fun a hS => ?_
  refine st_skip hS rfl rfl (by decide) fun a hS => ?_
  refine st_skip hS rfl rfl (by decide) fun a hS => ?_
  refine st_skip hS rfl rfl (by decide) fun a hS => ?_
  refine st_skip hS rfl rfl (by decide) fun a hS => ?_
  refine st_skip hS rfl rfl (by decide) fun a hS => ?_
  refine st_skip hS rfl rfl (by decide) fun a hS => ?_
  refine st_skip hS rfl rfl (by decide) fun a hS => ?_
  refine st_skip hS rfl rfl (by decide) fun a hS => ?_
  refine st_val hS rfl rfl (by decide) (rv_pick_f (hS.ev rfl) (hS.ev rfl)) fun a hS => ?_
  refine wpList_nil ?_
  exact hJ3 false _ _ (hS.sub (sub_cons rfl (sub_cons rfl (sub_cons rfl (sub_cons rfl sub_nil))))) (hM.pick [0, 1] (by decide) rfl) hF


theorem c_spec_FindClaw (F : Nat) (p0_g_Size : Int) (p0_g_Rows : List Int) (p0_g_Rowsv : Value) {r : (List (Int)) × Bool} (hF : S_spec_FindClaw F p0_g_Size p0_g_Rows = some r) (w0 : World) (h0 : RdRow w0 p0_g_Rowsv (List.map (int i64) p0_g_Rows)) :
    Calls Try.prog 10 [(Value.agg #[(int i64 p0_g_Size), p0_g_Rowsv])].toArray w0 (retPost fun v w' => ∃ v10, v = (Value.tuple #[v10, (Value.bool r.2)]) ∧ Mem Nob w0 w' [(true, ow 3 v10 (List.map (int i64) r.1))]) := by
 have hM : Mem Nob w0 w0 [(false, rd p0_g_Rowsv (List.map (int i64) p0_g_Rows))] := (Mem.rcons (Mem.nil w0) h0 (by simp))
 refine enter2 Try.func10 rfl rfl rfl fun Q a hQr hQn hQp hS => ?_
 have hS : Sl 13 [(0, (Value.agg #[(int i64 p0_g_Size), p0_g_Rowsv]))] a := hS
 unfold S_spec_FindClaw at hF
 refine wp_seq_k fun K1 hK1 => ?_
 refine wp_region_lit ?_
 obtain ⟨b3, w, hr, hM⟩ := hM.boxE (ρ := a.eval) (dst := some 1) (ty := _) (pos := _) (af := _) (gd := _) (x := .tmp 0) (T := 28) [(int i64 p0_g_Size), p0_g_Rowsv] (hS.ev rfl) rfl
 refine st_val hS rfl rfl (by decide) hr fun a hS => ?_
 refine st_val hS rfl rfl (by decide) (rv_assign (hS.ev rfl)) fun a hS => ?_
 refine st_val hS rfl rfl (by decide) (rv_assign (hS.ev rfl)) fun a hS => ?_
 refine wpList_nil ?_
 refine hK1 _ _ ?_
 refine wp_seq_k fun K4 hK4 => ?_
 refine wp_region_lit ?_
 refine st_val hS rfl rfl (by decide) (rv_load_agg (hS.ev rfl) ty_ag_28 (hM.get 0 rfl) ty_sz_28) fun a hS => ?_
 obtain ⟨r7, hr, hF⟩ := bind_some hF
 refine st_wp hS rfl (wp_call hS rfl rfl (by decide) fn_ok_67 rfl (c_spec_l4Four F p0_g_Size p0_g_Rows 1 p0_g_Rowsv hr _ (hM.get 1 rfl)) fun v w a hK hS => ?_)
 obtain ⟨v8, rfl, hN⟩ := hK
 have hM := hM.add hN rfl
 refine st_val hS rfl rfl (by decide) (rv_move (hS.ev rfl)) fun a hS => ?_
 refine st_val hS rfl rfl (by decide) (rv_extract (hS.ev rfl) rfl) fun a hS => ?_
 refine st_val hS rfl rfl (by decide) (rv_extract (hS.ev rfl) rfl) fun a hS => ?_
 refine st_val hS rfl rfl (by decide) (rv_assign (hS.ev rfl)) fun a hS => ?_
 refine st_val hS rfl rfl (by decide) (rv_assign (hS.ev rfl)) fun a hS => ?_
 refine wpList_nil ?_
 refine hK4 _ _ ?_
 have hS : Sl 13 [(4, v8), (5, (Value.bool r7.2))] a := hS.sub (sub_cons rfl (sub_cons rfl sub_nil))
 have hM := hM.pick [0] (by decide) rfl
 refine wp_seq_k fun K9 hK9 => ?_
 refine wp_region_lit ?_
 refine st_val hS rfl rfl (by decide) (rv_move (hS.ev rfl)) fun a hS => ?_
 refine st_val hS rfl rfl (by decide) (rv_move (hS.ev rfl)) fun a hS => ?_
 refine st_val hS rfl rfl (by decide) (rv_assign (hS.ev rfl)) fun a hS => ?_
 refine st_val hS rfl rfl (by decide) (rv_assign (hS.ev rfl)) fun a hS => ?_
 refine wpList_nil ?_
 refine hK9 _ _ ?_
 refine wp_ret ?_
 cases hF
 exact hQr _ _ (r_2 hS rfl rfl rfl ⟨v8, rfl, hM.pick [0] (by decide) rfl⟩)


theorem c_slices_Index_int (F : Nat) (p0_s : List Int) (p1_v : Int) (p0_sv : Value) {r : Int} (hF : S_slices_Index_int F p0_s p1_v = some r) (w0 : World) (h0 : RdRow w0 p0_sv (List.map (int i64) p0_s)) :
    Calls Try.prog 84 [p0_sv, (int i64 p1_v)].toArray w0 (retPost fun v w' => v = (int i64 r) ∧ Mem Nob w0 w' []) := by
 have hM : Mem Nob w0 w0 [(false, rd p0_sv (List.map (int i64) p0_s))] := (Mem.rcons (Mem.nil w0) h0 (by simp))
 refine enter2 Try.func84 rfl rfl rfl fun Q a hQr hQn hQp hS => ?_
 have hS : Sl 19 [(0, p0_sv), (1, (int i64 p1_v))] a := hS
 unfold S_slices_Index_int at hF
 refine wp_seq_k fun K1 hK1 => ?_
 refine wp_region_lit ?_
 refine st_val hS rfl rfl (by decide) (rv_assign (hS.ev rfl)) fun a hS => ?_
 refine wpList_nil ?_
 refine hK1 _ _ ?_
 refine wp_seq_k fun K2 hK2 => ?_
 have hJ1 : ∀ (a : Act) (w : World), Sl 19 [] a → Mem Nob w0 w [] → S_slices_Index_int_j1 F = some r → K2 a w := by
  intro a w hS hM hF
  unfold S_slices_Index_int_j1 at hF
  refine hK2 _ _ ?_
  refine wp_seq_k fun K31 hK31 => ?_
  refine wp_region_lit ?_
  refine st_val hS rfl rfl (by decide) (rv_assign (hS.ev rfl)) fun a hS => ?_
  refine wpList_nil ?_
  refine hK31 _ _ ?_
  refine wp_ret ?_
  cases hF
  exact hQr _ _ (r_1 hS rfl rfl ⟨rfl, hM.pick [] (by decide) rfl⟩)
 refine wp_seq_k fun K32 hK32 => ?_
 refine wp_region_lit ?_
 refine st_val hS rfl rfl (by decide) (rv_move (hS.ev rfl)) fun a hS => ?_
 refine st_val hS rfl rfl (by decide) (rv_len_rowM Try.underlying22 (hS.ev rfl) (hM.get 0 rfl)) fun a hS => ?_
 refine st_val hS rfl rfl (by decide) (rv_move (hS.ev rfl)) fun a hS => ?_
 refine wpList_nil ?_
 refine hK32 _ _ ?_
 refine wp_block ?_
 obtain ⟨lb2, hl2, hF2⟩ := bind_some hF
 refine wp_loop_sh (fun s => S_slices_Index_int_l2 F p0_s p1_v s) (fun s a w => Sl 19 [(0, p0_sv), (1, (int i64 p1_v)), (7, (int i64 (p0_s.length : Int))), (8, (int i64 s))] a ∧ Mem Nob w0 w [(false, rd p0_sv (List.map (int i64) p0_s))]) hl2 ⟨(hS.sub (sub_cons rfl (sub_cons rfl (sub_cons rfl (sub_cons rfl sub_nil))))), (hM.pick [0] (by decide) rfl)⟩ ?_
 rintro K2 x33 a w res2 ⟨hS, hM⟩ hF hN2 hX2
 have hF : S_slices_Index_int_l2 F p0_s p1_v x33 = some res2 := hF
 have hS : Sl 19 [(0, p0_sv), (1, (int i64 p1_v)), (7, (int i64 (p0_s.length : Int))), (8, (int i64 x33))] a := hS
 have hM : Mem Nob w0 w [(false, rd p0_sv (List.map (int i64) p0_s))] := hM
 unfold S_slices_Index_int_l2 at hF
 refine wp_seq_k fun K47 hK47 => ?_
 refine wp_region_lit ?_
 refine st_val hS rfl rfl (by decide) (rv_lss (hS.ev rfl) (hS.ev rfl)) fun a hS => ?_
 refine wpList_nil ?_
 refine hK47 _ _ ?_
 refine wp_seq_k fun K48 hK48 => ?_
 rcases ite_some hF with ⟨hc, hF⟩ | ⟨hc, hF⟩
 ·refine cond_t hS rfl hc ?_
  refine wp_skip ?_
  refine hK48 _ _ ?_
  refine wp_seq_k fun K49 hK49 => ?_
  refine wp_block ?_
  refine wp_seq_k fun K55 hK55 => ?_
  refine wp_region_lit ?_
  refine st_val hS rfl rfl (by decide) (rv_move (hS.ev rfl)) fun a hS => ?_
  refine st_val hS rfl rfl (by decide) (rv_assign (hS.ev rfl)) fun a hS => ?_
  refine wpList_nil ?_
  refine hK55 _ _ ?_
  refine wp_seq_k fun K56 hK56 => ?_
  refine wp_region_lit ?_
  refine st_val hS rfl rfl (by decide) (rv_move (hS.ev rfl)) fun a hS => ?_
  refine st_val hS rfl rfl (by decide) (rv_move (hS.ev rfl)) fun a hS => ?_
  refine st_val hS rfl rfl (by decide) (rv_move (hS.ev rfl)) fun a hS => ?_
  obtain ⟨x58, hx, hF⟩ := bind_some hF
  obtain ⟨hi0, hi1, hex58⟩ := idxL_some hx
  refine st_val hS rfl rfl (by decide) (rv_indexAddr Try.underlying22 ty_el_3 (hS.ev rfl) (hS.ev rfl) (hM.get 0 rfl) hi0 (map_len hi1)) fun a hS => ?_
  refine st_val hS rfl rfl (by decide) (rv_load_el (hS.ev rfl) ty_ag_3 (hM.get 0 rfl) (mget hex58)) fun a hS => ?_
  refine st_val hS rfl rfl (by decide) (rv_eql (hS.ev rfl) (hS.ev rfl)) fun a hS => ?_
  refine wpList_nil ?_
  refine hK56 _ _ ?_
  rcases ite_some hF with ⟨hc, hF⟩ | ⟨hc, hF⟩
  ·refine cond_t hS rfl hc ?_
   refine wp_seq_k fun K59 hK59 => ?_
   refine wp_region_lit ?_
   refine st_val hS rfl rfl (by decide) (rv_move (hS.ev rfl)) fun a hS => ?_
   refine st_val hS rfl rfl (by decide) (rv_assign (hS.ev rfl)) fun a hS => ?_
   refine wpList_nil ?_
   refine hK59 _ _ ?_
   have hS : Sl 19 [(4, (int i64 x33))] a := hS.sub (sub_cons rfl sub_nil)
   have hM := hM.pick [] (by decide) rfl
   refine wp_ret ?_
   cases hF
   have e := hX2 _ rfl
   subst e
   have hF := hF2
   cases hF
   exact hQr _ _ (r_1 hS rfl rfl ⟨rfl, hM.pick [] (by decide) rfl⟩)
  ·refine cond_f hS rfl hc ?_
   refine wp_skip ?_
   refine hK49 _ _ ?_
   have hS : Sl 19 [(0, p0_sv), (1, (int i64 p1_v)), (7, (int i64 (p0_s.length : Int))), (8, (int i64 x33))] a := hS.sub (sub_cons rfl (sub_cons rfl (sub_cons rfl (sub_cons rfl sub_nil))))
   refine wp_region_lit ?_
   refine st_val hS rfl rfl (by decide) (rv_add (hS.ev rfl) (hS.ev rfl)) fun a hS => ?_
   refine st_val hS rfl rfl (by decide) (rv_move (hS.ev rfl)) fun a hS => ?_
   refine wpList_nil ?_
   cases hF
   exact hN2 _ _ _ rfl ⟨(hS.sub (sub_cons rfl (sub_cons rfl (sub_cons rfl (sub_cons rfl sub_nil))))), (hM.pick [0] (by decide) rfl)⟩
 ·refine cond_f hS rfl hc ?_
  refine wp_exit ?_
  cases hF
  exact hJ1 _ _ (hS.sub sub_nil) (hM.pick [] (by decide) rfl) (by have e := hX2 _ rfl; subst e; exact hF2)


theorem c_slices_Contains_int (F : Nat) (p0_s : List Int) (p1_v : Int) (p0_sv : Value) {r : Bool} (hF : S_slices_Contains_int F p0_s p1_v = some r) (w0 : World) (h0 : RdRow w0 p0_sv (List.map (int i64) p0_s)) :
    Calls Try.prog 106 [p0_sv, (int i64 p1_v)].toArray w0 (retPost fun v w' => v = (Value.bool r) ∧ Mem Nob w0 w' []) := by
 have hM : Mem Nob w0 w0 [(false, rd p0_sv (List.map (int i64) p0_s))] := (Mem.rcons (Mem.nil w0) h0 (by simp))
 refine enter2 Try.func106 rfl rfl rfl fun Q a hQr hQn hQp hS => ?_
 have hS : Sl 9 [(0, p0_sv), (1, (int i64 p1_v))] a := hS
 unfold S_slices_Contains_int at hF
 refine wp_seq_k fun K1 hK1 => ?_
 refine wp_region_lit ?_
 refine st_val hS rfl rfl (by decide) (rv_assign (hS.ev rfl)) fun a hS => ?_
 refine wpList_nil ?_
 refine hK1 _ _ ?_
 refine wp_seq_k fun K2 hK2 => ?_
 refine wp_region_lit ?_
 refine st_val hS rfl rfl (by decide) (rv_move (hS.ev rfl)) fun a hS => ?_
 refine st_val hS rfl rfl (by decide) (rv_move (hS.ev rfl)) fun a hS => ?_
 obtain ⟨r4, hr, hF⟩ := bind_some hF
 refine st_wp hS rfl (wp_call hS rfl rfl (by decide) fn_ok_84 rfl (c_slices_Index_int F p0_s p1_v p0_sv hr _ (hM.get 0 rfl)) fun v w a hK hS => ?_)
 obtain ⟨rfl, hN⟩ := hK
 have hM := hM.fra hN.fr
 refine st_val hS rfl rfl (by decide) (rv_geq (hS.ev rfl) (hS.ev rfl)) fun a hS => ?_
 refine st_val hS rfl rfl (by decide) (rv_assign (hS.ev rfl)) fun a hS => ?_
 refine wpList_nil ?_
 refine hK2 _ _ ?_
 refine wp_ret ?_
 cases hF
 exact hQr _ _ (r_1 hS rfl rfl ⟨rfl, hM.pick [] (by decide) rfl⟩)


theorem c_impl_has (F : Nat) (p0_set : Int) (p1_v : Int) {r : Bool} (hF : S_impl_has F p0_set p1_v = some r) (w0 : World) :
    Calls Try.prog 108 [(int i64 p0_set), (int i64 p1_v)].toArray w0 (retPost fun v w' => v = (Value.bool r) ∧ Mem Nob w0 w' []) := by
 have hM : Mem Nob w0 w0 [] := (Mem.nil w0)
 refine enter2 Try.func108 rfl rfl rfl fun Q a hQr hQn hQp hS => ?_
 have hS : Sl 10 [(0, (int i64 p0_set)), (1, (int i64 p1_v))] a := hS
 unfold S_impl_has at hF
 refine wp_seq_k fun K1 hK1 => ?_
 refine wp_region_lit ?_
 refine st_val hS rfl rfl (by decide) (rv_assign (hS.ev rfl)) fun a hS => ?_
 refine wpList_nil ?_
 refine hK1 _ _ ?_
 refine wp_seq_k fun K2 hK2 => ?_
 refine wp_region_lit ?_
 refine st_val hS rfl rfl (by decide) (rv_move (hS.ev rfl)) fun a hS => ?_
 refine st_val hS rfl rfl (by decide) (rv_move (hS.ev rfl)) fun a hS => ?_
 obtain ⟨_, hx, hF⟩ := bind_some hF
 have hi0 := nnO_some hx
 refine st_val hS rfl rfl (by decide) (rv_shr (hS.ev rfl) (hS.ev rfl) hi0) fun a hS => ?_
 refine st_val hS rfl rfl (by decide) (rv_and (hS.ev rfl) (hS.ev rfl)) fun a hS => ?_
 refine st_val hS rfl rfl (by decide) (rv_eql (hS.ev rfl) (hS.ev rfl)) fun a hS => ?_
 refine st_val hS rfl rfl (by decide) (rv_assign (hS.ev rfl)) fun a hS => ?_
 refine wpList_nil ?_
 refine hK2 _ _ ?_
 refine wp_ret ?_
 cases hF
 exact hQr _ _ (r_1 hS rfl rfl ⟨rfl, hM.pick [] (by decide) rfl⟩)


theorem c_impl_within (F : Nat) (p0_n : Int) (p1_low : Int) (p2_high : Int) {r : Bool} (hF : S_impl_within F p0_n p1_low p2_high = some r) (w0 : World) :
    Calls Try.prog 76 [(int i64 p0_n), (int i64 p1_low), (int i64 p2_high)].toArray w0 (retPost fun v w' => v = (Value.bool r) ∧ Mem Nob w0 w' []) := by
 have hM : Mem Nob w0 w0 [] := (Mem.nil w0)
 refine enter2 Try.func76 rfl rfl rfl fun Q a hQr hQn hQp hS => ?_
 have hS : Sl 15 [(0, (int i64 p0_n)), (1, (int i64 p1_low)), (2, (int i64 p2_high))] a := hS
 unfold S_impl_within at hF
 refine wp_seq_k fun K1 hK1 => ?_
 refine wp_region_lit ?_
 refine st_val hS rfl rfl (by decide) (rv_assign (hS.ev rfl)) fun a hS => ?_
 refine wpList_nil ?_
 refine hK1 _ _ ?_
 refine wp_seq_k fun K2 hK2 => ?_
 have hJ1 : ∀ (p3 : Bool) (a : Act) (w : World), Sl 15 [(6, (Value.bool p3))] a → Mem Nob w0 w [] → S_impl_within_j1 F p3 = some r → K2 a w := by
  intro p3 a w hS hM hF
  unfold S_impl_within_j1 at hF
  refine hK2 _ _ ?_
  refine wp_ret ?_
  cases hF
  exact hQr _ _ (r_1 hS rfl rfl ⟨rfl, hM.pick [] (by decide) rfl⟩)
 refine wp_region_lit ?_
 refine st_val hS rfl rfl (by decide) (rv_move (hS.ev rfl)) fun a hS => ?_
 refine st_val hS rfl rfl (by decide) (rv_move (hS.ev rfl)) fun a hS => ?_
 refine st_val hS rfl rfl (by decide) (rv_leq (hS.ev rfl) (hS.ev rfl)) fun a hS => ?_
 refine st_val hS rfl rfl (by decide) (rv_move (hS.ev rfl)) fun a hS => ?_
 rcases ite_some hF with ⟨hc, hF⟩ | ⟨hc, hF⟩
 ·have hS := hS.setb (t := 10) rfl hc
  refine st_val hS rfl rfl (by decide) (rv_move (hS.ev rfl)) fun a hS => ?_
  refine st_val hS rfl rfl (by decide) (rv_move (hS.ev rfl)) fun a hS => ?_
  refine st_val hS rfl rfl (by decide) (rv_leq (hS.ev rfl) (hS.ev rfl)) fun a hS => ?_
  refine st_val hS rfl rfl (by decide) (rv_pick_t (hS.ev rfl) (hS.ev rfl)) fun a hS => ?_
  refine st_val hS rfl rfl (by decide) (rv_assign (hS.ev rfl)) fun a hS => ?_
  refine wpList_nil ?_
  exact hJ1 (decide (p0_n ≤ p2_high)) _ _ (hS.sub (sub_cons rfl sub_nil)) (hM.pick [] (by decide) rfl) hF
 ·have hS := hS.setb (t := 10) rfl hc
  refine st_skip hS rfl rfl (by decide) fun a hS => ?_
  refine st_skip hS rfl rfl (by decide) fun a hS => ?_
  refine st_skip hS rfl rfl (by decide) fun a hS => ?_
  refine st_val hS rfl rfl (by decide) (rv_pick_f (hS.ev rfl) (hS.ev rfl)) fun a hS => ?_
  refine st_val hS rfl rfl (by decide) (rv_assign (hS.ev rfl)) fun a hS => ?_
  refine wpList_nil ?_
  exact hJ1 false _ _ (hS.sub (sub_cons rfl sub_nil)) (hM.pick [] (by decide) rfl) hF


theorem c_impl_IsGraph (F : Nat) (p0_g_Size : Int) (p0_g_Rows : List Int) (p0_g_Rowsv : Value) {r : Bool} (hF : S_impl_IsGraph F p0_g_Size p0_g_Rows = some r) (w0 : World) (h0 : RdRow w0 p0_g_Rowsv (List.map (int i64) p0_g_Rows)) :
    Calls Try.prog 110 [(Value.agg #[(int i64 p0_g_Size), p0_g_Rowsv])].toArray w0 (retPost fun v w' => v = (Value.bool r) ∧ Mem Nob w0 w' []) := by
 have hM : Mem Nob w0 w0 [(false, rd p0_g_Rowsv (List.map (int i64) p0_g_Rows))] := (Mem.rcons (Mem.nil w0) h0 (by simp))
 refine enter2 Try.func110 rfl rfl rfl fun Q a hQr hQn hQp hS => ?_
 have hS : Sl 66 [(0, (Value.agg #[(int i64 p0_g_Size), p0_g_Rowsv]))] a := hS
 unfold S_impl_IsGraph at hF
 refine wp_seq_k fun K1 hK1 => ?_
 refine wp_region_lit ?_
 obtain ⟨b3, w, hr, hM⟩ := hM.boxE (ρ := a.eval) (dst := some 1) (ty := _) (pos := _) (af := _) (gd := _) (x := .tmp 0) (T := 28) [(int i64 p0_g_Size), p0_g_Rowsv] (hS.ev rfl) rfl
 refine st_val hS rfl rfl (by decide) hr fun a hS => ?_
 refine st_val hS rfl rfl (by decide) (rv_assign (hS.ev rfl)) fun a hS => ?_
 refine wpList_nil ?_
 refine hK1 _ _ ?_
 refine wp_seq_k fun K4 hK4 => ?_
 refine wp_seq_k fun K10 hK10 => ?_
 have hJ1 : ∀ (p12 : Bool) (a : Act) (w : World), Sl 66 [(1, (fdp b3 0)), (19, (Value.bool p12))] a → Mem Nob w0 w [(true, bx b3 28 [(int i64 p0_g_Size), p0_g_Rowsv]), (false, rd p0_g_Rowsv (List.map (int i64) p0_g_Rows))] → S_impl_IsGraph_j1 F p0_g_Size p0_g_Rows p12 = some r → K10 a w := by
  intro p12 a w hS hM hF
  unfold S_impl_IsGraph_j1 at hF
  refine hK10 _ _ ?_
  rcases ite_some hF with ⟨hc, hF⟩ | ⟨hc, hF⟩
  ·refine cond_t hS rfl hc ?_
   refine wp_seq_k fun K13 hK13 => ?_
   refine wp_region_lit ?_
   refine st_val hS rfl rfl (by decide) (rv_assign (hS.ev rfl)) fun a hS => ?_
   refine wpList_nil ?_
   refine hK13 _ _ ?_
   refine wp_ret ?_
   cases hF
   exact hQr _ _ (r_1 hS rfl rfl ⟨rfl, hM.pick [] (by decide) rfl⟩)
  ·refine cond_f hS rfl hc ?_
   refine wp_skip ?_
   refine hK4 _ _ ?_
   refine wp_seq_k fun K14 hK14 => ?_
   have hJ2 : ∀ (a : Act) (w : World), Sl 66 [(1, (fdp b3 0))] a → Mem Nob w0 w [(true, bx b3 28 [(int i64 p0_g_Size), p0_g_Rowsv]), (false, rd p0_g_Rowsv (List.map (int i64) p0_g_Rows))] → S_impl_IsGraph_j2 F p0_g_Rows = some r → K14 a w := by
    intro a w hS hM hF
    unfold S_impl_IsGraph_j2 at hF
    refine hK14 _ _ ?_
    refine wp_seq_k fun K63 hK63 => ?_
    have hJ3 : ∀ (a : Act) (w : World), Sl 66 [] a → Mem Nob w0 w [] → S_impl_IsGraph_j3 F = some r → K63 a w := by
     intro a w hS hM hF
     unfold S_impl_IsGraph_j3 at hF
     refine hK63 _ _ ?_
     refine wp_seq_k fun K260 hK260 => ?_
     refine wp_region_lit ?_
     refine st_val hS rfl rfl (by decide) (rv_assign (hS.ev rfl)) fun a hS => ?_
     refine wpList_nil ?_
     refine hK260 _ _ ?_
     refine wp_ret ?_
     cases hF
     exact hQr _ _ (r_1 hS rfl rfl ⟨rfl, hM.pick [] (by decide) rfl⟩)
    refine wp_seq_k fun K261 hK261 => ?_
    refine wp_region_lit ?_
    refine st_val hS rfl rfl (by decide) (rv_fieldAddr ty_fd_28_1 (hS.ev rfl)) fun a hS => ?_
    refine st_val hS rfl rfl (by decide) (rv_load_bx (hS.ev rfl) ty_ag_22 (hM.get 0 rfl) rfl) fun a hS => ?_
    refine st_val hS rfl rfl (by decide) (rv_len_rowM Try.underlying22 (hS.ev rfl) (hM.get 1 rfl)) fun a hS => ?_
    refine st_val hS rfl rfl (by decide) (rv_move (hS.ev rfl)) fun a hS => ?_
    refine wpList_nil ?_
    refine hK261 _ _ ?_
    refine wp_block ?_
    obtain ⟨lb4, hl4, hF4⟩ := bind_some hF
    refine wp_loop_sh (fun s => S_impl_IsGraph_l4 F p0_g_Rows s) (fun s a w => Sl 66 [(1, (fdp b3 0)), (42, p0_g_Rowsv), (43, (int i64 (p0_g_Rows.length : Int))), (44, (int i64 s))] a ∧ Mem Nob w0 w [(true, bx b3 28 [(int i64 p0_g_Size), p0_g_Rowsv]), (false, rd p0_g_Rowsv (List.map (int i64) p0_g_Rows))]) hl4 ⟨(hS.sub (sub_cons rfl (sub_cons rfl (sub_cons rfl (sub_cons rfl sub_nil))))), (hM.pick [0, 1] (by decide) rfl)⟩ ?_
    rintro K4 x262 a w res4 ⟨hS, hM⟩ hF hN4 hX4
    have hF : S_impl_IsGraph_l4 F p0_g_Rows x262 = some res4 := hF
    have hS : Sl 66 [(1, (fdp b3 0)), (42, p0_g_Rowsv), (43, (int i64 (p0_g_Rows.length : Int))), (44, (int i64 x262))] a := hS
    have hM : Mem Nob w0 w [(true, bx b3 28 [(int i64 p0_g_Size), p0_g_Rowsv]), (false, rd p0_g_Rowsv (List.map (int i64) p0_g_Rows))] := hM
    unfold S_impl_IsGraph_l4 at hF
    refine wp_seq_k fun K360 hK360 => ?_
    refine wp_region_lit ?_
    refine st_val hS rfl rfl (by decide) (rv_lss (hS.ev rfl) (hS.ev rfl)) fun a hS => ?_
    refine wpList_nil ?_
    refine hK360 _ _ ?_
    refine wp_seq_k fun K361 hK361 => ?_
    rcases ite_some hF with ⟨hc, hF⟩ | ⟨hc, hF⟩
    ·refine cond_t hS rfl hc ?_
     refine wp_skip ?_
     refine hK361 _ _ ?_
     refine wp_seq_k fun K362 hK362 => ?_
     have hJ5 : ∀ (a : Act) (w : World), Sl 66 [(1, (fdp b3 0)), (42, p0_g_Rowsv), (43, (int i64 (p0_g_Rows.length : Int))), (44, (int i64 x262))] a → Mem Nob w0 w [(true, bx b3 28 [(int i64 p0_g_Size), p0_g_Rowsv]), (false, rd p0_g_Rowsv (List.map (int i64) p0_g_Rows))] → S_impl_IsGraph_j5 F x262 = some res4 → K362 a w := by
      intro a w hS hM hF
      unfold S_impl_IsGraph_j5 at hF
      refine hK362 _ _ ?_
      refine wp_region_lit ?_
      refine st_val hS rfl rfl (by decide) (rv_add (hS.ev rfl) (hS.ev rfl)) fun a hS => ?_
      refine st_val hS rfl rfl (by decide) (rv_move (hS.ev rfl)) fun a hS => ?_
      refine wpList_nil ?_
      cases hF
      exact hN4 _ _ _ rfl ⟨(hS.sub (sub_cons rfl (sub_cons rfl (sub_cons rfl (sub_cons rfl sub_nil))))), (hM.pick [0, 1] (by decide) rfl)⟩
     refine wp_block ?_
     refine wp_seq_k fun K410 hK410 => ?_
     refine wp_region_lit ?_
     refine st_val hS rfl rfl (by decide) (rv_move (hS.ev rfl)) fun a hS => ?_
     obtain ⟨x412, hx, hF⟩ := bind_some hF
     obtain ⟨hi0, hi1, hex412⟩ := idxL_some hx
     refine st_val hS rfl rfl (by decide) (rv_indexAddr Try.underlying22 ty_el_3 (hS.ev rfl) (hS.ev rfl) (hM.get 1 rfl) hi0 (map_len hi1)) fun a hS => ?_
     refine st_val hS rfl rfl (by decide) (rv_load_el (hS.ev rfl) ty_ag_3 (hM.get 1 rfl) (mget hex412)) fun a hS => ?_
     refine st_val hS rfl rfl (by decide) (rv_assign (hS.ev rfl)) fun a hS => ?_
     refine st_val hS rfl rfl (by decide) (rv_assign (hS.ev rfl)) fun a hS => ?_
     refine wpList_nil ?_
     refine hK410 _ _ ?_
     refine wp_seq_k fun K413 hK413 => ?_
     refine wp_region_lit ?_
     refine st_val hS rfl rfl (by decide) (rv_move (hS.ev rfl)) fun a hS => ?_
     refine st_val hS rfl rfl (by decide) (rv_move (hS.ev rfl)) fun a hS => ?_
     refine wpList_nil ?_
     refine hK413 _ _ ?_
     refine wp_block ?_
     obtain ⟨lb6, hl6, hF6⟩ := bind_some hF
     refine wp_loop_sh (fun s => S_impl_IsGraph_l6 F p0_g_Rows x262 x412 s) (fun s a w => Sl 66 [(1, (fdp b3 0)), (5, (int i64 x262)), (6, (int i64 x412)), (42, p0_g_Rowsv), (43, (int i64 (p0_g_Rows.length : Int))), (44, (int i64 x262)), (49, (int i64 x262)), (50, (int i64 s))] a ∧ Mem Nob w0 w [(true, bx b3 28 [(int i64 p0_g_Size), p0_g_Rowsv]), (false, rd p0_g_Rowsv (List.map (int i64) p0_g_Rows))]) hl6 ⟨(hS.sub (sub_cons rfl (sub_cons rfl (sub_cons rfl (sub_cons rfl (sub_cons rfl (sub_cons rfl (sub_cons rfl (sub_cons rfl sub_nil))))))))), (hM.pick [0, 1] (by decide) rfl)⟩ ?_
     rintro K6 x414 a w res6 ⟨hS, hM⟩ hF hN6 hX6
     have hF : S_impl_IsGraph_l6 F p0_g_Rows x262 x412 x414 = some res6 := hF
     have hS : Sl 66 [(1, (fdp b3 0)), (5, (int i64 x262)), (6, (int i64 x412)), (42, p0_g_Rowsv), (43, (int i64 (p0_g_Rows.length : Int))), (44, (int i64 x262)), (49, (int i64 x262)), (50, (int i64 x414))] a := hS
     have hM : Mem Nob w0 w [(true, bx b3 28 [(int i64 p0_g_Size), p0_g_Rowsv]), (false, rd p0_g_Rowsv (List.map (int i64) p0_g_Rows))] := hM
     unfold S_impl_IsGraph_l6 at hF
     refine wp_seq_k fun K436 hK436 => ?_
     refine wp_region_lit ?_
     refine st_val hS rfl rfl (by decide) (rv_lss (hS.ev rfl) (hS.ev rfl)) fun a hS => ?_
     refine wpList_nil ?_
     refine hK436 _ _ ?_
     refine wp_seq_k fun K437 hK437 => ?_
     rcases ite_some hF with ⟨hc, hF⟩ | ⟨hc, hF⟩
     ·refine cond_t hS rfl hc ?_
      refine wp_skip ?_
      refine hK437 _ _ ?_
      refine wp_seq_k fun K438 hK438 => ?_
      refine wp_block ?_
      refine wp_seq_k fun K448 hK448 => ?_
      refine wp_region_lit ?_
      refine st_val hS rfl rfl (by decide) (rv_move (hS.ev rfl)) fun a hS => ?_
      refine st_val hS rfl rfl (by decide) (rv_assign (hS.ev rfl)) fun a hS => ?_
      refine wpList_nil ?_
      refine hK448 _ _ ?_
      refine wp_seq_k fun K449 hK449 => ?_
      refine an_startB 11 Nob ty_mixed (by kernel_rfl) fun w hf => ?_
      have hM := hM.fra hf
      have hB := hM
      have hM := hB.reg0
      refine tkB hS 0 1 (by kernel_rfl) rfl rfl rfl hQp rfl (fun w' hC' => (rv_move (hS.ev rfl))) hM.fr fun a hS => ?_
      refine tkB hS 1 3 (by kernel_rfl) rfl rfl rfl hQp rfl (fun w' hC' => (rv_move (hS.ev rfl))) hM.fr fun a hS => ?_
      refine tkB hS 3 11 (by kernel_rfl) rfl rfl rfl hQp rfl (fun w' hC' => (rv_fieldAddr ty_fd_28_1 (hS.ev rfl))) hM.fr fun a hS => ?_
      refine tkB hS 4 27 (by kernel_rfl) rfl rfl rfl hQp rfl (fun w' hC' => (rv_load_bx (hS.ev rfl) ty_ag_22 ((hB.fra hC').get 0 rfl) rfl)) hM.fr fun a hS => ?_
      refine tkB hS 5 59 (by kernel_rfl) rfl rfl rfl hQp rfl (fun w' hC' => (rv_move (hS.ev rfl))) hM.fr fun a hS => ?_
      obtain ⟨x453, hx, hF⟩ := bind_some hF
      obtain ⟨hi0, hi1, hex453⟩ := idxL_some hx
      refine tkB hS 6 123 (by kernel_rfl) rfl rfl rfl hQp rfl (fun w' hC' => (rv_indexAddr Try.underlying22 ty_el_3 (hS.ev rfl) (hS.ev rfl) (hM.get 1 rfl) hi0 (map_len hi1))) hM.fr fun a hS => ?_
      refine tkB hS 7 251 (by kernel_rfl) rfl rfl rfl hQp rfl (fun w' hC' => (rv_load_el (hS.ev rfl) ty_ag_3 ((hB.fra hC').get 1 rfl) (mget hex453))) hM.fr fun a hS => ?_
      refine tkB hS 8 507 (by kernel_rfl) rfl rfl rfl hQp rfl (fun w' hC' => (rv_move (hS.ev rfl))) hM.fr fun a hS => ?_
      obtain ⟨r454, hr, hF⟩ := bind_some hF
      refine an_oneB hS (i := 2) 511 (by kernel_rfl) rfl (by kernel_rfl) rfl ?_
      refine wp_call hS rfl rfl (by decide) fn_ok_108 rfl (c_impl_has F x412 x414 hr _) fun v w a hK hS => ?_
      obtain ⟨rfl, hN⟩ := hK
      have hM := hM.fra hN.fr
      refine ⟨hM.fr, ?_⟩
      obtain ⟨r455, hr, hF⟩ := bind_some hF
      refine an_oneB hS (i := 9) 1023 (by kernel_rfl) rfl (by kernel_rfl) rfl ?_
      refine wp_call hS rfl rfl (by decide) fn_ok_108 rfl (c_impl_has F x453 x262 hr _) fun v w a hK hS => ?_
      obtain ⟨rfl, hN⟩ := hK
      have hM := hM.fra hN.fr
      refine ⟨hM.fr, ?_⟩
      refine tkB hS 10 2047 (by kernel_rfl) rfl rfl rfl hQp rfl (fun w' hC' => (rv_bneq Try.underlying4 (hS.ev rfl) (hS.ev rfl))) hM.fr fun a hS => ?_
      refine an_done (by kernel_rfl) ?_
      have hN := hM.pick [] (by decide) rfl
      have hM := Mem.callo0 hB hN rfl
      refine hK449 _ _ ?_
      have hS : Sl 66 [(1, (fdp b3 0)), (5, (int i64 x262)), (6, (int i64 x412)), (42, p0_g_Rowsv), (43, (int i64 (p0_g_Rows.length : Int))), (44, (int i64 x262)), (49, (int i64 x262)), (50, (int i64 x414)), (63, (Value.bool (r454 != r455)))] a := hS.sub (sub_cons rfl (sub_cons rfl (sub_cons rfl (sub_cons rfl (sub_cons rfl (sub_cons rfl (sub_cons rfl (sub_cons rfl (sub_cons rfl sub_nil)))))))))
      rcases ite_some hF with ⟨hc, hF⟩ | ⟨hc, hF⟩
      ·refine cond_t hS rfl hc ?_
       refine wp_seq_k fun K456 hK456 => ?_
       refine wp_region_lit ?_
       refine st_val hS rfl rfl (by decide) (rv_assign (hS.ev rfl)) fun a hS => ?_
       refine wpList_nil ?_
       refine hK456 _ _ ?_
       have hS : Sl 66 [(2, (Value.bool false))] a := hS.sub (sub_cons rfl sub_nil)
       have hM := hM.pick [] (by decide) rfl
       refine wp_ret ?_
       cases hF
       have e := hX6 _ rfl
       subst e
       have hF := hF6
       cases hF
       have e := hX4 _ rfl
       subst e
       have hF := hF4
       cases hF
       exact hQr _ _ (r_1 hS rfl rfl ⟨rfl, hM.pick [] (by decide) rfl⟩)
      ·refine cond_f hS rfl hc ?_
       refine wp_skip ?_
       refine hK438 _ _ ?_
       refine wp_region_lit ?_
       refine st_val hS rfl rfl (by decide) (rv_add (hS.ev rfl) (hS.ev rfl)) fun a hS => ?_
       refine st_val hS rfl rfl (by decide) (rv_move (hS.ev rfl)) fun a hS => ?_
       refine wpList_nil ?_
       cases hF
       exact hN6 _ _ _ rfl ⟨(hS.sub (sub_cons rfl (sub_cons rfl (sub_cons rfl (sub_cons rfl (sub_cons rfl (sub_cons rfl (sub_cons rfl (sub_cons rfl sub_nil))))))))), (hM.pick [0, 1] (by decide) rfl)⟩
     ·refine cond_f hS rfl hc ?_
      refine wp_exit ?_
      cases hF
      exact hJ5 _ _ (hS.sub (sub_cons rfl (sub_cons rfl (sub_cons rfl (sub_cons rfl sub_nil))))) (hM.pick [0, 1] (by decide) rfl) (by have e := hX6 _ rfl; subst e; exact hF6)
    ·refine cond_f hS rfl hc ?_
     refine wp_exit ?_
     cases hF
     exact hJ3 _ _ (hS.sub sub_nil) (hM.pick [] (by decide) rfl) (by have e := hX4 _ rfl; subst e; exact hF4)
   refine wp_seq_k fun K457 hK457 => ?_
   refine wp_region_lit ?_
   refine st_val hS rfl rfl (by decide) (rv_fieldAddr ty_fd_28_1 (hS.ev rfl)) fun a hS => ?_
   refine st_val hS rfl rfl (by decide) (rv_load_bx (hS.ev rfl) ty_ag_22 (hM.get 0 rfl) rfl) fun a hS => ?_
   refine st_val hS rfl rfl (by decide) (rv_len_rowM Try.underlying22 (hS.ev rfl) (hM.get 1 rfl)) fun a hS => ?_
   refine st_val hS rfl rfl (by decide) (rv_move (hS.ev rfl)) fun a hS => ?_
   refine wpList_nil ?_
   refine hK457 _ _ ?_
   refine wp_block ?_
   obtain ⟨lb7, hl7, hF7⟩ := bind_some hF
   refine wp_loop_sh (fun s => S_impl_IsGraph_l7 F p0_g_Size p0_g_Rows s) (fun s a w => Sl 66 [(1, (fdp b3 0)), (21, p0_g_Rowsv), (22, (int i64 (p0_g_Rows.length : Int))), (23, (int i64 s))] a ∧ Mem Nob w0 w [(true, bx b3 28 [(int i64 p0_g_Size), p0_g_Rowsv]), (false, rd p0_g_Rowsv (List.map (int i64) p0_g_Rows))]) hl7 ⟨(hS.sub (sub_cons rfl (sub_cons rfl (sub_cons rfl (sub_cons rfl sub_nil))))), (hM.pick [0, 1] (by decide) rfl)⟩ ?_
   rintro K7 x458 a w res7 ⟨hS, hM⟩ hF hN7 hX7
   have hF : S_impl_IsGraph_l7 F p0_g_Size p0_g_Rows x458 = some res7 := hF
   have hS : Sl 66 [(1, (fdp b3 0)), (21, p0_g_Rowsv), (22, (int i64 (p0_g_Rows.length : Int))), (23, (int i64 x458))] a := hS
   have hM : Mem Nob w0 w [(true, bx b3 28 [(int i64 p0_g_Size), p0_g_Rowsv]), (false, rd p0_g_Rowsv (List.map (int i64) p0_g_Rows))] := hM
   unfold S_impl_IsGraph_l7 at hF
   refine wp_seq_k fun K482 hK482 => ?_
   refine wp_region_lit ?_
   refine st_val hS rfl rfl (by decide) (rv_lss (hS.ev rfl) (hS.ev rfl)) fun a hS => ?_
   refine wpList_nil ?_
   refine hK482 _ _ ?_
   refine wp_seq_k fun K483 hK483 => ?_
   rcases ite_some hF with ⟨hc, hF⟩ | ⟨hc, hF⟩
   ·refine cond_t hS rfl hc ?_
    refine wp_skip ?_
    refine hK483 _ _ ?_
    refine wp_seq_k fun K484 hK484 => ?_
    refine wp_block ?_
    refine wp_seq_k fun K495 hK495 => ?_
    refine wp_region_lit ?_
    refine st_val hS rfl rfl (by decide) (rv_move (hS.ev rfl)) fun a hS => ?_
    obtain ⟨x497, hx, hF⟩ := bind_some hF
    obtain ⟨hi0, hi1, hex497⟩ := idxL_some hx
    refine st_val hS rfl rfl (by decide) (rv_indexAddr Try.underlying22 ty_el_3 (hS.ev rfl) (hS.ev rfl) (hM.get 1 rfl) hi0 (map_len hi1)) fun a hS => ?_
    refine st_val hS rfl rfl (by decide) (rv_load_el (hS.ev rfl) ty_ag_3 (hM.get 1 rfl) (mget hex497)) fun a hS => ?_
    refine st_val hS rfl rfl (by decide) (rv_assign (hS.ev rfl)) fun a hS => ?_
    refine st_val hS rfl rfl (by decide) (rv_assign (hS.ev rfl)) fun a hS => ?_
    refine wpList_nil ?_
    refine hK495 _ _ ?_
    refine wp_seq_k fun K498 hK498 => ?_
    have hJ8 : ∀ (p501 : Bool) (a : Act) (w : World), Sl 66 [(1, (fdp b3 0)), (21, p0_g_Rowsv), (22, (int i64 (p0_g_Rows.length : Int))), (23, (int i64 x458)), (39, (Value.bool p501))] a → Mem Nob w0 w [(true, bx b3 28 [(int i64 p0_g_Size), p0_g_Rowsv]), (false, rd p0_g_Rowsv (List.map (int i64) p0_g_Rows))] → S_impl_IsGraph_j8 F x458 p501 = some res7 → K498 a w := by
     intro p501 a w hS hM hF
     unfold S_impl_IsGraph_j8 at hF
     refine hK498 _ _ ?_
     rcases ite_some hF with ⟨hc, hF⟩ | ⟨hc, hF⟩
     ·refine cond_t hS rfl hc ?_
      refine wp_seq_k fun K502 hK502 => ?_
      refine wp_region_lit ?_
      refine st_val hS rfl rfl (by decide) (rv_assign (hS.ev rfl)) fun a hS => ?_
      refine wpList_nil ?_
      refine hK502 _ _ ?_
      refine wp_ret ?_
      cases hF
      have e := hX7 _ rfl
      subst e
      have hF := hF7
      cases hF
      exact hQr _ _ (r_1 hS rfl rfl ⟨rfl, hM.pick [] (by decide) rfl⟩)
     ·refine cond_f hS rfl hc ?_
      refine wp_skip ?_
      refine hK484 _ _ ?_
      refine wp_region_lit ?_
      refine st_val hS rfl rfl (by decide) (rv_add (hS.ev rfl) (hS.ev rfl)) fun a hS => ?_
      refine st_val hS rfl rfl (by decide) (rv_move (hS.ev rfl)) fun a hS => ?_
      refine wpList_nil ?_
      cases hF
      exact hN7 _ _ _ rfl ⟨(hS.sub (sub_cons rfl (sub_cons rfl (sub_cons rfl (sub_cons rfl sub_nil))))), (hM.pick [0, 1] (by decide) rfl)⟩
    refine wp_region_lit ?_
    refine st_val hS rfl rfl (by decide) (rv_move (hS.ev rfl)) fun a hS => ?_
    refine st_val hS rfl rfl (by decide) (rv_fieldAddr ty_fd_28_0 (hS.ev rfl)) fun a hS => ?_
    refine st_val hS rfl rfl (by decide) (rv_load_bx (hS.ev rfl) ty_ag_3 (hM.get 0 rfl) rfl) fun a hS => ?_
    obtain ⟨_, hx, hF⟩ := bind_some hF
    have hi0 := nnO_some hx
    refine st_val hS rfl rfl (by decide) (rv_shl (hS.ev rfl) (hS.ev rfl) hi0) fun a hS => ?_
    refine st_val hS rfl rfl (by decide) (rv_sub (hS.ev rfl) (hS.ev rfl)) fun a hS => ?_
    obtain ⟨r503, hr, hF⟩ := bind_some hF
    refine st_wp hS rfl (wp_call hS rfl rfl (by decide) fn_ok_76 rfl (c_impl_within F x497 0 (i64.wrap ((shL 1 p0_g_Size) - 1)) hr _) fun v w a hK hS => ?_)
    obtain ⟨rfl, hN⟩ := hK
    have hM := hM.fra hN.fr
    refine st_val hS rfl rfl (by decide) (rv_not (hS.ev rfl)) fun a hS => ?_
    refine st_val hS rfl rfl (by decide) (rv_move (hS.ev rfl)) fun a hS => ?_
    rcases ite_some hF with ⟨hc, hF⟩ | ⟨hc, hF⟩
    ·have hS := hS.setb (t := 35) rfl hc
     refine st_skip hS rfl rfl (by decide) fun a hS => ?_
     refine st_skip hS rfl rfl (by decide) fun a hS => ?_
     refine st_skip hS rfl rfl (by decide) fun a hS => ?_
     refine st_val hS rfl rfl (by decide) (rv_pick_t (hS.ev rfl) (hS.ev rfl)) fun a hS => ?_
     refine wpList_nil ?_
     exact hJ8 true _ _ (hS.sub (sub_cons rfl (sub_cons rfl (sub_cons rfl (sub_cons rfl (sub_cons rfl sub_nil)))))) (hM.pick [0, 1] (by decide) rfl) hF
    ·have hS := hS.setb (t := 35) rfl hc
     refine st_val hS rfl rfl (by decide) (rv_move (hS.ev rfl)) fun a hS => ?_
     refine st_val hS rfl rfl (by decide) (rv_move (hS.ev rfl)) fun a hS => ?_
     obtain ⟨r504, hr, hF⟩ := bind_some hF
     refine st_wp hS rfl (wp_call hS rfl rfl (by decide) fn_ok_108 rfl (c_impl_has F x497 x458 hr _) fun v w a hK hS => ?_)
     obtain ⟨rfl, hN⟩ := hK
     have hM := hM.fra hN.fr
     refine st_val hS rfl rfl (by decide) (rv_pick_f (hS.ev rfl) (hS.ev rfl)) fun a hS => ?_
     refine wpList_nil ?_
     exact hJ8 r504 _ _ (hS.sub (sub_cons rfl (sub_cons rfl (sub_cons rfl (sub_cons rfl (sub_cons rfl sub_nil)))))) (hM.pick [0, 1] (by decide) rfl) hF
   ·refine cond_f hS rfl hc ?_
    refine wp_exit ?_
    cases hF
    exact hJ2 _ _ (hS.sub (sub_cons rfl sub_nil)) (hM.pick [0, 1] (by decide) rfl) (by have e := hX7 _ rfl; subst e; exact hF7)
 refine wp_region_lit ?_
 refine st_val hS rfl rfl (by decide) (rv_fieldAddr ty_fd_28_0 (hS.ev rfl)) fun a hS => ?_
 refine st_val hS rfl rfl (by decide) (rv_load_bx (hS.ev rfl) ty_ag_3 (hM.get 0 rfl) rfl) fun a hS => ?_
 obtain ⟨r505, hr, hF⟩ := bind_some hF
 refine st_wp hS rfl (wp_call hS rfl rfl (by decide) fn_ok_76 rfl (c_impl_within F p0_g_Size 1 7 hr _) fun v w a hK hS => ?_)
 obtain ⟨rfl, hN⟩ := hK
 have hM := hM.fra hN.fr
 refine st_val hS rfl rfl (by decide) (rv_not (hS.ev rfl)) fun a hS => ?_
 refine st_val hS rfl rfl (by decide) (rv_move (hS.ev rfl)) fun a hS => ?_
 rcases ite_some hF with ⟨hc, hF⟩ | ⟨hc, hF⟩
 ·have hS := hS.setb (t := 12) rfl hc
  refine st_skip hS rfl rfl (by decide) fun a hS => ?_
  refine st_skip hS rfl rfl (by decide) fun a hS => ?_
  refine st_skip hS rfl rfl (by decide) fun a hS => ?_
  refine st_skip hS rfl rfl (by decide) fun a hS => ?_
  refine st_skip hS rfl rfl (by decide) fun a hS => ?_
  refine st_skip hS rfl rfl (by decide) fun a hS => ?_
  refine st_val hS rfl rfl (by decide) (rv_pick_t (hS.ev rfl) (hS.ev rfl)) fun a hS => ?_
  refine wpList_nil ?_
  exact hJ1 true _ _ (hS.sub (sub_cons rfl (sub_cons rfl sub_nil))) (hM.pick [0, 1] (by decide) rfl) hF
 ·have hS := hS.setb (t := 12) rfl hc
  refine st_val hS rfl rfl (by decide) (rv_fieldAddr ty_fd_28_1 (hS.ev rfl)) fun a hS => ?_
  refine st_val hS rfl rfl (by decide) (rv_load_bx (hS.ev rfl) ty_ag_22 (hM.get 0 rfl) rfl) fun a hS => ?_
  refine st_val hS rfl rfl (by decide) (rv_len_rowM Try.underlying22 (hS.ev rfl) (hM.get 1 rfl)) fun a hS => ?_
  refine st_val hS rfl rfl (by decide) (rv_fieldAddr ty_fd_28_0 (hS.ev rfl)) fun a hS => ?_
  refine st_val hS rfl rfl (by decide) (rv_load_bx (hS.ev rfl) ty_ag_3 (hM.get 0 rfl) rfl) fun a hS => ?_
  refine st_val hS rfl rfl (by decide) (rv_neq (hS.ev rfl) (hS.ev rfl)) fun a hS => ?_
  refine st_val hS rfl rfl (by decide) (rv_pick_f (hS.ev rfl) (hS.ev rfl)) fun a hS => ?_
  refine wpList_nil ?_
  exact hJ1 ((p0_g_Rows.length : Int) != p0_g_Size) _ _ (hS.sub (sub_cons rfl (sub_cons rfl sub_nil))) (hM.pick [0, 1] (by decide) rfl) hF


theorem c_impl_areVertices (F : Nat) (p0_g_Size : Int) (p0_g_Rows : List Int) (p1_l : List Int) (p0_g_Rowsv : Value) (p1_lv : Value) {r : Bool} (hF : S_impl_areVertices F p0_g_Size p0_g_Rows p1_l = some r) (w0 : World) (h0 : RdRow w0 p0_g_Rowsv (List.map (int i64) p0_g_Rows)) (h1 : RdRow w0 p1_lv (List.map (int i64) p1_l)) :
    Calls Try.prog 107 [(Value.agg #[(int i64 p0_g_Size), p0_g_Rowsv]), p1_lv].toArray w0 (retPost fun v w' => v = (Value.bool r) ∧ Mem Nob w0 w' []) := by
 have hM : Mem Nob w0 w0 [(false, rd p0_g_Rowsv (List.map (int i64) p0_g_Rows)), (false, rd p1_lv (List.map (int i64) p1_l))] := (Mem.rcons (Mem.rcons (Mem.nil w0) h1 (by simp)) h0 (by simp))
 refine enter2 Try.func107 rfl rfl rfl fun Q a hQr hQn hQp hS => ?_
 have hS : Sl 30 [(0, (Value.agg #[(int i64 p0_g_Size), p0_g_Rowsv])), (1, p1_lv)] a := hS
 unfold S_impl_areVertices at hF
 refine wp_seq_k fun K1 hK1 => ?_
 refine wp_region_lit ?_
 obtain ⟨b3, w, hr, hM⟩ := hM.boxE (ρ := a.eval) (dst := some 2) (ty := _) (pos := _) (af := _) (gd := _) (x := .tmp 0) (T := 28) [(int i64 p0_g_Size), p0_g_Rowsv] (hS.ev rfl) rfl
 refine st_val hS rfl rfl (by decide) hr fun a hS => ?_
 refine st_val hS rfl rfl (by decide) (rv_assign (hS.ev rfl)) fun a hS => ?_
 refine wpList_nil ?_
 refine hK1 _ _ ?_
 refine wp_seq_k fun K4 hK4 => ?_
 have hJ1 : ∀ (a : Act) (w : World), Sl 30 [(2, (fdp b3 0))] a → Mem Nob w0 w [(true, bx b3 28 [(int i64 p0_g_Size), p0_g_Rowsv]), (false, rd p0_g_Rowsv (List.map (int i64) p0_g_Rows))] → S_impl_areVertices_j1 F p0_g_Size p0_g_Rows = some r → K4 a w := by
  intro a w hS hM hF
  unfold S_impl_areVertices_j1 at hF
  refine hK4 _ _ ?_
  refine wp_seq_k fun K61 hK61 => ?_
  refine wp_region_lit ?_
  refine st_val hS rfl rfl (by decide) (rv_load_agg (hS.ev rfl) ty_ag_28 (hM.get 0 rfl) ty_sz_28) fun a hS => ?_
  obtain ⟨r63, hr, hF⟩ := bind_some hF
  refine st_wp hS rfl (wp_call hS rfl rfl (by decide) fn_ok_110 rfl (c_impl_IsGraph F p0_g_Size p0_g_Rows p0_g_Rowsv hr _ (hM.get 1 rfl)) fun v w a hK hS => ?_)
  obtain ⟨rfl, hN⟩ := hK
  have hM := hM.fra hN.fr
  refine st_val hS rfl rfl (by decide) (rv_assign (hS.ev rfl)) fun a hS => ?_
  refine wpList_nil ?_
  refine hK61 _ _ ?_
  refine wp_ret ?_
  cases hF
  exact hQr _ _ (r_1 hS rfl rfl ⟨rfl, hM.pick [] (by decide) rfl⟩)
 refine wp_seq_k fun K64 hK64 => ?_
 refine wp_region_lit ?_
 refine st_val hS rfl rfl (by decide) (rv_move (hS.ev rfl)) fun a hS => ?_
 refine st_val hS rfl rfl (by decide) (rv_len_rowM Try.underlying22 (hS.ev rfl) (hM.get 2 rfl)) fun a hS => ?_
 refine st_val hS rfl rfl (by decide) (rv_move (hS.ev rfl)) fun a hS => ?_
 refine wpList_nil ?_
 refine hK64 _ _ ?_
 refine wp_block ?_
 obtain ⟨lb2, hl2, hF2⟩ := bind_some hF
 refine wp_loop_sh (fun s => S_impl_areVertices_l2 F p0_g_Size p1_l s) (fun s a w => Sl 30 [(1, p1_lv), (2, (fdp b3 0)), (7, p1_lv), (8, (int i64 (p1_l.length : Int))), (9, (int i64 s))] a ∧ Mem Nob w0 w [(false, rd p1_lv (List.map (int i64) p1_l)), (true, bx b3 28 [(int i64 p0_g_Size), p0_g_Rowsv]), (false, rd p0_g_Rowsv (List.map (int i64) p0_g_Rows))]) hl2 ⟨(hS.sub (sub_cons rfl (sub_cons rfl (sub_cons rfl (sub_cons rfl (sub_cons rfl sub_nil)))))), (hM.pick [2, 0, 1] (by decide) rfl)⟩ ?_
 rintro K2 x65 a w res2 ⟨hS, hM⟩ hF hN2 hX2
 have hF : S_impl_areVertices_l2 F p0_g_Size p1_l x65 = some res2 := hF
 have hS : Sl 30 [(1, p1_lv), (2, (fdp b3 0)), (7, p1_lv), (8, (int i64 (p1_l.length : Int))), (9, (int i64 x65))] a := hS
 have hM : Mem Nob w0 w [(false, rd p1_lv (List.map (int i64) p1_l)), (true, bx b3 28 [(int i64 p0_g_Size), p0_g_Rowsv]), (false, rd p0_g_Rowsv (List.map (int i64) p0_g_Rows))] := hM
 unfold S_impl_areVertices_l2 at hF
 refine wp_seq_k fun K93 hK93 => ?_
 refine wp_region_lit ?_
 refine st_val hS rfl rfl (by decide) (rv_lss (hS.ev rfl) (hS.ev rfl)) fun a hS => ?_
 refine wpList_nil ?_
 refine hK93 _ _ ?_
 refine wp_seq_k fun K94 hK94 => ?_
 rcases ite_some hF with ⟨hc, hF⟩ | ⟨hc, hF⟩
 ·refine cond_t hS rfl hc ?_
  refine wp_skip ?_
  refine hK94 _ _ ?_
  refine wp_seq_k fun K95 hK95 => ?_
  refine wp_block ?_
  refine wp_seq_k fun K108 hK108 => ?_
  refine wp_region_lit ?_
  refine st_val hS rfl rfl (by decide) (rv_move (hS.ev rfl)) fun a hS => ?_
  obtain ⟨x110, hx, hF⟩ := bind_some hF
  obtain ⟨hi0, hi1, hex110⟩ := idxL_some hx
  refine st_val hS rfl rfl (by decide) (rv_indexAddr Try.underlying22 ty_el_3 (hS.ev rfl) (hS.ev rfl) (hM.get 0 rfl) hi0 (map_len hi1)) fun a hS => ?_
  refine st_val hS rfl rfl (by decide) (rv_load_el (hS.ev rfl) ty_ag_3 (hM.get 0 rfl) (mget hex110)) fun a hS => ?_
  refine st_val hS rfl rfl (by decide) (rv_assign (hS.ev rfl)) fun a hS => ?_
  refine st_val hS rfl rfl (by decide) (rv_assign (hS.ev rfl)) fun a hS => ?_
  refine wpList_nil ?_
  refine hK108 _ _ ?_
  refine wp_seq_k fun K111 hK111 => ?_
  have hJ3 : ∀ (p115 : Bool) (a : Act) (w : World), Sl 30 [(1, p1_lv), (2, (fdp b3 0)), (7, p1_lv), (8, (int i64 (p1_l.length : Int))), (9, (int i64 x65)), (26, (Value.bool p115))] a → Mem Nob w0 w [(false, rd p1_lv (List.map (int i64) p1_l)), (true, bx b3 28 [(int i64 p0_g_Size), p0_g_Rowsv]), (false, rd p0_g_Rowsv (List.map (int i64) p0_g_Rows))] → S_impl_areVertices_j3 F x65 p115 = some res2 → K111 a w := by
   intro p115 a w hS hM hF
   unfold S_impl_areVertices_j3 at hF
   refine hK111 _ _ ?_
   rcases ite_some hF with ⟨hc, hF⟩ | ⟨hc, hF⟩
   ·refine cond_t hS rfl hc ?_
    refine wp_seq_k fun K116 hK116 => ?_
    refine wp_region_lit ?_
    refine st_val hS rfl rfl (by decide) (rv_assign (hS.ev rfl)) fun a hS => ?_
    refine wpList_nil ?_
    refine hK116 _ _ ?_
    have hS : Sl 30 [(4, (Value.bool false))] a := hS.sub (sub_cons rfl sub_nil)
    have hM := hM.pick [] (by decide) rfl
    refine wp_ret ?_
    cases hF
    have e := hX2 _ rfl
    subst e
    have hF := hF2
    cases hF
    exact hQr _ _ (r_1 hS rfl rfl ⟨rfl, hM.pick [] (by decide) rfl⟩)
   ·refine cond_f hS rfl hc ?_
    refine wp_skip ?_
    refine hK95 _ _ ?_
    refine wp_region_lit ?_
    refine st_val hS rfl rfl (by decide) (rv_add (hS.ev rfl) (hS.ev rfl)) fun a hS => ?_
    refine st_val hS rfl rfl (by decide) (rv_move (hS.ev rfl)) fun a hS => ?_
    refine wpList_nil ?_
    cases hF
    exact hN2 _ _ _ rfl ⟨(hS.sub (sub_cons rfl (sub_cons rfl (sub_cons rfl (sub_cons rfl (sub_cons rfl sub_nil)))))), (hM.pick [0, 1, 2] (by decide) rfl)⟩
  refine wp_region_lit ?_
  refine st_val hS rfl rfl (by decide) (rv_move (hS.ev rfl)) fun a hS => ?_
  refine st_val hS rfl rfl (by decide) (rv_fieldAddr ty_fd_28_0 (hS.ev rfl)) fun a hS => ?_
  refine st_val hS rfl rfl (by decide) (rv_load_bx (hS.ev rfl) ty_ag_3 (hM.get 1 rfl) rfl) fun a hS => ?_
  refine st_val hS rfl rfl (by decide) (rv_sub (hS.ev rfl) (hS.ev rfl)) fun a hS => ?_
  obtain ⟨r117, hr, hF⟩ := bind_some hF
  refine st_wp hS rfl (wp_call hS rfl rfl (by decide) fn_ok_76 rfl (c_impl_within F x110 0 (i64.wrap (p0_g_Size - 1)) hr _) fun v w a hK hS => ?_)
  obtain ⟨rfl, hN⟩ := hK
  have hM := hM.fra hN.fr
  refine st_val hS rfl rfl (by decide) (rv_not (hS.ev rfl)) fun a hS => ?_
  refine st_val hS rfl rfl (by decide) (rv_move (hS.ev rfl)) fun a hS => ?_
  rcases ite_some hF with ⟨hc, hF⟩ | ⟨hc, hF⟩
  ·have hS := hS.setb (t := 20) rfl hc
   refine st_skip hS rfl rfl (by decide) fun a hS => ?_
   refine st_skip hS rfl rfl (by decide) fun a hS => ?_
   refine st_skip hS rfl rfl (by decide) fun a hS => ?_
   refine st_skip hS rfl rfl (by decide) fun a hS => ?_
   refine st_skip hS rfl rfl (by decide) fun a hS => ?_
   refine st_val hS rfl rfl (by decide) (rv_pick_t (hS.ev rfl) (hS.ev rfl)) fun a hS => ?_
   refine wpList_nil ?_
   exact hJ3 true _ _ (hS.sub (sub_cons rfl (sub_cons rfl (sub_cons rfl (sub_cons rfl (sub_cons rfl (sub_cons rfl sub_nil))))))) (hM.pick [0, 1, 2] (by decide) rfl) hF
  ·have hS := hS.setb (t := 20) rfl hc
   refine st_val hS rfl rfl (by decide) (rv_move (hS.ev rfl)) fun a hS => ?_
   refine st_val hS rfl rfl (by decide) (rv_move (hS.ev rfl)) fun a hS => ?_
   obtain ⟨_, hx, hF⟩ := bind_some hF
   have hj118 := slO_some hx
   refine st_val hS rfl rfl (by decide) (rv_slH Try.underlying22 ty_el_3 (hS.ev rfl) (hS.ev rfl) (hM.get 0 rfl) hj118.1 (map_le hj118.2)) fun a hS => ?_
   refine st_val hS rfl rfl (by decide) (rv_move (hS.ev rfl)) fun a hS => ?_
   obtain ⟨r119, hr, hF⟩ := bind_some hF
   refine st_wp hS rfl (wp_call hS rfl rfl (by decide) fn_ok_106 rfl (c_slices_Contains_int F (p1_l.take (x65.toNat)) x110 (slH p1_lv (x65.toNat)) hr _ (rd_slHm (hM.get 0 rfl) hj118.2)) fun v w a hK hS => ?_)
   obtain ⟨rfl, hN⟩ := hK
   have hM := hM.fra hN.fr
   refine st_val hS rfl rfl (by decide) (rv_pick_f (hS.ev rfl) (hS.ev rfl)) fun a hS => ?_
   refine wpList_nil ?_
   exact hJ3 r119 _ _ (hS.sub (sub_cons rfl (sub_cons rfl (sub_cons rfl (sub_cons rfl (sub_cons rfl (sub_cons rfl sub_nil))))))) (hM.pick [0, 1, 2] (by decide) rfl) hF
 ·refine cond_f hS rfl hc ?_
  refine wp_exit ?_
  cases hF
  exact hJ1 _ _ (hS.sub (sub_cons rfl sub_nil)) (hM.pick [1, 2] (by decide) rfl) (by have e := hX2 _ rfl; subst e; exact hF2)


theorem c_impl_IsClaw_c1 (F : Nat) (p0_i : Int) (p1_k : Int) {r : Bool} (hF : S_impl_IsClaw_c1 F p0_i p1_k = some r) (w0 : World) :
    Calls Try.prog 90 [(int i64 p0_i), (int i64 p1_k)].toArray w0 (retPost fun v w' => v = (Value.bool r) ∧ Mem Nob w0 w' []) := by
 have hM : Mem Nob w0 w0 [] := (Mem.nil w0)
 refine enter2 Try.func90 rfl rfl rfl fun Q a hQr hQn hQp hS => ?_
 have hS : Sl 7 [(0, (int i64 p0_i)), (1, (int i64 p1_k))] a := hS
 unfold S_impl_IsClaw_c1 at hF
 refine wp_seq_k fun K1 hK1 => ?_
 refine wp_region_lit ?_
 refine st_val hS rfl rfl (by decide) (rv_assign (hS.ev rfl)) fun a hS => ?_
 refine wpList_nil ?_
 refine hK1 _ _ ?_
 refine wp_seq_k fun K2 hK2 => ?_
 refine wp_region_lit ?_
 refine st_val hS rfl rfl (by decide) (rv_move (hS.ev rfl)) fun a hS => ?_
 refine st_val hS rfl rfl (by decide) (rv_eql (hS.ev rfl) (hS.ev rfl)) fun a hS => ?_
 refine st_val hS rfl rfl (by decide) (rv_assign (hS.ev rfl)) fun a hS => ?_
 refine wpList_nil ?_
 refine hK2 _ _ ?_
 refine wp_ret ?_
 cases hF
 exact hQr _ _ (r_1 hS rfl rfl ⟨rfl, hM.pick [] (by decide) rfl⟩)


theorem c_impl_areJoined__IsClawc1 (F : Nat) (p0_g_Size : Int) (p0_g_Rows : List Int) (p1_l : List Int) (p0_g_Rowsv : Value) (p1_lv : Value) {r : Bool} (hF : S_impl_areJoined__IsClawc1 F p0_g_Size p0_g_Rows p1_l = some r) (w0 : World) (h0 : RdRow w0 p0_g_Rowsv (List.map (int i64) p0_g_Rows)) (h1 : RdRow w0 p1_lv (List.map (int i64) p1_l)) :
    Calls Try.prog 82 [(Value.agg #[(int i64 p0_g_Size), p0_g_Rowsv]), p1_lv, (Value.func (Fn.func 90) #[] #[])].toArray w0 (retPost fun v w' => v = (Value.bool r) ∧ Mem Nob w0 w' []) := by
 have hM : Mem Nob w0 w0 [(false, rd p0_g_Rowsv (List.map (int i64) p0_g_Rows)), (false, rd p1_lv (List.map (int i64) p1_l))] := (Mem.rcons (Mem.rcons (Mem.nil w0) h1 (by simp)) h0 (by simp))
 refine enter2 Try.func82 rfl rfl rfl fun Q a hQr hQn hQp hS => ?_
 have hS : Sl 42 [(0, (Value.agg #[(int i64 p0_g_Size), p0_g_Rowsv])), (1, p1_lv), (2, (Value.func (Fn.func 90) #[] #[]))] a := hS
 unfold S_impl_areJoined__IsClawc1 at hF
 refine wp_seq_k fun K1 hK1 => ?_
 refine wp_region_lit ?_
 obtain ⟨b3, w, hr, hM⟩ := hM.boxE (ρ := a.eval) (dst := some 3) (ty := _) (pos := _) (af := _) (gd := _) (x := .tmp 0) (T := 28) [(int i64 p0_g_Size), p0_g_Rowsv] (hS.ev rfl) rfl
 refine st_val hS rfl rfl (by decide) hr fun a hS => ?_
 refine st_val hS rfl rfl (by decide) (rv_assign (hS.ev rfl)) fun a hS => ?_
 refine wpList_nil ?_
 refine hK1 _ _ ?_
 refine wp_seq_k fun K4 hK4 => ?_
 refine wp_seq_k fun K9 hK9 => ?_
 refine wp_region_lit ?_
 refine st_val hS rfl rfl (by decide) (rv_load_agg (hS.ev rfl) ty_ag_28 (hM.get 0 rfl) ty_sz_28) fun a hS => ?_
 refine st_val hS rfl rfl (by decide) (rv_move (hS.ev rfl)) fun a hS => ?_
 obtain ⟨r11, hr, hF⟩ := bind_some hF
 refine st_wp hS rfl (wp_call hS rfl rfl (by decide) fn_ok_107 rfl (c_impl_areVertices F p0_g_Size p0_g_Rows p1_l p0_g_Rowsv p1_lv hr _ (hM.get 1 rfl) (hM.get 2 rfl)) fun v w a hK hS => ?_)
 obtain ⟨rfl, hN⟩ := hK
 have hM := hM.fra hN.fr
 refine st_val hS rfl rfl (by decide) (rv_not (hS.ev rfl)) fun a hS => ?_
 refine wpList_nil ?_
 refine hK9 _ _ ?_
 rcases ite_some hF with ⟨hc, hF⟩ | ⟨hc, hF⟩
 ·refine cond_t hS rfl hc ?_
  refine wp_seq_k fun K12 hK12 => ?_
  refine wp_region_lit ?_
  refine st_val hS rfl rfl (by decide) (rv_assign (hS.ev rfl)) fun a hS => ?_
  refine wpList_nil ?_
  refine hK12 _ _ ?_
  have hS : Sl 42 [(6, (Value.bool false))] a := hS.sub (sub_cons rfl sub_nil)
  have hM := hM.pick [] (by decide) rfl
  refine wp_ret ?_
  cases hF
  exact hQr _ _ (r_1 hS rfl rfl ⟨rfl, hM.pick [] (by decide) rfl⟩)
 ·refine cond_f hS rfl hc ?_
  refine wp_skip ?_
  refine hK4 _ _ ?_
  refine wp_seq_k fun K13 hK13 => ?_
  have hJ1 : ∀ (a : Act) (w : World), Sl 42 [] a → Mem Nob w0 w [] → S_impl_areJoined__IsClawc1_j1 F = some r → K13 a w := by
   intro a w hS hM hF
   unfold S_impl_areJoined__IsClawc1_j1 at hF
   refine hK13 _ _ ?_
   refine wp_seq_k fun K266 hK266 => ?_
   refine wp_region_lit ?_
   refine st_val hS rfl rfl (by decide) (rv_assign (hS.ev rfl)) fun a hS => ?_
   refine wpList_nil ?_
   refine hK266 _ _ ?_
   refine wp_ret ?_
   cases hF
   exact hQr _ _ (r_1 hS rfl rfl ⟨rfl, hM.pick [] (by decide) rfl⟩)
  refine wp_seq_k fun K267 hK267 => ?_
  refine wp_region_lit ?_
  refine st_val hS rfl rfl (by decide) (rv_move (hS.ev rfl)) fun a hS => ?_
  refine st_val hS rfl rfl (by decide) (rv_len_rowM Try.underlying22 (hS.ev rfl) (hM.get 2 rfl)) fun a hS => ?_
  refine st_val hS rfl rfl (by decide) (rv_move (hS.ev rfl)) fun a hS => ?_
  refine wpList_nil ?_
  refine hK267 _ _ ?_
  refine wp_block ?_
  obtain ⟨lb2, hl2, hF2⟩ := bind_some hF
  refine wp_loop_sh (fun s => S_impl_areJoined__IsClawc1_l2 F p0_g_Rows p1_l s) (fun s a w => Sl 42 [(1, p1_lv), (2, (Value.func (Fn.func 90) #[] #[])), (3, (fdp b3 0)), (14, (int i64 (p1_l.length : Int))), (15, (int i64 s))] a ∧ Mem Nob w0 w [(false, rd p1_lv (List.map (int i64) p1_l)), (true, bx b3 28 [(int i64 p0_g_Size), p0_g_Rowsv]), (false, rd p0_g_Rowsv (List.map (int i64) p0_g_Rows))]) hl2 ⟨(hS.sub (sub_cons rfl (sub_cons rfl (sub_cons rfl (sub_cons rfl (sub_cons rfl sub_nil)))))), (hM.pick [2, 0, 1] (by decide) rfl)⟩ ?_
  rintro K2 x268 a w res2 ⟨hS, hM⟩ hF hN2 hX2
  have hF : S_impl_areJoined__IsClawc1_l2 F p0_g_Rows p1_l x268 = some res2 := hF
  have hS : Sl 42 [(1, p1_lv), (2, (Value.func (Fn.func 90) #[] #[])), (3, (fdp b3 0)), (14, (int i64 (p1_l.length : Int))), (15, (int i64 x268))] a := hS
  have hM : Mem Nob w0 w [(false, rd p1_lv (List.map (int i64) p1_l)), (true, bx b3 28 [(int i64 p0_g_Size), p0_g_Rowsv]), (false, rd p0_g_Rowsv (List.map (int i64) p0_g_Rows))] := hM
  unfold S_impl_areJoined__IsClawc1_l2 at hF
  refine wp_seq_k fun K394 hK394 => ?_
  refine wp_region_lit ?_
  refine st_val hS rfl rfl (by decide) (rv_lss (hS.ev rfl) (hS.ev rfl)) fun a hS => ?_
  refine wpList_nil ?_
  refine hK394 _ _ ?_
  refine wp_seq_k fun K395 hK395 => ?_
  rcases ite_some hF with ⟨hc, hF⟩ | ⟨hc, hF⟩
  ·refine cond_t hS rfl hc ?_
   refine wp_skip ?_
   refine hK395 _ _ ?_
   refine wp_seq_k fun K396 hK396 => ?_
   have hJ3 : ∀ (a : Act) (w : World), Sl 42 [(1, p1_lv), (2, (Value.func (Fn.func 90) #[] #[])), (3, (fdp b3 0)), (14, (int i64 (p1_l.length : Int))), (15, (int i64 x268))] a → Mem Nob w0 w [(false, rd p1_lv (List.map (int i64) p1_l)), (true, bx b3 28 [(int i64 p0_g_Size), p0_g_Rowsv]), (false, rd p0_g_Rowsv (List.map (int i64) p0_g_Rows))] → S_impl_areJoined__IsClawc1_j3 F x268 = some res2 → K396 a w := by
    intro a w hS hM hF
    unfold S_impl_areJoined__IsClawc1_j3 at hF
    refine hK396 _ _ ?_
    refine wp_region_lit ?_
    refine st_val hS rfl rfl (by decide) (rv_add (hS.ev rfl) (hS.ev rfl)) fun a hS => ?_
    refine st_val hS rfl rfl (by decide) (rv_move (hS.ev rfl)) fun a hS => ?_
    refine wpList_nil ?_
    cases hF
    exact hN2 _ _ _ rfl ⟨(hS.sub (sub_cons rfl (sub_cons rfl (sub_cons rfl (sub_cons rfl (sub_cons rfl sub_nil)))))), (hM.pick [0, 1, 2] (by decide) rfl)⟩
   refine wp_block ?_
   refine wp_seq_k fun K458 hK458 => ?_
   refine wp_region_lit ?_
   refine st_val hS rfl rfl (by decide) (rv_move (hS.ev rfl)) fun a hS => ?_
   refine st_val hS rfl rfl (by decide) (rv_assign (hS.ev rfl)) fun a hS => ?_
   refine wpList_nil ?_
   refine hK458 _ _ ?_
   refine wp_seq_k fun K459 hK459 => ?_
   refine wp_region_lit ?_
   refine st_val hS rfl rfl (by decide) (rv_move (hS.ev rfl)) fun a hS => ?_
   refine st_val hS rfl rfl (by decide) (rv_move (hS.ev rfl)) fun a hS => ?_
   refine wpList_nil ?_
   refine hK459 _ _ ?_
   refine wp_block ?_
   obtain ⟨lb4, hl4, hF4⟩ := bind_some hF
   refine wp_loop_sh (fun s => S_impl_areJoined__IsClawc1_l4 F p0_g_Rows p1_l x268 s) (fun s a w => Sl 42 [(1, p1_lv), (2, (Value.func (Fn.func 90) #[] #[])), (3, (fdp b3 0)), (7, (int i64 x268)), (14, (int i64 (p1_l.length : Int))), (15, (int i64 x268)), (18, (int i64 x268)), (19, (int i64 s))] a ∧ Mem Nob w0 w [(false, rd p1_lv (List.map (int i64) p1_l)), (true, bx b3 28 [(int i64 p0_g_Size), p0_g_Rowsv]), (false, rd p0_g_Rowsv (List.map (int i64) p0_g_Rows))]) hl4 ⟨(hS.sub (sub_cons rfl (sub_cons rfl (sub_cons rfl (sub_cons rfl (sub_cons rfl (sub_cons rfl (sub_cons rfl (sub_cons rfl sub_nil))))))))), (hM.pick [0, 1, 2] (by decide) rfl)⟩ ?_
   rintro K4 x460 a w res4 ⟨hS, hM⟩ hF hN4 hX4
   have hF : S_impl_areJoined__IsClawc1_l4 F p0_g_Rows p1_l x268 x460 = some res4 := hF
   have hS : Sl 42 [(1, p1_lv), (2, (Value.func (Fn.func 90) #[] #[])), (3, (fdp b3 0)), (7, (int i64 x268)), (14, (int i64 (p1_l.length : Int))), (15, (int i64 x268)), (18, (int i64 x268)), (19, (int i64 x460))] a := hS
   have hM : Mem Nob w0 w [(false, rd p1_lv (List.map (int i64) p1_l)), (true, bx b3 28 [(int i64 p0_g_Size), p0_g_Rowsv]), (false, rd p0_g_Rowsv (List.map (int i64) p0_g_Rows))] := hM
   unfold S_impl_areJoined__IsClawc1_l4 at hF
   refine wp_seq_k fun K490 hK490 => ?_
   refine wp_region_lit ?_
   refine st_val hS rfl rfl (by decide) (rv_lss (hS.ev rfl) (hS.ev rfl)) fun a hS => ?_
   refine wpList_nil ?_
   refine hK490 _ _ ?_
   refine wp_seq_k fun K491 hK491 => ?_
   rcases ite_some hF with ⟨hc, hF⟩ | ⟨hc, hF⟩
   ·refine cond_t hS rfl hc ?_
    refine wp_skip ?_
    refine hK491 _ _ ?_
    refine wp_seq_k fun K492 hK492 => ?_
    refine wp_block ?_
    refine wp_seq_k fun K506 hK506 => ?_
    refine wp_region_lit ?_
    refine st_val hS rfl rfl (by decide) (rv_move (hS.ev rfl)) fun a hS => ?_
    refine st_val hS rfl rfl (by decide) (rv_assign (hS.ev rfl)) fun a hS => ?_
    refine wpList_nil ?_
    refine hK506 _ _ ?_
    refine wp_seq_k fun K507 hK507 => ?_
    refine an_startB 18 Nob ty_mixed (by kernel_rfl) fun w hf => ?_
    have hM := hM.fra hf
    have hB := hM
    have hM := hB.reg0
    refine tkB hS 0 1 (by kernel_rfl) rfl rfl rfl hQp rfl (fun w' hC' => (rv_fieldAddr ty_fd_28_1 (hS.ev rfl))) hM.fr fun a hS => ?_
    refine tkB hS 1 3 (by kernel_rfl) rfl rfl rfl hQp rfl (fun w' hC' => (rv_load_bx (hS.ev rfl) ty_ag_22 ((hB.fra hC').get 1 rfl) rfl)) hM.fr fun a hS => ?_
    refine tkB hS 2 7 (by kernel_rfl) rfl rfl rfl hQp rfl (fun w' hC' => (rv_move (hS.ev rfl))) hM.fr fun a hS => ?_
    refine tkB hS 3 15 (by kernel_rfl) rfl rfl rfl hQp rfl (fun w' hC' => (rv_move (hS.ev rfl))) hM.fr fun a hS => ?_
    obtain ⟨x513, hx, hF⟩ := bind_some hF
    obtain ⟨hi0, hi1, hex513⟩ := idxL_some hx
    refine tkB hS 4 31 (by kernel_rfl) rfl rfl rfl hQp rfl (fun w' hC' => (rv_indexAddr Try.underlying22 ty_el_3 (hS.ev rfl) (hS.ev rfl) (hM.get 0 rfl) hi0 (map_len hi1))) hM.fr fun a hS => ?_
    refine tkB hS 5 63 (by kernel_rfl) rfl rfl rfl hQp rfl (fun w' hC' => (rv_load_el (hS.ev rfl) ty_ag_3 ((hB.fra hC').get 0 rfl) (mget hex513))) hM.fr fun a hS => ?_
    obtain ⟨x514, hx, hF⟩ := bind_some hF
    obtain ⟨hi0, hi1, hex514⟩ := idxL_some hx
    refine tkB hS 6 127 (by kernel_rfl) rfl rfl rfl hQp rfl (fun w' hC' => (rv_indexAddr Try.underlying22 ty_el_3 (hS.ev rfl) (hS.ev rfl) (hM.get 2 rfl) hi0 (map_len hi1))) hM.fr fun a hS => ?_
    refine tkB hS 7 255 (by kernel_rfl) rfl rfl rfl hQp rfl (fun w' hC' => (rv_load_el (hS.ev rfl) ty_ag_3 ((hB.fra hC').get 2 rfl) (mget hex514))) hM.fr fun a hS => ?_
    refine tkB hS 8 511 (by kernel_rfl) rfl rfl rfl hQp rfl (fun w' hC' => (rv_move (hS.ev rfl))) hM.fr fun a hS => ?_
    refine tkB hS 9 1023 (by kernel_rfl) rfl rfl rfl hQp rfl (fun w' hC' => (rv_move (hS.ev rfl))) hM.fr fun a hS => ?_
    obtain ⟨x515, hx, hF⟩ := bind_some hF
    obtain ⟨hi0, hi1, hex515⟩ := idxL_some hx
    refine tkB hS 10 2047 (by kernel_rfl) rfl rfl rfl hQp rfl (fun w' hC' => (rv_indexAddr Try.underlying22 ty_el_3 (hS.ev rfl) (hS.ev rfl) (hM.get 0 rfl) hi0 (map_len hi1))) hM.fr fun a hS => ?_
    refine tkB hS 11 4095 (by kernel_rfl) rfl rfl rfl hQp rfl (fun w' hC' => (rv_load_el (hS.ev rfl) ty_ag_3 ((hB.fra hC').get 0 rfl) (mget hex515))) hM.fr fun a hS => ?_
    refine tkB hS 13 12287 (by kernel_rfl) rfl rfl rfl hQp rfl (fun w' hC' => (rv_move (hS.ev rfl))) hM.fr fun a hS => ?_
    refine tkB hS 14 28671 (by kernel_rfl) rfl rfl rfl hQp rfl (fun w' hC' => (rv_move (hS.ev rfl))) hM.fr fun a hS => ?_
    refine tkB hS 15 61439 (by kernel_rfl) rfl rfl rfl hQp rfl (fun w' hC' => (rv_move (hS.ev rfl))) hM.fr fun a hS => ?_
    obtain ⟨r516, hr, hF⟩ := bind_some hF
    refine an_oneB hS (i := 12) 65535 (by kernel_rfl) rfl (by kernel_rfl) rfl ?_
    refine wp_call hS rfl rfl (by decide) fn_ok_108 rfl (c_impl_has F x514 x515 hr _) fun v w a hK hS => ?_
    obtain ⟨rfl, hN⟩ := hK
    have hM := hM.fra hN.fr
    refine ⟨hM.fr, ?_⟩
    obtain ⟨r517, hr, hF⟩ := bind_some hF
    refine an_oneB hS (i := 16) 131071 (by kernel_rfl) rfl (by kernel_rfl) rfl ?_
    refine wp_callv (vs := [(int i64 x460), (int i64 x268)]) (cap := []) hS rfl rfl rfl (by decide) fn_ok_90 rfl (c_impl_IsClaw_c1 F x460 x268 hr _) fun v w a hK hS => ?_
    obtain ⟨rfl, hN⟩ := hK
    have hM := hM.fra hN.fr
    refine ⟨hM.fr, ?_⟩
    refine tkB hS 17 262143 (by kernel_rfl) rfl rfl rfl hQp rfl (fun w' hC' => (rv_bneq Try.underlying4 (hS.ev rfl) (hS.ev rfl))) hM.fr fun a hS => ?_
    refine an_done (by kernel_rfl) ?_
    have hN := hM.pick [] (by decide) rfl
    have hM := Mem.callo0 hB hN rfl
    refine hK507 _ _ ?_
    have hS : Sl 42 [(1, p1_lv), (2, (Value.func (Fn.func 90) #[] #[])), (3, (fdp b3 0)), (7, (int i64 x268)), (14, (int i64 (p1_l.length : Int))), (15, (int i64 x268)), (18, (int i64 x268)), (19, (int i64 x460)), (39, (Value.bool (r516 != r517)))] a := hS.sub (sub_cons rfl (sub_cons rfl (sub_cons rfl (sub_cons rfl (sub_cons rfl (sub_cons rfl (sub_cons rfl (sub_cons rfl (sub_cons rfl sub_nil)))))))))
    rcases ite_some hF with ⟨hc, hF⟩ | ⟨hc, hF⟩
    ·refine cond_t hS rfl hc ?_
     refine wp_seq_k fun K518 hK518 => ?_
     refine wp_region_lit ?_
     refine st_val hS rfl rfl (by decide) (rv_assign (hS.ev rfl)) fun a hS => ?_
     refine wpList_nil ?_
     refine hK518 _ _ ?_
     have hS : Sl 42 [(6, (Value.bool false))] a := hS.sub (sub_cons rfl sub_nil)
     have hM := hM.pick [] (by decide) rfl
     refine wp_ret ?_
     cases hF
     have e := hX4 _ rfl
     subst e
     have hF := hF4
     cases hF
     have e := hX2 _ rfl
     subst e
     have hF := hF2
     cases hF
     exact hQr _ _ (r_1 hS rfl rfl ⟨rfl, hM.pick [] (by decide) rfl⟩)
    ·refine cond_f hS rfl hc ?_
     refine wp_skip ?_
     refine hK492 _ _ ?_
     refine wp_region_lit ?_
     refine st_val hS rfl rfl (by decide) (rv_add (hS.ev rfl) (hS.ev rfl)) fun a hS => ?_
     refine st_val hS rfl rfl (by decide) (rv_move (hS.ev rfl)) fun a hS => ?_
     refine wpList_nil ?_
     cases hF
     exact hN4 _ _ _ rfl ⟨(hS.sub (sub_cons rfl (sub_cons rfl (sub_cons rfl (sub_cons rfl (sub_cons rfl (sub_cons rfl (sub_cons rfl (sub_cons rfl sub_nil))))))))), (hM.pick [0, 1, 2] (by decide) rfl)⟩
   ·refine cond_f hS rfl hc ?_
    refine wp_exit ?_
    cases hF
    exact hJ3 _ _ (hS.sub (sub_cons rfl (sub_cons rfl (sub_cons rfl (sub_cons rfl (sub_cons rfl sub_nil)))))) (hM.pick [0, 1, 2] (by decide) rfl) (by have e := hX4 _ rfl; subst e; exact hF4)
  ·refine cond_f hS rfl hc ?_
   refine wp_exit ?_
   cases hF
   exact hJ1 _ _ (hS.sub sub_nil) (hM.pick [] (by decide) rfl) (by have e := hX2 _ rfl; subst e; exact hF2)


theorem c_impl_IsClaw (F : Nat) (p0_g_Size : Int) (p0_g_Rows : List Int) (p1_l : List Int) (p0_g_Rowsv : Value) (p1_lv : Value) {r : Bool} (hF : S_impl_IsClaw F p0_g_Size p0_g_Rows p1_l = some r) (w0 : World) (h0 : RdRow w0 p0_g_Rowsv (List.map (int i64) p0_g_Rows)) (h1 : RdRow w0 p1_lv (List.map (int i64) p1_l)) :
    Calls Try.prog 35 [(Value.agg #[(int i64 p0_g_Size), p0_g_Rowsv]), p1_lv].toArray w0 (retPost fun v w' => v = (Value.bool r) ∧ Mem Nob w0 w' []) := by
 have hM : Mem Nob w0 w0 [(false, rd p0_g_Rowsv (List.map (int i64) p0_g_Rows)), (false, rd p1_lv (List.map (int i64) p1_l))] := (Mem.rcons (Mem.rcons (Mem.nil w0) h1 (by simp)) h0 (by simp))
 refine enter2 Try.func35 rfl rfl rfl fun Q a hQr hQn hQp hS => ?_
 have hS : Sl 13 [(0, (Value.agg #[(int i64 p0_g_Size), p0_g_Rowsv])), (1, p1_lv)] a := hS
 unfold S_impl_IsClaw at hF
 refine wp_seq_k fun K1 hK1 => ?_
 refine wp_region_lit ?_
 obtain ⟨b3, w, hr, hM⟩ := hM.boxE (ρ := a.eval) (dst := some 2) (ty := _) (pos := _) (af := _) (gd := _) (x := .tmp 0) (T := 28) [(int i64 p0_g_Size), p0_g_Rowsv] (hS.ev rfl) rfl
 refine st_val hS rfl rfl (by decide) hr fun a hS => ?_
 refine st_val hS rfl rfl (by decide) (rv_assign (hS.ev rfl)) fun a hS => ?_
 refine wpList_nil ?_
 refine hK1 _ _ ?_
 refine wp_seq_k fun K4 hK4 => ?_
 have hJ1 : ∀ (p6 : Bool) (a : Act) (w : World), Sl 13 [(4, (Value.bool p6))] a → Mem Nob w0 w [] → S_impl_IsClaw_j1 F p6 = some r → K4 a w := by
  intro p6 a w hS hM hF
  unfold S_impl_IsClaw_j1 at hF
  refine hK4 _ _ ?_
  refine wp_ret ?_
  cases hF
  exact hQr _ _ (r_1 hS rfl rfl ⟨rfl, hM.pick [] (by decide) rfl⟩)
 refine wp_region_lit ?_
 refine st_val hS rfl rfl (by decide) (rv_move (hS.ev rfl)) fun a hS => ?_
 refine st_val hS rfl rfl (by decide) (rv_len_rowM Try.underlying22 (hS.ev rfl) (hM.get 2 rfl)) fun a hS => ?_
 refine st_val hS rfl rfl (by decide) (rv_eql (hS.ev rfl) (hS.ev rfl)) fun a hS => ?_
 refine st_val hS rfl rfl (by decide) (rv_move (hS.ev rfl)) fun a hS => ?_
 rcases ite_some hF with ⟨hc, hF⟩ | ⟨hc, hF⟩
 ·have hS := hS.setb (t := 8) rfl hc
  refine st_val hS rfl rfl (by decide) (rv_load_agg (hS.ev rfl) ty_ag_28 (hM.get 0 rfl) ty_sz_28) fun a hS => ?_
  refine st_val hS rfl rfl (by decide) (rv_move (hS.ev rfl)) fun a hS => ?_
  obtain ⟨r7, hr, hF⟩ := bind_some hF
  refine st_wp hS rfl (wp_call hS rfl rfl (by decide) fn_ok_82 rfl (c_impl_areJoined__IsClawc1 F p0_g_Size p0_g_Rows p1_l p0_g_Rowsv p1_lv hr _ (hM.get 1 rfl) (hM.get 2 rfl)) fun v w a hK hS => ?_)
  obtain ⟨rfl, hN⟩ := hK
  have hM := hM.fra hN.fr
  refine st_val hS rfl rfl (by decide) (rv_pick_t (hS.ev rfl) (hS.ev rfl)) fun a hS => ?_
  refine st_val hS rfl rfl (by decide) (rv_assign (hS.ev rfl)) fun a hS => ?_
  refine wpList_nil ?_
  exact hJ1 r7 _ _ (hS.sub (sub_cons rfl sub_nil)) (hM.pick [] (by decide) rfl) hF
 ·have hS := hS.setb (t := 8) rfl hc
  refine st_skip hS rfl rfl (by decide) fun a hS => ?_
  refine st_skip hS rfl rfl (by decide) fun a hS => ?_
  refine st_skip hS rfl rfl (by decide) fun a hS => ?_
  refine st_val hS rfl rfl (by decide) (rv_pick_f (hS.ev rfl) (hS.ev rfl)) fun a hS => ?_
  refine st_val hS rfl rfl (by decide) (rv_assign (hS.ev rfl)) fun a hS => ?_
  refine wpList_nil ?_
  exact hJ1 false _ _ (hS.sub (sub_cons rfl sub_nil)) (hM.pick [] (by decide) rfl) hF


theorem c_impl_FindClaw_c1 (F : Nat) (p0_l : List Int) (q0_Size : Int) (q0_Rows : List Int) (p0_lv : Value) (q0_Rowsv : Value) (q0b : Nat) {r : Bool} (hF : S_impl_FindClaw_c1 F p0_l q0_Size q0_Rows = some r) (w0 : World) (h0 : RdRow w0 p0_lv (List.map (int i64) p0_l)) (h1 : RdRow w0 q0_Rowsv (List.map (int i64) q0_Rows)) (h2 : (bx q0b 28 [(int i64 q0_Size), q0_Rowsv]).P w0) :
    Calls Try.prog 71 [p0_lv, (fdp q0b 0)].toArray w0 (retPost fun v w' => v = (Value.bool r) ∧ Mem Nob w0 w' []) := by
 have hM : Mem Nob w0 w0 [(false, rd p0_lv (List.map (int i64) p0_l)), (false, rd q0_Rowsv (List.map (int i64) q0_Rows)), (false, bx q0b 28 [(int i64 q0_Size), q0_Rowsv])] := (Mem.rcons (Mem.rcons (Mem.gcons (Mem.nil w0) h2 (by simp)) h1 (by simp)) h0 (by simp))
 refine enter2 Try.func71 rfl rfl rfl fun Q a hQr hQn hQp hS => ?_
 have hS : Sl 7 [(0, p0_lv), (1, (fdp q0b 0))] a := hS
 unfold S_impl_FindClaw_c1 at hF
 refine wp_seq_k fun K1 hK1 => ?_
 refine wp_region_lit ?_
 refine st_val hS rfl rfl (by decide) (rv_assign (hS.ev rfl)) fun a hS => ?_
 refine wpList_nil ?_
 refine hK1 _ _ ?_
 refine wp_seq_k fun K2 hK2 => ?_
 refine wp_region_lit ?_
 refine st_val hS rfl rfl (by decide) (rv_load_agg (hS.ev rfl) ty_ag_28 (hM.get 2 rfl) ty_sz_28) fun a hS => ?_
 refine st_val hS rfl rfl (by decide) (rv_move (hS.ev rfl)) fun a hS => ?_
 obtain ⟨r4, hr, hF⟩ := bind_some hF
 refine st_wp hS rfl (wp_call hS rfl rfl (by decide) fn_ok_35 rfl (c_impl_IsClaw F q0_Size q0_Rows p0_l q0_Rowsv p0_lv hr _ (hM.get 1 rfl) (hM.get 0 rfl)) fun v w a hK hS => ?_)
 obtain ⟨rfl, hN⟩ := hK
 have hM := hM.fra hN.fr
 refine st_val hS rfl rfl (by decide) (rv_assign (hS.ev rfl)) fun a hS => ?_
 refine wpList_nil ?_
 refine hK2 _ _ ?_
 have hS : Sl 7 [(3, (Value.bool r4))] a := hS.sub (sub_cons rfl sub_nil)
 have hM := hM.pick [] (by decide) rfl
 refine wp_ret ?_
 cases hF
 exact hQr _ _ (r_1 hS rfl rfl ⟨rfl, hM.pick [] (by decide) rfl⟩)


theorem c_slices_Clone_int (F : Nat) (p0_s : List Int) (p0_sv : Value) {r : (List (Int))} (hF : S_slices_Clone_int F p0_s = some r) (w0 : World) (h0 : RdRow w0 p0_sv (List.map (int i64) p0_s)) :
    Calls Try.prog 117 [p0_sv].toArray w0 (retPost fun v w' => Mem Nob w0 w' [(true, ow 3 v (List.map (int i64) r))]) := by
 have hM : Mem Nob w0 w0 [(false, rd p0_sv (List.map (int i64) p0_s))] := (Mem.rcons (Mem.nil w0) h0 (by simp))
 refine enter2 Try.func117 rfl rfl rfl fun Q a hQr hQn hQp hS => ?_
 have hS : Sl 8 [(0, p0_sv)] a := hS
 unfold S_slices_Clone_int at hF
 refine wp_seq_k fun K1 hK1 => ?_
 refine wp_region_lit ?_
 refine st_val hS rfl rfl (by decide) (rv_assign (hS.ev rfl)) fun a hS => ?_
 refine wpList_nil ?_
 refine hK1 _ _ ?_
 refine wp_seq_k fun K2 hK2 => ?_
 refine wp_seq_k fun K4 hK4 => ?_
 refine wp_region_lit ?_
 refine st_val hS rfl rfl (by decide) (rv_move (hS.ev rfl)) fun a hS => ?_
 obtain ⟨_, hx, hF⟩ := bind_some hF
 have hi0 := neO_some hx
 refine st_val hS rfl rfl (by decide) (rv_eql_nil Try.underlying22 (hS.ev rfl) (hS.ev rfl) (hM.get 0 rfl) hi0) fun a hS => ?_
 refine wpList_nil ?_
 refine hK4 _ _ ?_
 refine cond_f hS rfl rfl ?_
 refine wp_skip ?_
 refine hK2 _ _ ?_
 refine wp_seq_k fun K5 hK5 => ?_
 refine wp_region_lit ?_
 obtain ⟨v8, w, hr, hM⟩ := Mem.litE (f := (int i64)) (dst := some 5) (ty := _) (pos := _) (af := _) (gd := _) (ps := []) ([] : List (Int)) i64_one hM hS Try.underlying22 ty_el_3 rfl rfl rfl rfl
 refine st_val hS rfl rfl (by decide) hr fun a hS => ?_
 refine st_val hS rfl rfl (by decide) (rv_move (hS.ev rfl)) fun a hS => ?_
 obtain ⟨_, hx, hF⟩ := bind_some hF
 obtain ⟨v9, w, hr, hM⟩ := Mem.appE (f := (int i64)) (S := _) (R := [(false, rd p0_sv (List.map (int i64) p0_s))]) (ρ := a.eval) (dst := some 7) (ty := _) (pos := _) (af := _) (gd := _) (x := .tmp 5) (y := .tmp 6) i64_one hM Try.underlying22 ty_el_3 rfl (by decide) (hS.ev rfl) (hS.ev rfl) (hM.get 1 rfl) (catO_some hx)
 refine st_val hS rfl rfl (by decide) hr fun a hS => ?_
 refine st_val hS rfl rfl (by decide) (rv_assign (hS.ev rfl)) fun a hS => ?_
 refine wpList_nil ?_
 refine hK5 _ _ ?_
 refine wp_ret ?_
 cases hF
 exact hQr _ _ (r_1 hS rfl rfl (hM.pick [0] (by decide) rfl))


theorem c_impl_always (F : Nat) (p0_l : List Int) (p0_lv : Value) {r : Bool} (hF : S_impl_always F p0_l = some r) (w0 : World) (h0 : RdRow w0 p0_lv (List.map (int i64) p0_l)) :
    Calls Try.prog 70 [p0_lv].toArray w0 (retPost fun v w' => v = (Value.bool r) ∧ Mem Nob w0 w' []) := by
 have hM : Mem Nob w0 w0 [(false, rd p0_lv (List.map (int i64) p0_l))] := (Mem.rcons (Mem.nil w0) h0 (by simp))
 refine enter2 Try.func70 rfl rfl rfl fun Q a hQr hQn hQp hS => ?_
 have hS : Sl 3 [(0, p0_lv)] a := hS
 unfold S_impl_always at hF
 refine wp_seq_k fun K1 hK1 => ?_
 refine wp_region_lit ?_
 refine st_val hS rfl rfl (by decide) (rv_assign (hS.ev rfl)) fun a hS => ?_
 refine wpList_nil ?_
 refine hK1 _ _ ?_
 refine wp_seq_k fun K2 hK2 => ?_
 refine wp_region_lit ?_
 refine st_val hS rfl rfl (by decide) (rv_assign (hS.ev rfl)) fun a hS => ?_
 refine wpList_nil ?_
 refine hK2 _ _ ?_
 refine wp_ret ?_
 cases hF
 exact hQr _ _ (r_1 hS rfl rfl ⟨rfl, hM.pick [] (by decide) rfl⟩)


theorem c_impl_firstList_c1__FindClawc1__always__firstListc1_b (F : Nat) (slf : (List Int) → Int → Int → (List Int) → Int → (List Int) → Option ((Option (List Int)))) (ih : ∀ (p0_l : List Int) (q0_v : Int) (q1_v_c0_Size : Int) (q1_v_c0_Rows : List Int) (q2_Size : Int) (q2_Rows : List Int) (p0_lv : Value) (q0b : Nat) (q1_v_c0_Rowsv : Value) (q1_v_c0b : Nat) (q1b : Nat) (q2_Rowsv : Value) (q2b : Nat) (q3b : Nat) (q4b : Nat) {r : (Option (List Int))} (hF : slf p0_l q0_v q1_v_c0_Size q1_v_c0_Rows q2_Size q2_Rows = some r) (w0 : World) (h0 : RdRow w0 p0_lv (List.map (int i64) p0_l)) (h1 : (bx q0b 3 [(int i64 q0_v)]).P w0) (h2 : RdRow w0 q1_v_c0_Rowsv (List.map (int i64) q1_v_c0_Rows)) (h3 : (bx q1_v_c0b 28 [(int i64 q1_v_c0_Size), q1_v_c0_Rowsv]).P w0) (h4 : (bx q1b 55 [(Value.func (Fn.func 71) #[] #[(fdp q1_v_c0b 0)])]).P w0) (h5 : RdRow w0 q2_Rowsv (List.map (int i64) q2_Rows)) (h6 : (bx q2b 28 [(int i64 q2_Size), q2_Rowsv]).P w0) (h7 : (bx q3b 55 [(Value.func (Fn.func 70) #[] #[])]).P w0) (h8 : (bx q4b 41 [(Value.func (Fn.func 116) #[] #[(fdp q0b 0), (fdp q1b 0), (fdp q2b 0), (fdp q3b 0), (fdp q4b 0)])]).P w0), Calls Try.prog 116 [p0_lv, (fdp q0b 0), (fdp q1b 0), (fdp q2b 0), (fdp q3b 0), (fdp q4b 0)].toArray w0 (retPost fun v w' => OptRow Nob w0 w' 3 v r)) (p0_l : List Int) (q0_v : Int) (q1_v_c0_Size : Int) (q1_v_c0_Rows : List Int) (q2_Size : Int) (q2_Rows : List Int) (p0_lv : Value) (q0b : Nat) (q1_v_c0_Rowsv : Value) (q1_v_c0b : Nat) (q1b : Nat) (q2_Rowsv : Value) (q2b : Nat) (q3b : Nat) (q4b : Nat) {r : (Option (List Int))} (hF : S_impl_firstList_c1__FindClawc1__always__firstListc1_b F slf p0_l q0_v q1_v_c0_Size q1_v_c0_Rows q2_Size q2_Rows = some r) (w0 : World) (h0 : RdRow w0 p0_lv (List.map (int i64) p0_l)) (h1 : (bx q0b 3 [(int i64 q0_v)]).P w0) (h2 : RdRow w0 q1_v_c0_Rowsv (List.map (int i64) q1_v_c0_Rows)) (h3 : (bx q1_v_c0b 28 [(int i64 q1_v_c0_Size), q1_v_c0_Rowsv]).P w0) (h4 : (bx q1b 55 [(Value.func (Fn.func 71) #[] #[(fdp q1_v_c0b 0)])]).P w0) (h5 : RdRow w0 q2_Rowsv (List.map (int i64) q2_Rows)) (h6 : (bx q2b 28 [(int i64 q2_Size), q2_Rowsv]).P w0) (h7 : (bx q3b 55 [(Value.func (Fn.func 70) #[] #[])]).P w0) (h8 : (bx q4b 41 [(Value.func (Fn.func 116) #[] #[(fdp q0b 0), (fdp q1b 0), (fdp q2b 0), (fdp q3b 0), (fdp q4b 0)])]).P w0) :
    Calls Try.prog 116 [p0_lv, (fdp q0b 0), (fdp q1b 0), (fdp q2b 0), (fdp q3b 0), (fdp q4b 0)].toArray w0 (retPost fun v w' => OptRow Nob w0 w' 3 v r) := by
 have hM : Mem Nob w0 w0 [(false, rd p0_lv (List.map (int i64) p0_l)), (false, bx q0b 3 [(int i64 q0_v)]), (false, rd q1_v_c0_Rowsv (List.map (int i64) q1_v_c0_Rows)), (false, bx q1_v_c0b 28 [(int i64 q1_v_c0_Size), q1_v_c0_Rowsv]), (false, bx q1b 55 [(Value.func (Fn.func 71) #[] #[(fdp q1_v_c0b 0)])]), (false, rd q2_Rowsv (List.map (int i64) q2_Rows)), (false, bx q2b 28 [(int i64 q2_Size), q2_Rowsv]), (false, bx q3b 55 [(Value.func (Fn.func 70) #[] #[])]), (false, bx q4b 41 [(Value.func (Fn.func 116) #[] #[(fdp q0b 0), (fdp q1b 0), (fdp q2b 0), (fdp q3b 0), (fdp q4b 0)])])] := (Mem.rcons (Mem.gcons (Mem.rcons (Mem.gcons (Mem.gcons (Mem.rcons (Mem.gcons (Mem.gcons (Mem.gcons (Mem.nil w0) h8 (by simp)) h7 (by simp)) h6 (by simp)) h5 (by simp)) h4 (by simp)) h3 (by simp)) h2 (by simp)) h1 (by simp)) h0 (by simp))
 refine enter2 Try.func116 rfl rfl rfl fun Q a hQr hQn hQp hS => ?_
 have hS : Sl 50 [(0, p0_lv), (1, (fdp q0b 0)), (2, (fdp q1b 0)), (3, (fdp q2b 0)), (4, (fdp q3b 0)), (5, (fdp q4b 0))] a := hS
 unfold S_impl_firstList_c1__FindClawc1__always__firstListc1_b at hF
 refine wp_seq_k fun K1 hK1 => ?_
 refine wp_region_lit ?_
 refine st_val hS rfl rfl (by decide) (rv_assign (hS.ev rfl)) fun a hS => ?_
 refine wpList_nil ?_
 refine hK1 _ _ ?_
 refine wp_seq_k fun K2 hK2 => ?_
 refine wp_seq_k fun K22 hK22 => ?_
 refine wp_region_lit ?_
 refine st_val hS rfl rfl (by decide) (rv_move (hS.ev rfl)) fun a hS => ?_
 refine st_val hS rfl rfl (by decide) (rv_len_rowM Try.underlying22 (hS.ev rfl) (hM.get 0 rfl)) fun a hS => ?_
 refine st_val hS rfl rfl (by decide) (rv_load_bx (hS.ev rfl) ty_ag_3 (hM.get 1 rfl) rfl) fun a hS => ?_
 refine st_val hS rfl rfl (by decide) (rv_eql (hS.ev rfl) (hS.ev rfl)) fun a hS => ?_
 refine wpList_nil ?_
 refine hK22 _ _ ?_
 rcases ite_some hF with ⟨hc, hF⟩ | ⟨hc, hF⟩
 ·refine cond_t hS rfl hc ?_
  refine wp_seq_k fun K23 hK23 => ?_
  refine wp_seq_k fun K32 hK32 => ?_
  refine wp_region_lit ?_
  refine st_val hS rfl rfl (by decide) (rv_load_bx (hS.ev rfl) ty_ag_55 (hM.get 4 rfl) rfl) fun a hS => ?_
  refine st_val hS rfl rfl (by decide) (rv_move (hS.ev rfl)) fun a hS => ?_
  obtain ⟨r34, hr, hF⟩ := bind_some hF
  refine st_wp hS rfl (wp_callv (vs := [p0_lv]) (cap := [(fdp q1_v_c0b 0)]) hS rfl rfl rfl (by decide) fn_ok_71 rfl (c_impl_FindClaw_c1 F p0_l q1_v_c0_Size q1_v_c0_Rows p0_lv q1_v_c0_Rowsv q1_v_c0b hr _ (hM.get 0 rfl) (hM.get 2 rfl) (hM.get 3 rfl)) fun v w a hK hS => ?_)
  obtain ⟨rfl, hN⟩ := hK
  have hM := hM.fra hN.fr
  refine wpList_nil ?_
  refine hK32 _ _ ?_
  have hS : Sl 50 [(0, p0_lv), (17, (Value.bool r34))] a := hS.sub (sub_cons rfl (sub_cons rfl sub_nil))
  have hM := hM.pick [0] (by decide) rfl
  rcases ite_some hF with ⟨hc, hF⟩ | ⟨hc, hF⟩
  ·refine cond_t hS rfl hc ?_
   refine wp_seq_k fun K35 hK35 => ?_
   refine wp_region_lit ?_
   refine st_val hS rfl rfl (by decide) (rv_move (hS.ev rfl)) fun a hS => ?_
   obtain ⟨r38, hr, hF⟩ := bind_some hF
   refine st_wp hS rfl (wp_call hS rfl rfl (by decide) fn_ok_117 rfl (c_slices_Clone_int F p0_l p0_lv hr _ (hM.get 0 rfl)) fun v39 w a hK hS => ?_)
   have hN := hK
   have hM := hM.add hN rfl
   refine st_val hS rfl rfl (by decide) (rv_assign (hS.ev rfl)) fun a hS => ?_
   refine wpList_nil ?_
   refine hK35 _ _ ?_
   refine wp_ret ?_
   cases hF
   exact hQr _ _ (r_1 hS rfl rfl (hM.pick [0] (by decide) rfl))
  ·refine cond_f hS rfl hc ?_
   refine wp_skip ?_
   refine hK23 _ _ ?_
   refine wp_seq_k fun K40 hK40 => ?_
   refine wp_region_lit ?_
   refine st_val hS rfl rfl (by decide) (rv_assign (hS.ev rfl)) fun a hS => ?_
   refine wpList_nil ?_
   refine hK40 _ _ ?_
   refine wp_ret ?_
   cases hF
   exact hQr _ _ (r_1 hS rfl rfl ⟨rfl, hM.pick [] (by decide) rfl⟩)
 ·refine cond_f hS rfl hc ?_
  refine wp_skip ?_
  refine hK2 _ _ ?_
  refine wp_seq_k fun K41 hK41 => ?_
  have hJ1 : ∀ (a : Act) (w : World), Sl 50 [] a → Mem Nob w0 w [] → S_impl_firstList_c1__FindClawc1__always__firstListc1_j1 F = some r → K41 a w := by
   intro a w hS hM hF
   unfold S_impl_firstList_c1__FindClawc1__always__firstListc1_j1 at hF
   refine hK41 _ _ ?_
   refine wp_seq_k fun K146 hK146 => ?_
   refine wp_region_lit ?_
   refine st_val hS rfl rfl (by decide) (rv_assign (hS.ev rfl)) fun a hS => ?_
   refine wpList_nil ?_
   refine hK146 _ _ ?_
   refine wp_ret ?_
   cases hF
   exact hQr _ _ (r_1 hS rfl rfl ⟨rfl, hM.pick [] (by decide) rfl⟩)
  refine wp_seq_k fun K147 hK147 => ?_
  refine wp_region_lit ?_
  refine st_val hS rfl rfl (by decide) (rv_fieldAddr ty_fd_28_0 (hS.ev rfl)) fun a hS => ?_
  refine st_val hS rfl rfl (by decide) (rv_load_bx (hS.ev rfl) ty_ag_3 (hM.get 6 rfl) rfl) fun a hS => ?_
  refine st_val hS rfl rfl (by decide) (rv_move (hS.ev rfl)) fun a hS => ?_
  refine wpList_nil ?_
  refine hK147 _ _ ?_
  have hS : Sl 50 [(0, p0_lv), (4, (fdp q3b 0)), (5, (fdp q4b 0)), (21, (int i64 q2_Size)), (22, (int i64 0))] a := hS.sub (sub_cons rfl (sub_cons rfl (sub_cons rfl (sub_cons rfl (sub_cons rfl sub_nil)))))
  refine wp_block ?_
  obtain ⟨lb2, hl2, hF2⟩ := bind_some hF
  refine wp_loop_sh (fun s => S_impl_firstList_c1__FindClawc1__always__firstListc1_l2 F p0_l q0_v q1_v_c0_Size q1_v_c0_Rows q2_Size q2_Rows slf s) (fun s a w => Sl 50 [(0, p0_lv), (4, (fdp q3b 0)), (5, (fdp q4b 0)), (21, (int i64 q2_Size)), (22, (int i64 s))] a ∧ Mem Nob w0 w [(false, rd p0_lv (List.map (int i64) p0_l)), (false, bx q3b 55 [(Value.func (Fn.func 70) #[] #[])]), (false, bx q4b 41 [(Value.func (Fn.func 116) #[] #[(fdp q0b 0), (fdp q1b 0), (fdp q2b 0), (fdp q3b 0), (fdp q4b 0)])]), (false, bx q0b 3 [(int i64 q0_v)]), (false, bx q1b 55 [(Value.func (Fn.func 71) #[] #[(fdp q1_v_c0b 0)])]), (false, bx q1_v_c0b 28 [(int i64 q1_v_c0_Size), q1_v_c0_Rowsv]), (false, rd q1_v_c0_Rowsv (List.map (int i64) q1_v_c0_Rows)), (false, bx q2b 28 [(int i64 q2_Size), q2_Rowsv]), (false, rd q2_Rowsv (List.map (int i64) q2_Rows))]) hl2 ⟨(hS.sub (sub_cons rfl (sub_cons rfl (sub_cons rfl (sub_cons rfl (sub_cons rfl sub_nil)))))), (hM.pick [0, 7, 8, 1, 4, 3, 2, 6, 5] (by decide) rfl)⟩ ?_
  rintro K2 x148 a w res2 ⟨hS, hM⟩ hF hN2 hX2
  have hF : S_impl_firstList_c1__FindClawc1__always__firstListc1_l2 F p0_l q0_v q1_v_c0_Size q1_v_c0_Rows q2_Size q2_Rows slf x148 = some res2 := hF
  have hS : Sl 50 [(0, p0_lv), (4, (fdp q3b 0)), (5, (fdp q4b 0)), (21, (int i64 q2_Size)), (22, (int i64 x148))] a := hS
  have hM : Mem Nob w0 w [(false, rd p0_lv (List.map (int i64) p0_l)), (false, bx q3b 55 [(Value.func (Fn.func 70) #[] #[])]), (false, bx q4b 41 [(Value.func (Fn.func 116) #[] #[(fdp q0b 0), (fdp q1b 0), (fdp q2b 0), (fdp q3b 0), (fdp q4b 0)])]), (false, bx q0b 3 [(int i64 q0_v)]), (false, bx q1b 55 [(Value.func (Fn.func 71) #[] #[(fdp q1_v_c0b 0)])]), (false, bx q1_v_c0b 28 [(int i64 q1_v_c0_Size), q1_v_c0_Rowsv]), (false, rd q1_v_c0_Rowsv (List.map (int i64) q1_v_c0_Rows)), (false, bx q2b 28 [(int i64 q2_Size), q2_Rowsv]), (false, rd q2_Rowsv (List.map (int i64) q2_Rows))] := hM
  unfold S_impl_firstList_c1__FindClawc1__always__firstListc1_l2 at hF
  refine wp_seq_k fun K200 hK200 => ?_
  refine wp_region_lit ?_
  refine st_val hS rfl rfl (by decide) (rv_lss (hS.ev rfl) (hS.ev rfl)) fun a hS => ?_
  refine wpList_nil ?_
  refine hK200 _ _ ?_
  refine wp_seq_k fun K201 hK201 => ?_
  rcases ite_some hF with ⟨hc, hF⟩ | ⟨hc, hF⟩
  ·refine cond_t hS rfl hc ?_
   refine wp_skip ?_
   refine hK201 _ _ ?_
   refine wp_seq_k fun K202 hK202 => ?_
   have hJ3 : ∀ (a : Act) (w : World), Sl 50 [(0, p0_lv), (4, (fdp q3b 0)), (5, (fdp q4b 0)), (21, (int i64 q2_Size)), (22, (int i64 x148))] a → Mem Nob w0 w [(false, rd p0_lv (List.map (int i64) p0_l)), (false, bx q3b 55 [(Value.func (Fn.func 70) #[] #[])]), (false, bx q4b 41 [(Value.func (Fn.func 116) #[] #[(fdp q0b 0), (fdp q1b 0), (fdp q2b 0), (fdp q3b 0), (fdp q4b 0)])]), (false, bx q0b 3 [(int i64 q0_v)]), (false, bx q1b 55 [(Value.func (Fn.func 71) #[] #[(fdp q1_v_c0b 0)])]), (false, bx q1_v_c0b 28 [(int i64 q1_v_c0_Size), q1_v_c0_Rowsv]), (false, rd q1_v_c0_Rowsv (List.map (int i64) q1_v_c0_Rows)), (false, bx q2b 28 [(int i64 q2_Size), q2_Rowsv]), (false, rd q2_Rowsv (List.map (int i64) q2_Rows))] → S_impl_firstList_c1__FindClawc1__always__firstListc1_j3 F x148 = some res2 → K202 a w := by
    intro a w hS hM hF
    unfold S_impl_firstList_c1__FindClawc1__always__firstListc1_j3 at hF
    refine hK202 _ _ ?_
    refine wp_region_lit ?_
    refine st_val hS rfl rfl (by decide) (rv_add (hS.ev rfl) (hS.ev rfl)) fun a hS => ?_
    refine st_val hS rfl rfl (by decide) (rv_move (hS.ev rfl)) fun a hS => ?_
    refine wpList_nil ?_
    cases hF
    exact hN2 _ _ _ rfl ⟨(hS.sub (sub_cons rfl (sub_cons rfl (sub_cons rfl (sub_cons rfl (sub_cons rfl sub_nil)))))), (hM.pick [0, 1, 2, 3, 4, 5, 6, 7, 8] (by decide) rfl)⟩
   refine wp_block ?_
   refine wp_seq_k fun K227 hK227 => ?_
   refine wp_region_lit ?_
   refine st_val hS rfl rfl (by decide) (rv_move (hS.ev rfl)) fun a hS => ?_
   refine st_val hS rfl rfl (by decide) (rv_assign (hS.ev rfl)) fun a hS => ?_
   refine wpList_nil ?_
   refine hK227 _ _ ?_
   refine wp_seq_k fun K228 hK228 => ?_
   refine wp_region_lit ?_
   refine st_val hS rfl rfl (by decide) (rv_move (hS.ev rfl)) fun a hS => ?_
   refine st_val hS rfl rfl (by decide) (rv_move (hS.ev rfl)) fun a hS => ?_
   refine st_val hS rfl rfl (by decide) (rv_len_rowM Try.underlying22 (hS.ev rfl) (hM.get 0 rfl)) fun a hS => ?_
   refine st_val hS rfl rfl (by decide) (rv_move (hS.ev rfl)) fun a hS => ?_
   refine st_val hS rfl rfl (by decide) (rv_len_rowM Try.underlying22 (hS.ev rfl) (hM.get 0 rfl)) fun a hS => ?_
   obtain ⟨_, hx, hF⟩ := bind_some hF
   have hj232 := slO_some hx
   refine st_val hS rfl rfl (by decide) (rv_slF Try.underlying22 ty_el_3 (hS.ev rfl) (hS.ev rfl) (hS.ev rfl) (hM.get 0 rfl) hj232.1 (map_le hj232.2)) fun a hS => ?_
   refine st_val hS rfl rfl (by decide) (rv_move (hS.ev rfl)) fun a hS => ?_
   obtain ⟨v233, w, hr, hM⟩ := Mem.litE (f := (int i64)) (dst := some 32) (ty := _) (pos := _) (af := _) (gd := _) (ps := [(0, .tmp 31)]) ([x148] : List (Int)) i64_one hM hS Try.underlying22 ty_el_3 rfl rfl rfl rfl
   refine st_val hS rfl rfl (by decide) hr fun a hS => ?_
   obtain ⟨_, hx, hF⟩ := bind_some hF
   obtain ⟨v234, w, hr, hM⟩ := Mem.appF (f := (int i64)) (ρ := a.eval) (dst := some 33) (ty := _) (pos := _) (af := _) (gd := _) (x := .tmp 30) (y := .tmp 32) i64_one hM Try.underlying22 ty_el_3 rfl (by decide) (hS.ev rfl) (hM.get 1 rfl) hj232.1 hj232.2 (hS.ev rfl) (rd_of_ow (hM.get 0 rfl)) (by simp) (catO_some hx)
   refine st_val hS rfl rfl (by decide) hr fun a hS => ?_
   refine st_val hS rfl rfl (by decide) (rv_assign (hS.ev rfl)) fun a hS => ?_
   refine wpList_nil ?_
   refine hK228 _ _ ?_
   have hS : Sl 50 [(0, p0_lv), (4, (fdp q3b 0)), (5, (fdp q4b 0)), (8, (int i64 x148)), (9, v234), (21, (int i64 q2_Size)), (22, (int i64 x148))] a := hS.sub (sub_cons rfl (sub_cons rfl (sub_cons rfl (sub_cons rfl (sub_cons rfl (sub_cons rfl (sub_cons rfl sub_nil)))))))
   have hM := hM.pick [0, 2, 3, 4, 5, 6, 7, 8, 9, 10] (by decide) rfl
   refine wp_seq_k fun K235 hK235 => ?_
   have hJ4 : ∀ (p238 : Bool) (a : Act) (w : World), Sl 50 [(0, p0_lv), (4, (fdp q3b 0)), (5, (fdp q4b 0)), (9, v234), (21, (int i64 q2_Size)), (22, (int i64 x148)), (42, (Value.bool p238))] a → Mem Nob w0 w [(false, rd p0_lv (List.map (int i64) p0_l)), (false, bx q3b 55 [(Value.func (Fn.func 70) #[] #[])]), (false, bx q4b 41 [(Value.func (Fn.func 116) #[] #[(fdp q0b 0), (fdp q1b 0), (fdp q2b 0), (fdp q3b 0), (fdp q4b 0)])]), (false, bx q0b 3 [(int i64 q0_v)]), (false, bx q1b 55 [(Value.func (Fn.func 71) #[] #[(fdp q1_v_c0b 0)])]), (false, bx q1_v_c0b 28 [(int i64 q1_v_c0_Size), q1_v_c0_Rowsv]), (false, rd q1_v_c0_Rowsv (List.map (int i64) q1_v_c0_Rows)), (false, bx q2b 28 [(int i64 q2_Size), q2_Rowsv]), (false, rd q2_Rowsv (List.map (int i64) q2_Rows)), (true, ow 3 v234 (List.map (int i64) (p0_l.take ((p0_l.length : Int).toNat) ++ ([x148] : List (Int)))))] → S_impl_firstList_c1__FindClawc1__always__firstListc1_j4 F p0_l q0_v q1_v_c0_Size q1_v_c0_Rows q2_Size q2_Rows slf x148 p238 = some res2 → K235 a w := by
    intro p238 a w hS hM hF
    unfold S_impl_firstList_c1__FindClawc1__always__firstListc1_j4 at hF
    refine hK235 _ _ ?_
    rcases ite_some hF with ⟨hc, hF⟩ | ⟨hc, hF⟩
    ·refine cond_t hS rfl hc ?_
     refine wp_seq_k fun K239 hK239 => ?_
     refine wp_region_lit ?_
     refine st_val hS rfl rfl (by decide) (rv_load_bx (hS.ev rfl) ty_ag_41 (hM.get 2 rfl) rfl) fun a hS => ?_
     refine st_val hS rfl rfl (by decide) (rv_move (hS.ev rfl)) fun a hS => ?_
     obtain ⟨r243, hr, hF⟩ := bind_some hF
     refine st_wp hS rfl (wp_callv (vs := [v234]) (cap := [(fdp q0b 0), (fdp q1b 0), (fdp q2b 0), (fdp q3b 0), (fdp q4b 0)]) hS rfl rfl rfl (by decide) fn_ok_116 rfl (ih (p0_l.take ((p0_l.length : Int).toNat) ++ ([x148] : List (Int))) q0_v q1_v_c0_Size q1_v_c0_Rows q2_Size q2_Rows v234 q0b q1_v_c0_Rowsv q1_v_c0b q1b q2_Rowsv q2b q3b q4b hr _ (rd_of_ow (hM.get 9 rfl)) (hM.get 3 rfl) (hM.get 6 rfl) (hM.get 5 rfl) (hM.get 4 rfl) (hM.get 8 rfl) (hM.get 7 rfl) (hM.get 1 rfl) (hM.get 2 rfl)) fun v244 w a hK hS => ?_)
     rcases r243 with _ | c245
     ·dsimp only at hF
      obtain ⟨rfl, hN⟩ := hK
      have hM := hM.fra hN.fr
      refine st_val hS rfl rfl (by decide) (rv_assign (hS.ev rfl)) fun a hS => ?_
      refine wpList_nil ?_
      refine hK239 _ _ ?_
      refine wp_seq_k fun K246 hK246 => ?_
      refine wp_region_lit ?_
      refine st_val hS rfl rfl (by decide) (rv_move (hS.ev rfl)) fun a hS => ?_
      refine st_val hS rfl rfl (by decide) (rv_nil_neq Try.underlying22 (hS.ev rfl) (hS.ev rfl)) fun a hS => ?_
      refine wpList_nil ?_
      refine hK246 _ _ ?_
      refine cond_f hS rfl rfl ?_
      refine wp_skip ?_
      exact hJ3 _ _ (hS.sub (sub_cons rfl (sub_cons rfl (sub_cons rfl (sub_cons rfl (sub_cons rfl sub_nil)))))) (hM.pick [0, 1, 2, 3, 4, 5, 6, 7, 8] (by decide) rfl) hF
     ·dsimp only at hF
      have hN : Mem Nob _ w [(true, ow 3 v244 (List.map (int i64) c245))] := hK
      have hM := hM.add hN rfl
      refine st_val hS rfl rfl (by decide) (rv_assign (hS.ev rfl)) fun a hS => ?_
      refine wpList_nil ?_
      refine hK239 _ _ ?_
      refine wp_seq_k fun K247 hK247 => ?_
      refine wp_region_lit ?_
      refine st_val hS rfl rfl (by decide) (rv_move (hS.ev rfl)) fun a hS => ?_
      obtain ⟨_, hx, hF⟩ := bind_some hF
      have hi0 := neO_some hx
      refine st_val hS rfl rfl (by decide) (rv_neq_nil Try.underlying22 (hS.ev rfl) (hS.ev rfl) (rd_of_ow (hM.get 0 rfl)) hi0) fun a hS => ?_
      refine wpList_nil ?_
      refine hK247 _ _ ?_
      refine cond_t hS rfl rfl ?_
      refine wp_seq_k fun K248 hK248 => ?_
      refine wp_region_lit ?_
      refine st_val hS rfl rfl (by decide) (rv_move (hS.ev rfl)) fun a hS => ?_
      refine st_val hS rfl rfl (by decide) (rv_assign (hS.ev rfl)) fun a hS => ?_
      refine wpList_nil ?_
      refine hK248 _ _ ?_
      have hS : Sl 50 [(7, v244)] a := hS.sub (sub_cons rfl sub_nil)
      have hM := hM.pick [0] (by decide) rfl
      refine wp_ret ?_
      cases hF
      have e := hX2 _ rfl
      subst e
      have hF := hF2
      cases hF
      exact hQr _ _ (r_1 hS rfl rfl (hM.pick [0] (by decide) rfl))
    ·refine cond_f hS rfl hc ?_
     refine wp_skip ?_
     exact hJ3 _ _ (hS.sub (sub_cons rfl (sub_cons rfl (sub_cons rfl (sub_cons rfl (sub_cons rfl sub_nil)))))) (hM.pick [0, 1, 2, 3, 4, 5, 6, 7, 8] (by decide) rfl) hF
   refine wp_region_lit ?_
   refine st_val hS rfl rfl (by decide) (rv_move (hS.ev rfl)) fun a hS => ?_
   refine st_val hS rfl rfl (by decide) (rv_move (hS.ev rfl)) fun a hS => ?_
   obtain ⟨r249, hr, hF⟩ := bind_some hF
   refine st_wp hS rfl (wp_call hS rfl rfl (by decide) fn_ok_106 rfl (c_slices_Contains_int F p0_l x148 p0_lv hr _ (hM.get 1 rfl)) fun v w a hK hS => ?_)
   obtain ⟨rfl, hN⟩ := hK
   have hM := hM.fra hN.fr
   refine st_val hS rfl rfl (by decide) (rv_not (hS.ev rfl)) fun a hS => ?_
   refine st_val hS rfl rfl (by decide) (rv_move (hS.ev rfl)) fun a hS => ?_
   rcases ite_some hF with ⟨hc, hF⟩ | ⟨hc, hF⟩
   ·have hS := hS.setb (t := 38) rfl hc
    refine st_val hS rfl rfl (by decide) (rv_load_bx (hS.ev rfl) ty_ag_55 (hM.get 2 rfl) rfl) fun a hS => ?_
    refine st_val hS rfl rfl (by decide) (rv_move (hS.ev rfl)) fun a hS => ?_
    obtain ⟨r250, hr, hF⟩ := bind_some hF
    refine st_wp hS rfl (wp_callv (vs := [v234]) (cap := []) hS rfl rfl rfl (by decide) fn_ok_70 rfl (c_impl_always F (p0_l.take ((p0_l.length : Int).toNat) ++ ([x148] : List (Int))) v234 hr _ (rd_of_ow (hM.get 0 rfl))) fun v w a hK hS => ?_)
    obtain ⟨rfl, hN⟩ := hK
    have hM := hM.fra hN.fr
    refine st_val hS rfl rfl (by decide) (rv_pick_t (hS.ev rfl) (hS.ev rfl)) fun a hS => ?_
    refine wpList_nil ?_
    exact hJ4 r250 _ _ (hS.sub (sub_cons rfl (sub_cons rfl (sub_cons rfl (sub_cons rfl (sub_cons rfl (sub_cons rfl (sub_cons rfl sub_nil)))))))) (hM.pick [1, 2, 3, 4, 5, 6, 7, 8, 9, 0] (by decide) rfl) hF
   ·have hS := hS.setb (t := 38) rfl hc
    refine st_skip hS rfl rfl (by decide) fun a hS => ?_
    refine st_skip hS rfl rfl (by decide) fun a hS => ?_
    refine st_skip hS rfl rfl (by decide) fun a hS => ?_
    refine st_val hS rfl rfl (by decide) (rv_pick_f (hS.ev rfl) (hS.ev rfl)) fun a hS => ?_
    refine wpList_nil ?_
    exact hJ4 false _ _ (hS.sub (sub_cons rfl (sub_cons rfl (sub_cons rfl (sub_cons rfl (sub_cons rfl (sub_cons rfl (sub_cons rfl sub_nil)))))))) (hM.pick [1, 2, 3, 4, 5, 6, 7, 8, 9, 0] (by decide) rfl) hF
  ·refine cond_f hS rfl hc ?_
   refine wp_exit ?_
   cases hF
   exact hJ1 _ _ (hS.sub sub_nil) (hM.pick [] (by decide) rfl) (by have e := hX2 _ rfl; subst e; exact hF2)

theorem c_impl_firstList_c1__FindClawc1__always__firstListc1_d (F : Nat) : ∀ (D : Nat) (p0_l : List Int) (q0_v : Int) (q1_v_c0_Size : Int) (q1_v_c0_Rows : List Int) (q2_Size : Int) (q2_Rows : List Int) (p0_lv : Value) (q0b : Nat) (q1_v_c0_Rowsv : Value) (q1_v_c0b : Nat) (q1b : Nat) (q2_Rowsv : Value) (q2b : Nat) (q3b : Nat) (q4b : Nat) {r : (Option (List Int))} (hF : S_impl_firstList_c1__FindClawc1__always__firstListc1_d F D p0_l q0_v q1_v_c0_Size q1_v_c0_Rows q2_Size q2_Rows = some r) (w0 : World) (h0 : RdRow w0 p0_lv (List.map (int i64) p0_l)) (h1 : (bx q0b 3 [(int i64 q0_v)]).P w0) (h2 : RdRow w0 q1_v_c0_Rowsv (List.map (int i64) q1_v_c0_Rows)) (h3 : (bx q1_v_c0b 28 [(int i64 q1_v_c0_Size), q1_v_c0_Rowsv]).P w0) (h4 : (bx q1b 55 [(Value.func (Fn.func 71) #[] #[(fdp q1_v_c0b 0)])]).P w0) (h5 : RdRow w0 q2_Rowsv (List.map (int i64) q2_Rows)) (h6 : (bx q2b 28 [(int i64 q2_Size), q2_Rowsv]).P w0) (h7 : (bx q3b 55 [(Value.func (Fn.func 70) #[] #[])]).P w0) (h8 : (bx q4b 41 [(Value.func (Fn.func 116) #[] #[(fdp q0b 0), (fdp q1b 0), (fdp q2b 0), (fdp q3b 0), (fdp q4b 0)])]).P w0), Calls Try.prog 116 [p0_lv, (fdp q0b 0), (fdp q1b 0), (fdp q2b 0), (fdp q3b 0), (fdp q4b 0)].toArray w0 (retPost fun v w' => OptRow Nob w0 w' 3 v r) := by
  intro D
  induction D with
  | zero =>
    intro p0_l q0_v q1_v_c0_Size q1_v_c0_Rows q2_Size q2_Rows p0_lv q0b q1_v_c0_Rowsv q1_v_c0b q1b q2_Rowsv q2b q3b q4b r hF
    simp [S_impl_firstList_c1__FindClawc1__always__firstListc1_d] at hF
  | succ D ih =>
    intro p0_l q0_v q1_v_c0_Size q1_v_c0_Rows q2_Size q2_Rows p0_lv q0b q1_v_c0_Rowsv q1_v_c0b q1b q2_Rowsv q2b q3b q4b r hF w0 h0 h1 h2 h3 h4 h5 h6 h7 h8
    rw [S_impl_firstList_c1__FindClawc1__always__firstListc1_d] at hF
    exact c_impl_firstList_c1__FindClawc1__always__firstListc1_b F (S_impl_firstList_c1__FindClawc1__always__firstListc1_d F D) ih p0_l q0_v q1_v_c0_Size q1_v_c0_Rows q2_Size q2_Rows p0_lv q0b q1_v_c0_Rowsv q1_v_c0b q1b q2_Rowsv q2b q3b q4b hF w0 h0 h1 h2 h3 h4 h5 h6 h7 h8

theorem c_impl_firstList_c1__FindClawc1__always__firstListc1 (F : Nat) (p0_l : List Int) (q0_v : Int) (q1_v_c0_Size : Int) (q1_v_c0_Rows : List Int) (q2_Size : Int) (q2_Rows : List Int) (p0_lv : Value) (q0b : Nat) (q1_v_c0_Rowsv : Value) (q1_v_c0b : Nat) (q1b : Nat) (q2_Rowsv : Value) (q2b : Nat) (q3b : Nat) (q4b : Nat) {r : (Option (List Int))} (hF : S_impl_firstList_c1__FindClawc1__always__firstListc1 F p0_l q0_v q1_v_c0_Size q1_v_c0_Rows q2_Size q2_Rows = some r) (w0 : World) (h0 : RdRow w0 p0_lv (List.map (int i64) p0_l)) (h1 : (bx q0b 3 [(int i64 q0_v)]).P w0) (h2 : RdRow w0 q1_v_c0_Rowsv (List.map (int i64) q1_v_c0_Rows)) (h3 : (bx q1_v_c0b 28 [(int i64 q1_v_c0_Size), q1_v_c0_Rowsv]).P w0) (h4 : (bx q1b 55 [(Value.func (Fn.func 71) #[] #[(fdp q1_v_c0b 0)])]).P w0) (h5 : RdRow w0 q2_Rowsv (List.map (int i64) q2_Rows)) (h6 : (bx q2b 28 [(int i64 q2_Size), q2_Rowsv]).P w0) (h7 : (bx q3b 55 [(Value.func (Fn.func 70) #[] #[])]).P w0) (h8 : (bx q4b 41 [(Value.func (Fn.func 116) #[] #[(fdp q0b 0), (fdp q1b 0), (fdp q2b 0), (fdp q3b 0), (fdp q4b 0)])]).P w0) : Calls Try.prog 116 [p0_lv, (fdp q0b 0), (fdp q1b 0), (fdp q2b 0), (fdp q3b 0), (fdp q4b 0)].toArray w0 (retPost fun v w' => OptRow Nob w0 w' 3 v r) :=
  c_impl_firstList_c1__FindClawc1__always__firstListc1_d F F p0_l q0_v q1_v_c0_Size q1_v_c0_Rows q2_Size q2_Rows p0_lv q0b q1_v_c0_Rowsv q1_v_c0b q1b q2_Rowsv q2b q3b q4b hF w0 h0 h1 h2 h3 h4 h5 h6 h7 h8


theorem c_impl_firstList__always__FindClawc1 (F : Nat) (p0_g_Size : Int) (p0_g_Rows : List Int) (p1_n : Int) (p3_holds_c0_Size : Int) (p3_holds_c0_Rows : List Int) (p0_g_Rowsv : Value) (p3_holds_c0_Rowsv : Value) (p3_holds_c0b : Nat) {r : (List (Int)) × Bool} (hF : S_impl_firstList__always__FindClawc1 F p0_g_Size p0_g_Rows p1_n p3_holds_c0_Size p3_holds_c0_Rows = some r) (w0 : World) (h0 : RdRow w0 p0_g_Rowsv (List.map (int i64) p0_g_Rows)) (h1 : RdRow w0 p3_holds_c0_Rowsv (List.map (int i64) p3_holds_c0_Rows)) (h2 : (bx p3_holds_c0b 28 [(int i64 p3_holds_c0_Size), p3_holds_c0_Rowsv]).P w0) :
    Calls Try.prog 69 [(Value.agg #[(int i64 p0_g_Size), p0_g_Rowsv]), (int i64 p1_n), (Value.func (Fn.func 70) #[] #[]), (Value.func (Fn.func 71) #[] #[(fdp p3_holds_c0b 0)])].toArray w0 (retPost fun v w' => ∃ v32, v = (Value.tuple #[v32, (Value.bool r.2)]) ∧ Mem Nob w0 w' [(true, ow 3 v32 (List.map (int i64) r.1))]) := by
 have hM : Mem Nob w0 w0 [(false, rd p0_g_Rowsv (List.map (int i64) p0_g_Rows)), (false, rd p3_holds_c0_Rowsv (List.map (int i64) p3_holds_c0_Rows)), (false, bx p3_holds_c0b 28 [(int i64 p3_holds_c0_Size), p3_holds_c0_Rowsv])] := (Mem.rcons (Mem.rcons (Mem.gcons (Mem.nil w0) h2 (by simp)) h1 (by simp)) h0 (by simp))
 refine enter2 Try.func69 rfl rfl rfl fun Q a hQr hQn hQp hS => ?_
 have hS : Sl 21 [(0, (Value.agg #[(int i64 p0_g_Size), p0_g_Rowsv])), (1, (int i64 p1_n)), (2, (Value.func (Fn.func 70) #[] #[])), (3, (Value.func (Fn.func 71) #[] #[(fdp p3_holds_c0b 0)]))] a := hS
 unfold S_impl_firstList__always__FindClawc1 at hF
 refine wp_seq_k fun K1 hK1 => ?_
 refine wp_region_lit ?_
 obtain ⟨b6, w, hr, hM⟩ := hM.boxE (ρ := a.eval) (dst := some 4) (ty := _) (pos := _) (af := _) (gd := _) (x := .tmp 0) (T := 28) [(int i64 p0_g_Size), p0_g_Rowsv] (hS.ev rfl) rfl
 refine st_val hS rfl rfl (by decide) hr fun a hS => ?_
 obtain ⟨b7, w, hr, hM⟩ := hM.boxE (ρ := a.eval) (dst := some 5) (ty := _) (pos := _) (af := _) (gd := _) (x := .tmp 1) (T := 3) [(int i64 p1_n)] (hS.ev rfl) rfl
 refine st_val hS rfl rfl (by decide) hr fun a hS => ?_
 obtain ⟨b8, w, hr, hM⟩ := hM.boxE (ρ := a.eval) (dst := some 6) (ty := _) (pos := _) (af := _) (gd := _) (x := .tmp 2) (T := 55) [(Value.func (Fn.func 70) #[] #[])] (hS.ev rfl) rfl
 refine st_val hS rfl rfl (by decide) hr fun a hS => ?_
 obtain ⟨b9, w, hr, hM⟩ := hM.boxE (ρ := a.eval) (dst := some 7) (ty := _) (pos := _) (af := _) (gd := _) (x := .tmp 3) (T := 55) [(Value.func (Fn.func 71) #[] #[(fdp p3_holds_c0b 0)])] (hS.ev rfl) rfl
 refine st_val hS rfl rfl (by decide) hr fun a hS => ?_
 refine st_val hS rfl rfl (by decide) (rv_assign (hS.ev rfl)) fun a hS => ?_
 refine st_val hS rfl rfl (by decide) (rv_assign (hS.ev rfl)) fun a hS => ?_
 refine wpList_nil ?_
 refine hK1 _ _ ?_
 refine wp_seq_k fun K10 hK10 => ?_
 refine wp_region_lit ?_
 obtain ⟨b12, w, hr, hM⟩ := hM.allocE (ρ := a.eval) (dst := some 10) (ty := _) (pos := _) (af := _) (gd := _) (T := 41) (P := Try.prog) [Value.nilFunc] ty_zr_41 rfl
 refine st_val hS rfl rfl (by decide) hr fun a hS => ?_
 refine wpList_nil ?_
 refine hK10 _ _ ?_
 refine wp_seq_k fun K13 hK13 => ?_
 refine wp_region_lit ?_
 refine st_val hS rfl rfl (by decide) (rv_makeFunc hS rfl) fun a hS => ?_
 obtain ⟨w, hr, hM⟩ := hM.st_bx1 (n := 0) (cs' := [(Value.func (Fn.func 116) #[] #[(fdp b7 0), (fdp b9 0), (fdp b6 0), (fdp b8 0), (fdp b12 0)])]) (ρ := a.eval) (dst := none) (ty := _) (pos := _) (af := _) (gd := _) (x := .tmp 10) (y := .tmp 12) (hS.ev rfl) (hS.ev rfl) ty_sz_41 rfl rfl rfl
 refine st_unit hS rfl rfl hr ?_
 refine wpList_nil ?_
 refine hK13 _ _ ?_
 have hS : Sl 21 [(4, (fdp b6 0)), (10, (fdp b12 0))] a := hS.sub (sub_cons rfl (sub_cons rfl sub_nil))
 refine wp_seq_k fun K14 hK14 => ?_
 refine wp_seq_k fun K19 hK19 => ?_
 refine wp_region_lit ?_
 refine st_val hS rfl rfl (by decide) (rv_load_agg (hS.ev rfl) ty_ag_28 (hM.get 4 rfl) ty_sz_28) fun a hS => ?_
 obtain ⟨r21, hr, hF⟩ := bind_some hF
 refine st_wp hS rfl (wp_call hS rfl rfl (by decide) fn_ok_110 rfl (c_impl_IsGraph F p0_g_Size p0_g_Rows p0_g_Rowsv hr _ (hM.get 5 rfl)) fun v w a hK hS => ?_)
 obtain ⟨rfl, hN⟩ := hK
 have hM := hM.fra hN.fr
 refine st_val hS rfl rfl (by decide) (rv_not (hS.ev rfl)) fun a hS => ?_
 refine wpList_nil ?_
 refine hK19 _ _ ?_
 rcases ite_some hF with ⟨hc, hF⟩ | ⟨hc, hF⟩
 ·refine cond_t hS rfl hc ?_
  refine wp_seq_k fun K22 hK22 => ?_
  refine wp_region_lit ?_
  refine st_val hS rfl rfl (by decide) (rv_assign (hS.ev rfl)) fun a hS => ?_
  refine st_val hS rfl rfl (by decide) (rv_assign (hS.ev rfl)) fun a hS => ?_
  refine wpList_nil ?_
  refine hK22 _ _ ?_
  have hS : Sl 21 [(8, (Value.slice none 0 0)), (9, (Value.bool false))] a := hS.sub (sub_cons rfl (sub_cons rfl sub_nil))
  have hM := hM.pick [] (by decide) rfl
  refine wp_ret ?_
  cases hF
  have hM := hM.addNil 3
  exact hQr _ _ (r_2 hS rfl rfl rfl ⟨(Value.slice none 0 0), rfl, hM.pick [0] (by decide) rfl⟩)
 ·refine cond_f hS rfl hc ?_
  refine wp_skip ?_
  refine hK14 _ _ ?_
  refine wp_seq_k fun K23 hK23 => ?_
  refine wp_region_lit ?_
  refine st_val hS rfl rfl (by decide) (rv_load_bx (hS.ev rfl) ty_ag_41 (hM.get 0 rfl) rfl) fun a hS => ?_
  have hM := hM.addNil 3
  obtain ⟨r27, hr, hF⟩ := bind_some hF
  refine st_wp hS rfl (wp_callv (vs := [(Value.slice none 0 0)]) (cap := [(fdp b7 0), (fdp b9 0), (fdp b6 0), (fdp b8 0), (fdp b12 0)]) hS rfl rfl rfl (by decide) fn_ok_116 rfl (c_impl_firstList_c1__FindClawc1__always__firstListc1 F ([] : List (Int)) p1_n p3_holds_c0_Size p3_holds_c0_Rows p0_g_Size p0_g_Rows (Value.slice none 0 0) b7 p3_holds_c0_Rowsv p3_holds_c0b b9 p0_g_Rowsv b6 b8 b12 hr _ (rd_of_ow (hM.get 0 rfl)) (hM.get 4 rfl) (hM.get 7 rfl) (hM.get 8 rfl) (hM.get 2 rfl) (hM.get 6 rfl) (hM.get 5 rfl) (hM.get 3 rfl) (hM.get 1 rfl)) fun v28 w a hK hS => ?_)
  rcases r27 with _ | c29
  ·dsimp only at hF
   obtain ⟨rfl, hN⟩ := hK
   have hM := hM.fra hN.fr
   refine st_val hS rfl rfl (by decide) (rv_assign (hS.ev rfl)) fun a hS => ?_
   refine wpList_nil ?_
   refine hK23 _ _ ?_
   have hS : Sl 21 [(11, (Value.slice none 0 0))] a := hS.sub (sub_cons rfl sub_nil)
   have hM := hM.pick [] (by decide) rfl
   refine wp_seq_k fun K30 hK30 => ?_
   refine wp_region_lit ?_
   refine st_val hS rfl rfl (by decide) (rv_move (hS.ev rfl)) fun a hS => ?_
   refine st_val hS rfl rfl (by decide) (rv_move (hS.ev rfl)) fun a hS => ?_
   refine st_val hS rfl rfl (by decide) (rv_nil_neq Try.underlying22 (hS.ev rfl) (hS.ev rfl)) fun a hS => ?_
   refine st_val hS rfl rfl (by decide) (rv_assign (hS.ev rfl)) fun a hS => ?_
   refine st_val hS rfl rfl (by decide) (rv_assign (hS.ev rfl)) fun a hS => ?_
   refine wpList_nil ?_
   refine hK30 _ _ ?_
   refine wp_ret ?_
   cases hF
   have hM := hM.addNil 3
   exact hQr _ _ (r_2 hS rfl rfl rfl ⟨(Value.slice none 0 0), rfl, hM.pick [0] (by decide) rfl⟩)
  ·dsimp only at hF
   have hN : Mem Nob _ w [(true, ow 3 v28 (List.map (int i64) c29))] := hK
   have hM := hM.add hN rfl
   refine st_val hS rfl rfl (by decide) (rv_assign (hS.ev rfl)) fun a hS => ?_
   refine wpList_nil ?_
   refine hK23 _ _ ?_
   have hS : Sl 21 [(11, v28)] a := hS.sub (sub_cons rfl sub_nil)
   have hM := hM.pick [0] (by decide) rfl
   refine wp_seq_k fun K31 hK31 => ?_
   refine wp_region_lit ?_
   refine st_val hS rfl rfl (by decide) (rv_move (hS.ev rfl)) fun a hS => ?_
   refine st_val hS rfl rfl (by decide) (rv_move (hS.ev rfl)) fun a hS => ?_
   obtain ⟨_, hx, hF⟩ := bind_some hF
   have hi0 := neO_some hx
   refine st_val hS rfl rfl (by decide) (rv_neq_nil Try.underlying22 (hS.ev rfl) (hS.ev rfl) (rd_of_ow (hM.get 0 rfl)) hi0) fun a hS => ?_
   refine st_val hS rfl rfl (by decide) (rv_assign (hS.ev rfl)) fun a hS => ?_
   refine st_val hS rfl rfl (by decide) (rv_assign (hS.ev rfl)) fun a hS => ?_
   refine wpList_nil ?_
   refine hK31 _ _ ?_
   refine wp_ret ?_
   cases hF
   exact hQr _ _ (r_2 hS rfl rfl rfl ⟨v28, rfl, hM.pick [0] (by decide) rfl⟩)


theorem c_impl_FindClaw (F : Nat) (p0_g_Size : Int) (p0_g_Rows : List Int) (p0_g_Rowsv : Value) {r : (List (Int)) × Bool} (hF : S_impl_FindClaw F p0_g_Size p0_g_Rows = some r) (w0 : World) (h0 : RdRow w0 p0_g_Rowsv (List.map (int i64) p0_g_Rows)) :
    Calls Try.prog 12 [(Value.agg #[(int i64 p0_g_Size), p0_g_Rowsv])].toArray w0 (retPost fun v w' => ∃ v9, v = (Value.tuple #[v9, (Value.bool r.2)]) ∧ Mem Nob w0 w' [(true, ow 3 v9 (List.map (int i64) r.1))]) := by
 have hM : Mem Nob w0 w0 [(false, rd p0_g_Rowsv (List.map (int i64) p0_g_Rows))] := (Mem.rcons (Mem.nil w0) h0 (by simp))
 refine enter2 Try.func12 rfl rfl rfl fun Q a hQr hQn hQp hS => ?_
 have hS : Sl 9 [(0, (Value.agg #[(int i64 p0_g_Size), p0_g_Rowsv]))] a := hS
 unfold S_impl_FindClaw at hF
 refine wp_seq_k fun K1 hK1 => ?_
 refine wp_region_lit ?_
 obtain ⟨b3, w, hr, hM⟩ := hM.boxE (ρ := a.eval) (dst := some 1) (ty := _) (pos := _) (af := _) (gd := _) (x := .tmp 0) (T := 28) [(int i64 p0_g_Size), p0_g_Rowsv] (hS.ev rfl) rfl
 refine st_val hS rfl rfl (by decide) hr fun a hS => ?_
 refine st_val hS rfl rfl (by decide) (rv_assign (hS.ev rfl)) fun a hS => ?_
 refine st_val hS rfl rfl (by decide) (rv_assign (hS.ev rfl)) fun a hS => ?_
 refine wpList_nil ?_
 refine hK1 _ _ ?_
 refine wp_seq_k fun K4 hK4 => ?_
 refine wp_region_lit ?_
 refine st_val hS rfl rfl (by decide) (rv_load_agg (hS.ev rfl) ty_ag_28 (hM.get 0 rfl) ty_sz_28) fun a hS => ?_
 refine st_val hS rfl rfl (by decide) (rv_makeFunc hS rfl) fun a hS => ?_
 obtain ⟨r7, hr, hF⟩ := bind_some hF
 refine st_wp hS rfl (wp_call hS rfl rfl (by decide) fn_ok_69 rfl (c_impl_firstList__always__FindClawc1 F p0_g_Size p0_g_Rows 4 p0_g_Size p0_g_Rows p0_g_Rowsv p0_g_Rowsv b3 hr _ (hM.get 1 rfl) (hM.get 1 rfl) (hM.get 0 rfl)) fun v w a hK hS => ?_)
 obtain ⟨v8, rfl, hN⟩ := hK
 have hM := hM.add hN rfl
 refine st_val hS rfl rfl (by decide) (rv_extract (hS.ev rfl) rfl) fun a hS => ?_
 refine st_val hS rfl rfl (by decide) (rv_extract (hS.ev rfl) rfl) fun a hS => ?_
 refine st_val hS rfl rfl (by decide) (rv_assign (hS.ev rfl)) fun a hS => ?_
 refine st_val hS rfl rfl (by decide) (rv_assign (hS.ev rfl)) fun a hS => ?_
 refine wpList_nil ?_
 refine hK4 _ _ ?_
 refine wp_ret ?_
 cases hF
 exact hQr _ _ (r_2 hS rfl rfl rfl ⟨v8, rfl, hM.pick [0] (by decide) rfl⟩)


end Go.Proofs.Ytilfniehellmmaa
