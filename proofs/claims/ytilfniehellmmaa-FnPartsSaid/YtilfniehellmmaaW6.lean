/- Proved here: that each Go function does what its shallow function says -/
import Derived.Test.YtilfniehellmmaaSh
import Derived.Test.YtilfniehellmmaaTy
import Derived.Test.YtilfniehellmmaaK13
import Derived.Test.YtilfniehellmmaaW0
import Derived.Test.YtilfniehellmmaaW1
import Derived.Test.YtilfniehellmmaaW2
import Derived.Test.YtilfniehellmmaaW3
import Derived.Test.YtilfniehellmmaaW4
import Derived.Test.YtilfniehellmmaaW5
namespace Go.Proofs.Ytilfniehellmmaa
open Go Go.RowKit
set_option linter.unusedVariables false
set_option linter.unusedSimpArgs false
set_option maxRecDepth 100000
set_option maxHeartbeats 40000000

open Go.IntKind (i64)
open Go.Value (int)
theorem c_spec_ComplementOf (F : Nat) (p0_g_Size : Int) (p0_g_Rows : List Int) (p0_g_Rowsv : Value) {r : Int × (List (Int)) × Bool} (hF : S_spec_ComplementOf F p0_g_Size p0_g_Rows = some r) (w0 : World) (h0 : RdRow w0 p0_g_Rowsv (List.map (int i64) p0_g_Rows)) :
    Calls Try.prog 32 [(Value.agg #[(int i64 p0_g_Size), p0_g_Rowsv])].toArray w0 (retPost fun v w' => ∃ v104, v = (Value.tuple #[(Value.agg #[(int i64 r.1), v104]), (Value.bool r.2.2)]) ∧ Mem Nob w0 w' [(true, ow 3 v104 (List.map (int i64) r.2.1))]) := by
 have hM : Mem Nob w0 w0 [(false, rd p0_g_Rowsv (List.map (int i64) p0_g_Rows))] := (Mem.rcons (Mem.nil w0) h0 (by simp))
 refine enter2 Try.func32 rfl rfl rfl fun Q a hQr hQn hQp hS => ?_
 have hS : Sl 38 [(0, (Value.agg #[(int i64 p0_g_Size), p0_g_Rowsv]))] a := hS
 unfold S_spec_ComplementOf at hF
 refine wp_seq_k fun K1 hK1 => ?_
 refine wp_region_lit ?_
 obtain ⟨b4, w, hr, hM⟩ := hM.boxE (ρ := a.eval) (dst := some 1) (ty := _) (pos := _) (af := _) (gd := _) (x := .tmp 0) (T := 28) [(int i64 p0_g_Size), p0_g_Rowsv] (hS.ev rfl) rfl
 refine st_val hS rfl rfl (by decide) hr fun a hS => ?_
 obtain ⟨b5, w, hr, hM⟩ := hM.allocE (ρ := a.eval) (dst := some 2) (ty := _) (pos := _) (af := _) (gd := _) (T := 28) (P := Try.prog) [(int i64 0), (Value.slice none 0 0)] ty_zr_28 rfl
 refine st_val hS rfl rfl (by decide) hr fun a hS => ?_
 have hM := hM.addNil 3
 refine st_val hS rfl rfl (by decide) (rv_assign (hS.ev rfl)) fun a hS => ?_
 refine wpList_nil ?_
 refine hK1 _ _ ?_
 refine wp_seq_k fun K6 hK6 => ?_
 refine wp_seq_k fun K11 hK11 => ?_
 refine wp_region_lit ?_
 refine st_val hS rfl rfl (by decide) (rv_load_agg (hS.ev rfl) ty_ag_28 (hM.get 2 rfl) ty_sz_28) fun a hS => ?_
 obtain ⟨r13, hr, hF⟩ := bind_some hF
 refine st_wp hS rfl (wp_call hS rfl rfl (by decide) fn_ok_73 rfl (c_spec_IsGraph F p0_g_Size p0_g_Rows p0_g_Rowsv hr _ (hM.get 3 rfl)) fun v w a hK hS => ?_)
 obtain ⟨rfl, hN⟩ := hK
 have hM := hM.fra hN.fr
 refine st_val hS rfl rfl (by decide) (rv_not (hS.ev rfl)) fun a hS => ?_
 refine wpList_nil ?_
 refine hK11 _ _ ?_
 rcases ite_some hF with ⟨hc, hF⟩ | ⟨hc, hF⟩
 ·refine cond_t hS rfl hc ?_
  refine wp_seq_k fun K14 hK14 => ?_
  refine wp_region_lit ?_
  refine st_val hS rfl rfl (by decide) (rv_build hS ty_st_28 rfl (by simp) ones_nil) fun a hS => ?_
  have hM := hM.pick [1, 0, 2, 3] (by decide) rfl
  obtain ⟨w, hr, hM⟩ := hM.st_agg (us := [(int i64 0), (Value.slice none 0 0)]) (ρ := a.eval) (dst := none) (ty := _) (pos := _) (af := _) (gd := _) (x := .tmp 2) (y := .tmp 9) (hS.ev rfl) (hS.ev rfl) ty_sz_28 (all1_cons rfl (all1_cons rfl all1_nil)) rfl
  refine st_unit hS rfl rfl hr ?_
  have hM := hM.addNil 3
  refine st_val hS rfl rfl (by decide) (rv_assign (hS.ev rfl)) fun a hS => ?_
  refine wpList_nil ?_
  refine hK14 _ _ ?_
  have hS : Sl 38 [(2, (fdp b5 0)), (3, (Value.bool false))] a := hS.sub (sub_cons rfl (sub_cons rfl sub_nil))
  have hM := hM.pick [0, 1] (by decide) rfl
  refine wp_ret ?_
  cases hF
  exact hQr _ _ (r_cc hS rfl ⟨_, rfl, run_loadAgg ty_ag_28 (hM.get 1 rfl) ty_sz_28⟩ rfl ⟨(Value.slice none 0 0), rfl, hM.pick [0] (by decide) rfl⟩)
 ·refine cond_f hS rfl hc ?_
  refine wp_skip ?_
  refine hK6 _ _ ?_
  refine wp_seq_k fun K15 hK15 => ?_
  refine wp_region_lit ?_
  refine st_val hS rfl rfl (by decide) (rv_fieldAddr ty_fd_28_0 (hS.ev rfl)) fun a hS => ?_
  refine st_val hS rfl rfl (by decide) (rv_load_bx (hS.ev rfl) ty_ag_3 (hM.get 2 rfl) rfl) fun a hS => ?_
  refine st_val hS rfl rfl (by decide) (rv_build hS ty_st_28 rfl (by simp) (ones_cons (by rw [hS.ev (v := (int i64 p0_g_Size)) rfl]; rfl) ones_nil)) fun a hS => ?_
  obtain ⟨b17, w, hr, hM⟩ := hM.allocE (ρ := a.eval) (dst := some 4) (ty := _) (pos := _) (af := _) (gd := _) (T := 28) (P := Try.prog) [(int i64 0), (Value.slice none 0 0)] ty_zr_28 rfl
  refine st_val hS rfl rfl (by decide) hr fun a hS => ?_
  have hM := hM.addNil 3
  have hM := hM.pick [1, 0, 2, 3, 4, 5] (by decide) rfl
  obtain ⟨w, hr, hM⟩ := hM.st_agg (us := [(int i64 p0_g_Size), (Value.slice none 0 0)]) (ρ := a.eval) (dst := none) (ty := _) (pos := _) (af := _) (gd := _) (x := .tmp 4) (y := .tmp 12) (hS.ev rfl) (hS.ev rfl) ty_sz_28 (all1_cons rfl (all1_cons rfl all1_nil)) rfl
  refine st_unit hS rfl rfl hr ?_
  have hM := hM.addNil 3
  refine wpList_nil ?_
  refine hK15 _ _ ?_
  have hS : Sl 38 [(1, (fdp b4 0)), (2, (fdp b5 0)), (4, (fdp b17 0))] a := hS.sub (sub_cons rfl (sub_cons rfl (sub_cons rfl sub_nil)))
  have hM := hM.pick [0, 1, 3, 4, 5, 6] (by decide) rfl
  refine wp_seq_k fun K18 hK18 => ?_
  have hJ1 : ∀ (l61 : List Int) (v60 : Value) (a : Act) (w : World), Sl 38 [(2, (fdp b5 0)), (4, (fdp b17 0))] a → Mem Nob w0 w [(true, bx b5 28 [(int i64 0), (Value.slice none 0 0)]), (true, ow 3 (Value.slice none 0 0) (List.map (int i64) ([] : List (Int)))), (true, bx b17 28 [(int i64 p0_g_Size), v60]), (true, ow 3 v60 (List.map (int i64) l61))] → S_spec_ComplementOf_j1 F p0_g_Size l61 = some r → K18 a w := by
   intro l61 v60 a w hS hM hF
   unfold S_spec_ComplementOf_j1 at hF
   refine hK18 _ _ ?_
   refine wp_seq_k fun K62 hK62 => ?_
   refine wp_region_lit ?_
   refine st_val hS rfl rfl (by decide) (rv_load_agg (hS.ev rfl) ty_ag_28 (hM.get 2 rfl) ty_sz_28) fun a hS => ?_
   obtain ⟨w, hr, hM⟩ := hM.st_agg (us := [(int i64 p0_g_Size), v60]) (ρ := a.eval) (dst := none) (ty := _) (pos := _) (af := _) (gd := _) (x := .tmp 2) (y := .tmp 37) (hS.ev rfl) (hS.ev rfl) ty_sz_28 (all1_cons rfl (all1_cons (rd_one (rd_of_ow (hM.get 3 rfl))) all1_nil)) rfl
   refine st_unit hS rfl rfl hr ?_
   refine st_val hS rfl rfl (by decide) (rv_assign (hS.ev rfl)) fun a hS => ?_
   refine wpList_nil ?_
   refine hK62 _ _ ?_
   refine wp_ret ?_
   cases hF
   exact hQr _ _ (r_cc hS rfl ⟨_, rfl, run_loadAgg ty_ag_28 (hM.get 0 rfl) ty_sz_28⟩ rfl ⟨v60, rfl, hM.pick [3] (by decide) rfl⟩)
  refine wp_seq_k fun K63 hK63 => ?_
  refine wp_region_lit ?_
  refine st_val hS rfl rfl (by decide) (rv_assign (hS.ev rfl)) fun a hS => ?_
  refine wpList_nil ?_
  refine hK63 _ _ ?_
  refine wp_block ?_
  obtain ⟨lb2, hl2, hF2⟩ := bind_some hF
  refine wp_loop_sh (fun s => S_spec_ComplementOf_l2 F p0_g_Size p0_g_Rows s.1 s.2) (fun s a w => ∃ (v77 : Value), Sl 38 [(1, (fdp b4 0)), (2, (fdp b5 0)), (4, (fdp b17 0)), (5, (int i64 s.2))] a ∧ Mem Nob w0 w [(true, bx b4 28 [(int i64 p0_g_Size), p0_g_Rowsv]), (false, rd p0_g_Rowsv (List.map (int i64) p0_g_Rows)), (true, bx b5 28 [(int i64 0), (Value.slice none 0 0)]), (true, ow 3 (Value.slice none 0 0) (List.map (int i64) ([] : List (Int)))), (true, bx b17 28 [(int i64 p0_g_Size), v77]), (true, ow 3 v77 (List.map (int i64) s.1))]) hl2 ⟨(Value.slice none 0 0), (hS.sub (sub_cons rfl (sub_cons rfl (sub_cons rfl (sub_cons rfl sub_nil))))), (hM.pick [4, 5, 3, 2, 1, 0] (by decide) rfl)⟩ ?_
  rintro K2 ⟨l78, x79⟩ a w res2 ⟨v77, hS, hM⟩ hF hN2 hX2
  have hF : S_spec_ComplementOf_l2 F p0_g_Size p0_g_Rows l78 x79 = some res2 := hF
  have hS : Sl 38 [(1, (fdp b4 0)), (2, (fdp b5 0)), (4, (fdp b17 0)), (5, (int i64 x79))] a := hS
  have hM : Mem Nob w0 w [(true, bx b4 28 [(int i64 p0_g_Size), p0_g_Rowsv]), (false, rd p0_g_Rowsv (List.map (int i64) p0_g_Rows)), (true, bx b5 28 [(int i64 0), (Value.slice none 0 0)]), (true, ow 3 (Value.slice none 0 0) (List.map (int i64) ([] : List (Int)))), (true, bx b17 28 [(int i64 p0_g_Size), v77]), (true, ow 3 v77 (List.map (int i64) l78))] := hM
  unfold S_spec_ComplementOf_l2 at hF
  refine wp_seq_k fun K92 hK92 => ?_
  refine wp_seq_k fun K94 hK94 => ?_
  refine wp_region_lit ?_
  refine st_val hS rfl rfl (by decide) (rv_move (hS.ev rfl)) fun a hS => ?_
  refine st_val hS rfl rfl (by decide) (rv_fieldAddr ty_fd_28_0 (hS.ev rfl)) fun a hS => ?_
  refine st_val hS rfl rfl (by decide) (rv_load_bx (hS.ev rfl) ty_ag_3 (hM.get 0 rfl) rfl) fun a hS => ?_
  refine st_val hS rfl rfl (by decide) (rv_lss (hS.ev rfl) (hS.ev rfl)) fun a hS => ?_
  refine wpList_nil ?_
  refine hK94 _ _ ?_
  rcases ite_some hF with ⟨hc, hF⟩ | ⟨hc, hF⟩
  ·refine cond_t hS rfl hc ?_
   refine wp_skip ?_
   refine hK92 _ _ ?_
   refine wp_seq_k fun K95 hK95 => ?_
   have hJ3 : ∀ (l100 : List Int) (v99 : Value) (a : Act) (w : World), Sl 38 [(1, (fdp b4 0)), (2, (fdp b5 0)), (4, (fdp b17 0)), (5, (int i64 x79))] a → Mem Nob w0 w [(true, bx b4 28 [(int i64 p0_g_Size), p0_g_Rowsv]), (false, rd p0_g_Rowsv (List.map (int i64) p0_g_Rows)), (true, bx b5 28 [(int i64 0), (Value.slice none 0 0)]), (true, ow 3 (Value.slice none 0 0) (List.map (int i64) ([] : List (Int)))), (true, bx b17 28 [(int i64 p0_g_Size), v99]), (true, ow 3 v99 (List.map (int i64) l100))] → S_spec_ComplementOf_j3 F x79 l100 = some res2 → K95 a w := by
    intro l100 v99 a w hS hM hF
    unfold S_spec_ComplementOf_j3 at hF
    refine hK95 _ _ ?_
    refine wp_region_lit ?_
    refine st_val hS rfl rfl (by decide) (rv_move (hS.ev rfl)) fun a hS => ?_
    refine st_val hS rfl rfl (by decide) (rv_add (hS.ev rfl) (hS.ev rfl)) fun a hS => ?_
    refine st_val hS rfl rfl (by decide) (rv_assign (hS.ev rfl)) fun a hS => ?_
    refine wpList_nil ?_
    cases hF
    exact hN2 _ _ _ rfl ⟨v99, (hS.sub (sub_cons rfl (sub_cons rfl (sub_cons rfl (sub_cons rfl sub_nil))))), (hM.pick [0, 1, 2, 3, 4, 5] (by decide) rfl)⟩
   refine wp_block ?_
   have hM := hM.pick [5, 4, 0, 1, 2, 3] (by decide) rfl
   refine an_start (feet [(true, ow 3 v77 (List.map (int i64) l78)), (true, bx b17 28 [(int i64 p0_g_Size), v77])]) ty_mixed fun w hf => ?_
   have hM := hM.fra hf
   have hB := hM
   have hM := Mem.regA (A := [(true, ow 3 v77 (List.map (int i64) l78)), (true, bx b17 28 [(int i64 p0_g_Size), v77])]) (R := [(true, bx b4 28 [(int i64 p0_g_Size), p0_g_Rowsv]), (false, rd p0_g_Rowsv (List.map (int i64) p0_g_Rows)), (true, bx b5 28 [(int i64 0), (Value.slice none 0 0)]), (true, ow 3 (Value.slice none 0 0) (List.map (int i64) ([] : List (Int))))]) hB rfl
   refine an_take hS (i := 0) rfl (by kernel_rfl) (by kernel_rfl) (by kernel_rfl) rfl (by decide) hQp rfl (fun w' hC' => (rv_fieldAddr ty_fd_28_1 (hS.ev rfl))) hM.fr fun a hS => ?_
   refine an_take hS (i := 2) rfl (by kernel_rfl) (by kernel_rfl) (by kernel_rfl) rfl (by decide) hQp rfl (fun w' hC' => (rv_fieldAddr ty_fd_28_0 (hS.ev rfl))) hM.fr fun a hS => ?_
   refine an_take hS (i := 3) rfl (by kernel_rfl) (by kernel_rfl) (by kernel_rfl) rfl (by decide) hQp rfl (fun w' hC' => (rv_load_bx (hS.ev rfl) ty_ag_3 (Mem.getFA (A := [(true, ow 3 v77 (List.map (int i64) l78)), (true, bx b17 28 [(int i64 p0_g_Size), v77])]) (R := [(true, bx b4 28 [(int i64 p0_g_Size), p0_g_Rowsv]), (false, rd p0_g_Rowsv (List.map (int i64) p0_g_Rows)), (true, bx b5 28 [(int i64 0), (Value.slice none 0 0)]), (true, ow 3 (Value.slice none 0 0) (List.map (int i64) ([] : List (Int))))]) hB rfl 0 rfl hC') rfl)) hM.fr fun a hS => ?_
   obtain ⟨_, hx, hF⟩ := bind_some hF
   have hi0 := nnO_some hx
   refine an_take hS (i := 4) rfl (by kernel_rfl) (by kernel_rfl) (by kernel_rfl) rfl (by decide) hQp rfl (fun w' hC' => (rv_shl (hS.ev rfl) (hS.ev rfl) hi0)) hM.fr fun a hS => ?_
   refine an_take hS (i := 5) rfl (by kernel_rfl) (by kernel_rfl) (by kernel_rfl) rfl (by decide) hQp rfl (fun w' hC' => (rv_sub (hS.ev rfl) (hS.ev rfl))) hM.fr fun a hS => ?_
   refine an_take hS (i := 6) rfl (by kernel_rfl) (by kernel_rfl) (by kernel_rfl) rfl (by decide) hQp rfl (fun w' hC' => (rv_fieldAddr ty_fd_28_1 (hS.ev rfl))) hM.fr fun a hS => ?_
   refine an_take hS (i := 7) rfl (by kernel_rfl) (by kernel_rfl) (by kernel_rfl) rfl (by decide) hQp rfl (fun w' hC' => (rv_load_bx (hS.ev rfl) ty_ag_22 (Mem.getFA (A := [(true, ow 3 v77 (List.map (int i64) l78)), (true, bx b17 28 [(int i64 p0_g_Size), v77])]) (R := [(true, bx b4 28 [(int i64 p0_g_Size), p0_g_Rowsv]), (false, rd p0_g_Rowsv (List.map (int i64) p0_g_Rows)), (true, bx b5 28 [(int i64 0), (Value.slice none 0 0)]), (true, ow 3 (Value.slice none 0 0) (List.map (int i64) ([] : List (Int))))]) hB rfl 0 rfl hC') rfl)) hM.fr fun a hS => ?_
   refine an_take hS (i := 8) rfl (by kernel_rfl) (by kernel_rfl) (by kernel_rfl) rfl (by decide) hQp rfl (fun w' hC' => (rv_move (hS.ev rfl))) hM.fr fun a hS => ?_
   obtain ⟨x101, hx, hF⟩ := bind_some hF
   obtain ⟨hi0, hi1, hex101⟩ := idxL_some hx
   refine an_take hS (i := 9) rfl (by kernel_rfl) (by kernel_rfl) (by kernel_rfl) rfl (by decide) hQp rfl (fun w' hC' => (rv_indexAddr Try.underlying22 ty_el_3 (hS.ev rfl) (hS.ev rfl) (hM.get 3 rfl) hi0 (map_len hi1))) hM.fr fun a hS => ?_
   refine an_take hS (i := 10) rfl (by kernel_rfl) (by kernel_rfl) (by kernel_rfl) rfl (by decide) hQp rfl (fun w' hC' => (rv_load_el (hS.ev rfl) ty_ag_3 (Mem.getFA (A := [(true, ow 3 v77 (List.map (int i64) l78)), (true, bx b17 28 [(int i64 p0_g_Size), v77])]) (R := [(true, bx b4 28 [(int i64 p0_g_Size), p0_g_Rowsv]), (false, rd p0_g_Rowsv (List.map (int i64) p0_g_Rows)), (true, bx b5 28 [(int i64 0), (Value.slice none 0 0)]), (true, ow 3 (Value.slice none 0 0) (List.map (int i64) ([] : List (Int))))]) hB rfl 1 rfl hC') (mget hex101))) hM.fr fun a hS => ?_
   refine an_take hS (i := 11) rfl (by kernel_rfl) (by kernel_rfl) (by kernel_rfl) rfl (by decide) hQp rfl (fun w' hC' => (rv_sub (hS.ev rfl) (hS.ev rfl))) hM.fr fun a hS => ?_
   refine an_take hS (i := 12) rfl (by kernel_rfl) (by kernel_rfl) (by kernel_rfl) rfl (by decide) hQp rfl (fun w' hC' => (rv_move (hS.ev rfl))) hM.fr fun a hS => ?_
   obtain ⟨_, hx, hF⟩ := bind_some hF
   have hi0 := nnO_some hx
   refine an_take hS (i := 13) rfl (by kernel_rfl) (by kernel_rfl) (by kernel_rfl) rfl (by decide) hQp rfl (fun w' hC' => (rv_shl (hS.ev rfl) (hS.ev rfl) hi0)) hM.fr fun a hS => ?_
   refine an_take hS (i := 14) rfl (by kernel_rfl) (by kernel_rfl) (by kernel_rfl) rfl (by decide) hQp rfl (fun w' hC' => (rv_sub (hS.ev rfl) (hS.ev rfl))) hM.fr fun a hS => ?_
   refine an_two hS (i := 1) (j := 15) rfl rfl (by kernel_rfl) rfl rfl ?_ ?_
   ·refine wp_val hS rfl (by decide) (rv_load_bx (hS.ev rfl) ty_ag_22 (hM.get 1 rfl) rfl) fun a hS => ⟨hM.fr, ?_⟩
    obtain ⟨v102, w, hr, hM⟩ := Mem.litE (f := (int i64)) (dst := some 34) (ty := _) (pos := _) (af := _) (gd := _) (ps := [(0, .tmp 33)]) ([(i64.wrap ((i64.wrap ((i64.wrap ((shL 1 p0_g_Size) - 1)) - x101)) - (shL 1 x79)))] : List (Int)) i64_one hM hS Try.underlying22 ty_el_3 rfl rfl rfl rfl
    refine an_one hS (i := 15) rfl (by kernel_rfl) rfl ?_
    refine wp_val hS rfl (by decide) hr fun a hS => ⟨hM.fr, ?_⟩
    obtain ⟨_, hx, hF⟩ := bind_some hF
    have hM := hM.pick [1, 0, 2, 3, 4, 5, 6] (by decide) rfl
    obtain ⟨v103, w, hr, hM⟩ := Mem.appE (f := (int i64)) (S := _) (R := [(true, ow 3 v102 (List.map (int i64) ([(i64.wrap ((i64.wrap ((i64.wrap ((shL 1 p0_g_Size) - 1)) - x101)) - (shL 1 x79)))] : List (Int)))), (true, bx b17 28 [(int i64 p0_g_Size), v77]), (false, bx b4 28 [(int i64 p0_g_Size), p0_g_Rowsv]), (false, rd p0_g_Rowsv (List.map (int i64) p0_g_Rows)), (false, bx b5 28 [(int i64 0), (Value.slice none 0 0)]), (false, ow 3 (Value.slice none 0 0) (List.map (int i64) ([] : List (Int))))]) (ρ := a.eval) (dst := some 35) (ty := _) (pos := _) (af := _) (gd := _) (x := .tmp 20) (y := .tmp 34) i64_one hM Try.underlying22 ty_el_3 rfl (by decide) (hS.ev rfl) (hS.ev rfl) (rd_of_ow (hM.get 1 rfl)) (catO_some hx)
    refine an_one hS (i := 16) rfl (by kernel_rfl) rfl ?_
    refine wp_val hS rfl (by decide) hr fun a hS => ⟨hM.fr, ?_⟩
    refine an_take hS (i := 17) rfl (by kernel_rfl) (by kernel_rfl) (by kernel_rfl) rfl (by decide) hQp rfl (fun w' hC' => (rv_fieldAddr ty_fd_28_1 (hS.ev rfl))) hM.fr fun a hS => ?_
    have hM := hM.pick [2, 0, 1, 3, 4, 5, 6] (by decide) rfl
    obtain ⟨w, hr, hM⟩ := hM.st_bx1 (n := 1) (cs' := [(int i64 p0_g_Size), v103]) (ρ := a.eval) (dst := none) (ty := _) (pos := _) (af := _) (gd := _) (x := .tmp 36) (y := .tmp 35) (hS.ev rfl) (hS.ev rfl) ty_sz_22 (rd_one (rd_of_ow (hM.get 1 rfl))) rfl rfl
    refine an_one hS (i := 18) rfl (by kernel_rfl) rfl ?_
    refine wp_unit hS rfl hr ⟨hM.fr, ?_⟩
    refine an_done (by kernel_rfl) ?_
    have hN := hM.pick [0, 1, 2] (by decide) rfl
    have hM := Mem.callo (A := [(true, ow 3 v77 (List.map (int i64) l78)), (true, bx b17 28 [(int i64 p0_g_Size), v77])]) (B := [(true, bx b4 28 [(int i64 p0_g_Size), p0_g_Rowsv]), (false, rd p0_g_Rowsv (List.map (int i64) p0_g_Rows)), (true, bx b5 28 [(int i64 0), (Value.slice none 0 0)]), (true, ow 3 (Value.slice none 0 0) (List.map (int i64) ([] : List (Int))))]) hB rfl (hN.memS fun _ h => h) rfl
    exact hJ3 (l78 ++ ([(i64.wrap ((i64.wrap ((i64.wrap ((shL 1 p0_g_Size) - 1)) - x101)) - (shL 1 x79)))] : List (Int))) v103 _ _ (hS.sub (sub_cons rfl (sub_cons rfl (sub_cons rfl (sub_cons rfl sub_nil))))) (hM.pick [3, 4, 5, 6, 0, 1] (by decide) rfl) hF
   ·obtain ⟨v102, w, hr, hM⟩ := Mem.litE (f := (int i64)) (dst := some 34) (ty := _) (pos := _) (af := _) (gd := _) (ps := [(0, .tmp 33)]) ([(i64.wrap ((i64.wrap ((i64.wrap ((shL 1 p0_g_Size) - 1)) - x101)) - (shL 1 x79)))] : List (Int)) i64_one hM hS Try.underlying22 ty_el_3 rfl rfl rfl rfl
    refine wp_val hS rfl (by decide) hr fun a hS => ⟨hM.fr, ?_⟩
    refine an_one hS (i := 1) rfl (by kernel_rfl) rfl ?_
    refine wp_val hS rfl (by decide) (rv_load_bx (hS.ev rfl) ty_ag_22 (hM.get 2 rfl) rfl) fun a hS => ⟨hM.fr, ?_⟩
    obtain ⟨_, hx, hF⟩ := bind_some hF
    have hM := hM.pick [1, 0, 2, 3, 4, 5, 6] (by decide) rfl
    obtain ⟨v103, w, hr, hM⟩ := Mem.appE (f := (int i64)) (S := _) (R := [(true, ow 3 v102 (List.map (int i64) ([(i64.wrap ((i64.wrap ((i64.wrap ((shL 1 p0_g_Size) - 1)) - x101)) - (shL 1 x79)))] : List (Int)))), (true, bx b17 28 [(int i64 p0_g_Size), v77]), (false, bx b4 28 [(int i64 p0_g_Size), p0_g_Rowsv]), (false, rd p0_g_Rowsv (List.map (int i64) p0_g_Rows)), (false, bx b5 28 [(int i64 0), (Value.slice none 0 0)]), (false, ow 3 (Value.slice none 0 0) (List.map (int i64) ([] : List (Int))))]) (ρ := a.eval) (dst := some 35) (ty := _) (pos := _) (af := _) (gd := _) (x := .tmp 20) (y := .tmp 34) i64_one hM Try.underlying22 ty_el_3 rfl (by decide) (hS.ev rfl) (hS.ev rfl) (rd_of_ow (hM.get 1 rfl)) (catO_some hx)
    refine an_one hS (i := 16) rfl (by kernel_rfl) rfl ?_
    refine wp_val hS rfl (by decide) hr fun a hS => ⟨hM.fr, ?_⟩
    refine an_take hS (i := 17) rfl (by kernel_rfl) (by kernel_rfl) (by kernel_rfl) rfl (by decide) hQp rfl (fun w' hC' => (rv_fieldAddr ty_fd_28_1 (hS.ev rfl))) hM.fr fun a hS => ?_
    have hM := hM.pick [2, 0, 1, 3, 4, 5, 6] (by decide) rfl
    obtain ⟨w, hr, hM⟩ := hM.st_bx1 (n := 1) (cs' := [(int i64 p0_g_Size), v103]) (ρ := a.eval) (dst := none) (ty := _) (pos := _) (af := _) (gd := _) (x := .tmp 36) (y := .tmp 35) (hS.ev rfl) (hS.ev rfl) ty_sz_22 (rd_one (rd_of_ow (hM.get 1 rfl))) rfl rfl
    refine an_one hS (i := 18) rfl (by kernel_rfl) rfl ?_
    refine wp_unit hS rfl hr ⟨hM.fr, ?_⟩
    refine an_done (by kernel_rfl) ?_
    have hN := hM.pick [0, 1, 2] (by decide) rfl
    have hM := Mem.callo (A := [(true, ow 3 v77 (List.map (int i64) l78)), (true, bx b17 28 [(int i64 p0_g_Size), v77])]) (B := [(true, bx b4 28 [(int i64 p0_g_Size), p0_g_Rowsv]), (false, rd p0_g_Rowsv (List.map (int i64) p0_g_Rows)), (true, bx b5 28 [(int i64 0), (Value.slice none 0 0)]), (true, ow 3 (Value.slice none 0 0) (List.map (int i64) ([] : List (Int))))]) hB rfl (hN.memS fun _ h => h) rfl
    exact hJ3 (l78 ++ ([(i64.wrap ((i64.wrap ((i64.wrap ((shL 1 p0_g_Size) - 1)) - x101)) - (shL 1 x79)))] : List (Int))) v103 _ _ (hS.sub (sub_cons rfl (sub_cons rfl (sub_cons rfl (sub_cons rfl sub_nil))))) (hM.pick [3, 4, 5, 6, 0, 1] (by decide) rfl) hF
  ·refine cond_f hS rfl hc ?_
   refine wp_exit ?_
   cases hF
   exact hJ1 l78 v77 _ _ (hS.sub (sub_cons rfl (sub_cons rfl sub_nil))) (hM.pick [2, 3, 4, 5] (by decide) rfl) (by have e := hX2 _ rfl; subst e; exact hF2)


theorem c_spec_DrawFindClaw (F : Nat) (p0_code : List Int) (p0_codev : Value) {r : Int × (List (Int))} (hF : S_spec_DrawFindClaw F p0_code = some r) (w0 : World) (h0 : RdRow w0 p0_codev (List.map (int IntKind.u8) p0_code)) :
    Calls Try.prog 34 [p0_codev].toArray w0 (retPost fun v w' => ∃ v13, v = (Value.agg #[(int i64 r.1), v13]) ∧ Mem Nob w0 w' [(true, ow 3 v13 (List.map (int i64) r.2))]) := by
 have hM : Mem Nob w0 w0 [(false, rd p0_codev (List.map (int IntKind.u8) p0_code))] := (Mem.rcons (Mem.nil w0) h0 (by simp))
 refine enter2 Try.func34 rfl rfl rfl fun Q a hQr hQn hQp hS => ?_
 have hS : Sl 6 [(0, p0_codev)] a := hS
 unfold S_spec_DrawFindClaw at hF
 refine wp_seq_k fun K1 hK1 => ?_
 refine wp_region_lit ?_
 obtain ⟨b3, w, hr, hM⟩ := hM.allocE (ρ := a.eval) (dst := some 2) (ty := _) (pos := _) (af := _) (gd := _) (T := 28) (P := Try.prog) [(int i64 0), (Value.slice none 0 0)] ty_zr_28 rfl
 refine st_val hS rfl rfl (by decide) hr fun a hS => ?_
 have hM := hM.addNil 3
 refine wpList_nil ?_
 refine hK1 _ _ ?_
 refine wp_seq_k fun K4 hK4 => ?_
 refine wp_region_lit ?_
 refine st_val hS rfl rfl (by decide) (rv_move (hS.ev rfl)) fun a hS => ?_
 obtain ⟨r9, hr, hF⟩ := bind_some hF
 refine st_wp hS rfl (wp_call hS rfl rfl (by decide) fn_ok_81 rfl (c_spec_l1New F p0_code p0_codev hr _ (hM.get 2 rfl)) fun v w a hK hS => ?_)
 obtain ⟨b10, rfl, hN⟩ := hK
 have hM := hM.add hN rfl
 obtain ⟨r11, hr, hF⟩ := bind_some hF
 have hM := hM.pick [0, 3, 1, 2] (by decide) rfl
 have hP := Mem.pre (A := [(true, bx b10 82 [p0_codev, (int i64 r9.1), (int i64 r9.2)])]) (C := [(false, rd p0_codev (List.map (int IntKind.u8) p0_code))]) (B := [(true, ow 3 (Value.slice none 0 0) (List.map (int i64) ([] : List (Int)))), (true, bx b3 28 [(int i64 0), (Value.slice none 0 0)])]) hM rfl (weaks_cons (weak_self _ _) weaks_nil)
 refine st_wp hS rfl (wp_call hS rfl rfl (by decide) fn_ok_86 rfl (c_spec_l2Any F p0_code r9.1 r9.2 p0_codev b10 hr _ hP) fun v w a hK hS => ?_)
 obtain ⟨v12, rfl, hN⟩ := hK
 have hM := Mem.callo (A := [(true, bx b10 82 [p0_codev, (int i64 r9.1), (int i64 r9.2)])]) (B := [(false, rd p0_codev (List.map (int IntKind.u8) p0_code)), (true, ow 3 (Value.slice none 0 0) (List.map (int i64) ([] : List (Int)))), (true, bx b3 28 [(int i64 0), (Value.slice none 0 0)])]) hM rfl hN rfl
 have hM := hM.pick [4, 0, 1, 2, 3] (by decide) rfl
 obtain ⟨w, hr, hM⟩ := hM.st_agg (us := [(int i64 r11.1), v12]) (ρ := a.eval) (dst := none) (ty := _) (pos := _) (af := _) (gd := _) (x := .tmp 2) (y := .tmp 5) (hS.ev rfl) (hS.ev rfl) ty_sz_28 (all1_cons rfl (all1_cons (rd_one (rd_of_ow (hM.get 2 rfl))) all1_nil)) rfl
 refine st_unit hS rfl rfl hr ?_
 refine wpList_nil ?_
 refine hK4 _ _ ?_
 have hS : Sl 6 [(2, (fdp b3 0))] a := hS.sub (sub_cons rfl sub_nil)
 have hM := hM.pick [0, 2] (by decide) rfl
 refine wp_ret ?_
 cases hF
 exact hQr _ _ (r_c hS rfl ⟨_, rfl, run_loadAgg ty_ag_28 (hM.get 0 rfl) ty_sz_28⟩ ⟨v12, rfl, hM.pick [1] (by decide) rfl⟩)


theorem c_spec_l4List (F : Nat) (p0_c_b : List Int) (p0_c_i : Int) (p0_c_h : Int) (p1_g_Size : Int) (p1_g_Rows : List Int) (p0_c_bv : Value) (p0_cb : Nat) (p1_g_Rowsv : Value) {r : (List (Int)) × Int × Int} (hF : S_spec_l4List F p0_c_b p0_c_i p0_c_h p1_g_Size p1_g_Rows = some r) (w0 : World) (hM : Mem (feet [(true, bx p0_cb 82 [p0_c_bv, (int i64 p0_c_i), (int i64 p0_c_h)])]) w0 w0 [(true, bx p0_cb 82 [p0_c_bv, (int i64 p0_c_i), (int i64 p0_c_h)]), (false, rd p0_c_bv (List.map (int IntKind.u8) p0_c_b)), (false, rd p1_g_Rowsv (List.map (int i64) p1_g_Rows))]) :
    Calls Try.prog 92 [(fdp p0_cb 0), (Value.agg #[(int i64 p1_g_Size), p1_g_Rowsv])].toArray w0 (retPost fun v w' => Mem (feet [(true, bx p0_cb 82 [p0_c_bv, (int i64 p0_c_i), (int i64 p0_c_h)])]) w0 w' [(true, bx p0_cb 82 [p0_c_bv, (int i64 r.2.1), (int i64 r.2.2)]), (true, ow 3 v (List.map (int i64) r.1))]) := by
 have hM := hM.pick [1, 0, 2] (by decide) rfl
 refine enter2 Try.func92 rfl rfl rfl fun Q a hQr hQn hQp hS => ?_
 have hS : Sl 32 [(0, (fdp p0_cb 0)), (1, (Value.agg #[(int i64 p1_g_Size), p1_g_Rowsv]))] a := hS
 unfold S_spec_l4List at hF
 refine wp_seq_k fun K1 hK1 => ?_
 refine wp_region_lit ?_
 obtain ⟨b3, w, hr, hM⟩ := hM.boxE (ρ := a.eval) (dst := some 3) (ty := _) (pos := _) (af := _) (gd := _) (x := .tmp 1) (T := 28) [(int i64 p1_g_Size), p1_g_Rowsv] (hS.ev rfl) rfl
 refine st_val hS rfl rfl (by decide) hr fun a hS => ?_
 refine st_val hS rfl rfl (by decide) (rv_assign (hS.ev rfl)) fun a hS => ?_
 refine wpList_nil ?_
 refine hK1 _ _ ?_
 refine wp_seq_k fun K4 hK4 => ?_
 refine wp_region_lit ?_
 obtain ⟨v6, w, hr, hM⟩ := Mem.litE (f := (int i64)) (dst := some 7) (ty := _) (pos := _) (af := _) (gd := _) (ps := []) ([] : List (Int)) i64_one hM hS Try.underlying22 ty_el_3 rfl rfl rfl rfl
 refine st_val hS rfl rfl (by decide) hr fun a hS => ?_
 refine st_val hS rfl rfl (by decide) (rv_assign (hS.ev rfl)) fun a hS => ?_
 refine wpList_nil ?_
 refine hK4 _ _ ?_
 refine wp_seq_k fun K7 hK7 => ?_
 have hJ1 : ∀ (x49 : Int) (x50 : Int) (l52 : List Int) (v51 : Value) (a : Act) (w : World), Sl 32 [(0, (fdp p0_cb 0)), (5, v51)] a → Mem (feet [(true, bx p0_cb 82 [p0_c_bv, (int i64 p0_c_i), (int i64 p0_c_h)])]) w0 w [(true, bx p0_cb 82 [p0_c_bv, (int i64 x49), (int i64 x50)]), (false, rd p0_c_bv (List.map (int IntKind.u8) p0_c_b)), (true, ow 3 v51 (List.map (int i64) l52))] → S_spec_l4List_j1 F p0_c_b x49 x50 l52 = some r → K7 a w := by
  intro x49 x50 l52 v51 a w hS hM hF
  unfold S_spec_l4List_j1 at hF
  refine hK7 _ _ ?_
  refine wp_seq_k fun K53 hK53 => ?_
  have hJ2 : ∀ (l62 : List Int) (x63 : Int) (x64 : Int) (v61 : Value) (a : Act) (w : World), Sl 32 [(5, v61)] a → Mem (feet [(true, bx p0_cb 82 [p0_c_bv, (int i64 p0_c_i), (int i64 p0_c_h)])]) w0 w [(true, ow 3 v61 (List.map (int i64) l62)), (true, bx p0_cb 82 [p0_c_bv, (int i64 x63), (int i64 x64)]), (false, rd p0_c_bv (List.map (int IntKind.u8) p0_c_b))] → S_spec_l4List_j2 F l62 x63 x64 = some r → K53 a w := by
   intro l62 x63 x64 v61 a w hS hM hF
   unfold S_spec_l4List_j2 at hF
   refine hK53 _ _ ?_
   refine wp_seq_k fun K65 hK65 => ?_
   refine wp_region_lit ?_
   refine st_val hS rfl rfl (by decide) (rv_move (hS.ev rfl)) fun a hS => ?_
   refine st_val hS rfl rfl (by decide) (rv_assign (hS.ev rfl)) fun a hS => ?_
   refine wpList_nil ?_
   refine hK65 _ _ ?_
   refine wp_ret ?_
   cases hF
   exact hQr _ _ (r_1 hS rfl rfl (hM.pick [1, 0] (by decide) rfl))
  refine wp_seq_k fun K66 hK66 => ?_
  refine wp_region_lit ?_
  refine st_val hS rfl rfl (by decide) (rv_move (hS.ev rfl)) fun a hS => ?_
  obtain ⟨r68, hr, hF⟩ := bind_some hF
  have hM := hM.pick [0, 1, 2] (by decide) rfl
  have hP := Mem.pre (A := [(true, bx p0_cb 82 [p0_c_bv, (int i64 x49), (int i64 x50)])]) (C := [(false, rd p0_c_bv (List.map (int IntKind.u8) p0_c_b))]) (B := [(true, ow 3 v51 (List.map (int i64) l52))]) hM rfl (weaks_cons (weak_self _ _) weaks_nil)
  refine st_wp hS rfl (wp_call hS rfl rfl (by decide) fn_ok_91 rfl (c_spec_l1Once F p0_c_b x49 x50 14 p0_c_bv p0_cb hr _ hP) fun v w a hK hS => ?_)
  obtain ⟨rfl, hN⟩ := hK
  have hM := Mem.callo (A := [(true, bx p0_cb 82 [p0_c_bv, (int i64 x49), (int i64 x50)])]) (B := [(false, rd p0_c_bv (List.map (int IntKind.u8) p0_c_b)), (true, ow 3 v51 (List.map (int i64) l52))]) hM rfl hN rfl
  refine wpList_nil ?_
  refine hK66 _ _ ?_
  rcases ite_some hF with ⟨hc, hF⟩ | ⟨hc, hF⟩
  ·refine cond_t hS rfl hc ?_
   refine wp_region_lit ?_
   refine st_val hS rfl rfl (by decide) (rv_move (hS.ev rfl)) fun a hS => ?_
   refine st_val hS rfl rfl (by decide) (rv_move (hS.ev rfl)) fun a hS => ?_
   obtain ⟨v69, w, hr, hM⟩ := Mem.litE (f := (int i64)) (dst := some 27) (ty := _) (pos := _) (af := _) (gd := _) (ps := [(0, .const (int i64 (-1))), (1, .const (int i64 7))]) ([(-1), 7] : List (Int)) i64_one hM hS Try.underlying22 ty_el_3 rfl rfl rfl rfl
   refine st_val hS rfl rfl (by decide) hr fun a hS => ?_
   obtain ⟨r70, hr, hF⟩ := bind_some hF
   have hM := hM.pick [1, 2, 0, 3] (by decide) rfl
   have hP := Mem.pre (A := [(true, bx p0_cb 82 [p0_c_bv, (int i64 r68.2.1), (int i64 r68.2.2)])]) (C := [(false, rd p0_c_bv (List.map (int IntKind.u8) p0_c_b)), (true, ow 3 v69 (List.map (int i64) ([(-1), 7] : List (Int))))]) (B := [(true, ow 3 v51 (List.map (int i64) l52))]) hM rfl (weaks_cons (weak_self _ _) (weaks_cons (weak_ow _ _ _ _) weaks_nil))
   refine st_wp hS rfl (wp_call hS rfl rfl (by decide) fn_ok_121 rfl (c_spec_l1PickInt F p0_c_b r68.2.1 r68.2.2 ([(-1), 7] : List (Int)) p0_c_bv p0_cb v69 hr _ hP) fun v w a hK hS => ?_)
   obtain ⟨rfl, hN⟩ := hK
   have hM := Mem.callo (A := [(true, bx p0_cb 82 [p0_c_bv, (int i64 r68.2.1), (int i64 r68.2.2)])]) (B := [(false, rd p0_c_bv (List.map (int IntKind.u8) p0_c_b)), (true, ow 3 v69 (List.map (int i64) ([(-1), 7] : List (Int)))), (true, ow 3 v51 (List.map (int i64) l52))]) hM rfl hN rfl
   obtain ⟨v71, w, hr, hM⟩ := Mem.litE (f := (int i64)) (dst := some 29) (ty := _) (pos := _) (af := _) (gd := _) (ps := [(0, .tmp 28)]) ([r70.1] : List (Int)) i64_one hM hS Try.underlying22 ty_el_3 rfl rfl rfl rfl
   refine st_val hS rfl rfl (by decide) hr fun a hS => ?_
   obtain ⟨_, hx, hF⟩ := bind_some hF
   have hM := hM.pick [4, 0, 1, 2, 3] (by decide) rfl
   obtain ⟨v72, w, hr, hM⟩ := Mem.appE (f := (int i64)) (S := _) (R := [(true, ow 3 v71 (List.map (int i64) ([r70.1] : List (Int)))), (true, bx p0_cb 82 [p0_c_bv, (int i64 r70.2.1), (int i64 r70.2.2)]), (false, rd p0_c_bv (List.map (int IntKind.u8) p0_c_b)), (true, ow 3 v69 (List.map (int i64) ([(-1), 7] : List (Int))))]) (ρ := a.eval) (dst := some 30) (ty := _) (pos := _) (af := _) (gd := _) (x := .tmp 25) (y := .tmp 29) i64_one hM Try.underlying22 ty_el_3 rfl (by decide) (hS.ev rfl) (hS.ev rfl) (rd_of_ow (hM.get 1 rfl)) (catO_some hx)
   refine st_val hS rfl rfl (by decide) hr fun a hS => ?_
   refine st_val hS rfl rfl (by decide) (rv_assign (hS.ev rfl)) fun a hS => ?_
   refine wpList_nil ?_
   exact hJ2 (l52 ++ ([r70.1] : List (Int))) r70.2.1 r70.2.2 v72 _ _ (hS.sub (sub_cons rfl sub_nil)) (hM.pick [0, 2, 3] (by decide) rfl) hF
  ·refine cond_f hS rfl hc ?_
   refine wp_skip ?_
   exact hJ2 l52 r68.2.1 r68.2.2 v51 _ _ (hS.sub (sub_cons rfl sub_nil)) (hM.pick [2, 0, 1] (by decide) rfl) hF
 refine wp_seq_k fun K73 hK73 => ?_
 refine wp_region_lit ?_
 refine st_val hS rfl rfl (by decide) (rv_move (hS.ev rfl)) fun a hS => ?_
 obtain ⟨r75, hr, hF⟩ := bind_some hF
 have hM := hM.pick [3, 2, 0, 1, 4] (by decide) rfl
 have hP := Mem.pre (A := [(true, bx p0_cb 82 [p0_c_bv, (int i64 p0_c_i), (int i64 p0_c_h)])]) (C := [(false, rd p0_c_bv (List.map (int IntKind.u8) p0_c_b))]) (B := [(true, ow 3 v6 (List.map (int i64) ([] : List (Int)))), (true, bx b3 28 [(int i64 p1_g_Size), p1_g_Rowsv]), (false, rd p1_g_Rowsv (List.map (int i64) p1_g_Rows))]) hM rfl (weaks_cons (weak_self _ _) weaks_nil)
 refine st_wp hS rfl (wp_call hS rfl rfl (by decide) fn_ok_87 rfl (c_spec_l1Below F p0_c_b p0_c_i p0_c_h 6 p0_c_bv p0_cb hr _ hP) fun v w a hK hS => ?_)
 obtain ⟨rfl, hN⟩ := hK
 have hM := Mem.callo (A := [(true, bx p0_cb 82 [p0_c_bv, (int i64 p0_c_i), (int i64 p0_c_h)])]) (B := [(false, rd p0_c_bv (List.map (int IntKind.u8) p0_c_b)), (true, ow 3 v6 (List.map (int i64) ([] : List (Int)))), (true, bx b3 28 [(int i64 p1_g_Size), p1_g_Rowsv]), (false, rd p1_g_Rowsv (List.map (int i64) p1_g_Rows))]) hM rfl hN rfl
 refine st_val hS rfl rfl (by decide) (rv_assign (hS.ev rfl)) fun a hS => ?_
 refine wpList_nil ?_
 refine hK73 _ _ ?_
 refine wp_block ?_
 obtain ⟨lb3, hl3, hF3⟩ := bind_some hF
 refine wp_loop_sh (fun s => S_spec_l4List_l3 F p0_c_b p1_g_Size s.1 s.2.1 s.2.2.1 s.2.2.2) (fun s a w => ∃ (v91 : Value), Sl 32 [(0, (fdp p0_cb 0)), (3, (fdp b3 0)), (5, v91), (6, (int i64 s.2.2.2))] a ∧ Mem (feet [(true, bx p0_cb 82 [p0_c_bv, (int i64 p0_c_i), (int i64 p0_c_h)])]) w0 w [(true, bx p0_cb 82 [p0_c_bv, (int i64 s.1), (int i64 s.2.1)]), (false, rd p0_c_bv (List.map (int IntKind.u8) p0_c_b)), (true, bx b3 28 [(int i64 p1_g_Size), p1_g_Rowsv]), (false, rd p1_g_Rowsv (List.map (int i64) p1_g_Rows)), (true, ow 3 v91 (List.map (int i64) s.2.2.1))]) hl3 ⟨v6, (hS.sub (sub_cons rfl (sub_cons rfl (sub_cons rfl (sub_cons rfl sub_nil))))), (hM.pick [0, 1, 3, 4, 2] (by decide) rfl)⟩ ?_
 rintro K3 ⟨x89, x90, l92, x93⟩ a w res3 ⟨v91, hS, hM⟩ hF hN3 hX3
 have hF : S_spec_l4List_l3 F p0_c_b p1_g_Size x89 x90 l92 x93 = some res3 := hF
 have hS : Sl 32 [(0, (fdp p0_cb 0)), (3, (fdp b3 0)), (5, v91), (6, (int i64 x93))] a := hS
 have hM : Mem (feet [(true, bx p0_cb 82 [p0_c_bv, (int i64 p0_c_i), (int i64 p0_c_h)])]) w0 w [(true, bx p0_cb 82 [p0_c_bv, (int i64 x89), (int i64 x90)]), (false, rd p0_c_bv (List.map (int IntKind.u8) p0_c_b)), (true, bx b3 28 [(int i64 p1_g_Size), p1_g_Rowsv]), (false, rd p1_g_Rowsv (List.map (int i64) p1_g_Rows)), (true, ow 3 v91 (List.map (int i64) l92))] := hM
 unfold S_spec_l4List_l3 at hF
 refine wp_seq_k fun K104 hK104 => ?_
 refine wp_seq_k fun K106 hK106 => ?_
 refine wp_region_lit ?_
 refine st_val hS rfl rfl (by decide) (rv_move (hS.ev rfl)) fun a hS => ?_
 refine st_val hS rfl rfl (by decide) (rv_gtr (hS.ev rfl) (hS.ev rfl)) fun a hS => ?_
 refine wpList_nil ?_
 refine hK106 _ _ ?_
 rcases ite_some hF with ⟨hc, hF⟩ | ⟨hc, hF⟩
 ·refine cond_t hS rfl hc ?_
  refine wp_skip ?_
  refine hK104 _ _ ?_
  refine wp_seq_k fun K107 hK107 => ?_
  refine wp_block ?_
  refine wp_region_lit ?_
  refine st_val hS rfl rfl (by decide) (rv_move (hS.ev rfl)) fun a hS => ?_
  refine st_val hS rfl rfl (by decide) (rv_move (hS.ev rfl)) fun a hS => ?_
  refine st_val hS rfl rfl (by decide) (rv_fieldAddr ty_fd_28_0 (hS.ev rfl)) fun a hS => ?_
  refine st_val hS rfl rfl (by decide) (rv_load_bx (hS.ev rfl) ty_ag_3 (hM.get 2 rfl) rfl) fun a hS => ?_
  refine st_val hS rfl rfl (by decide) (rv_min2 (hS.ev rfl) (hS.ev rfl)) fun a hS => ?_
  refine st_val hS rfl rfl (by decide) (rv_max2 (hS.ev rfl) (hS.ev rfl)) fun a hS => ?_
  obtain ⟨r111, hr, hF⟩ := bind_some hF
  have hM := hM.pick [0, 1, 2, 3, 4] (by decide) rfl
  have hP := Mem.pre (A := [(true, bx p0_cb 82 [p0_c_bv, (int i64 x89), (int i64 x90)])]) (C := [(false, rd p0_c_bv (List.map (int IntKind.u8) p0_c_b))]) (B := [(true, bx b3 28 [(int i64 p1_g_Size), p1_g_Rowsv]), (false, rd p1_g_Rowsv (List.map (int i64) p1_g_Rows)), (true, ow 3 v91 (List.map (int i64) l92))]) hM rfl (weaks_cons (weak_self _ _) weaks_nil)
  refine st_wp hS rfl (wp_call hS rfl rfl (by decide) fn_ok_87 rfl (c_spec_l1Below F p0_c_b x89 x90 (if (if p1_g_Size < 7 then p1_g_Size else 7) > 1 then (if p1_g_Size < 7 then p1_g_Size else 7) else 1) p0_c_bv p0_cb hr _ hP) fun v w a hK hS => ?_)
  obtain ⟨rfl, hN⟩ := hK
  have hM := Mem.callo (A := [(true, bx p0_cb 82 [p0_c_bv, (int i64 x89), (int i64 x90)])]) (B := [(false, rd p0_c_bv (List.map (int IntKind.u8) p0_c_b)), (true, bx b3 28 [(int i64 p1_g_Size), p1_g_Rowsv]), (false, rd p1_g_Rowsv (List.map (int i64) p1_g_Rows)), (true, ow 3 v91 (List.map (int i64) l92))]) hM rfl hN rfl
  obtain ⟨v112, w, hr, hM⟩ := Mem.litE (f := (int i64)) (dst := some 21) (ty := _) (pos := _) (af := _) (gd := _) (ps := [(0, .tmp 20)]) ([r111.1] : List (Int)) i64_one hM hS Try.underlying22 ty_el_3 rfl rfl rfl rfl
  refine st_val hS rfl rfl (by decide) hr fun a hS => ?_
  obtain ⟨_, hx, hF⟩ := bind_some hF
  have hM := hM.pick [5, 0, 1, 2, 3, 4] (by decide) rfl
  obtain ⟨v113, w, hr, hM⟩ := Mem.appE (f := (int i64)) (S := _) (R := [(true, ow 3 v112 (List.map (int i64) ([r111.1] : List (Int)))), (true, bx p0_cb 82 [p0_c_bv, (int i64 r111.2.1), (int i64 r111.2.2)]), (false, rd p0_c_bv (List.map (int IntKind.u8) p0_c_b)), (true, bx b3 28 [(int i64 p1_g_Size), p1_g_Rowsv]), (false, rd p1_g_Rowsv (List.map (int i64) p1_g_Rows))]) (ρ := a.eval) (dst := some 22) (ty := _) (pos := _) (af := _) (gd := _) (x := .tmp 14) (y := .tmp 21) i64_one hM Try.underlying22 ty_el_3 rfl (by decide) (hS.ev rfl) (hS.ev rfl) (rd_of_ow (hM.get 1 rfl)) (catO_some hx)
  refine st_val hS rfl rfl (by decide) hr fun a hS => ?_
  refine st_val hS rfl rfl (by decide) (rv_assign (hS.ev rfl)) fun a hS => ?_
  refine wpList_nil ?_
  refine hK107 _ _ ?_
  have hS : Sl 32 [(0, (fdp p0_cb 0)), (3, (fdp b3 0)), (5, v113), (6, (int i64 x93))] a := hS.sub (sub_cons rfl (sub_cons rfl (sub_cons rfl (sub_cons rfl sub_nil))))
  have hM := hM.pick [0, 2, 3, 4, 5] (by decide) rfl
  refine wp_region_lit ?_
  refine st_val hS rfl rfl (by decide) (rv_move (hS.ev rfl)) fun a hS => ?_
  refine st_val hS rfl rfl (by decide) (rv_sub (hS.ev rfl) (hS.ev rfl)) fun a hS => ?_
  refine st_val hS rfl rfl (by decide) (rv_assign (hS.ev rfl)) fun a hS => ?_
  refine wpList_nil ?_
  cases hF
  exact hN3 _ _ _ rfl ⟨v113, (hS.sub (sub_cons rfl (sub_cons rfl (sub_cons rfl (sub_cons rfl sub_nil))))), (hM.pick [1, 2, 3, 4, 0] (by decide) rfl)⟩
 ·refine cond_f hS rfl hc ?_
  refine wp_exit ?_
  cases hF
  exact hJ1 x89 x90 l92 v91 _ _ (hS.sub (sub_cons rfl (sub_cons rfl sub_nil))) (hM.pick [0, 1, 4] (by decide) rfl) (by have e := hX3 _ rfl; subst e; exact hF3)


theorem c_spec_DrawIsInducedPath (F : Nat) (p0_code : List Int) (p0_codev : Value) {r : Int × (List (Int)) × (List (Int))} (hF : S_spec_DrawIsInducedPath F p0_code = some r) (w0 : World) (h0 : RdRow w0 p0_codev (List.map (int IntKind.u8) p0_code)) :
    Calls Try.prog 36 [p0_codev].toArray w0 (retPost fun v w' => ∃ v43 v44, v = (Value.tuple #[(Value.agg #[(int i64 r.1), v43]), v44]) ∧ Mem Nob w0 w' [(true, ow 3 v43 (List.map (int i64) r.2.1)), (true, ow 3 v44 (List.map (int i64) r.2.2))]) := by
 have hM : Mem Nob w0 w0 [(false, rd p0_codev (List.map (int IntKind.u8) p0_code))] := (Mem.rcons (Mem.nil w0) h0 (by simp))
 refine enter2 Try.func36 rfl rfl rfl fun Q a hQr hQn hQp hS => ?_
 have hS : Sl 32 [(0, p0_codev)] a := hS
 unfold S_spec_DrawIsInducedPath at hF
 refine wp_seq_k fun K1 hK1 => ?_
 refine wp_region_lit ?_
 obtain ⟨b3, w, hr, hM⟩ := hM.allocE (ρ := a.eval) (dst := some 2) (ty := _) (pos := _) (af := _) (gd := _) (T := 28) (P := Try.prog) [(int i64 0), (Value.slice none 0 0)] ty_zr_28 rfl
 refine st_val hS rfl rfl (by decide) hr fun a hS => ?_
 have hM := hM.addNil 3
 refine st_val hS rfl rfl (by decide) (rv_assign (hS.ev rfl)) fun a hS => ?_
 refine wpList_nil ?_
 refine hK1 _ _ ?_
 refine wp_seq_k fun K4 hK4 => ?_
 refine wp_region_lit ?_
 refine st_val hS rfl rfl (by decide) (rv_move (hS.ev rfl)) fun a hS => ?_
 obtain ⟨r7, hr, hF⟩ := bind_some hF
 refine st_wp hS rfl (wp_call hS rfl rfl (by decide) fn_ok_81 rfl (c_spec_l1New F p0_code p0_codev hr _ (hM.get 2 rfl)) fun v w a hK hS => ?_)
 obtain ⟨b8, rfl, hN⟩ := hK
 have hM := hM.add hN rfl
 refine st_val hS rfl rfl (by decide) (rv_assign (hS.ev rfl)) fun a hS => ?_
 refine wpList_nil ?_
 refine hK4 _ _ ?_
 refine wp_seq_k fun K9 hK9 => ?_
 refine wp_region_lit ?_
 refine st_val hS rfl rfl (by decide) (rv_move (hS.ev rfl)) fun a hS => ?_
 obtain ⟨r13, hr, hF⟩ := bind_some hF
 have hM := hM.pick [0, 3, 1, 2] (by decide) rfl
 have hP := Mem.pre (A := [(true, bx b8 82 [p0_codev, (int i64 r7.1), (int i64 r7.2)])]) (C := [(false, rd p0_codev (List.map (int IntKind.u8) p0_code))]) (B := [(true, ow 3 (Value.slice none 0 0) (List.map (int i64) ([] : List (Int)))), (true, bx b3 28 [(int i64 0), (Value.slice none 0 0)])]) hM rfl (weaks_cons (weak_self _ _) weaks_nil)
 refine st_wp hS rfl (wp_call hS rfl rfl (by decide) fn_ok_86 rfl (c_spec_l2Any F p0_code r7.1 r7.2 p0_codev b8 hr _ hP) fun v w a hK hS => ?_)
 obtain ⟨v14, rfl, hN⟩ := hK
 have hM := Mem.callo (A := [(true, bx b8 82 [p0_codev, (int i64 r7.1), (int i64 r7.2)])]) (B := [(false, rd p0_codev (List.map (int IntKind.u8) p0_code)), (true, ow 3 (Value.slice none 0 0) (List.map (int i64) ([] : List (Int)))), (true, bx b3 28 [(int i64 0), (Value.slice none 0 0)])]) hM rfl hN rfl
 obtain ⟨b15, w, hr, hM⟩ := hM.allocE (ρ := a.eval) (dst := some 5) (ty := _) (pos := _) (af := _) (gd := _) (T := 28) (P := Try.prog) [(int i64 0), (Value.slice none 0 0)] ty_zr_28 rfl
 refine st_val hS rfl rfl (by decide) hr fun a hS => ?_
 have hM := hM.addNil 3
 have hM := hM.pick [1, 0, 2, 3, 4, 5, 6] (by decide) rfl
 obtain ⟨w, hr, hM⟩ := hM.st_agg (us := [(int i64 r13.1), v14]) (ρ := a.eval) (dst := none) (ty := _) (pos := _) (af := _) (gd := _) (x := .tmp 5) (y := .tmp 11) (hS.ev rfl) (hS.ev rfl) ty_sz_28 (all1_cons rfl (all1_cons (rd_one (rd_of_ow (hM.get 3 rfl))) all1_nil)) rfl
 refine st_unit hS rfl rfl hr ?_
 refine wpList_nil ?_
 refine hK9 _ _ ?_
 refine wp_seq_k fun K16 hK16 => ?_
 have hM := hM.pick [2, 0, 1, 3, 4, 5, 6] (by decide) rfl
 refine an_startB 10 (feet [(true, bx b8 82 [p0_codev, (int i64 r13.2.2.1), (int i64 r13.2.2.2)])]) ty_mixed (by kernel_rfl) fun w hf => ?_
 have hM := hM.fra hf
 have hB := hM
 have hM := hB.reg1 rfl
 refine tkB hS 0 1 (by kernel_rfl) rfl rfl rfl hQp rfl (fun w' hC' => (rv_load_agg (hS.ev rfl) ty_ag_28 (hB.getF rfl 0 rfl hC') ty_sz_28)) hM.fr fun a hS => ?_
 refine tkB hS 1 3 (by kernel_rfl) rfl rfl rfl hQp rfl (fun w' hC' => (rv_move (hS.ev rfl))) hM.fr fun a hS => ?_
 obtain ⟨r20, hr, hF⟩ := bind_some hF
 have hM := hM.pick [0, 4, 1, 2, 3, 5, 6] (by decide) rfl
 have hP := Mem.pre (A := [(true, bx b8 82 [p0_codev, (int i64 r13.2.2.1), (int i64 r13.2.2.2)])]) (C := [(false, rd p0_codev (List.map (int IntKind.u8) p0_code))]) (B := [(false, bx b15 28 [(int i64 r13.1), v14]), (false, ow 3 (Value.slice none 0 0) (List.map (int i64) ([] : List (Int)))), (false, ow 3 v14 (List.map (int i64) r13.2.1)), (false, ow 3 (Value.slice none 0 0) (List.map (int i64) ([] : List (Int)))), (false, bx b3 28 [(int i64 0), (Value.slice none 0 0)])]) hM rfl (weaks_cons (weak_self _ _) weaks_nil)
 refine an_oneB hS (i := 2) 7 (by kernel_rfl) rfl (by kernel_rfl) rfl ?_
 refine wp_call hS rfl rfl (by decide) fn_ok_87 rfl (c_spec_l1Below F p0_code r13.2.2.1 r13.2.2.2 4 p0_codev b8 hr _ hP) fun v w a hK hS => ?_
 obtain ⟨rfl, hN⟩ := hK
 have hM := Mem.callo (A := [(true, bx b8 82 [p0_codev, (int i64 r13.2.2.1), (int i64 r13.2.2.2)])]) (B := [(false, rd p0_codev (List.map (int IntKind.u8) p0_code)), (false, bx b15 28 [(int i64 r13.1), v14]), (false, ow 3 (Value.slice none 0 0) (List.map (int i64) ([] : List (Int)))), (false, ow 3 v14 (List.map (int i64) r13.2.1)), (false, ow 3 (Value.slice none 0 0) (List.map (int i64) ([] : List (Int)))), (false, bx b3 28 [(int i64 0), (Value.slice none 0 0)])]) hM rfl hN rfl
 refine ⟨hM.fr, ?_⟩
 refine tkB hS 3 15 (by kernel_rfl) rfl rfl rfl hQp rfl (fun w' hC' => (rv_add (hS.ev rfl) (hS.ev rfl))) hM.fr fun a hS => ?_
 obtain ⟨r21, hr, hF⟩ := bind_some hF
 refine an_oneB hS (i := 4) 31 (by kernel_rfl) rfl (by kernel_rfl) rfl ?_
 refine wp_call hS rfl rfl (by decide) fn_ok_20 rfl (c_spec_FindInducedPath F r13.1 r13.2.1 (i64.wrap (1 + r20.1)) v14 hr _ (rd_of_ow (hM.get 4 rfl))) fun v w a hK hS => ?_
 obtain ⟨v22, rfl, hN⟩ := hK
 have hM := hM.add hN rfl
 refine ⟨hM.fr, ?_⟩
 refine tkB hS 5 63 (by kernel_rfl) rfl rfl rfl hQp rfl (fun w' hC' => (rv_move (hS.ev rfl))) hM.fr fun a hS => ?_
 refine tkB hS 6 127 (by kernel_rfl) rfl rfl rfl hQp rfl (fun w' hC' => (rv_extract (hS.ev rfl) rfl)) hM.fr fun a hS => ?_
 refine tkB hS 7 255 (by kernel_rfl) rfl rfl rfl hQp rfl (fun w' hC' => (rv_extract (hS.ev rfl) rfl)) hM.fr fun a hS => ?_
 refine tkB hS 8 511 (by kernel_rfl) rfl rfl rfl hQp rfl (fun w' hC' => (rv_assign (hS.ev rfl))) hM.fr fun a hS => ?_
 refine tkB hS 9 1023 (by kernel_rfl) rfl rfl rfl hQp rfl (fun w' hC' => (rv_assign (hS.ev rfl))) hM.fr fun a hS => ?_
 refine an_done (by kernel_rfl) ?_
 have hN := hM.pick [0, 1] (by decide) rfl
 have hM := Mem.callo (A := [(true, bx b8 82 [p0_codev, (int i64 r13.2.2.1), (int i64 r13.2.2.2)])]) (B := [(true, bx b15 28 [(int i64 r13.1), v14]), (true, ow 3 (Value.slice none 0 0) (List.map (int i64) ([] : List (Int)))), (true, ow 3 v14 (List.map (int i64) r13.2.1)), (false, rd p0_codev (List.map (int IntKind.u8) p0_code)), (true, ow 3 (Value.slice none 0 0) (List.map (int i64) ([] : List (Int)))), (true, bx b3 28 [(int i64 0), (Value.slice none 0 0)])]) hB rfl (hN.memS fun _ h => h) rfl
 refine hK16 _ _ ?_
 have hS : Sl 32 [(2, (fdp b3 0)), (4, (fdp b8 0)), (5, (fdp b15 0)), (6, v22), (7, (Value.bool r21.2))] a := hS.sub (sub_cons rfl (sub_cons rfl (sub_cons rfl (sub_cons rfl (sub_cons rfl sub_nil)))))
 have hM := hM.pick [0, 1, 2, 4, 5, 6, 7] (by decide) rfl
 refine wp_seq_k fun K23 hK23 => ?_
 refine wp_seq_k fun K31 hK31 => ?_
 have hJ1 : ∀ (x33 : Int) (x34 : Int) (p35 : Bool) (a : Act) (w : World), Sl 32 [(2, (fdp b3 0)), (4, (fdp b8 0)), (5, (fdp b15 0)), (6, v22), (25, (Value.bool p35))] a → Mem Nob w0 w [(true, bx b3 28 [(int i64 0), (Value.slice none 0 0)]), (true, ow 3 (Value.slice none 0 0) (List.map (int i64) ([] : List (Int)))), (true, bx b8 82 [p0_codev, (int i64 x33), (int i64 x34)]), (false, rd p0_codev (List.map (int IntKind.u8) p0_code)), (true, bx b15 28 [(int i64 r13.1), v14]), (true, ow 3 v14 (List.map (int i64) r13.2.1)), (true, ow 3 v22 (List.map (int i64) r21.1))] → S_spec_DrawIsInducedPath_j1 F p0_code r13 r21 x33 x34 p35 = some r → K31 a w := by
  intro x33 x34 p35 a w hS hM hF
  unfold S_spec_DrawIsInducedPath_j1 at hF
  refine hK31 _ _ ?_
  rcases ite_some hF with ⟨hc, hF⟩ | ⟨hc, hF⟩
  ·refine cond_t hS rfl hc ?_
   refine wp_seq_k fun K36 hK36 => ?_
   refine wp_region_lit ?_
   refine st_val hS rfl rfl (by decide) (rv_load_agg (hS.ev rfl) ty_ag_28 (hM.get 4 rfl) ty_sz_28) fun a hS => ?_
   refine st_val hS rfl rfl (by decide) (rv_move (hS.ev rfl)) fun a hS => ?_
   obtain ⟨w, hr, hM⟩ := hM.st_agg (us := [(int i64 r13.1), v14]) (ρ := a.eval) (dst := none) (ty := _) (pos := _) (af := _) (gd := _) (x := .tmp 2) (y := .tmp 26) (hS.ev rfl) (hS.ev rfl) ty_sz_28 (all1_cons rfl (all1_cons (rd_one (rd_of_ow (hM.get 5 rfl))) all1_nil)) rfl
   refine st_unit hS rfl rfl hr ?_
   refine st_val hS rfl rfl (by decide) (rv_assign (hS.ev rfl)) fun a hS => ?_
   refine wpList_nil ?_
   refine hK36 _ _ ?_
   have hS : Sl 32 [(2, (fdp b3 0)), (3, v22)] a := hS.sub (sub_cons rfl (sub_cons rfl sub_nil))
   have hM := hM.pick [0, 5, 6] (by decide) rfl
   refine wp_ret ?_
   cases hF
   exact hQr _ _ (r_cc hS rfl ⟨_, rfl, run_loadAgg ty_ag_28 (hM.get 0 rfl) ty_sz_28⟩ rfl ⟨v14, v22, rfl, hM.pick [1, 2] (by decide) rfl⟩)
  ·refine cond_f hS rfl hc ?_
   refine wp_skip ?_
   refine hK23 _ _ ?_
   refine wp_seq_k fun K37 hK37 => ?_
   have hM := hM.pick [2, 0, 1, 3, 4, 5, 6] (by decide) rfl
   refine an_startB 6 (feet [(true, bx b8 82 [p0_codev, (int i64 x33), (int i64 x34)]), (true, bx b3 28 [(int i64 0), (Value.slice none 0 0)])]) ty_mixed (by kernel_rfl) fun w hf => ?_
   have hM := hM.fra hf
   have hB := hM
   have hM := Mem.regA (A := [(true, bx b8 82 [p0_codev, (int i64 x33), (int i64 x34)]), (true, bx b3 28 [(int i64 0), (Value.slice none 0 0)])]) (R := [(true, ow 3 (Value.slice none 0 0) (List.map (int i64) ([] : List (Int)))), (false, rd p0_codev (List.map (int IntKind.u8) p0_code)), (true, bx b15 28 [(int i64 r13.1), v14]), (true, ow 3 v14 (List.map (int i64) r13.2.1)), (true, ow 3 v22 (List.map (int i64) r21.1))]) hB rfl
   refine tkB hS 0 1 (by kernel_rfl) rfl rfl rfl hQp rfl (fun w' hC' => (rv_load_agg (hS.ev rfl) ty_ag_28 (Mem.getFA (A := [(true, bx b8 82 [p0_codev, (int i64 x33), (int i64 x34)]), (true, bx b3 28 [(int i64 0), (Value.slice none 0 0)])]) (R := [(true, ow 3 (Value.slice none 0 0) (List.map (int i64) ([] : List (Int)))), (false, rd p0_codev (List.map (int IntKind.u8) p0_code)), (true, bx b15 28 [(int i64 r13.1), v14]), (true, ow 3 v14 (List.map (int i64) r13.2.1)), (true, ow 3 v22 (List.map (int i64) r21.1))]) hB rfl 2 rfl hC') ty_sz_28)) hM.fr fun a hS => ?_
   refine tkB hS 1 3 (by kernel_rfl) rfl rfl rfl hQp rfl (fun w' hC' => (rv_move (hS.ev rfl))) hM.fr fun a hS => ?_
   refine tkB hS 2 7 (by kernel_rfl) rfl rfl rfl hQp rfl (fun w' hC' => (rv_load_agg (hS.ev rfl) ty_ag_28 (Mem.getFA (A := [(true, bx b8 82 [p0_codev, (int i64 x33), (int i64 x34)]), (true, bx b3 28 [(int i64 0), (Value.slice none 0 0)])]) (R := [(true, ow 3 (Value.slice none 0 0) (List.map (int i64) ([] : List (Int)))), (false, rd p0_codev (List.map (int IntKind.u8) p0_code)), (true, bx b15 28 [(int i64 r13.1), v14]), (true, ow 3 v14 (List.map (int i64) r13.2.1)), (true, ow 3 v22 (List.map (int i64) r21.1))]) hB rfl 2 rfl hC') ty_sz_28)) hM.fr fun a hS => ?_
   obtain ⟨r40, hr, hF⟩ := bind_some hF
   have hM := hM.pick [0, 3, 5, 1, 2, 4, 6] (by decide) rfl
   have hP := Mem.pre (A := [(true, bx b8 82 [p0_codev, (int i64 x33), (int i64 x34)])]) (C := [(false, rd p0_codev (List.map (int IntKind.u8) p0_code)), (false, ow 3 v14 (List.map (int i64) r13.2.1))]) (B := [(true, bx b3 28 [(int i64 0), (Value.slice none 0 0)]), (false, ow 3 (Value.slice none 0 0) (List.map (int i64) ([] : List (Int)))), (false, bx b15 28 [(int i64 r13.1), v14]), (false, ow 3 v22 (List.map (int i64) r21.1))]) hM rfl (weaks_cons (weak_self _ _) (weaks_cons (weak_ow _ _ _ _) weaks_nil))
   refine an_oneB hS (i := 3) 15 (by kernel_rfl) rfl (by kernel_rfl) rfl ?_
   refine wp_call hS rfl rfl (by decide) fn_ok_92 rfl (c_spec_l4List F p0_code x33 x34 r13.1 r13.2.1 p0_codev b8 v14 hr _ hP) fun v41 w a hK hS => ?_
   have hN := hK
   have hM := Mem.callo (A := [(true, bx b8 82 [p0_codev, (int i64 x33), (int i64 x34)])]) (B := [(false, rd p0_codev (List.map (int IntKind.u8) p0_code)), (false, ow 3 v14 (List.map (int i64) r13.2.1)), (true, bx b3 28 [(int i64 0), (Value.slice none 0 0)]), (false, ow 3 (Value.slice none 0 0) (List.map (int i64) ([] : List (Int)))), (false, bx b15 28 [(int i64 r13.1), v14]), (false, ow 3 v22 (List.map (int i64) r21.1))]) hM rfl hN rfl
   refine ⟨hM.fr, ?_⟩
   have hM := hM.pick [4, 0, 1, 2, 3, 5, 6, 7] (by decide) rfl
   obtain ⟨w, hr, hM⟩ := hM.st_agg (us := [(int i64 r13.1), v14]) (ρ := a.eval) (dst := none) (ty := _) (pos := _) (af := _) (gd := _) (x := .tmp 2) (y := .tmp 28) (hS.ev rfl) (hS.ev rfl) ty_sz_28 (all1_cons rfl (all1_cons (rd_one (rd_of_ow (hM.get 4 rfl))) all1_nil)) rfl
   refine an_oneB hS (i := 4) 31 (by kernel_rfl) rfl (by kernel_rfl) rfl ?_
   refine wp_unit hS rfl hr ⟨hM.fr, ?_⟩
   refine tkB hS 5 63 (by kernel_rfl) rfl rfl rfl hQp rfl (fun w' hC' => (rv_assign (hS.ev rfl))) hM.fr fun a hS => ?_
   refine an_done (by kernel_rfl) ?_
   have hN := hM.pick [0, 1, 2] (by decide) rfl
   have hM := Mem.callo (A := [(true, bx b8 82 [p0_codev, (int i64 x33), (int i64 x34)]), (true, bx b3 28 [(int i64 0), (Value.slice none 0 0)])]) (B := [(true, ow 3 (Value.slice none 0 0) (List.map (int i64) ([] : List (Int)))), (false, rd p0_codev (List.map (int IntKind.u8) p0_code)), (true, bx b15 28 [(int i64 r13.1), v14]), (true, ow 3 v14 (List.map (int i64) r13.2.1)), (true, ow 3 v22 (List.map (int i64) r21.1))]) hB rfl (hN.memS fun _ h => h) rfl
   refine hK37 _ _ ?_
   have hS : Sl 32 [(2, (fdp b3 0)), (3, v41)] a := hS.sub (sub_cons rfl (sub_cons rfl sub_nil))
   have hM := hM.pick [0, 2, 6] (by decide) rfl
   refine wp_ret ?_
   cases hF
   exact hQr _ _ (r_cc hS rfl ⟨_, rfl, run_loadAgg ty_ag_28 (hM.get 0 rfl) ty_sz_28⟩ rfl ⟨v14, v41, rfl, hM.pick [2, 1] (by decide) rfl⟩)
 refine wp_region_lit ?_
 refine st_val hS rfl rfl (by decide) (rv_move (hS.ev rfl)) fun a hS => ?_
 refine st_val hS rfl rfl (by decide) (rv_move (hS.ev rfl)) fun a hS => ?_
 rcases ite_some hF with ⟨hc, hF⟩ | ⟨hc, hF⟩
 ·have hS := hS.setb (t := 21) rfl hc
  refine st_val hS rfl rfl (by decide) (rv_move (hS.ev rfl)) fun a hS => ?_
  obtain ⟨r42, hr, hF⟩ := bind_some hF
  have hM := hM.pick [1, 4, 0, 2, 3, 5, 6] (by decide) rfl
  have hP := Mem.pre (A := [(true, bx b8 82 [p0_codev, (int i64 r20.2.1), (int i64 r20.2.2)])]) (C := [(false, rd p0_codev (List.map (int IntKind.u8) p0_code))]) (B := [(true, ow 3 v22 (List.map (int i64) r21.1)), (true, bx b15 28 [(int i64 r13.1), v14]), (true, ow 3 v14 (List.map (int i64) r13.2.1)), (true, ow 3 (Value.slice none 0 0) (List.map (int i64) ([] : List (Int)))), (true, bx b3 28 [(int i64 0), (Value.slice none 0 0)])]) hM rfl (weaks_cons (weak_self _ _) weaks_nil)
  refine st_wp hS rfl (wp_call hS rfl rfl (by decide) fn_ok_91 rfl (c_spec_l1Once F p0_code r20.2.1 r20.2.2 3 p0_codev b8 hr _ hP) fun v w a hK hS => ?_)
  obtain ⟨rfl, hN⟩ := hK
  have hM := Mem.callo (A := [(true, bx b8 82 [p0_codev, (int i64 r20.2.1), (int i64 r20.2.2)])]) (B := [(false, rd p0_codev (List.map (int IntKind.u8) p0_code)), (true, ow 3 v22 (List.map (int i64) r21.1)), (true, bx b15 28 [(int i64 r13.1), v14]), (true, ow 3 v14 (List.map (int i64) r13.2.1)), (true, ow 3 (Value.slice none 0 0) (List.map (int i64) ([] : List (Int)))), (true, bx b3 28 [(int i64 0), (Value.slice none 0 0)])]) hM rfl hN rfl
  refine st_val hS rfl rfl (by decide) (rv_not (hS.ev rfl)) fun a hS => ?_
  refine st_val hS rfl rfl (by decide) (rv_pick_t (hS.ev rfl) (hS.ev rfl)) fun a hS => ?_
  refine wpList_nil ?_
  exact hJ1 r42.2.1 r42.2.2 (!r42.1) _ _ (hS.sub (sub_cons rfl (sub_cons rfl (sub_cons rfl (sub_cons rfl (sub_cons rfl sub_nil)))))) (hM.pick [6, 5, 0, 1, 3, 4, 2] (by decide) rfl) hF
 ·have hS := hS.setb (t := 21) rfl hc
  refine st_skip hS rfl rfl (by decide) fun a hS => ?_
  refine st_skip hS rfl rfl (by decide) fun a hS => ?_
  refine st_skip hS rfl rfl (by decide) fun a hS => ?_
  refine st_val hS rfl rfl (by decide) (rv_pick_f (hS.ev rfl) (hS.ev rfl)) fun a hS => ?_
  refine wpList_nil ?_
  exact hJ1 r20.2.1 r20.2.2 false _ _ (hS.sub (sub_cons rfl (sub_cons rfl (sub_cons rfl (sub_cons rfl (sub_cons rfl sub_nil)))))) (hM.pick [6, 5, 1, 4, 2, 3, 0] (by decide) rfl) hF


theorem c_spec_DrawIsHole (F : Nat) (p0_code : List Int) (p0_codev : Value) {r : Int × (List (Int)) × (List (Int))} (hF : S_spec_DrawIsHole F p0_code = some r) (w0 : World) (h0 : RdRow w0 p0_codev (List.map (int IntKind.u8) p0_code)) :
    Calls Try.prog 37 [p0_codev].toArray w0 (retPost fun v w' => ∃ v41 v42, v = (Value.tuple #[(Value.agg #[(int i64 r.1), v41]), v42]) ∧ Mem Nob w0 w' [(true, ow 3 v41 (List.map (int i64) r.2.1)), (true, ow 3 v42 (List.map (int i64) r.2.2))]) := by
 have hM : Mem Nob w0 w0 [(false, rd p0_codev (List.map (int IntKind.u8) p0_code))] := (Mem.rcons (Mem.nil w0) h0 (by simp))
 refine enter2 Try.func37 rfl rfl rfl fun Q a hQr hQn hQp hS => ?_
 have hS : Sl 29 [(0, p0_codev)] a := hS
 unfold S_spec_DrawIsHole at hF
 refine wp_seq_k fun K1 hK1 => ?_
 refine wp_region_lit ?_
 obtain ⟨b3, w, hr, hM⟩ := hM.allocE (ρ := a.eval) (dst := some 2) (ty := _) (pos := _) (af := _) (gd := _) (T := 28) (P := Try.prog) [(int i64 0), (Value.slice none 0 0)] ty_zr_28 rfl
 refine st_val hS rfl rfl (by decide) hr fun a hS => ?_
 have hM := hM.addNil 3
 refine st_val hS rfl rfl (by decide) (rv_assign (hS.ev rfl)) fun a hS => ?_
 refine wpList_nil ?_
 refine hK1 _ _ ?_
 refine wp_seq_k fun K4 hK4 => ?_
 refine wp_region_lit ?_
 refine st_val hS rfl rfl (by decide) (rv_move (hS.ev rfl)) fun a hS => ?_
 obtain ⟨r7, hr, hF⟩ := bind_some hF
 refine st_wp hS rfl (wp_call hS rfl rfl (by decide) fn_ok_81 rfl (c_spec_l1New F p0_code p0_codev hr _ (hM.get 2 rfl)) fun v w a hK hS => ?_)
 obtain ⟨b8, rfl, hN⟩ := hK
 have hM := hM.add hN rfl
 refine st_val hS rfl rfl (by decide) (rv_assign (hS.ev rfl)) fun a hS => ?_
 refine wpList_nil ?_
 refine hK4 _ _ ?_
 refine wp_seq_k fun K9 hK9 => ?_
 refine wp_region_lit ?_
 refine st_val hS rfl rfl (by decide) (rv_move (hS.ev rfl)) fun a hS => ?_
 obtain ⟨r13, hr, hF⟩ := bind_some hF
 have hM := hM.pick [0, 3, 1, 2] (by decide) rfl
 have hP := Mem.pre (A := [(true, bx b8 82 [p0_codev, (int i64 r7.1), (int i64 r7.2)])]) (C := [(false, rd p0_codev (List.map (int IntKind.u8) p0_code))]) (B := [(true, ow 3 (Value.slice none 0 0) (List.map (int i64) ([] : List (Int)))), (true, bx b3 28 [(int i64 0), (Value.slice none 0 0)])]) hM rfl (weaks_cons (weak_self _ _) weaks_nil)
 refine st_wp hS rfl (wp_call hS rfl rfl (by decide) fn_ok_80 rfl (c_spec_l4Holey F p0_code r7.1 r7.2 p0_codev b8 hr _ hP) fun v w a hK hS => ?_)
 obtain ⟨v14, rfl, hN⟩ := hK
 have hM := Mem.callo (A := [(true, bx b8 82 [p0_codev, (int i64 r7.1), (int i64 r7.2)])]) (B := [(false, rd p0_codev (List.map (int IntKind.u8) p0_code)), (true, ow 3 (Value.slice none 0 0) (List.map (int i64) ([] : List (Int)))), (true, bx b3 28 [(int i64 0), (Value.slice none 0 0)])]) hM rfl hN rfl
 obtain ⟨b15, w, hr, hM⟩ := hM.allocE (ρ := a.eval) (dst := some 5) (ty := _) (pos := _) (af := _) (gd := _) (T := 28) (P := Try.prog) [(int i64 0), (Value.slice none 0 0)] ty_zr_28 rfl
 refine st_val hS rfl rfl (by decide) hr fun a hS => ?_
 have hM := hM.addNil 3
 have hM := hM.pick [1, 0, 2, 3, 4, 5, 6] (by decide) rfl
 obtain ⟨w, hr, hM⟩ := hM.st_agg (us := [(int i64 r13.1), v14]) (ρ := a.eval) (dst := none) (ty := _) (pos := _) (af := _) (gd := _) (x := .tmp 5) (y := .tmp 11) (hS.ev rfl) (hS.ev rfl) ty_sz_28 (all1_cons rfl (all1_cons (rd_one (rd_of_ow (hM.get 3 rfl))) all1_nil)) rfl
 refine st_unit hS rfl rfl hr ?_
 refine wpList_nil ?_
 refine hK9 _ _ ?_
 refine wp_seq_k fun K16 hK16 => ?_
 refine wp_region_lit ?_
 refine st_val hS rfl rfl (by decide) (rv_load_agg (hS.ev rfl) ty_ag_28 (hM.get 0 rfl) ty_sz_28) fun a hS => ?_
 obtain ⟨r19, hr, hF⟩ := bind_some hF
 refine st_wp hS rfl (wp_call hS rfl rfl (by decide) fn_ok_22 rfl (c_spec_FindHole F r13.1 r13.2.1 v14 hr _ (rd_of_ow (hM.get 3 rfl))) fun v w a hK hS => ?_)
 obtain ⟨v20, rfl, hN⟩ := hK
 have hM := hM.add hN rfl
 refine st_val hS rfl rfl (by decide) (rv_move (hS.ev rfl)) fun a hS => ?_
 refine st_val hS rfl rfl (by decide) (rv_extract (hS.ev rfl) rfl) fun a hS => ?_
 refine st_val hS rfl rfl (by decide) (rv_extract (hS.ev rfl) rfl) fun a hS => ?_
 refine st_val hS rfl rfl (by decide) (rv_assign (hS.ev rfl)) fun a hS => ?_
 refine st_val hS rfl rfl (by decide) (rv_assign (hS.ev rfl)) fun a hS => ?_
 refine wpList_nil ?_
 refine hK16 _ _ ?_
 have hS : Sl 29 [(2, (fdp b3 0)), (4, (fdp b8 0)), (5, (fdp b15 0)), (6, v20), (7, (Value.bool r19.2))] a := hS.sub (sub_cons rfl (sub_cons rfl (sub_cons rfl (sub_cons rfl (sub_cons rfl sub_nil)))))
 have hM := hM.pick [0, 1, 3, 4, 5, 6, 7] (by decide) rfl
 refine wp_seq_k fun K21 hK21 => ?_
 refine wp_seq_k fun K29 hK29 => ?_
 have hJ1 : ∀ (x31 : Int) (x32 : Int) (p33 : Bool) (a : Act) (w : World), Sl 29 [(2, (fdp b3 0)), (4, (fdp b8 0)), (5, (fdp b15 0)), (6, v20), (22, (Value.bool p33))] a → Mem Nob w0 w [(true, bx b3 28 [(int i64 0), (Value.slice none 0 0)]), (true, ow 3 (Value.slice none 0 0) (List.map (int i64) ([] : List (Int)))), (true, bx b8 82 [p0_codev, (int i64 x31), (int i64 x32)]), (false, rd p0_codev (List.map (int IntKind.u8) p0_code)), (true, bx b15 28 [(int i64 r13.1), v14]), (true, ow 3 v14 (List.map (int i64) r13.2.1)), (true, ow 3 v20 (List.map (int i64) r19.1))] → S_spec_DrawIsHole_j1 F p0_code r13 r19 x31 x32 p33 = some r → K29 a w := by
  intro x31 x32 p33 a w hS hM hF
  unfold S_spec_DrawIsHole_j1 at hF
  refine hK29 _ _ ?_
  rcases ite_some hF with ⟨hc, hF⟩ | ⟨hc, hF⟩
  ·refine cond_t hS rfl hc ?_
   refine wp_seq_k fun K34 hK34 => ?_
   refine wp_region_lit ?_
   refine st_val hS rfl rfl (by decide) (rv_load_agg (hS.ev rfl) ty_ag_28 (hM.get 4 rfl) ty_sz_28) fun a hS => ?_
   refine st_val hS rfl rfl (by decide) (rv_move (hS.ev rfl)) fun a hS => ?_
   obtain ⟨w, hr, hM⟩ := hM.st_agg (us := [(int i64 r13.1), v14]) (ρ := a.eval) (dst := none) (ty := _) (pos := _) (af := _) (gd := _) (x := .tmp 2) (y := .tmp 23) (hS.ev rfl) (hS.ev rfl) ty_sz_28 (all1_cons rfl (all1_cons (rd_one (rd_of_ow (hM.get 5 rfl))) all1_nil)) rfl
   refine st_unit hS rfl rfl hr ?_
   refine st_val hS rfl rfl (by decide) (rv_assign (hS.ev rfl)) fun a hS => ?_
   refine wpList_nil ?_
   refine hK34 _ _ ?_
   have hS : Sl 29 [(2, (fdp b3 0)), (3, v20)] a := hS.sub (sub_cons rfl (sub_cons rfl sub_nil))
   have hM := hM.pick [0, 5, 6] (by decide) rfl
   refine wp_ret ?_
   cases hF
   exact hQr _ _ (r_cc hS rfl ⟨_, rfl, run_loadAgg ty_ag_28 (hM.get 0 rfl) ty_sz_28⟩ rfl ⟨v14, v20, rfl, hM.pick [1, 2] (by decide) rfl⟩)
  ·refine cond_f hS rfl hc ?_
   refine wp_skip ?_
   refine hK21 _ _ ?_
   refine wp_seq_k fun K35 hK35 => ?_
   have hM := hM.pick [2, 0, 1, 3, 4, 5, 6] (by decide) rfl
   refine an_startB 6 (feet [(true, bx b8 82 [p0_codev, (int i64 x31), (int i64 x32)]), (true, bx b3 28 [(int i64 0), (Value.slice none 0 0)])]) ty_mixed (by kernel_rfl) fun w hf => ?_
   have hM := hM.fra hf
   have hB := hM
   have hM := Mem.regA (A := [(true, bx b8 82 [p0_codev, (int i64 x31), (int i64 x32)]), (true, bx b3 28 [(int i64 0), (Value.slice none 0 0)])]) (R := [(true, ow 3 (Value.slice none 0 0) (List.map (int i64) ([] : List (Int)))), (false, rd p0_codev (List.map (int IntKind.u8) p0_code)), (true, bx b15 28 [(int i64 r13.1), v14]), (true, ow 3 v14 (List.map (int i64) r13.2.1)), (true, ow 3 v20 (List.map (int i64) r19.1))]) hB rfl
   refine tkB hS 0 1 (by kernel_rfl) rfl rfl rfl hQp rfl (fun w' hC' => (rv_load_agg (hS.ev rfl) ty_ag_28 (Mem.getFA (A := [(true, bx b8 82 [p0_codev, (int i64 x31), (int i64 x32)]), (true, bx b3 28 [(int i64 0), (Value.slice none 0 0)])]) (R := [(true, ow 3 (Value.slice none 0 0) (List.map (int i64) ([] : List (Int)))), (false, rd p0_codev (List.map (int IntKind.u8) p0_code)), (true, bx b15 28 [(int i64 r13.1), v14]), (true, ow 3 v14 (List.map (int i64) r13.2.1)), (true, ow 3 v20 (List.map (int i64) r19.1))]) hB rfl 2 rfl hC') ty_sz_28)) hM.fr fun a hS => ?_
   refine tkB hS 1 3 (by kernel_rfl) rfl rfl rfl hQp rfl (fun w' hC' => (rv_move (hS.ev rfl))) hM.fr fun a hS => ?_
   refine tkB hS 2 7 (by kernel_rfl) rfl rfl rfl hQp rfl (fun w' hC' => (rv_load_agg (hS.ev rfl) ty_ag_28 (Mem.getFA (A := [(true, bx b8 82 [p0_codev, (int i64 x31), (int i64 x32)]), (true, bx b3 28 [(int i64 0), (Value.slice none 0 0)])]) (R := [(true, ow 3 (Value.slice none 0 0) (List.map (int i64) ([] : List (Int)))), (false, rd p0_codev (List.map (int IntKind.u8) p0_code)), (true, bx b15 28 [(int i64 r13.1), v14]), (true, ow 3 v14 (List.map (int i64) r13.2.1)), (true, ow 3 v20 (List.map (int i64) r19.1))]) hB rfl 2 rfl hC') ty_sz_28)) hM.fr fun a hS => ?_
   obtain ⟨r38, hr, hF⟩ := bind_some hF
   have hM := hM.pick [0, 3, 5, 1, 2, 4, 6] (by decide) rfl
   have hP := Mem.pre (A := [(true, bx b8 82 [p0_codev, (int i64 x31), (int i64 x32)])]) (C := [(false, rd p0_codev (List.map (int IntKind.u8) p0_code)), (false, ow 3 v14 (List.map (int i64) r13.2.1))]) (B := [(true, bx b3 28 [(int i64 0), (Value.slice none 0 0)]), (false, ow 3 (Value.slice none 0 0) (List.map (int i64) ([] : List (Int)))), (false, bx b15 28 [(int i64 r13.1), v14]), (false, ow 3 v20 (List.map (int i64) r19.1))]) hM rfl (weaks_cons (weak_self _ _) (weaks_cons (weak_ow _ _ _ _) weaks_nil))
   refine an_oneB hS (i := 3) 15 (by kernel_rfl) rfl (by kernel_rfl) rfl ?_
   refine wp_call hS rfl rfl (by decide) fn_ok_92 rfl (c_spec_l4List F p0_code x31 x32 r13.1 r13.2.1 p0_codev b8 v14 hr _ hP) fun v39 w a hK hS => ?_
   have hN := hK
   have hM := Mem.callo (A := [(true, bx b8 82 [p0_codev, (int i64 x31), (int i64 x32)])]) (B := [(false, rd p0_codev (List.map (int IntKind.u8) p0_code)), (false, ow 3 v14 (List.map (int i64) r13.2.1)), (true, bx b3 28 [(int i64 0), (Value.slice none 0 0)]), (false, ow 3 (Value.slice none 0 0) (List.map (int i64) ([] : List (Int)))), (false, bx b15 28 [(int i64 r13.1), v14]), (false, ow 3 v20 (List.map (int i64) r19.1))]) hM rfl hN rfl
   refine ⟨hM.fr, ?_⟩
   have hM := hM.pick [4, 0, 1, 2, 3, 5, 6, 7] (by decide) rfl
   obtain ⟨w, hr, hM⟩ := hM.st_agg (us := [(int i64 r13.1), v14]) (ρ := a.eval) (dst := none) (ty := _) (pos := _) (af := _) (gd := _) (x := .tmp 2) (y := .tmp 25) (hS.ev rfl) (hS.ev rfl) ty_sz_28 (all1_cons rfl (all1_cons (rd_one (rd_of_ow (hM.get 4 rfl))) all1_nil)) rfl
   refine an_oneB hS (i := 4) 31 (by kernel_rfl) rfl (by kernel_rfl) rfl ?_
   refine wp_unit hS rfl hr ⟨hM.fr, ?_⟩
   refine tkB hS 5 63 (by kernel_rfl) rfl rfl rfl hQp rfl (fun w' hC' => (rv_assign (hS.ev rfl))) hM.fr fun a hS => ?_
   refine an_done (by kernel_rfl) ?_
   have hN := hM.pick [0, 1, 2] (by decide) rfl
   have hM := Mem.callo (A := [(true, bx b8 82 [p0_codev, (int i64 x31), (int i64 x32)]), (true, bx b3 28 [(int i64 0), (Value.slice none 0 0)])]) (B := [(true, ow 3 (Value.slice none 0 0) (List.map (int i64) ([] : List (Int)))), (false, rd p0_codev (List.map (int IntKind.u8) p0_code)), (true, bx b15 28 [(int i64 r13.1), v14]), (true, ow 3 v14 (List.map (int i64) r13.2.1)), (true, ow 3 v20 (List.map (int i64) r19.1))]) hB rfl (hN.memS fun _ h => h) rfl
   refine hK35 _ _ ?_
   have hS : Sl 29 [(2, (fdp b3 0)), (3, v39)] a := hS.sub (sub_cons rfl (sub_cons rfl sub_nil))
   have hM := hM.pick [0, 2, 6] (by decide) rfl
   refine wp_ret ?_
   cases hF
   exact hQr _ _ (r_cc hS rfl ⟨_, rfl, run_loadAgg ty_ag_28 (hM.get 0 rfl) ty_sz_28⟩ rfl ⟨v14, v39, rfl, hM.pick [2, 1] (by decide) rfl⟩)
 refine wp_region_lit ?_
 refine st_val hS rfl rfl (by decide) (rv_move (hS.ev rfl)) fun a hS => ?_
 refine st_val hS rfl rfl (by decide) (rv_move (hS.ev rfl)) fun a hS => ?_
 rcases ite_some hF with ⟨hc, hF⟩ | ⟨hc, hF⟩
 ·have hS := hS.setb (t := 18) rfl hc
  refine st_val hS rfl rfl (by decide) (rv_move (hS.ev rfl)) fun a hS => ?_
  obtain ⟨r40, hr, hF⟩ := bind_some hF
  have hM := hM.pick [2, 4, 0, 1, 3, 5, 6] (by decide) rfl
  have hP := Mem.pre (A := [(true, bx b8 82 [p0_codev, (int i64 r13.2.2.1), (int i64 r13.2.2.2)])]) (C := [(false, rd p0_codev (List.map (int IntKind.u8) p0_code))]) (B := [(true, ow 3 v20 (List.map (int i64) r19.1)), (true, bx b15 28 [(int i64 r13.1), v14]), (true, ow 3 v14 (List.map (int i64) r13.2.1)), (true, ow 3 (Value.slice none 0 0) (List.map (int i64) ([] : List (Int)))), (true, bx b3 28 [(int i64 0), (Value.slice none 0 0)])]) hM rfl (weaks_cons (weak_self _ _) weaks_nil)
  refine st_wp hS rfl (wp_call hS rfl rfl (by decide) fn_ok_91 rfl (c_spec_l1Once F p0_code r13.2.2.1 r13.2.2.2 4 p0_codev b8 hr _ hP) fun v w a hK hS => ?_)
  obtain ⟨rfl, hN⟩ := hK
  have hM := Mem.callo (A := [(true, bx b8 82 [p0_codev, (int i64 r13.2.2.1), (int i64 r13.2.2.2)])]) (B := [(false, rd p0_codev (List.map (int IntKind.u8) p0_code)), (true, ow 3 v20 (List.map (int i64) r19.1)), (true, bx b15 28 [(int i64 r13.1), v14]), (true, ow 3 v14 (List.map (int i64) r13.2.1)), (true, ow 3 (Value.slice none 0 0) (List.map (int i64) ([] : List (Int)))), (true, bx b3 28 [(int i64 0), (Value.slice none 0 0)])]) hM rfl hN rfl
  refine st_val hS rfl rfl (by decide) (rv_not (hS.ev rfl)) fun a hS => ?_
  refine st_val hS rfl rfl (by decide) (rv_pick_t (hS.ev rfl) (hS.ev rfl)) fun a hS => ?_
  refine wpList_nil ?_
  exact hJ1 r40.2.1 r40.2.2 (!r40.1) _ _ (hS.sub (sub_cons rfl (sub_cons rfl (sub_cons rfl (sub_cons rfl (sub_cons rfl sub_nil)))))) (hM.pick [6, 5, 0, 1, 3, 4, 2] (by decide) rfl) hF
 ·have hS := hS.setb (t := 18) rfl hc
  refine st_skip hS rfl rfl (by decide) fun a hS => ?_
  refine st_skip hS rfl rfl (by decide) fun a hS => ?_
  refine st_skip hS rfl rfl (by decide) fun a hS => ?_
  refine st_val hS rfl rfl (by decide) (rv_pick_f (hS.ev rfl) (hS.ev rfl)) fun a hS => ?_
  refine wpList_nil ?_
  exact hJ1 r13.2.2.1 r13.2.2.2 false _ _ (hS.sub (sub_cons rfl (sub_cons rfl (sub_cons rfl (sub_cons rfl (sub_cons rfl sub_nil)))))) (hM.pick [6, 5, 2, 4, 1, 3, 0] (by decide) rfl) hF


theorem c_spec_DrawIsClaw (F : Nat) (p0_code : List Int) (p0_codev : Value) {r : Int × (List (Int)) × (List (Int))} (hF : S_spec_DrawIsClaw F p0_code = some r) (w0 : World) (h0 : RdRow w0 p0_codev (List.map (int IntKind.u8) p0_code)) :
    Calls Try.prog 38 [p0_codev].toArray w0 (retPost fun v w' => ∃ v41 v42, v = (Value.tuple #[(Value.agg #[(int i64 r.1), v41]), v42]) ∧ Mem Nob w0 w' [(true, ow 3 v41 (List.map (int i64) r.2.1)), (true, ow 3 v42 (List.map (int i64) r.2.2))]) := by
 have hM : Mem Nob w0 w0 [(false, rd p0_codev (List.map (int IntKind.u8) p0_code))] := (Mem.rcons (Mem.nil w0) h0 (by simp))
 refine enter2 Try.func38 rfl rfl rfl fun Q a hQr hQn hQp hS => ?_
 have hS : Sl 29 [(0, p0_codev)] a := hS
 unfold S_spec_DrawIsClaw at hF
 refine wp_seq_k fun K1 hK1 => ?_
 refine wp_region_lit ?_
 obtain ⟨b3, w, hr, hM⟩ := hM.allocE (ρ := a.eval) (dst := some 2) (ty := _) (pos := _) (af := _) (gd := _) (T := 28) (P := Try.prog) [(int i64 0), (Value.slice none 0 0)] ty_zr_28 rfl
 refine st_val hS rfl rfl (by decide) hr fun a hS => ?_
 have hM := hM.addNil 3
 refine st_val hS rfl rfl (by decide) (rv_assign (hS.ev rfl)) fun a hS => ?_
 refine wpList_nil ?_
 refine hK1 _ _ ?_
 refine wp_seq_k fun K4 hK4 => ?_
 refine wp_region_lit ?_
 refine st_val hS rfl rfl (by decide) (rv_move (hS.ev rfl)) fun a hS => ?_
 obtain ⟨r7, hr, hF⟩ := bind_some hF
 refine st_wp hS rfl (wp_call hS rfl rfl (by decide) fn_ok_81 rfl (c_spec_l1New F p0_code p0_codev hr _ (hM.get 2 rfl)) fun v w a hK hS => ?_)
 obtain ⟨b8, rfl, hN⟩ := hK
 have hM := hM.add hN rfl
 refine st_val hS rfl rfl (by decide) (rv_assign (hS.ev rfl)) fun a hS => ?_
 refine wpList_nil ?_
 refine hK4 _ _ ?_
 refine wp_seq_k fun K9 hK9 => ?_
 refine wp_region_lit ?_
 refine st_val hS rfl rfl (by decide) (rv_move (hS.ev rfl)) fun a hS => ?_
 obtain ⟨r13, hr, hF⟩ := bind_some hF
 have hM := hM.pick [0, 3, 1, 2] (by decide) rfl
 have hP := Mem.pre (A := [(true, bx b8 82 [p0_codev, (int i64 r7.1), (int i64 r7.2)])]) (C := [(false, rd p0_codev (List.map (int IntKind.u8) p0_code))]) (B := [(true, ow 3 (Value.slice none 0 0) (List.map (int i64) ([] : List (Int)))), (true, bx b3 28 [(int i64 0), (Value.slice none 0 0)])]) hM rfl (weaks_cons (weak_self _ _) weaks_nil)
 refine st_wp hS rfl (wp_call hS rfl rfl (by decide) fn_ok_86 rfl (c_spec_l2Any F p0_code r7.1 r7.2 p0_codev b8 hr _ hP) fun v w a hK hS => ?_)
 obtain ⟨v14, rfl, hN⟩ := hK
 have hM := Mem.callo (A := [(true, bx b8 82 [p0_codev, (int i64 r7.1), (int i64 r7.2)])]) (B := [(false, rd p0_codev (List.map (int IntKind.u8) p0_code)), (true, ow 3 (Value.slice none 0 0) (List.map (int i64) ([] : List (Int)))), (true, bx b3 28 [(int i64 0), (Value.slice none 0 0)])]) hM rfl hN rfl
 obtain ⟨b15, w, hr, hM⟩ := hM.allocE (ρ := a.eval) (dst := some 5) (ty := _) (pos := _) (af := _) (gd := _) (T := 28) (P := Try.prog) [(int i64 0), (Value.slice none 0 0)] ty_zr_28 rfl
 refine st_val hS rfl rfl (by decide) hr fun a hS => ?_
 have hM := hM.addNil 3
 have hM := hM.pick [1, 0, 2, 3, 4, 5, 6] (by decide) rfl
 obtain ⟨w, hr, hM⟩ := hM.st_agg (us := [(int i64 r13.1), v14]) (ρ := a.eval) (dst := none) (ty := _) (pos := _) (af := _) (gd := _) (x := .tmp 5) (y := .tmp 11) (hS.ev rfl) (hS.ev rfl) ty_sz_28 (all1_cons rfl (all1_cons (rd_one (rd_of_ow (hM.get 3 rfl))) all1_nil)) rfl
 refine st_unit hS rfl rfl hr ?_
 refine wpList_nil ?_
 refine hK9 _ _ ?_
 refine wp_seq_k fun K16 hK16 => ?_
 refine wp_region_lit ?_
 refine st_val hS rfl rfl (by decide) (rv_load_agg (hS.ev rfl) ty_ag_28 (hM.get 0 rfl) ty_sz_28) fun a hS => ?_
 obtain ⟨r19, hr, hF⟩ := bind_some hF
 refine st_wp hS rfl (wp_call hS rfl rfl (by decide) fn_ok_10 rfl (c_spec_FindClaw F r13.1 r13.2.1 v14 hr _ (rd_of_ow (hM.get 3 rfl))) fun v w a hK hS => ?_)
 obtain ⟨v20, rfl, hN⟩ := hK
 have hM := hM.add hN rfl
 refine st_val hS rfl rfl (by decide) (rv_move (hS.ev rfl)) fun a hS => ?_
 refine st_val hS rfl rfl (by decide) (rv_extract (hS.ev rfl) rfl) fun a hS => ?_
 refine st_val hS rfl rfl (by decide) (rv_extract (hS.ev rfl) rfl) fun a hS => ?_
 refine st_val hS rfl rfl (by decide) (rv_assign (hS.ev rfl)) fun a hS => ?_
 refine st_val hS rfl rfl (by decide) (rv_assign (hS.ev rfl)) fun a hS => ?_
 refine wpList_nil ?_
 refine hK16 _ _ ?_
 have hS : Sl 29 [(2, (fdp b3 0)), (4, (fdp b8 0)), (5, (fdp b15 0)), (6, v20), (7, (Value.bool r19.2))] a := hS.sub (sub_cons rfl (sub_cons rfl (sub_cons rfl (sub_cons rfl (sub_cons rfl sub_nil)))))
 have hM := hM.pick [0, 1, 3, 4, 5, 6, 7] (by decide) rfl
 refine wp_seq_k fun K21 hK21 => ?_
 refine wp_seq_k fun K29 hK29 => ?_
 have hJ1 : ∀ (x31 : Int) (x32 : Int) (p33 : Bool) (a : Act) (w : World), Sl 29 [(2, (fdp b3 0)), (4, (fdp b8 0)), (5, (fdp b15 0)), (6, v20), (22, (Value.bool p33))] a → Mem Nob w0 w [(true, bx b3 28 [(int i64 0), (Value.slice none 0 0)]), (true, ow 3 (Value.slice none 0 0) (List.map (int i64) ([] : List (Int)))), (true, bx b8 82 [p0_codev, (int i64 x31), (int i64 x32)]), (false, rd p0_codev (List.map (int IntKind.u8) p0_code)), (true, bx b15 28 [(int i64 r13.1), v14]), (true, ow 3 v14 (List.map (int i64) r13.2.1)), (true, ow 3 v20 (List.map (int i64) r19.1))] → S_spec_DrawIsClaw_j1 F p0_code r13 r19 x31 x32 p33 = some r → K29 a w := by
  intro x31 x32 p33 a w hS hM hF
  unfold S_spec_DrawIsClaw_j1 at hF
  refine hK29 _ _ ?_
  rcases ite_some hF with ⟨hc, hF⟩ | ⟨hc, hF⟩
  ·refine cond_t hS rfl hc ?_
   refine wp_seq_k fun K34 hK34 => ?_
   refine wp_region_lit ?_
   refine st_val hS rfl rfl (by decide) (rv_load_agg (hS.ev rfl) ty_ag_28 (hM.get 4 rfl) ty_sz_28) fun a hS => ?_
   refine st_val hS rfl rfl (by decide) (rv_move (hS.ev rfl)) fun a hS => ?_
   obtain ⟨w, hr, hM⟩ := hM.st_agg (us := [(int i64 r13.1), v14]) (ρ := a.eval) (dst := none) (ty := _) (pos := _) (af := _) (gd := _) (x := .tmp 2) (y := .tmp 23) (hS.ev rfl) (hS.ev rfl) ty_sz_28 (all1_cons rfl (all1_cons (rd_one (rd_of_ow (hM.get 5 rfl))) all1_nil)) rfl
   refine st_unit hS rfl rfl hr ?_
   refine st_val hS rfl rfl (by decide) (rv_assign (hS.ev rfl)) fun a hS => ?_
   refine wpList_nil ?_
   refine hK34 _ _ ?_
   have hS : Sl 29 [(2, (fdp b3 0)), (3, v20)] a := hS.sub (sub_cons rfl (sub_cons rfl sub_nil))
   have hM := hM.pick [0, 5, 6] (by decide) rfl
   refine wp_ret ?_
   cases hF
   exact hQr _ _ (r_cc hS rfl ⟨_, rfl, run_loadAgg ty_ag_28 (hM.get 0 rfl) ty_sz_28⟩ rfl ⟨v14, v20, rfl, hM.pick [1, 2] (by decide) rfl⟩)
  ·refine cond_f hS rfl hc ?_
   refine wp_skip ?_
   refine hK21 _ _ ?_
   refine wp_seq_k fun K35 hK35 => ?_
   have hM := hM.pick [2, 0, 1, 3, 4, 5, 6] (by decide) rfl
   refine an_startB 6 (feet [(true, bx b8 82 [p0_codev, (int i64 x31), (int i64 x32)]), (true, bx b3 28 [(int i64 0), (Value.slice none 0 0)])]) ty_mixed (by kernel_rfl) fun w hf => ?_
   have hM := hM.fra hf
   have hB := hM
   have hM := Mem.regA (A := [(true, bx b8 82 [p0_codev, (int i64 x31), (int i64 x32)]), (true, bx b3 28 [(int i64 0), (Value.slice none 0 0)])]) (R := [(true, ow 3 (Value.slice none 0 0) (List.map (int i64) ([] : List (Int)))), (false, rd p0_codev (List.map (int IntKind.u8) p0_code)), (true, bx b15 28 [(int i64 r13.1), v14]), (true, ow 3 v14 (List.map (int i64) r13.2.1)), (true, ow 3 v20 (List.map (int i64) r19.1))]) hB rfl
   refine tkB hS 0 1 (by kernel_rfl) rfl rfl rfl hQp rfl (fun w' hC' => (rv_load_agg (hS.ev rfl) ty_ag_28 (Mem.getFA (A := [(true, bx b8 82 [p0_codev, (int i64 x31), (int i64 x32)]), (true, bx b3 28 [(int i64 0), (Value.slice none 0 0)])]) (R := [(true, ow 3 (Value.slice none 0 0) (List.map (int i64) ([] : List (Int)))), (false, rd p0_codev (List.map (int IntKind.u8) p0_code)), (true, bx b15 28 [(int i64 r13.1), v14]), (true, ow 3 v14 (List.map (int i64) r13.2.1)), (true, ow 3 v20 (List.map (int i64) r19.1))]) hB rfl 2 rfl hC') ty_sz_28)) hM.fr fun a hS => ?_
   refine tkB hS 1 3 (by kernel_rfl) rfl rfl rfl hQp rfl (fun w' hC' => (rv_move (hS.ev rfl))) hM.fr fun a hS => ?_
   refine tkB hS 2 7 (by kernel_rfl) rfl rfl rfl hQp rfl (fun w' hC' => (rv_load_agg (hS.ev rfl) ty_ag_28 (Mem.getFA (A := [(true, bx b8 82 [p0_codev, (int i64 x31), (int i64 x32)]), (true, bx b3 28 [(int i64 0), (Value.slice none 0 0)])]) (R := [(true, ow 3 (Value.slice none 0 0) (List.map (int i64) ([] : List (Int)))), (false, rd p0_codev (List.map (int IntKind.u8) p0_code)), (true, bx b15 28 [(int i64 r13.1), v14]), (true, ow 3 v14 (List.map (int i64) r13.2.1)), (true, ow 3 v20 (List.map (int i64) r19.1))]) hB rfl 2 rfl hC') ty_sz_28)) hM.fr fun a hS => ?_
   obtain ⟨r38, hr, hF⟩ := bind_some hF
   have hM := hM.pick [0, 3, 5, 1, 2, 4, 6] (by decide) rfl
   have hP := Mem.pre (A := [(true, bx b8 82 [p0_codev, (int i64 x31), (int i64 x32)])]) (C := [(false, rd p0_codev (List.map (int IntKind.u8) p0_code)), (false, ow 3 v14 (List.map (int i64) r13.2.1))]) (B := [(true, bx b3 28 [(int i64 0), (Value.slice none 0 0)]), (false, ow 3 (Value.slice none 0 0) (List.map (int i64) ([] : List (Int)))), (false, bx b15 28 [(int i64 r13.1), v14]), (false, ow 3 v20 (List.map (int i64) r19.1))]) hM rfl (weaks_cons (weak_self _ _) (weaks_cons (weak_ow _ _ _ _) weaks_nil))
   refine an_oneB hS (i := 3) 15 (by kernel_rfl) rfl (by kernel_rfl) rfl ?_
   refine wp_call hS rfl rfl (by decide) fn_ok_92 rfl (c_spec_l4List F p0_code x31 x32 r13.1 r13.2.1 p0_codev b8 v14 hr _ hP) fun v39 w a hK hS => ?_
   have hN := hK
   have hM := Mem.callo (A := [(true, bx b8 82 [p0_codev, (int i64 x31), (int i64 x32)])]) (B := [(false, rd p0_codev (List.map (int IntKind.u8) p0_code)), (false, ow 3 v14 (List.map (int i64) r13.2.1)), (true, bx b3 28 [(int i64 0), (Value.slice none 0 0)]), (false, ow 3 (Value.slice none 0 0) (List.map (int i64) ([] : List (Int)))), (false, bx b15 28 [(int i64 r13.1), v14]), (false, ow 3 v20 (List.map (int i64) r19.1))]) hM rfl hN rfl
   refine ⟨hM.fr, ?_⟩
   have hM := hM.pick [4, 0, 1, 2, 3, 5, 6, 7] (by decide) rfl
   obtain ⟨w, hr, hM⟩ := hM.st_agg (us := [(int i64 r13.1), v14]) (ρ := a.eval) (dst := none) (ty := _) (pos := _) (af := _) (gd := _) (x := .tmp 2) (y := .tmp 25) (hS.ev rfl) (hS.ev rfl) ty_sz_28 (all1_cons rfl (all1_cons (rd_one (rd_of_ow (hM.get 4 rfl))) all1_nil)) rfl
   refine an_oneB hS (i := 4) 31 (by kernel_rfl) rfl (by kernel_rfl) rfl ?_
   refine wp_unit hS rfl hr ⟨hM.fr, ?_⟩
   refine tkB hS 5 63 (by kernel_rfl) rfl rfl rfl hQp rfl (fun w' hC' => (rv_assign (hS.ev rfl))) hM.fr fun a hS => ?_
   refine an_done (by kernel_rfl) ?_
   have hN := hM.pick [0, 1, 2] (by decide) rfl
   have hM := Mem.callo (A := [(true, bx b8 82 [p0_codev, (int i64 x31), (int i64 x32)]), (true, bx b3 28 [(int i64 0), (Value.slice none 0 0)])]) (B := [(true, ow 3 (Value.slice none 0 0) (List.map (int i64) ([] : List (Int)))), (false, rd p0_codev (List.map (int IntKind.u8) p0_code)), (true, bx b15 28 [(int i64 r13.1), v14]), (true, ow 3 v14 (List.map (int i64) r13.2.1)), (true, ow 3 v20 (List.map (int i64) r19.1))]) hB rfl (hN.memS fun _ h => h) rfl
   refine hK35 _ _ ?_
   have hS : Sl 29 [(2, (fdp b3 0)), (3, v39)] a := hS.sub (sub_cons rfl (sub_cons rfl sub_nil))
   have hM := hM.pick [0, 2, 6] (by decide) rfl
   refine wp_ret ?_
   cases hF
   exact hQr _ _ (r_cc hS rfl ⟨_, rfl, run_loadAgg ty_ag_28 (hM.get 0 rfl) ty_sz_28⟩ rfl ⟨v14, v39, rfl, hM.pick [2, 1] (by decide) rfl⟩)
 refine wp_region_lit ?_
 refine st_val hS rfl rfl (by decide) (rv_move (hS.ev rfl)) fun a hS => ?_
 refine st_val hS rfl rfl (by decide) (rv_move (hS.ev rfl)) fun a hS => ?_
 rcases ite_some hF with ⟨hc, hF⟩ | ⟨hc, hF⟩
 ·have hS := hS.setb (t := 18) rfl hc
  refine st_val hS rfl rfl (by decide) (rv_move (hS.ev rfl)) fun a hS => ?_
  obtain ⟨r40, hr, hF⟩ := bind_some hF
  have hM := hM.pick [2, 4, 0, 1, 3, 5, 6] (by decide) rfl
  have hP := Mem.pre (A := [(true, bx b8 82 [p0_codev, (int i64 r13.2.2.1), (int i64 r13.2.2.2)])]) (C := [(false, rd p0_codev (List.map (int IntKind.u8) p0_code))]) (B := [(true, ow 3 v20 (List.map (int i64) r19.1)), (true, bx b15 28 [(int i64 r13.1), v14]), (true, ow 3 v14 (List.map (int i64) r13.2.1)), (true, ow 3 (Value.slice none 0 0) (List.map (int i64) ([] : List (Int)))), (true, bx b3 28 [(int i64 0), (Value.slice none 0 0)])]) hM rfl (weaks_cons (weak_self _ _) weaks_nil)
  refine st_wp hS rfl (wp_call hS rfl rfl (by decide) fn_ok_91 rfl (c_spec_l1Once F p0_code r13.2.2.1 r13.2.2.2 4 p0_codev b8 hr _ hP) fun v w a hK hS => ?_)
  obtain ⟨rfl, hN⟩ := hK
  have hM := Mem.callo (A := [(true, bx b8 82 [p0_codev, (int i64 r13.2.2.1), (int i64 r13.2.2.2)])]) (B := [(false, rd p0_codev (List.map (int IntKind.u8) p0_code)), (true, ow 3 v20 (List.map (int i64) r19.1)), (true, bx b15 28 [(int i64 r13.1), v14]), (true, ow 3 v14 (List.map (int i64) r13.2.1)), (true, ow 3 (Value.slice none 0 0) (List.map (int i64) ([] : List (Int)))), (true, bx b3 28 [(int i64 0), (Value.slice none 0 0)])]) hM rfl hN rfl
  refine st_val hS rfl rfl (by decide) (rv_not (hS.ev rfl)) fun a hS => ?_
  refine st_val hS rfl rfl (by decide) (rv_pick_t (hS.ev rfl) (hS.ev rfl)) fun a hS => ?_
  refine wpList_nil ?_
  exact hJ1 r40.2.1 r40.2.2 (!r40.1) _ _ (hS.sub (sub_cons rfl (sub_cons rfl (sub_cons rfl (sub_cons rfl (sub_cons rfl sub_nil)))))) (hM.pick [6, 5, 0, 1, 3, 4, 2] (by decide) rfl) hF
 ·have hS := hS.setb (t := 18) rfl hc
  refine st_skip hS rfl rfl (by decide) fun a hS => ?_
  refine st_skip hS rfl rfl (by decide) fun a hS => ?_
  refine st_skip hS rfl rfl (by decide) fun a hS => ?_
  refine st_val hS rfl rfl (by decide) (rv_pick_f (hS.ev rfl) (hS.ev rfl)) fun a hS => ?_
  refine wpList_nil ?_
  exact hJ1 r13.2.2.1 r13.2.2.2 false _ _ (hS.sub (sub_cons rfl (sub_cons rfl (sub_cons rfl (sub_cons rfl (sub_cons rfl sub_nil)))))) (hM.pick [6, 5, 2, 4, 1, 3, 0] (by decide) rfl) hF


theorem c_spec_DrawIsTwoEdges (F : Nat) (p0_code : List Int) (p0_codev : Value) {r : Int × (List (Int)) × (List (Int))} (hF : S_spec_DrawIsTwoEdges F p0_code = some r) (w0 : World) (h0 : RdRow w0 p0_codev (List.map (int IntKind.u8) p0_code)) :
    Calls Try.prog 39 [p0_codev].toArray w0 (retPost fun v w' => ∃ v41 v42, v = (Value.tuple #[(Value.agg #[(int i64 r.1), v41]), v42]) ∧ Mem Nob w0 w' [(true, ow 3 v41 (List.map (int i64) r.2.1)), (true, ow 3 v42 (List.map (int i64) r.2.2))]) := by
 have hM : Mem Nob w0 w0 [(false, rd p0_codev (List.map (int IntKind.u8) p0_code))] := (Mem.rcons (Mem.nil w0) h0 (by simp))
 refine enter2 Try.func39 rfl rfl rfl fun Q a hQr hQn hQp hS => ?_
 have hS : Sl 29 [(0, p0_codev)] a := hS
 unfold S_spec_DrawIsTwoEdges at hF
 refine wp_seq_k fun K1 hK1 => ?_
 refine wp_region_lit ?_
 obtain ⟨b3, w, hr, hM⟩ := hM.allocE (ρ := a.eval) (dst := some 2) (ty := _) (pos := _) (af := _) (gd := _) (T := 28) (P := Try.prog) [(int i64 0), (Value.slice none 0 0)] ty_zr_28 rfl
 refine st_val hS rfl rfl (by decide) hr fun a hS => ?_
 have hM := hM.addNil 3
 refine st_val hS rfl rfl (by decide) (rv_assign (hS.ev rfl)) fun a hS => ?_
 refine wpList_nil ?_
 refine hK1 _ _ ?_
 refine wp_seq_k fun K4 hK4 => ?_
 refine wp_region_lit ?_
 refine st_val hS rfl rfl (by decide) (rv_move (hS.ev rfl)) fun a hS => ?_
 obtain ⟨r7, hr, hF⟩ := bind_some hF
 refine st_wp hS rfl (wp_call hS rfl rfl (by decide) fn_ok_81 rfl (c_spec_l1New F p0_code p0_codev hr _ (hM.get 2 rfl)) fun v w a hK hS => ?_)
 obtain ⟨b8, rfl, hN⟩ := hK
 have hM := hM.add hN rfl
 refine st_val hS rfl rfl (by decide) (rv_assign (hS.ev rfl)) fun a hS => ?_
 refine wpList_nil ?_
 refine hK4 _ _ ?_
 refine wp_seq_k fun K9 hK9 => ?_
 refine wp_region_lit ?_
 refine st_val hS rfl rfl (by decide) (rv_move (hS.ev rfl)) fun a hS => ?_
 obtain ⟨r13, hr, hF⟩ := bind_some hF
 have hM := hM.pick [0, 3, 1, 2] (by decide) rfl
 have hP := Mem.pre (A := [(true, bx b8 82 [p0_codev, (int i64 r7.1), (int i64 r7.2)])]) (C := [(false, rd p0_codev (List.map (int IntKind.u8) p0_code))]) (B := [(true, ow 3 (Value.slice none 0 0) (List.map (int i64) ([] : List (Int)))), (true, bx b3 28 [(int i64 0), (Value.slice none 0 0)])]) hM rfl (weaks_cons (weak_self _ _) weaks_nil)
 refine st_wp hS rfl (wp_call hS rfl rfl (by decide) fn_ok_86 rfl (c_spec_l2Any F p0_code r7.1 r7.2 p0_codev b8 hr _ hP) fun v w a hK hS => ?_)
 obtain ⟨v14, rfl, hN⟩ := hK
 have hM := Mem.callo (A := [(true, bx b8 82 [p0_codev, (int i64 r7.1), (int i64 r7.2)])]) (B := [(false, rd p0_codev (List.map (int IntKind.u8) p0_code)), (true, ow 3 (Value.slice none 0 0) (List.map (int i64) ([] : List (Int)))), (true, bx b3 28 [(int i64 0), (Value.slice none 0 0)])]) hM rfl hN rfl
 obtain ⟨b15, w, hr, hM⟩ := hM.allocE (ρ := a.eval) (dst := some 5) (ty := _) (pos := _) (af := _) (gd := _) (T := 28) (P := Try.prog) [(int i64 0), (Value.slice none 0 0)] ty_zr_28 rfl
 refine st_val hS rfl rfl (by decide) hr fun a hS => ?_
 have hM := hM.addNil 3
 have hM := hM.pick [1, 0, 2, 3, 4, 5, 6] (by decide) rfl
 obtain ⟨w, hr, hM⟩ := hM.st_agg (us := [(int i64 r13.1), v14]) (ρ := a.eval) (dst := none) (ty := _) (pos := _) (af := _) (gd := _) (x := .tmp 5) (y := .tmp 11) (hS.ev rfl) (hS.ev rfl) ty_sz_28 (all1_cons rfl (all1_cons (rd_one (rd_of_ow (hM.get 3 rfl))) all1_nil)) rfl
 refine st_unit hS rfl rfl hr ?_
 refine wpList_nil ?_
 refine hK9 _ _ ?_
 refine wp_seq_k fun K16 hK16 => ?_
 refine wp_region_lit ?_
 refine st_val hS rfl rfl (by decide) (rv_load_agg (hS.ev rfl) ty_ag_28 (hM.get 0 rfl) ty_sz_28) fun a hS => ?_
 obtain ⟨r19, hr, hF⟩ := bind_some hF
 refine st_wp hS rfl (wp_call hS rfl rfl (by decide) fn_ok_18 rfl (c_spec_FindTwoEdges F r13.1 r13.2.1 v14 hr _ (rd_of_ow (hM.get 3 rfl))) fun v w a hK hS => ?_)
 obtain ⟨v20, rfl, hN⟩ := hK
 have hM := hM.add hN rfl
 refine st_val hS rfl rfl (by decide) (rv_move (hS.ev rfl)) fun a hS => ?_
 refine st_val hS rfl rfl (by decide) (rv_extract (hS.ev rfl) rfl) fun a hS => ?_
 refine st_val hS rfl rfl (by decide) (rv_extract (hS.ev rfl) rfl) fun a hS => ?_
 refine st_val hS rfl rfl (by decide) (rv_assign (hS.ev rfl)) fun a hS => ?_
 refine st_val hS rfl rfl (by decide) (rv_assign (hS.ev rfl)) fun a hS => ?_
 refine wpList_nil ?_
 refine hK16 _ _ ?_
 have hS : Sl 29 [(2, (fdp b3 0)), (4, (fdp b8 0)), (5, (fdp b15 0)), (6, v20), (7, (Value.bool r19.2))] a := hS.sub (sub_cons rfl (sub_cons rfl (sub_cons rfl (sub_cons rfl (sub_cons rfl sub_nil)))))
 have hM := hM.pick [0, 1, 3, 4, 5, 6, 7] (by decide) rfl
 refine wp_seq_k fun K21 hK21 => ?_
 refine wp_seq_k fun K29 hK29 => ?_
 have hJ1 : ∀ (x31 : Int) (x32 : Int) (p33 : Bool) (a : Act) (w : World), Sl 29 [(2, (fdp b3 0)), (4, (fdp b8 0)), (5, (fdp b15 0)), (6, v20), (22, (Value.bool p33))] a → Mem Nob w0 w [(true, bx b3 28 [(int i64 0), (Value.slice none 0 0)]), (true, ow 3 (Value.slice none 0 0) (List.map (int i64) ([] : List (Int)))), (true, bx b8 82 [p0_codev, (int i64 x31), (int i64 x32)]), (false, rd p0_codev (List.map (int IntKind.u8) p0_code)), (true, bx b15 28 [(int i64 r13.1), v14]), (true, ow 3 v14 (List.map (int i64) r13.2.1)), (true, ow 3 v20 (List.map (int i64) r19.1))] → S_spec_DrawIsTwoEdges_j1 F p0_code r13 r19 x31 x32 p33 = some r → K29 a w := by
  intro x31 x32 p33 a w hS hM hF
  unfold S_spec_DrawIsTwoEdges_j1 at hF
  refine hK29 _ _ ?_
  rcases ite_some hF with ⟨hc, hF⟩ | ⟨hc, hF⟩
  ·refine cond_t hS rfl hc ?_
   refine wp_seq_k fun K34 hK34 => ?_
   refine wp_region_lit ?_
   refine st_val hS rfl rfl (by decide) (rv_load_agg (hS.ev rfl) ty_ag_28 (hM.get 4 rfl) ty_sz_28) fun a hS => ?_
   refine st_val hS rfl rfl (by decide) (rv_move (hS.ev rfl)) fun a hS => ?_
   obtain ⟨w, hr, hM⟩ := hM.st_agg (us := [(int i64 r13.1), v14]) (ρ := a.eval) (dst := none) (ty := _) (pos := _) (af := _) (gd := _) (x := .tmp 2) (y := .tmp 23) (hS.ev rfl) (hS.ev rfl) ty_sz_28 (all1_cons rfl (all1_cons (rd_one (rd_of_ow (hM.get 5 rfl))) all1_nil)) rfl
   refine st_unit hS rfl rfl hr ?_
   refine st_val hS rfl rfl (by decide) (rv_assign (hS.ev rfl)) fun a hS => ?_
   refine wpList_nil ?_
   refine hK34 _ _ ?_
   have hS : Sl 29 [(2, (fdp b3 0)), (3, v20)] a := hS.sub (sub_cons rfl (sub_cons rfl sub_nil))
   have hM := hM.pick [0, 5, 6] (by decide) rfl
   refine wp_ret ?_
   cases hF
   exact hQr _ _ (r_cc hS rfl ⟨_, rfl, run_loadAgg ty_ag_28 (hM.get 0 rfl) ty_sz_28⟩ rfl ⟨v14, v20, rfl, hM.pick [1, 2] (by decide) rfl⟩)
  ·refine cond_f hS rfl hc ?_
   refine wp_skip ?_
   refine hK21 _ _ ?_
   refine wp_seq_k fun K35 hK35 => ?_
   have hM := hM.pick [2, 0, 1, 3, 4, 5, 6] (by decide) rfl
   refine an_startB 6 (feet [(true, bx b8 82 [p0_codev, (int i64 x31), (int i64 x32)]), (true, bx b3 28 [(int i64 0), (Value.slice none 0 0)])]) ty_mixed (by kernel_rfl) fun w hf => ?_
   have hM := hM.fra hf
   have hB := hM
   have hM := Mem.regA (A := [(true, bx b8 82 [p0_codev, (int i64 x31), (int i64 x32)]), (true, bx b3 28 [(int i64 0), (Value.slice none 0 0)])]) (R := [(true, ow 3 (Value.slice none 0 0) (List.map (int i64) ([] : List (Int)))), (false, rd p0_codev (List.map (int IntKind.u8) p0_code)), (true, bx b15 28 [(int i64 r13.1), v14]), (true, ow 3 v14 (List.map (int i64) r13.2.1)), (true, ow 3 v20 (List.map (int i64) r19.1))]) hB rfl
   refine tkB hS 0 1 (by kernel_rfl) rfl rfl rfl hQp rfl (fun w' hC' => (rv_load_agg (hS.ev rfl) ty_ag_28 (Mem.getFA (A := [(true, bx b8 82 [p0_codev, (int i64 x31), (int i64 x32)]), (true, bx b3 28 [(int i64 0), (Value.slice none 0 0)])]) (R := [(true, ow 3 (Value.slice none 0 0) (List.map (int i64) ([] : List (Int)))), (false, rd p0_codev (List.map (int IntKind.u8) p0_code)), (true, bx b15 28 [(int i64 r13.1), v14]), (true, ow 3 v14 (List.map (int i64) r13.2.1)), (true, ow 3 v20 (List.map (int i64) r19.1))]) hB rfl 2 rfl hC') ty_sz_28)) hM.fr fun a hS => ?_
   refine tkB hS 1 3 (by kernel_rfl) rfl rfl rfl hQp rfl (fun w' hC' => (rv_move (hS.ev rfl))) hM.fr fun a hS => ?_
   refine tkB hS 2 7 (by kernel_rfl) rfl rfl rfl hQp rfl (fun w' hC' => (rv_load_agg (hS.ev rfl) ty_ag_28 (Mem.getFA (A := [(true, bx b8 82 [p0_codev, (int i64 x31), (int i64 x32)]), (true, bx b3 28 [(int i64 0), (Value.slice none 0 0)])]) (R := [(true, ow 3 (Value.slice none 0 0) (List.map (int i64) ([] : List (Int)))), (false, rd p0_codev (List.map (int IntKind.u8) p0_code)), (true, bx b15 28 [(int i64 r13.1), v14]), (true, ow 3 v14 (List.map (int i64) r13.2.1)), (true, ow 3 v20 (List.map (int i64) r19.1))]) hB rfl 2 rfl hC') ty_sz_28)) hM.fr fun a hS => ?_
   obtain ⟨r38, hr, hF⟩ := bind_some hF
   have hM := hM.pick [0, 3, 5, 1, 2, 4, 6] (by decide) rfl
   have hP := Mem.pre (A := [(true, bx b8 82 [p0_codev, (int i64 x31), (int i64 x32)])]) (C := [(false, rd p0_codev (List.map (int IntKind.u8) p0_code)), (false, ow 3 v14 (List.map (int i64) r13.2.1))]) (B := [(true, bx b3 28 [(int i64 0), (Value.slice none 0 0)]), (false, ow 3 (Value.slice none 0 0) (List.map (int i64) ([] : List (Int)))), (false, bx b15 28 [(int i64 r13.1), v14]), (false, ow 3 v20 (List.map (int i64) r19.1))]) hM rfl (weaks_cons (weak_self _ _) (weaks_cons (weak_ow _ _ _ _) weaks_nil))
   refine an_oneB hS (i := 3) 15 (by kernel_rfl) rfl (by kernel_rfl) rfl ?_
   refine wp_call hS rfl rfl (by decide) fn_ok_92 rfl (c_spec_l4List F p0_code x31 x32 r13.1 r13.2.1 p0_codev b8 v14 hr _ hP) fun v39 w a hK hS => ?_
   have hN := hK
   have hM := Mem.callo (A := [(true, bx b8 82 [p0_codev, (int i64 x31), (int i64 x32)])]) (B := [(false, rd p0_codev (List.map (int IntKind.u8) p0_code)), (false, ow 3 v14 (List.map (int i64) r13.2.1)), (true, bx b3 28 [(int i64 0), (Value.slice none 0 0)]), (false, ow 3 (Value.slice none 0 0) (List.map (int i64) ([] : List (Int)))), (false, bx b15 28 [(int i64 r13.1), v14]), (false, ow 3 v20 (List.map (int i64) r19.1))]) hM rfl hN rfl
   refine ⟨hM.fr, ?_⟩
   have hM := hM.pick [4, 0, 1, 2, 3, 5, 6, 7] (by decide) rfl
   obtain ⟨w, hr, hM⟩ := hM.st_agg (us := [(int i64 r13.1), v14]) (ρ := a.eval) (dst := none) (ty := _) (pos := _) (af := _) (gd := _) (x := .tmp 2) (y := .tmp 25) (hS.ev rfl) (hS.ev rfl) ty_sz_28 (all1_cons rfl (all1_cons (rd_one (rd_of_ow (hM.get 4 rfl))) all1_nil)) rfl
   refine an_oneB hS (i := 4) 31 (by kernel_rfl) rfl (by kernel_rfl) rfl ?_
   refine wp_unit hS rfl hr ⟨hM.fr, ?_⟩
   refine tkB hS 5 63 (by kernel_rfl) rfl rfl rfl hQp rfl (fun w' hC' => (rv_assign (hS.ev rfl))) hM.fr fun a hS => ?_
   refine an_done (by kernel_rfl) ?_
   have hN := hM.pick [0, 1, 2] (by decide) rfl
   have hM := Mem.callo (A := [(true, bx b8 82 [p0_codev, (int i64 x31), (int i64 x32)]), (true, bx b3 28 [(int i64 0), (Value.slice none 0 0)])]) (B := [(true, ow 3 (Value.slice none 0 0) (List.map (int i64) ([] : List (Int)))), (false, rd p0_codev (List.map (int IntKind.u8) p0_code)), (true, bx b15 28 [(int i64 r13.1), v14]), (true, ow 3 v14 (List.map (int i64) r13.2.1)), (true, ow 3 v20 (List.map (int i64) r19.1))]) hB rfl (hN.memS fun _ h => h) rfl
   refine hK35 _ _ ?_
   have hS : Sl 29 [(2, (fdp b3 0)), (3, v39)] a := hS.sub (sub_cons rfl (sub_cons rfl sub_nil))
   have hM := hM.pick [0, 2, 6] (by decide) rfl
   refine wp_ret ?_
   cases hF
   exact hQr _ _ (r_cc hS rfl ⟨_, rfl, run_loadAgg ty_ag_28 (hM.get 0 rfl) ty_sz_28⟩ rfl ⟨v14, v39, rfl, hM.pick [2, 1] (by decide) rfl⟩)
 refine wp_region_lit ?_
 refine st_val hS rfl rfl (by decide) (rv_move (hS.ev rfl)) fun a hS => ?_
 refine st_val hS rfl rfl (by decide) (rv_move (hS.ev rfl)) fun a hS => ?_
 rcases ite_some hF with ⟨hc, hF⟩ | ⟨hc, hF⟩
 ·have hS := hS.setb (t := 18) rfl hc
  refine st_val hS rfl rfl (by decide) (rv_move (hS.ev rfl)) fun a hS => ?_
  obtain ⟨r40, hr, hF⟩ := bind_some hF
  have hM := hM.pick [2, 4, 0, 1, 3, 5, 6] (by decide) rfl
  have hP := Mem.pre (A := [(true, bx b8 82 [p0_codev, (int i64 r13.2.2.1), (int i64 r13.2.2.2)])]) (C := [(false, rd p0_codev (List.map (int IntKind.u8) p0_code))]) (B := [(true, ow 3 v20 (List.map (int i64) r19.1)), (true, bx b15 28 [(int i64 r13.1), v14]), (true, ow 3 v14 (List.map (int i64) r13.2.1)), (true, ow 3 (Value.slice none 0 0) (List.map (int i64) ([] : List (Int)))), (true, bx b3 28 [(int i64 0), (Value.slice none 0 0)])]) hM rfl (weaks_cons (weak_self _ _) weaks_nil)
  refine st_wp hS rfl (wp_call hS rfl rfl (by decide) fn_ok_91 rfl (c_spec_l1Once F p0_code r13.2.2.1 r13.2.2.2 4 p0_codev b8 hr _ hP) fun v w a hK hS => ?_)
  obtain ⟨rfl, hN⟩ := hK
  have hM := Mem.callo (A := [(true, bx b8 82 [p0_codev, (int i64 r13.2.2.1), (int i64 r13.2.2.2)])]) (B := [(false, rd p0_codev (List.map (int IntKind.u8) p0_code)), (true, ow 3 v20 (List.map (int i64) r19.1)), (true, bx b15 28 [(int i64 r13.1), v14]), (true, ow 3 v14 (List.map (int i64) r13.2.1)), (true, ow 3 (Value.slice none 0 0) (List.map (int i64) ([] : List (Int)))), (true, bx b3 28 [(int i64 0), (Value.slice none 0 0)])]) hM rfl hN rfl
  refine st_val hS rfl rfl (by decide) (rv_not (hS.ev rfl)) fun a hS => ?_
  refine st_val hS rfl rfl (by decide) (rv_pick_t (hS.ev rfl) (hS.ev rfl)) fun a hS => ?_
  refine wpList_nil ?_
  exact hJ1 r40.2.1 r40.2.2 (!r40.1) _ _ (hS.sub (sub_cons rfl (sub_cons rfl (sub_cons rfl (sub_cons rfl (sub_cons rfl sub_nil)))))) (hM.pick [6, 5, 0, 1, 3, 4, 2] (by decide) rfl) hF
 ·have hS := hS.setb (t := 18) rfl hc
  refine st_skip hS rfl rfl (by decide) fun a hS => ?_
  refine st_skip hS rfl rfl (by decide) fun a hS => ?_
  refine st_skip hS rfl rfl (by decide) fun a hS => ?_
  refine st_val hS rfl rfl (by decide) (rv_pick_f (hS.ev rfl) (hS.ev rfl)) fun a hS => ?_
  refine wpList_nil ?_
  exact hJ1 r13.2.2.1 r13.2.2.2 false _ _ (hS.sub (sub_cons rfl (sub_cons rfl (sub_cons rfl (sub_cons rfl (sub_cons rfl sub_nil)))))) (hM.pick [6, 5, 2, 4, 1, 3, 0] (by decide) rfl) hF


theorem c_spec_DrawCanonicalCycle (F : Nat) (p0_code : List Int) (p0_codev : Value) {r : (List (Int))} (hF : S_spec_DrawCanonicalCycle F p0_code = some r) (w0 : World) (h0 : RdRow w0 p0_codev (List.map (int IntKind.u8) p0_code)) :
    Calls Try.prog 40 [p0_codev].toArray w0 (retPost fun v w' => Mem Nob w0 w' [(true, ow 3 v (List.map (int i64) r))]) := by
 have hM : Mem Nob w0 w0 [(false, rd p0_codev (List.map (int IntKind.u8) p0_code))] := (Mem.rcons (Mem.nil w0) h0 (by simp))
 refine enter2 Try.func40 rfl rfl rfl fun Q a hQr hQn hQp hS => ?_
 have hS : Sl 9 [(0, p0_codev)] a := hS
 unfold S_spec_DrawCanonicalCycle at hF
 refine wp_seq_k fun K1 hK1 => ?_
 refine wp_region_lit ?_
 refine st_val hS rfl rfl (by decide) (rv_assign (hS.ev rfl)) fun a hS => ?_
 refine wpList_nil ?_
 refine hK1 _ _ ?_
 refine wp_seq_k fun K2 hK2 => ?_
 refine wp_region_lit ?_
 refine st_val hS rfl rfl (by decide) (rv_move (hS.ev rfl)) fun a hS => ?_
 obtain ⟨r5, hr, hF⟩ := bind_some hF
 refine st_wp hS rfl (wp_call hS rfl rfl (by decide) fn_ok_81 rfl (c_spec_l1New F p0_code p0_codev hr _ (hM.get 0 rfl)) fun v w a hK hS => ?_)
 obtain ⟨b6, rfl, hN⟩ := hK
 have hM := hM.add hN rfl
 refine st_val hS rfl rfl (by decide) (rv_assign (hS.ev rfl)) fun a hS => ?_
 refine wpList_nil ?_
 refine hK2 _ _ ?_
 refine wp_seq_k fun K7 hK7 => ?_
 refine wp_region_lit ?_
 refine st_val hS rfl rfl (by decide) (rv_move (hS.ev rfl)) fun a hS => ?_
 refine st_val hS rfl rfl (by decide) (rv_build hS ty_st_28 rfl (by simp) (ones_cons (by rw [hS.ev (v := (int i64 6)) rfl]; rfl) ones_nil)) fun a hS => ?_
 have hM := hM.addNil 3
 obtain ⟨r10, hr, hF⟩ := bind_some hF
 have hM := hM.pick [1, 2, 0] (by decide) rfl
 have hP := Mem.pre (A := [(true, bx b6 82 [p0_codev, (int i64 r5.1), (int i64 r5.2)])]) (C := [(false, rd p0_codev (List.map (int IntKind.u8) p0_code)), (true, ow 3 (Value.slice none 0 0) (List.map (int i64) ([] : List (Int))))]) (B := []) hM rfl (weaks_cons (weak_self _ _) (weaks_cons (weak_ow _ _ _ _) weaks_nil))
 refine st_wp hS rfl (wp_call hS rfl rfl (by decide) fn_ok_92 rfl (c_spec_l4List F p0_code r5.1 r5.2 6 ([] : List (Int)) p0_codev b6 (Value.slice none 0 0) hr _ hP) fun v11 w a hK hS => ?_)
 have hN := hK
 have hM := Mem.callo (A := [(true, bx b6 82 [p0_codev, (int i64 r5.1), (int i64 r5.2)])]) (B := [(false, rd p0_codev (List.map (int IntKind.u8) p0_code)), (true, ow 3 (Value.slice none 0 0) (List.map (int i64) ([] : List (Int))))]) hM rfl hN rfl
 refine st_val hS rfl rfl (by decide) (rv_assign (hS.ev rfl)) fun a hS => ?_
 refine wpList_nil ?_
 refine hK7 _ _ ?_
 have hS : Sl 9 [(2, v11)] a := hS.sub (sub_cons rfl sub_nil)
 have hM := hM.pick [1] (by decide) rfl
 refine wp_ret ?_
 cases hF
 exact hQr _ _ (r_1 hS rfl rfl (hM.pick [0] (by decide) rfl))


theorem c_spec_CanonicalCycle (F : Nat) (p0_l : List Int) (p0_lv : Value) {r : (List (Int))} (hF : S_spec_CanonicalCycle F p0_l = some r) (w0 : World) (h0 : RdRow w0 p0_lv (List.map (int i64) p0_l)) :
    Calls Try.prog 45 [p0_lv].toArray w0 (retPost fun v w' => Mem Nob w0 w' [(true, ow 3 v (List.map (int i64) r))]) := by
 have hM : Mem Nob w0 w0 [(false, rd p0_lv (List.map (int i64) p0_l))] := (Mem.rcons (Mem.nil w0) h0 (by simp))
 refine enter2 Try.func45 rfl rfl rfl fun Q a hQr hQn hQp hS => ?_
 have hS : Sl 85 [(0, p0_lv)] a := hS
 unfold S_spec_CanonicalCycle at hF
 refine wp_seq_k fun K1 hK1 => ?_
 refine wp_region_lit ?_
 refine st_val hS rfl rfl (by decide) (rv_assign (hS.ev rfl)) fun a hS => ?_
 refine wpList_nil ?_
 refine hK1 _ _ ?_
 refine wp_seq_k fun K2 hK2 => ?_
 refine wp_region_lit ?_
 obtain ⟨v4, w, hr, hM⟩ := Mem.litE (f := (int i64)) (dst := some 8) (ty := _) (pos := _) (af := _) (gd := _) (ps := []) ([] : List (Int)) i64_one hM hS Try.underlying22 ty_el_3 rfl rfl rfl rfl
 refine st_val hS rfl rfl (by decide) hr fun a hS => ?_
 refine st_val hS rfl rfl (by decide) (rv_assign (hS.ev rfl)) fun a hS => ?_
 refine wpList_nil ?_
 refine hK2 _ _ ?_
 refine wp_seq_k fun K5 hK5 => ?_
 refine wp_seq_k fun K11 hK11 => ?_
 have hJ1 : ∀ (p12 : Bool) (a : Act) (w : World), Sl 85 [(0, p0_lv), (3, v4), (16, (Value.bool p12))] a → Mem Nob w0 w [(false, rd p0_lv (List.map (int i64) p0_l)), (true, ow 3 v4 (List.map (int i64) ([] : List (Int))))] → S_spec_CanonicalCycle_j1 F p0_l p12 = some r → K11 a w := by
  intro p12 a w hS hM hF
  unfold S_spec_CanonicalCycle_j1 at hF
  refine hK11 _ _ ?_
  rcases ite_some hF with ⟨hc, hF⟩ | ⟨hc, hF⟩
  ·refine cond_t hS rfl hc ?_
   refine wp_seq_k fun K13 hK13 => ?_
   refine wp_region_lit ?_
   refine st_val hS rfl rfl (by decide) (rv_move (hS.ev rfl)) fun a hS => ?_
   refine st_val hS rfl rfl (by decide) (rv_move (hS.ev rfl)) fun a hS => ?_
   obtain ⟨_, hx, hF⟩ := bind_some hF
   have hM := hM.pick [1, 0] (by decide) rfl
   obtain ⟨v15, w, hr, hM⟩ := Mem.appE (f := (int i64)) (S := _) (R := [(false, rd p0_lv (List.map (int i64) p0_l))]) (ρ := a.eval) (dst := some 19) (ty := _) (pos := _) (af := _) (gd := _) (x := .tmp 17) (y := .tmp 18) i64_one hM Try.underlying22 ty_el_3 rfl (by decide) (hS.ev rfl) (hS.ev rfl) (hM.get 1 rfl) (catO_some hx)
   refine st_val hS rfl rfl (by decide) hr fun a hS => ?_
   refine st_val hS rfl rfl (by decide) (rv_assign (hS.ev rfl)) fun a hS => ?_
   refine wpList_nil ?_
   refine hK13 _ _ ?_
   refine wp_ret ?_
   cases hF
   exact hQr _ _ (r_1 hS rfl rfl (hM.pick [0] (by decide) rfl))
  ·refine cond_f hS rfl hc ?_
   refine wp_skip ?_
   refine hK5 _ _ ?_
   refine wp_seq_k fun K16 hK16 => ?_
   refine wp_region_lit ?_
   refine st_val hS rfl rfl (by decide) (rv_assign (hS.ev rfl)) fun a hS => ?_
   refine wpList_nil ?_
   refine hK16 _ _ ?_
   refine wp_seq_k fun K17 hK17 => ?_
   have hJ2 : ∀ (x51 : Int) (a : Act) (w : World), Sl 85 [(0, p0_lv), (3, v4), (4, (int i64 x51))] a → Mem Nob w0 w [(false, rd p0_lv (List.map (int i64) p0_l)), (true, ow 3 v4 (List.map (int i64) ([] : List (Int))))] → S_spec_CanonicalCycle_j2 F p0_l x51 = some r → K17 a w := by
    intro x51 a w hS hM hF
    unfold S_spec_CanonicalCycle_j2 at hF
    refine hK17 _ _ ?_
    refine wp_seq_k fun K52 hK52 => ?_
    refine wp_region_lit ?_
    refine st_val hS rfl rfl (by decide) (rv_move (hS.ev rfl)) fun a hS => ?_
    refine st_val hS rfl rfl (by decide) (rv_len_rowM Try.underlying22 (hS.ev rfl) (hM.get 0 rfl)) fun a hS => ?_
    refine st_val hS rfl rfl (by decide) (rv_assign (hS.ev rfl)) fun a hS => ?_
    refine wpList_nil ?_
    refine hK52 _ _ ?_
    refine wp_seq_k fun K53 hK53 => ?_
    have hJ3 : ∀ (l115 : List Int) (v114 : Value) (a : Act) (w : World), Sl 85 [(3, v114)] a → Mem Nob w0 w [(true, ow 3 v114 (List.map (int i64) l115))] → S_spec_CanonicalCycle_j3 F l115 = some r → K53 a w := by
     intro l115 v114 a w hS hM hF
     unfold S_spec_CanonicalCycle_j3 at hF
     refine hK53 _ _ ?_
     refine wp_seq_k fun K116 hK116 => ?_
     refine wp_region_lit ?_
     refine st_val hS rfl rfl (by decide) (rv_move (hS.ev rfl)) fun a hS => ?_
     refine st_val hS rfl rfl (by decide) (rv_assign (hS.ev rfl)) fun a hS => ?_
     refine wpList_nil ?_
     refine hK116 _ _ ?_
     refine wp_ret ?_
     cases hF
     exact hQr _ _ (r_1 hS rfl rfl (hM.pick [0] (by decide) rfl))
    refine wp_seq_k fun K117 hK117 => ?_
    refine wp_region_lit ?_
    refine st_val hS rfl rfl (by decide) (rv_assign (hS.ev rfl)) fun a hS => ?_
    refine wpList_nil ?_
    refine hK117 _ _ ?_
    refine wp_block ?_
    obtain ⟨lb4, hl4, hF4⟩ := bind_some hF
    refine wp_loop_sh (fun s => S_spec_CanonicalCycle_l4 F p0_l x51 s.1 s.2) (fun s a w => ∃ (v118 : Value), Sl 85 [(0, p0_lv), (3, v118), (4, (int i64 x51)), (6, (int i64 (p0_l.length : Int))), (7, (int i64 s.2))] a ∧ Mem Nob w0 w [(false, rd p0_lv (List.map (int i64) p0_l)), (true, ow 3 v118 (List.map (int i64) s.1))]) hl4 ⟨v4, (hS.sub (sub_cons rfl (sub_cons rfl (sub_cons rfl (sub_cons rfl (sub_cons rfl sub_nil)))))), (hM.pick [0, 1] (by decide) rfl)⟩ ?_
    rintro K4 ⟨l119, x120⟩ a w res4 ⟨v118, hS, hM⟩ hF hN4 hX4
    have hF : S_spec_CanonicalCycle_l4 F p0_l x51 l119 x120 = some res4 := hF
    have hS : Sl 85 [(0, p0_lv), (3, v118), (4, (int i64 x51)), (6, (int i64 (p0_l.length : Int))), (7, (int i64 x120))] a := hS
    have hM : Mem Nob w0 w [(false, rd p0_lv (List.map (int i64) p0_l)), (true, ow 3 v118 (List.map (int i64) l119))] := hM
    unfold S_spec_CanonicalCycle_l4 at hF
    refine wp_seq_k fun K149 hK149 => ?_
    refine wp_seq_k fun K151 hK151 => ?_
    refine wp_region_lit ?_
    refine st_val hS rfl rfl (by decide) (rv_move (hS.ev rfl)) fun a hS => ?_
    refine st_val hS rfl rfl (by decide) (rv_move (hS.ev rfl)) fun a hS => ?_
    refine st_val hS rfl rfl (by decide) (rv_lss (hS.ev rfl) (hS.ev rfl)) fun a hS => ?_
    refine wpList_nil ?_
    refine hK151 _ _ ?_
    rcases ite_some hF with ⟨hc, hF⟩ | ⟨hc, hF⟩
    ·refine cond_t hS rfl hc ?_
     refine wp_skip ?_
     refine hK149 _ _ ?_
     refine wp_seq_k fun K152 hK152 => ?_
     have hJ5 : ∀ (l165 : List Int) (v164 : Value) (a : Act) (w : World), Sl 85 [(0, p0_lv), (3, v164), (4, (int i64 x51)), (6, (int i64 (p0_l.length : Int))), (7, (int i64 x120))] a → Mem Nob w0 w [(false, rd p0_lv (List.map (int i64) p0_l)), (true, ow 3 v164 (List.map (int i64) l165))] → S_spec_CanonicalCycle_j5 F x120 l165 = some res4 → K152 a w := by
      intro l165 v164 a w hS hM hF
      unfold S_spec_CanonicalCycle_j5 at hF
      refine hK152 _ _ ?_
      refine wp_region_lit ?_
      refine st_val hS rfl rfl (by decide) (rv_move (hS.ev rfl)) fun a hS => ?_
      refine st_val hS rfl rfl (by decide) (rv_add (hS.ev rfl) (hS.ev rfl)) fun a hS => ?_
      refine st_val hS rfl rfl (by decide) (rv_assign (hS.ev rfl)) fun a hS => ?_
      refine wpList_nil ?_
      cases hF
      exact hN4 _ _ _ rfl ⟨v164, (hS.sub (sub_cons rfl (sub_cons rfl (sub_cons rfl (sub_cons rfl (sub_cons rfl sub_nil)))))), (hM.pick [0, 1] (by decide) rfl)⟩
     refine wp_block ?_
     refine wp_seq_k fun K166 hK166 => ?_
     refine an_startB 17 Nob ty_mixed (by kernel_rfl) fun w hf => ?_
     have hM := hM.fra hf
     have hB := hM
     have hM := hB.reg0
     refine tkB hS 0 1 (by kernel_rfl) rfl rfl rfl hQp rfl (fun w' hC' => (rv_move (hS.ev rfl))) hM.fr fun a hS => ?_
     refine tkB hS 1 3 (by kernel_rfl) rfl rfl rfl hQp rfl (fun w' hC' => (rv_move (hS.ev rfl))) hM.fr fun a hS => ?_
     refine tkB hS 2 7 (by kernel_rfl) rfl rfl rfl hQp rfl (fun w' hC' => (rv_add (hS.ev rfl) (hS.ev rfl))) hM.fr fun a hS => ?_
     refine tkB hS 3 15 (by kernel_rfl) rfl rfl rfl hQp rfl (fun w' hC' => (rv_move (hS.ev rfl))) hM.fr fun a hS => ?_
     obtain ⟨_, hx, hF⟩ := bind_some hF
     have hi0 := nzO_some hx
     refine tkB hS 4 31 (by kernel_rfl) rfl rfl rfl hQp rfl (fun w' hC' => (rv_rem (hS.ev rfl) (hS.ev rfl) hi0)) hM.fr fun a hS => ?_
     obtain ⟨x169, hx, hF⟩ := bind_some hF
     obtain ⟨hi0, hi1, hex169⟩ := idxL_some hx
     refine tkB hS 5 63 (by kernel_rfl) rfl rfl rfl hQp rfl (fun w' hC' => (rv_indexAddr Try.underlying22 ty_el_3 (hS.ev rfl) (hS.ev rfl) (hM.get 0 rfl) hi0 (map_len hi1))) hM.fr fun a hS => ?_
     refine tkB hS 6 127 (by kernel_rfl) rfl rfl rfl hQp rfl (fun w' hC' => (rv_load_el (hS.ev rfl) ty_ag_3 ((hB.fra hC').get 0 rfl) (mget hex169))) hM.fr fun a hS => ?_
     refine tkB hS 7 255 (by kernel_rfl) rfl rfl rfl hQp rfl (fun w' hC' => (rv_move (hS.ev rfl))) hM.fr fun a hS => ?_
     refine tkB hS 8 511 (by kernel_rfl) rfl rfl rfl hQp rfl (fun w' hC' => (rv_move (hS.ev rfl))) hM.fr fun a hS => ?_
     refine tkB hS 9 1023 (by kernel_rfl) rfl rfl rfl hQp rfl (fun w' hC' => (rv_move (hS.ev rfl))) hM.fr fun a hS => ?_
     refine tkB hS 10 2047 (by kernel_rfl) rfl rfl rfl hQp rfl (fun w' hC' => (rv_add (hS.ev rfl) (hS.ev rfl))) hM.fr fun a hS => ?_
     refine tkB hS 11 4095 (by kernel_rfl) rfl rfl rfl hQp rfl (fun w' hC' => (rv_sub (hS.ev rfl) (hS.ev rfl))) hM.fr fun a hS => ?_
     refine tkB hS 12 8191 (by kernel_rfl) rfl rfl rfl hQp rfl (fun w' hC' => (rv_move (hS.ev rfl))) hM.fr fun a hS => ?_
     obtain ⟨_, hx, hF⟩ := bind_some hF
     have hi0 := nzO_some hx
     refine tkB hS 13 16383 (by kernel_rfl) rfl rfl rfl hQp rfl (fun w' hC' => (rv_rem (hS.ev rfl) (hS.ev rfl) hi0)) hM.fr fun a hS => ?_
     obtain ⟨x170, hx, hF⟩ := bind_some hF
     obtain ⟨hi0, hi1, hex170⟩ := idxL_some hx
     refine tkB hS 14 32767 (by kernel_rfl) rfl rfl rfl hQp rfl (fun w' hC' => (rv_indexAddr Try.underlying22 ty_el_3 (hS.ev rfl) (hS.ev rfl) (hM.get 0 rfl) hi0 (map_len hi1))) hM.fr fun a hS => ?_
     refine tkB hS 15 65535 (by kernel_rfl) rfl rfl rfl hQp rfl (fun w' hC' => (rv_load_el (hS.ev rfl) ty_ag_3 ((hB.fra hC').get 0 rfl) (mget hex170))) hM.fr fun a hS => ?_
     refine tkB hS 16 131071 (by kernel_rfl) rfl rfl rfl hQp rfl (fun w' hC' => (rv_leq (hS.ev rfl) (hS.ev rfl))) hM.fr fun a hS => ?_
     refine an_done (by kernel_rfl) ?_
     have hN := hM.pick [] (by decide) rfl
     have hM := Mem.callo0 hB hN rfl
     refine hK166 _ _ ?_
     have hS : Sl 85 [(0, p0_lv), (3, v118), (4, (int i64 x51)), (6, (int i64 (p0_l.length : Int))), (7, (int i64 x120)), (59, (Value.bool (decide (x169 ≤ x170))))] a := hS.sub (sub_cons rfl (sub_cons rfl (sub_cons rfl (sub_cons rfl (sub_cons rfl (sub_cons rfl sub_nil))))))
     rcases ite_some hF with ⟨hc, hF⟩ | ⟨hc, hF⟩
     ·refine cond_t hS rfl hc ?_
      refine wp_region_lit ?_
      refine st_val hS rfl rfl (by decide) (rv_move (hS.ev rfl)) fun a hS => ?_
      refine st_val hS rfl rfl (by decide) (rv_move (hS.ev rfl)) fun a hS => ?_
      refine st_val hS rfl rfl (by decide) (rv_move (hS.ev rfl)) fun a hS => ?_
      refine st_val hS rfl rfl (by decide) (rv_move (hS.ev rfl)) fun a hS => ?_
      refine st_val hS rfl rfl (by decide) (rv_add (hS.ev rfl) (hS.ev rfl)) fun a hS => ?_
      refine st_val hS rfl rfl (by decide) (rv_move (hS.ev rfl)) fun a hS => ?_
      obtain ⟨_, hx, hF⟩ := bind_some hF
      have hi0 := nzO_some hx
      refine st_val hS rfl rfl (by decide) (rv_rem (hS.ev rfl) (hS.ev rfl) hi0) fun a hS => ?_
      obtain ⟨x171, hx, hF⟩ := bind_some hF
      obtain ⟨hi0, hi1, hex171⟩ := idxL_some hx
      refine st_val hS rfl rfl (by decide) (rv_indexAddr Try.underlying22 ty_el_3 (hS.ev rfl) (hS.ev rfl) (hM.get 0 rfl) hi0 (map_len hi1)) fun a hS => ?_
      refine st_val hS rfl rfl (by decide) (rv_load_el (hS.ev rfl) ty_ag_3 (hM.get 0 rfl) (mget hex171)) fun a hS => ?_
      obtain ⟨v172, w, hr, hM⟩ := Mem.litE (f := (int i64)) (dst := some 69) (ty := _) (pos := _) (af := _) (gd := _) (ps := [(0, .tmp 68)]) ([x171] : List (Int)) i64_one hM hS Try.underlying22 ty_el_3 rfl rfl rfl rfl
      refine st_val hS rfl rfl (by decide) hr fun a hS => ?_
      obtain ⟨_, hx, hF⟩ := bind_some hF
      have hM := hM.pick [2, 0, 1] (by decide) rfl
      obtain ⟨v173, w, hr, hM⟩ := Mem.appE (f := (int i64)) (S := _) (R := [(true, ow 3 v172 (List.map (int i64) ([x171] : List (Int)))), (false, rd p0_lv (List.map (int i64) p0_l))]) (ρ := a.eval) (dst := some 70) (ty := _) (pos := _) (af := _) (gd := _) (x := .tmp 60) (y := .tmp 69) i64_one hM Try.underlying22 ty_el_3 rfl (by decide) (hS.ev rfl) (hS.ev rfl) (rd_of_ow (hM.get 1 rfl)) (catO_some hx)
      refine st_val hS rfl rfl (by decide) hr fun a hS => ?_
      refine st_val hS rfl rfl (by decide) (rv_assign (hS.ev rfl)) fun a hS => ?_
      refine wpList_nil ?_
      exact hJ5 (l119 ++ ([x171] : List (Int))) v173 _ _ (hS.sub (sub_cons rfl (sub_cons rfl (sub_cons rfl (sub_cons rfl (sub_cons rfl sub_nil)))))) (hM.pick [2, 0] (by decide) rfl) hF
     ·refine cond_f hS rfl hc ?_
      refine wp_region_lit ?_
      refine st_val hS rfl rfl (by decide) (rv_move (hS.ev rfl)) fun a hS => ?_
      refine st_val hS rfl rfl (by decide) (rv_move (hS.ev rfl)) fun a hS => ?_
      refine st_val hS rfl rfl (by decide) (rv_move (hS.ev rfl)) fun a hS => ?_
      refine st_val hS rfl rfl (by decide) (rv_move (hS.ev rfl)) fun a hS => ?_
      refine st_val hS rfl rfl (by decide) (rv_add (hS.ev rfl) (hS.ev rfl)) fun a hS => ?_
      refine st_val hS rfl rfl (by decide) (rv_move (hS.ev rfl)) fun a hS => ?_
      refine st_val hS rfl rfl (by decide) (rv_sub (hS.ev rfl) (hS.ev rfl)) fun a hS => ?_
      refine st_val hS rfl rfl (by decide) (rv_move (hS.ev rfl)) fun a hS => ?_
      obtain ⟨_, hx, hF⟩ := bind_some hF
      have hi0 := nzO_some hx
      refine st_val hS rfl rfl (by decide) (rv_rem (hS.ev rfl) (hS.ev rfl) hi0) fun a hS => ?_
      obtain ⟨x174, hx, hF⟩ := bind_some hF
      obtain ⟨hi0, hi1, hex174⟩ := idxL_some hx
      refine st_val hS rfl rfl (by decide) (rv_indexAddr Try.underlying22 ty_el_3 (hS.ev rfl) (hS.ev rfl) (hM.get 0 rfl) hi0 (map_len hi1)) fun a hS => ?_
      refine st_val hS rfl rfl (by decide) (rv_load_el (hS.ev rfl) ty_ag_3 (hM.get 0 rfl) (mget hex174)) fun a hS => ?_
      obtain ⟨v175, w, hr, hM⟩ := Mem.litE (f := (int i64)) (dst := some 82) (ty := _) (pos := _) (af := _) (gd := _) (ps := [(0, .tmp 81)]) ([x174] : List (Int)) i64_one hM hS Try.underlying22 ty_el_3 rfl rfl rfl rfl
      refine st_val hS rfl rfl (by decide) hr fun a hS => ?_
      obtain ⟨_, hx, hF⟩ := bind_some hF
      have hM := hM.pick [2, 0, 1] (by decide) rfl
      obtain ⟨v176, w, hr, hM⟩ := Mem.appE (f := (int i64)) (S := _) (R := [(true, ow 3 v175 (List.map (int i64) ([x174] : List (Int)))), (false, rd p0_lv (List.map (int i64) p0_l))]) (ρ := a.eval) (dst := some 83) (ty := _) (pos := _) (af := _) (gd := _) (x := .tmp 71) (y := .tmp 82) i64_one hM Try.underlying22 ty_el_3 rfl (by decide) (hS.ev rfl) (hS.ev rfl) (rd_of_ow (hM.get 1 rfl)) (catO_some hx)
      refine st_val hS rfl rfl (by decide) hr fun a hS => ?_
      refine st_val hS rfl rfl (by decide) (rv_assign (hS.ev rfl)) fun a hS => ?_
      refine wpList_nil ?_
      exact hJ5 (l119 ++ ([x174] : List (Int))) v176 _ _ (hS.sub (sub_cons rfl (sub_cons rfl (sub_cons rfl (sub_cons rfl (sub_cons rfl sub_nil)))))) (hM.pick [2, 0] (by decide) rfl) hF
    ·refine cond_f hS rfl hc ?_
     refine wp_exit ?_
     cases hF
     exact hJ3 l119 v118 _ _ (hS.sub (sub_cons rfl sub_nil)) (hM.pick [1] (by decide) rfl) (by have e := hX4 _ rfl; subst e; exact hF4)
   refine wp_seq_k fun K177 hK177 => ?_
   refine wp_region_lit ?_
   refine st_val hS rfl rfl (by decide) (rv_assign (hS.ev rfl)) fun a hS => ?_
   refine wpList_nil ?_
   refine hK177 _ _ ?_
   refine wp_block ?_
   obtain ⟨lb6, hl6, hF6⟩ := bind_some hF
   refine wp_loop_sh (fun s => S_spec_CanonicalCycle_l6 F p0_l s.1 s.2) (fun s a w => Sl 85 [(0, p0_lv), (3, v4), (4, (int i64 s.1)), (5, (int i64 s.2))] a ∧ Mem Nob w0 w [(false, rd p0_lv (List.map (int i64) p0_l)), (true, ow 3 v4 (List.map (int i64) ([] : List (Int))))]) hl6 ⟨(hS.sub (sub_cons rfl (sub_cons rfl (sub_cons rfl (sub_cons rfl sub_nil))))), (hM.pick [0, 1] (by decide) rfl)⟩ ?_
   rintro K6 ⟨x178, x179⟩ a w res6 ⟨hS, hM⟩ hF hN6 hX6
   have hF : S_spec_CanonicalCycle_l6 F p0_l x178 x179 = some res6 := hF
   have hS : Sl 85 [(0, p0_lv), (3, v4), (4, (int i64 x178)), (5, (int i64 x179))] a := hS
   have hM : Mem Nob w0 w [(false, rd p0_lv (List.map (int i64) p0_l)), (true, ow 3 v4 (List.map (int i64) ([] : List (Int))))] := hM
   unfold S_spec_CanonicalCycle_l6 at hF
   refine wp_seq_k fun K195 hK195 => ?_
   refine wp_seq_k fun K197 hK197 => ?_
   refine wp_region_lit ?_
   refine st_val hS rfl rfl (by decide) (rv_move (hS.ev rfl)) fun a hS => ?_
   refine st_val hS rfl rfl (by decide) (rv_move (hS.ev rfl)) fun a hS => ?_
   refine st_val hS rfl rfl (by decide) (rv_len_rowM Try.underlying22 (hS.ev rfl) (hM.get 0 rfl)) fun a hS => ?_
   refine st_val hS rfl rfl (by decide) (rv_lss (hS.ev rfl) (hS.ev rfl)) fun a hS => ?_
   refine wpList_nil ?_
   refine hK197 _ _ ?_
   rcases ite_some hF with ⟨hc, hF⟩ | ⟨hc, hF⟩
   ·refine cond_t hS rfl hc ?_
    refine wp_skip ?_
    refine hK195 _ _ ?_
    refine wp_seq_k fun K198 hK198 => ?_
    have hJ7 : ∀ (x204 : Int) (a : Act) (w : World), Sl 85 [(0, p0_lv), (3, v4), (4, (int i64 x204)), (5, (int i64 x179))] a → Mem Nob w0 w [(false, rd p0_lv (List.map (int i64) p0_l)), (true, ow 3 v4 (List.map (int i64) ([] : List (Int))))] → S_spec_CanonicalCycle_j7 F x179 x204 = some res6 → K198 a w := by
     intro x204 a w hS hM hF
     unfold S_spec_CanonicalCycle_j7 at hF
     refine hK198 _ _ ?_
     refine wp_region_lit ?_
     refine st_val hS rfl rfl (by decide) (rv_move (hS.ev rfl)) fun a hS => ?_
     refine st_val hS rfl rfl (by decide) (rv_add (hS.ev rfl) (hS.ev rfl)) fun a hS => ?_
     refine st_val hS rfl rfl (by decide) (rv_assign (hS.ev rfl)) fun a hS => ?_
     refine wpList_nil ?_
     cases hF
     exact hN6 _ _ _ rfl ⟨(hS.sub (sub_cons rfl (sub_cons rfl (sub_cons rfl (sub_cons rfl sub_nil))))), (hM.pick [0, 1] (by decide) rfl)⟩
    refine wp_block ?_
    refine wp_seq_k fun K205 hK205 => ?_
    refine an_startB 9 Nob ty_mixed (by kernel_rfl) fun w hf => ?_
    have hM := hM.fra hf
    have hB := hM
    have hM := hB.reg0
    refine tkB hS 0 1 (by kernel_rfl) rfl rfl rfl hQp rfl (fun w' hC' => (rv_move (hS.ev rfl))) hM.fr fun a hS => ?_
    refine tkB hS 1 3 (by kernel_rfl) rfl rfl rfl hQp rfl (fun w' hC' => (rv_move (hS.ev rfl))) hM.fr fun a hS => ?_
    obtain ⟨x208, hx, hF⟩ := bind_some hF
    obtain ⟨hi0, hi1, hex208⟩ := idxL_some hx
    refine tkB hS 2 7 (by kernel_rfl) rfl rfl rfl hQp rfl (fun w' hC' => (rv_indexAddr Try.underlying22 ty_el_3 (hS.ev rfl) (hS.ev rfl) (hM.get 0 rfl) hi0 (map_len hi1))) hM.fr fun a hS => ?_
    refine tkB hS 3 15 (by kernel_rfl) rfl rfl rfl hQp rfl (fun w' hC' => (rv_load_el (hS.ev rfl) ty_ag_3 ((hB.fra hC').get 0 rfl) (mget hex208))) hM.fr fun a hS => ?_
    refine tkB hS 4 31 (by kernel_rfl) rfl rfl rfl hQp rfl (fun w' hC' => (rv_move (hS.ev rfl))) hM.fr fun a hS => ?_
    refine tkB hS 5 63 (by kernel_rfl) rfl rfl rfl hQp rfl (fun w' hC' => (rv_move (hS.ev rfl))) hM.fr fun a hS => ?_
    obtain ⟨x209, hx, hF⟩ := bind_some hF
    obtain ⟨hi0, hi1, hex209⟩ := idxL_some hx
    refine tkB hS 6 127 (by kernel_rfl) rfl rfl rfl hQp rfl (fun w' hC' => (rv_indexAddr Try.underlying22 ty_el_3 (hS.ev rfl) (hS.ev rfl) (hM.get 0 rfl) hi0 (map_len hi1))) hM.fr fun a hS => ?_
    refine tkB hS 7 255 (by kernel_rfl) rfl rfl rfl hQp rfl (fun w' hC' => (rv_load_el (hS.ev rfl) ty_ag_3 ((hB.fra hC').get 0 rfl) (mget hex209))) hM.fr fun a hS => ?_
    refine tkB hS 8 511 (by kernel_rfl) rfl rfl rfl hQp rfl (fun w' hC' => (rv_lss (hS.ev rfl) (hS.ev rfl))) hM.fr fun a hS => ?_
    refine an_done (by kernel_rfl) ?_
    have hN := hM.pick [] (by decide) rfl
    have hM := Mem.callo0 hB hN rfl
    refine hK205 _ _ ?_
    have hS : Sl 85 [(0, p0_lv), (3, v4), (4, (int i64 x178)), (5, (int i64 x179)), (34, (Value.bool (decide (x208 < x209))))] a := hS.sub (sub_cons rfl (sub_cons rfl (sub_cons rfl (sub_cons rfl (sub_cons rfl sub_nil)))))
    rcases ite_some hF with ⟨hc, hF⟩ | ⟨hc, hF⟩
    ·refine cond_t hS rfl hc ?_
     refine wp_region_lit ?_
     refine st_val hS rfl rfl (by decide) (rv_move (hS.ev rfl)) fun a hS => ?_
     refine st_val hS rfl rfl (by decide) (rv_assign (hS.ev rfl)) fun a hS => ?_
     refine wpList_nil ?_
     exact hJ7 x179 _ _ (hS.sub (sub_cons rfl (sub_cons rfl (sub_cons rfl (sub_cons rfl sub_nil))))) (hM.pick [0, 1] (by decide) rfl) hF
    ·refine cond_f hS rfl hc ?_
     refine wp_skip ?_
     exact hJ7 x178 _ _ (hS.sub (sub_cons rfl (sub_cons rfl (sub_cons rfl (sub_cons rfl sub_nil))))) (hM.pick [0, 1] (by decide) rfl) hF
   ·refine cond_f hS rfl hc ?_
    refine wp_exit ?_
    cases hF
    exact hJ2 x178 _ _ (hS.sub (sub_cons rfl (sub_cons rfl (sub_cons rfl sub_nil)))) (hM.pick [0, 1] (by decide) rfl) (by have e := hX6 _ rfl; subst e; exact hF6)
 refine wp_region_lit ?_
 refine st_val hS rfl rfl (by decide) (rv_move (hS.ev rfl)) fun a hS => ?_
 refine st_val hS rfl rfl (by decide) (rv_len_rowM Try.underlying22 (hS.ev rfl) (hM.get 1 rfl)) fun a hS => ?_
 refine st_val hS rfl rfl (by decide) (rv_lss (hS.ev rfl) (hS.ev rfl)) fun a hS => ?_
 refine st_val hS rfl rfl (by decide) (rv_move (hS.ev rfl)) fun a hS => ?_
 rcases ite_some hF with ⟨hc, hF⟩ | ⟨hc, hF⟩
 ·have hS := hS.setb (t := 12) rfl hc
  refine st_skip hS rfl rfl (by decide) fun a hS => ?_
  refine st_skip hS rfl rfl (by decide) fun a hS => ?_
  refine st_skip hS rfl rfl (by decide) fun a hS => ?_
  refine st_val hS rfl rfl (by decide) (rv_pick_t (hS.ev rfl) (hS.ev rfl)) fun a hS => ?_
  refine wpList_nil ?_
  exact hJ1 true _ _ (hS.sub (sub_cons rfl (sub_cons rfl (sub_cons rfl sub_nil)))) (hM.pick [1, 0] (by decide) rfl) hF
 ·have hS := hS.setb (t := 12) rfl hc
  refine st_val hS rfl rfl (by decide) (rv_move (hS.ev rfl)) fun a hS => ?_
  refine st_val hS rfl rfl (by decide) (rv_len_rowM Try.underlying22 (hS.ev rfl) (hM.get 1 rfl)) fun a hS => ?_
  refine st_val hS rfl rfl (by decide) (rv_gtr (hS.ev rfl) (hS.ev rfl)) fun a hS => ?_
  refine st_val hS rfl rfl (by decide) (rv_pick_f (hS.ev rfl) (hS.ev rfl)) fun a hS => ?_
  refine wpList_nil ?_
  exact hJ1 (decide ((20 : Int) < (p0_l.length : Int))) _ _ (hS.sub (sub_cons rfl (sub_cons rfl (sub_cons rfl sub_nil)))) (hM.pick [1, 0] (by decide) rfl) hF


end Go.Proofs.Ytilfniehellmmaa
