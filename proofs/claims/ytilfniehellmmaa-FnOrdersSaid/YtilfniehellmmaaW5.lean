/- Proved here: that each Go function does what its shallow function says -/
import Derived.Test.YtilfniehellmmaaSh
import Derived.Test.YtilfniehellmmaaTy
import Derived.Test.YtilfniehellmmaaK13
import Derived.Test.YtilfniehellmmaaW0
import Derived.Test.YtilfniehellmmaaW1
import Derived.Test.YtilfniehellmmaaW2
import Derived.Test.YtilfniehellmmaaW3
import Derived.Test.YtilfniehellmmaaW4
namespace Go.Proofs.Ytilfniehellmmaa
open Go Go.RowKit
set_option linter.unusedVariables false
set_option linter.unusedSimpArgs false
set_option maxRecDepth 100000
set_option maxHeartbeats 40000000

open Go.IntKind (i64)
open Go.Value (int)
theorem c_spec_DrawIsOrder (F : Nat) (p0_code : List Int) (p0_codev : Value) {r : Int × (List (Int)) × (List (Int))} (hF : S_spec_DrawIsOrder F p0_code = some r) (w0 : World) (h0 : RdRow w0 p0_codev (List.map (int IntKind.u8) p0_code)) :
    Calls Try.prog 61 [p0_codev].toArray w0 (retPost fun v w' => ∃ v43 v44, v = (Value.tuple #[(Value.agg #[(int i64 r.1), v43]), v44]) ∧ Mem Nob w0 w' [(true, ow 3 v43 (List.map (int i64) r.2.1)), (true, ow 3 v44 (List.map (int i64) r.2.2))]) := by
 have hM : Mem Nob w0 w0 [(false, rd p0_codev (List.map (int IntKind.u8) p0_code))] := (Mem.rcons (Mem.nil w0) h0 (by simp))
 refine enter2 Try.func61 rfl rfl rfl fun Q a hQr hQn hQp hS => ?_
 have hS : Sl 31 [(0, p0_codev)] a := hS
 unfold S_spec_DrawIsOrder at hF
 refine wp_seq_k fun K1 hK1 => ?_
 refine wp_region_lit ?_
 obtain ⟨b3, w, hr, hM⟩ := hM.allocE (ρ := a.eval) (dst := some 2) (ty := _) (pos := _) (af := _) (gd := _) (T := 28) (P := Try.prog) [(int i64 0), (Value.slice none 0 0)] ty_zr_28 rfl
 refine st_val hS rfl rfl (by decide) hr fun a hS => ?_
 have hM := hM.addNil 3
 refine st_val hS rfl rfl (by decide) (rv_assign (hS.ev rfl)) fun a hS => ?_
 refine wpList_nil ?_
 refine hK1 _ _ ?_
 refine wp_seq_k fun K4 hK4 => ?_
 refine wp_region_lit ?_
 refine st_val hS rfl rfl (by decide) (rv_move (hS.ev rfl)) fun a hS => ?_
 obtain ⟨r7, hr, hF⟩ := bind_some hF
 refine st_wp hS rfl (wp_call hS rfl rfl (by decide) fn_ok_81 rfl (c_spec_l1New F p0_code p0_codev hr _ (hM.get 2 rfl)) fun v w a hK hS => ?_)
 obtain ⟨b8, rfl, hN⟩ := hK
 have hM := hM.add hN rfl
 refine st_val hS rfl rfl (by decide) (rv_assign (hS.ev rfl)) fun a hS => ?_
 refine wpList_nil ?_
 refine hK4 _ _ ?_
 refine wp_seq_k fun K9 hK9 => ?_
 refine wp_region_lit ?_
 refine st_val hS rfl rfl (by decide) (rv_move (hS.ev rfl)) fun a hS => ?_
 obtain ⟨r13, hr, hF⟩ := bind_some hF
 have hM := hM.pick [0, 3, 1, 2] (by decide) rfl
 have hP := Mem.pre (A := [(true, bx b8 82 [p0_codev, (int i64 r7.1), (int i64 r7.2)])]) (C := [(false, rd p0_codev (List.map (int IntKind.u8) p0_code))]) (B := [(true, ow 3 (Value.slice none 0 0) (List.map (int i64) ([] : List (Int)))), (true, bx b3 28 [(int i64 0), (Value.slice none 0 0)])]) hM rfl (weaks_cons (weak_self _ _) weaks_nil)
 refine st_wp hS rfl (wp_call hS rfl rfl (by decide) fn_ok_86 rfl (c_spec_l2Any F p0_code r7.1 r7.2 p0_codev b8 hr _ hP) fun v w a hK hS => ?_)
 obtain ⟨v14, rfl, hN⟩ := hK
 have hM := Mem.callo (A := [(true, bx b8 82 [p0_codev, (int i64 r7.1), (int i64 r7.2)])]) (B := [(false, rd p0_codev (List.map (int IntKind.u8) p0_code)), (true, ow 3 (Value.slice none 0 0) (List.map (int i64) ([] : List (Int)))), (true, bx b3 28 [(int i64 0), (Value.slice none 0 0)])]) hM rfl hN rfl
 obtain ⟨b15, w, hr, hM⟩ := hM.allocE (ρ := a.eval) (dst := some 5) (ty := _) (pos := _) (af := _) (gd := _) (T := 28) (P := Try.prog) [(int i64 0), (Value.slice none 0 0)] ty_zr_28 rfl
 refine st_val hS rfl rfl (by decide) hr fun a hS => ?_
 have hM := hM.addNil 3
 have hM := hM.pick [1, 0, 2, 3, 4, 5, 6] (by decide) rfl
 obtain ⟨w, hr, hM⟩ := hM.st_agg (us := [(int i64 r13.1), v14]) (ρ := a.eval) (dst := none) (ty := _) (pos := _) (af := _) (gd := _) (x := .tmp 5) (y := .tmp 11) (hS.ev rfl) (hS.ev rfl) ty_sz_28 (all1_cons rfl (all1_cons (rd_one (rd_of_ow (hM.get 3 rfl))) all1_nil)) rfl
 refine st_unit hS rfl rfl hr ?_
 refine wpList_nil ?_
 refine hK9 _ _ ?_
 refine wp_seq_k fun K16 hK16 => ?_
 have hM := hM.pick [2, 0, 1, 3, 4, 5, 6] (by decide) rfl
 refine an_startB 9 (feet [(true, bx b8 82 [p0_codev, (int i64 r13.2.2.1), (int i64 r13.2.2.2)])]) ty_mixed (by kernel_rfl) fun w hf => ?_
 have hM := hM.fra hf
 have hB := hM
 have hM := hB.reg1 rfl
 refine tkB hS 0 1 (by kernel_rfl) rfl rfl rfl hQp rfl (fun w' hC' => (rv_load_agg (hS.ev rfl) ty_ag_28 (hB.getF rfl 0 rfl hC') ty_sz_28)) hM.fr fun a hS => ?_
 refine tkB hS 1 3 (by kernel_rfl) rfl rfl rfl hQp rfl (fun w' hC' => (rv_move (hS.ev rfl))) hM.fr fun a hS => ?_
 obtain ⟨r20, hr, hF⟩ := bind_some hF
 have hM := hM.pick [0, 4, 1, 2, 3, 5, 6] (by decide) rfl
 have hP := Mem.pre (A := [(true, bx b8 82 [p0_codev, (int i64 r13.2.2.1), (int i64 r13.2.2.2)])]) (C := [(false, rd p0_codev (List.map (int IntKind.u8) p0_code))]) (B := [(false, bx b15 28 [(int i64 r13.1), v14]), (false, ow 3 (Value.slice none 0 0) (List.map (int i64) ([] : List (Int)))), (false, ow 3 v14 (List.map (int i64) r13.2.1)), (false, ow 3 (Value.slice none 0 0) (List.map (int i64) ([] : List (Int)))), (false, bx b3 28 [(int i64 0), (Value.slice none 0 0)])]) hM rfl (weaks_cons (weak_self _ _) weaks_nil)
 refine an_oneB hS (i := 2) 7 (by kernel_rfl) rfl (by kernel_rfl) rfl ?_
 refine wp_call hS rfl rfl (by decide) fn_ok_87 rfl (c_spec_l1Below F p0_code r13.2.2.1 r13.2.2.2 3 p0_codev b8 hr _ hP) fun v w a hK hS => ?_
 obtain ⟨rfl, hN⟩ := hK
 have hM := Mem.callo (A := [(true, bx b8 82 [p0_codev, (int i64 r13.2.2.1), (int i64 r13.2.2.2)])]) (B := [(false, rd p0_codev (List.map (int IntKind.u8) p0_code)), (false, bx b15 28 [(int i64 r13.1), v14]), (false, ow 3 (Value.slice none 0 0) (List.map (int i64) ([] : List (Int)))), (false, ow 3 v14 (List.map (int i64) r13.2.1)), (false, ow 3 (Value.slice none 0 0) (List.map (int i64) ([] : List (Int)))), (false, bx b3 28 [(int i64 0), (Value.slice none 0 0)])]) hM rfl hN rfl
 refine ⟨hM.fr, ?_⟩
 obtain ⟨r21, hr, hF⟩ := bind_some hF
 refine an_oneB hS (i := 3) 15 (by kernel_rfl) rfl (by kernel_rfl) rfl ?_
 refine wp_call hS rfl rfl (by decide) fn_ok_48 rfl (c_spec_LexOrder F r13.1 r13.2.1 r20.1 v14 hr _ (rd_of_ow (hM.get 4 rfl))) fun v w a hK hS => ?_
 obtain ⟨v22, rfl, hN⟩ := hK
 have hM := hM.add hN rfl
 refine ⟨hM.fr, ?_⟩
 refine tkB hS 4 31 (by kernel_rfl) rfl rfl rfl hQp rfl (fun w' hC' => (rv_move (hS.ev rfl))) hM.fr fun a hS => ?_
 refine tkB hS 5 63 (by kernel_rfl) rfl rfl rfl hQp rfl (fun w' hC' => (rv_extract (hS.ev rfl) rfl)) hM.fr fun a hS => ?_
 refine tkB hS 6 127 (by kernel_rfl) rfl rfl rfl hQp rfl (fun w' hC' => (rv_extract (hS.ev rfl) rfl)) hM.fr fun a hS => ?_
 refine tkB hS 7 255 (by kernel_rfl) rfl rfl rfl hQp rfl (fun w' hC' => (rv_assign (hS.ev rfl))) hM.fr fun a hS => ?_
 refine tkB hS 8 511 (by kernel_rfl) rfl rfl rfl hQp rfl (fun w' hC' => (rv_assign (hS.ev rfl))) hM.fr fun a hS => ?_
 refine an_done (by kernel_rfl) ?_
 have hN := hM.pick [0, 1] (by decide) rfl
 have hM := Mem.callo (A := [(true, bx b8 82 [p0_codev, (int i64 r13.2.2.1), (int i64 r13.2.2.2)])]) (B := [(true, bx b15 28 [(int i64 r13.1), v14]), (true, ow 3 (Value.slice none 0 0) (List.map (int i64) ([] : List (Int)))), (true, ow 3 v14 (List.map (int i64) r13.2.1)), (false, rd p0_codev (List.map (int IntKind.u8) p0_code)), (true, ow 3 (Value.slice none 0 0) (List.map (int i64) ([] : List (Int)))), (true, bx b3 28 [(int i64 0), (Value.slice none 0 0)])]) hB rfl (hN.memS fun _ h => h) rfl
 refine hK16 _ _ ?_
 have hS : Sl 31 [(2, (fdp b3 0)), (4, (fdp b8 0)), (5, (fdp b15 0)), (6, v22), (7, (Value.bool r21.2))] a := hS.sub (sub_cons rfl (sub_cons rfl (sub_cons rfl (sub_cons rfl (sub_cons rfl sub_nil)))))
 have hM := hM.pick [0, 1, 2, 4, 5, 6, 7] (by decide) rfl
 refine wp_seq_k fun K23 hK23 => ?_
 refine wp_seq_k fun K31 hK31 => ?_
 have hJ1 : ∀ (x33 : Int) (x34 : Int) (p35 : Bool) (a : Act) (w : World), Sl 31 [(2, (fdp b3 0)), (4, (fdp b8 0)), (5, (fdp b15 0)), (6, v22), (24, (Value.bool p35))] a → Mem Nob w0 w [(true, bx b3 28 [(int i64 0), (Value.slice none 0 0)]), (true, ow 3 (Value.slice none 0 0) (List.map (int i64) ([] : List (Int)))), (true, bx b8 82 [p0_codev, (int i64 x33), (int i64 x34)]), (false, rd p0_codev (List.map (int IntKind.u8) p0_code)), (true, bx b15 28 [(int i64 r13.1), v14]), (true, ow 3 v14 (List.map (int i64) r13.2.1)), (true, ow 3 v22 (List.map (int i64) r21.1))] → S_spec_DrawIsOrder_j1 F p0_code r13 r21 x33 x34 p35 = some r → K31 a w := by
  intro x33 x34 p35 a w hS hM hF
  unfold S_spec_DrawIsOrder_j1 at hF
  refine hK31 _ _ ?_
  rcases ite_some hF with ⟨hc, hF⟩ | ⟨hc, hF⟩
  ·refine cond_t hS rfl hc ?_
   refine wp_seq_k fun K36 hK36 => ?_
   refine wp_region_lit ?_
   refine st_val hS rfl rfl (by decide) (rv_load_agg (hS.ev rfl) ty_ag_28 (hM.get 4 rfl) ty_sz_28) fun a hS => ?_
   refine st_val hS rfl rfl (by decide) (rv_move (hS.ev rfl)) fun a hS => ?_
   obtain ⟨w, hr, hM⟩ := hM.st_agg (us := [(int i64 r13.1), v14]) (ρ := a.eval) (dst := none) (ty := _) (pos := _) (af := _) (gd := _) (x := .tmp 2) (y := .tmp 25) (hS.ev rfl) (hS.ev rfl) ty_sz_28 (all1_cons rfl (all1_cons (rd_one (rd_of_ow (hM.get 5 rfl))) all1_nil)) rfl
   refine st_unit hS rfl rfl hr ?_
   refine st_val hS rfl rfl (by decide) (rv_assign (hS.ev rfl)) fun a hS => ?_
   refine wpList_nil ?_
   refine hK36 _ _ ?_
   have hS : Sl 31 [(2, (fdp b3 0)), (3, v22)] a := hS.sub (sub_cons rfl (sub_cons rfl sub_nil))
   have hM := hM.pick [0, 5, 6] (by decide) rfl
   refine wp_ret ?_
   cases hF
   exact hQr _ _ (r_cc hS rfl ⟨_, rfl, run_loadAgg ty_ag_28 (hM.get 0 rfl) ty_sz_28⟩ rfl ⟨v14, v22, rfl, hM.pick [1, 2] (by decide) rfl⟩)
  ·refine cond_f hS rfl hc ?_
   refine wp_skip ?_
   refine hK23 _ _ ?_
   refine wp_seq_k fun K37 hK37 => ?_
   have hM := hM.pick [2, 0, 1, 3, 4, 5, 6] (by decide) rfl
   refine an_startB 6 (feet [(true, bx b8 82 [p0_codev, (int i64 x33), (int i64 x34)]), (true, bx b3 28 [(int i64 0), (Value.slice none 0 0)])]) ty_mixed (by kernel_rfl) fun w hf => ?_
   have hM := hM.fra hf
   have hB := hM
   have hM := Mem.regA (A := [(true, bx b8 82 [p0_codev, (int i64 x33), (int i64 x34)]), (true, bx b3 28 [(int i64 0), (Value.slice none 0 0)])]) (R := [(true, ow 3 (Value.slice none 0 0) (List.map (int i64) ([] : List (Int)))), (false, rd p0_codev (List.map (int IntKind.u8) p0_code)), (true, bx b15 28 [(int i64 r13.1), v14]), (true, ow 3 v14 (List.map (int i64) r13.2.1)), (true, ow 3 v22 (List.map (int i64) r21.1))]) hB rfl
   refine tkB hS 0 1 (by kernel_rfl) rfl rfl rfl hQp rfl (fun w' hC' => (rv_load_agg (hS.ev rfl) ty_ag_28 (Mem.getFA (A := [(true, bx b8 82 [p0_codev, (int i64 x33), (int i64 x34)]), (true, bx b3 28 [(int i64 0), (Value.slice none 0 0)])]) (R := [(true, ow 3 (Value.slice none 0 0) (List.map (int i64) ([] : List (Int)))), (false, rd p0_codev (List.map (int IntKind.u8) p0_code)), (true, bx b15 28 [(int i64 r13.1), v14]), (true, ow 3 v14 (List.map (int i64) r13.2.1)), (true, ow 3 v22 (List.map (int i64) r21.1))]) hB rfl 2 rfl hC') ty_sz_28)) hM.fr fun a hS => ?_
   refine tkB hS 1 3 (by kernel_rfl) rfl rfl rfl hQp rfl (fun w' hC' => (rv_move (hS.ev rfl))) hM.fr fun a hS => ?_
   refine tkB hS 2 7 (by kernel_rfl) rfl rfl rfl hQp rfl (fun w' hC' => (rv_load_agg (hS.ev rfl) ty_ag_28 (Mem.getFA (A := [(true, bx b8 82 [p0_codev, (int i64 x33), (int i64 x34)]), (true, bx b3 28 [(int i64 0), (Value.slice none 0 0)])]) (R := [(true, ow 3 (Value.slice none 0 0) (List.map (int i64) ([] : List (Int)))), (false, rd p0_codev (List.map (int IntKind.u8) p0_code)), (true, bx b15 28 [(int i64 r13.1), v14]), (true, ow 3 v14 (List.map (int i64) r13.2.1)), (true, ow 3 v22 (List.map (int i64) r21.1))]) hB rfl 2 rfl hC') ty_sz_28)) hM.fr fun a hS => ?_
   obtain ⟨r40, hr, hF⟩ := bind_some hF
   have hM := hM.pick [0, 3, 5, 1, 2, 4, 6] (by decide) rfl
   have hP := Mem.pre (A := [(true, bx b8 82 [p0_codev, (int i64 x33), (int i64 x34)])]) (C := [(false, rd p0_codev (List.map (int IntKind.u8) p0_code)), (false, ow 3 v14 (List.map (int i64) r13.2.1))]) (B := [(true, bx b3 28 [(int i64 0), (Value.slice none 0 0)]), (false, ow 3 (Value.slice none 0 0) (List.map (int i64) ([] : List (Int)))), (false, bx b15 28 [(int i64 r13.1), v14]), (false, ow 3 v22 (List.map (int i64) r21.1))]) hM rfl (weaks_cons (weak_self _ _) (weaks_cons (weak_ow _ _ _ _) weaks_nil))
   refine an_oneB hS (i := 3) 15 (by kernel_rfl) rfl (by kernel_rfl) rfl ?_
   refine wp_call hS rfl rfl (by decide) fn_ok_92 rfl (c_spec_l4List F p0_code x33 x34 r13.1 r13.2.1 p0_codev b8 v14 hr _ hP) fun v41 w a hK hS => ?_
   have hN := hK
   have hM := Mem.callo (A := [(true, bx b8 82 [p0_codev, (int i64 x33), (int i64 x34)])]) (B := [(false, rd p0_codev (List.map (int IntKind.u8) p0_code)), (false, ow 3 v14 (List.map (int i64) r13.2.1)), (true, bx b3 28 [(int i64 0), (Value.slice none 0 0)]), (false, ow 3 (Value.slice none 0 0) (List.map (int i64) ([] : List (Int)))), (false, bx b15 28 [(int i64 r13.1), v14]), (false, ow 3 v22 (List.map (int i64) r21.1))]) hM rfl hN rfl
   refine ⟨hM.fr, ?_⟩
   have hM := hM.pick [4, 0, 1, 2, 3, 5, 6, 7] (by decide) rfl
   obtain ⟨w, hr, hM⟩ := hM.st_agg (us := [(int i64 r13.1), v14]) (ρ := a.eval) (dst := none) (ty := _) (pos := _) (af := _) (gd := _) (x := .tmp 2) (y := .tmp 27) (hS.ev rfl) (hS.ev rfl) ty_sz_28 (all1_cons rfl (all1_cons (rd_one (rd_of_ow (hM.get 4 rfl))) all1_nil)) rfl
   refine an_oneB hS (i := 4) 31 (by kernel_rfl) rfl (by kernel_rfl) rfl ?_
   refine wp_unit hS rfl hr ⟨hM.fr, ?_⟩
   refine tkB hS 5 63 (by kernel_rfl) rfl rfl rfl hQp rfl (fun w' hC' => (rv_assign (hS.ev rfl))) hM.fr fun a hS => ?_
   refine an_done (by kernel_rfl) ?_
   have hN := hM.pick [0, 1, 2] (by decide) rfl
   have hM := Mem.callo (A := [(true, bx b8 82 [p0_codev, (int i64 x33), (int i64 x34)]), (true, bx b3 28 [(int i64 0), (Value.slice none 0 0)])]) (B := [(true, ow 3 (Value.slice none 0 0) (List.map (int i64) ([] : List (Int)))), (false, rd p0_codev (List.map (int IntKind.u8) p0_code)), (true, bx b15 28 [(int i64 r13.1), v14]), (true, ow 3 v14 (List.map (int i64) r13.2.1)), (true, ow 3 v22 (List.map (int i64) r21.1))]) hB rfl (hN.memS fun _ h => h) rfl
   refine hK37 _ _ ?_
   have hS : Sl 31 [(2, (fdp b3 0)), (3, v41)] a := hS.sub (sub_cons rfl (sub_cons rfl sub_nil))
   have hM := hM.pick [0, 2, 6] (by decide) rfl
   refine wp_ret ?_
   cases hF
   exact hQr _ _ (r_cc hS rfl ⟨_, rfl, run_loadAgg ty_ag_28 (hM.get 0 rfl) ty_sz_28⟩ rfl ⟨v14, v41, rfl, hM.pick [2, 1] (by decide) rfl⟩)
 refine wp_region_lit ?_
 refine st_val hS rfl rfl (by decide) (rv_move (hS.ev rfl)) fun a hS => ?_
 refine st_val hS rfl rfl (by decide) (rv_move (hS.ev rfl)) fun a hS => ?_
 rcases ite_some hF with ⟨hc, hF⟩ | ⟨hc, hF⟩
 ·have hS := hS.setb (t := 20) rfl hc
  refine st_val hS rfl rfl (by decide) (rv_move (hS.ev rfl)) fun a hS => ?_
  obtain ⟨r42, hr, hF⟩ := bind_some hF
  have hM := hM.pick [1, 4, 0, 2, 3, 5, 6] (by decide) rfl
  have hP := Mem.pre (A := [(true, bx b8 82 [p0_codev, (int i64 r20.2.1), (int i64 r20.2.2)])]) (C := [(false, rd p0_codev (List.map (int IntKind.u8) p0_code))]) (B := [(true, ow 3 v22 (List.map (int i64) r21.1)), (true, bx b15 28 [(int i64 r13.1), v14]), (true, ow 3 v14 (List.map (int i64) r13.2.1)), (true, ow 3 (Value.slice none 0 0) (List.map (int i64) ([] : List (Int)))), (true, bx b3 28 [(int i64 0), (Value.slice none 0 0)])]) hM rfl (weaks_cons (weak_self _ _) weaks_nil)
  refine st_wp hS rfl (wp_call hS rfl rfl (by decide) fn_ok_91 rfl (c_spec_l1Once F p0_code r20.2.1 r20.2.2 3 p0_codev b8 hr _ hP) fun v w a hK hS => ?_)
  obtain ⟨rfl, hN⟩ := hK
  have hM := Mem.callo (A := [(true, bx b8 82 [p0_codev, (int i64 r20.2.1), (int i64 r20.2.2)])]) (B := [(false, rd p0_codev (List.map (int IntKind.u8) p0_code)), (true, ow 3 v22 (List.map (int i64) r21.1)), (true, bx b15 28 [(int i64 r13.1), v14]), (true, ow 3 v14 (List.map (int i64) r13.2.1)), (true, ow 3 (Value.slice none 0 0) (List.map (int i64) ([] : List (Int)))), (true, bx b3 28 [(int i64 0), (Value.slice none 0 0)])]) hM rfl hN rfl
  refine st_val hS rfl rfl (by decide) (rv_not (hS.ev rfl)) fun a hS => ?_
  refine st_val hS rfl rfl (by decide) (rv_pick_t (hS.ev rfl) (hS.ev rfl)) fun a hS => ?_
  refine wpList_nil ?_
  exact hJ1 r42.2.1 r42.2.2 (!r42.1) _ _ (hS.sub (sub_cons rfl (sub_cons rfl (sub_cons rfl (sub_cons rfl (sub_cons rfl sub_nil)))))) (hM.pick [6, 5, 0, 1, 3, 4, 2] (by decide) rfl) hF
 ·have hS := hS.setb (t := 20) rfl hc
  refine st_skip hS rfl rfl (by decide) fun a hS => ?_
  refine st_skip hS rfl rfl (by decide) fun a hS => ?_
  refine st_skip hS rfl rfl (by decide) fun a hS => ?_
  refine st_val hS rfl rfl (by decide) (rv_pick_f (hS.ev rfl) (hS.ev rfl)) fun a hS => ?_
  refine wpList_nil ?_
  exact hJ1 r20.2.1 r20.2.2 false _ _ (hS.sub (sub_cons rfl (sub_cons rfl (sub_cons rfl (sub_cons rfl (sub_cons rfl sub_nil)))))) (hM.pick [6, 5, 1, 4, 2, 3, 0] (by decide) rfl) hF


theorem c_spec_DrawIsConnected (F : Nat) (p0_code : List Int) (p0_codev : Value) {r : Int × (List (Int))} (hF : S_spec_DrawIsConnected F p0_code = some r) (w0 : World) (h0 : RdRow w0 p0_codev (List.map (int IntKind.u8) p0_code)) :
    Calls Try.prog 62 [p0_codev].toArray w0 (retPost fun v w' => ∃ v13, v = (Value.agg #[(int i64 r.1), v13]) ∧ Mem Nob w0 w' [(true, ow 3 v13 (List.map (int i64) r.2))]) := by
 have hM : Mem Nob w0 w0 [(false, rd p0_codev (List.map (int IntKind.u8) p0_code))] := (Mem.rcons (Mem.nil w0) h0 (by simp))
 refine enter2 Try.func62 rfl rfl rfl fun Q a hQr hQn hQp hS => ?_
 have hS : Sl 6 [(0, p0_codev)] a := hS
 unfold S_spec_DrawIsConnected at hF
 refine wp_seq_k fun K1 hK1 => ?_
 refine wp_region_lit ?_
 obtain ⟨b3, w, hr, hM⟩ := hM.allocE (ρ := a.eval) (dst := some 2) (ty := _) (pos := _) (af := _) (gd := _) (T := 28) (P := Try.prog) [(int i64 0), (Value.slice none 0 0)] ty_zr_28 rfl
 refine st_val hS rfl rfl (by decide) hr fun a hS => ?_
 have hM := hM.addNil 3
 refine wpList_nil ?_
 refine hK1 _ _ ?_
 refine wp_seq_k fun K4 hK4 => ?_
 refine wp_region_lit ?_
 refine st_val hS rfl rfl (by decide) (rv_move (hS.ev rfl)) fun a hS => ?_
 obtain ⟨r9, hr, hF⟩ := bind_some hF
 refine st_wp hS rfl (wp_call hS rfl rfl (by decide) fn_ok_81 rfl (c_spec_l1New F p0_code p0_codev hr _ (hM.get 2 rfl)) fun v w a hK hS => ?_)
 obtain ⟨b10, rfl, hN⟩ := hK
 have hM := hM.add hN rfl
 obtain ⟨r11, hr, hF⟩ := bind_some hF
 have hM := hM.pick [0, 3, 1, 2] (by decide) rfl
 have hP := Mem.pre (A := [(true, bx b10 82 [p0_codev, (int i64 r9.1), (int i64 r9.2)])]) (C := [(false, rd p0_codev (List.map (int IntKind.u8) p0_code))]) (B := [(true, ow 3 (Value.slice none 0 0) (List.map (int i64) ([] : List (Int)))), (true, bx b3 28 [(int i64 0), (Value.slice none 0 0)])]) hM rfl (weaks_cons (weak_self _ _) weaks_nil)
 refine st_wp hS rfl (wp_call hS rfl rfl (by decide) fn_ok_86 rfl (c_spec_l2Any F p0_code r9.1 r9.2 p0_codev b10 hr _ hP) fun v w a hK hS => ?_)
 obtain ⟨v12, rfl, hN⟩ := hK
 have hM := Mem.callo (A := [(true, bx b10 82 [p0_codev, (int i64 r9.1), (int i64 r9.2)])]) (B := [(false, rd p0_codev (List.map (int IntKind.u8) p0_code)), (true, ow 3 (Value.slice none 0 0) (List.map (int i64) ([] : List (Int)))), (true, bx b3 28 [(int i64 0), (Value.slice none 0 0)])]) hM rfl hN rfl
 have hM := hM.pick [4, 0, 1, 2, 3] (by decide) rfl
 obtain ⟨w, hr, hM⟩ := hM.st_agg (us := [(int i64 r11.1), v12]) (ρ := a.eval) (dst := none) (ty := _) (pos := _) (af := _) (gd := _) (x := .tmp 2) (y := .tmp 5) (hS.ev rfl) (hS.ev rfl) ty_sz_28 (all1_cons rfl (all1_cons (rd_one (rd_of_ow (hM.get 2 rfl))) all1_nil)) rfl
 refine st_unit hS rfl rfl hr ?_
 refine wpList_nil ?_
 refine hK4 _ _ ?_
 have hS : Sl 6 [(2, (fdp b3 0))] a := hS.sub (sub_cons rfl sub_nil)
 have hM := hM.pick [0, 2] (by decide) rfl
 refine wp_ret ?_
 cases hF
 exact hQr _ _ (r_c hS rfl ⟨_, rfl, run_loadAgg ty_ag_28 (hM.get 0 rfl) ty_sz_28⟩ ⟨v12, rfl, hM.pick [1] (by decide) rfl⟩)


theorem c_spec_SetOf (F : Nat) (p0_l : List Int) (p0_lv : Value) {r : Int × Bool} (hF : S_spec_SetOf F p0_l = some r) (w0 : World) (h0 : RdRow w0 p0_lv (List.map (int i64) p0_l)) :
    Calls Try.prog 123 [p0_lv].toArray w0 (retPost fun v w' => v = (Value.tuple #[(int i64 r.1), (Value.bool r.2)]) ∧ Mem Nob w0 w' []) := by
 have hM : Mem Nob w0 w0 [(false, rd p0_lv (List.map (int i64) p0_l))] := (Mem.rcons (Mem.nil w0) h0 (by simp))
 refine enter2 Try.func123 rfl rfl rfl fun Q a hQr hQn hQp hS => ?_
 have hS : Sl 36 [(0, p0_lv)] a := hS
 unfold S_spec_SetOf at hF
 refine wp_seq_k fun K1 hK1 => ?_
 refine wp_region_lit ?_
 refine st_val hS rfl rfl (by decide) (rv_assign (hS.ev rfl)) fun a hS => ?_
 refine st_val hS rfl rfl (by decide) (rv_assign (hS.ev rfl)) fun a hS => ?_
 refine wpList_nil ?_
 refine hK1 _ _ ?_
 refine wp_seq_k fun K2 hK2 => ?_
 refine wp_region_lit ?_
 refine st_val hS rfl rfl (by decide) (rv_assign (hS.ev rfl)) fun a hS => ?_
 refine wpList_nil ?_
 refine hK2 _ _ ?_
 refine wp_seq_k fun K3 hK3 => ?_
 have hJ1 : ∀ (x95 : Int) (a : Act) (w : World), Sl 36 [(4, (int i64 x95))] a → Mem Nob w0 w [] → S_spec_SetOf_j1 F x95 = some r → K3 a w := by
  intro x95 a w hS hM hF
  unfold S_spec_SetOf_j1 at hF
  refine hK3 _ _ ?_
  refine wp_seq_k fun K96 hK96 => ?_
  refine wp_region_lit ?_
  refine st_val hS rfl rfl (by decide) (rv_move (hS.ev rfl)) fun a hS => ?_
  refine st_val hS rfl rfl (by decide) (rv_assign (hS.ev rfl)) fun a hS => ?_
  refine st_val hS rfl rfl (by decide) (rv_assign (hS.ev rfl)) fun a hS => ?_
  refine wpList_nil ?_
  refine hK96 _ _ ?_
  refine wp_ret ?_
  cases hF
  exact hQr _ _ (r_2 hS rfl rfl rfl ⟨rfl, hM.pick [] (by decide) rfl⟩)
 refine wp_seq_k fun K97 hK97 => ?_
 refine wp_region_lit ?_
 refine st_val hS rfl rfl (by decide) (rv_assign (hS.ev rfl)) fun a hS => ?_
 refine wpList_nil ?_
 refine hK97 _ _ ?_
 refine wp_block ?_
 obtain ⟨lb2, hl2, hF2⟩ := bind_some hF
 refine wp_loop_sh (fun s => S_spec_SetOf_l2 F p0_l s.1 s.2) (fun s a w => Sl 36 [(0, p0_lv), (4, (int i64 s.1)), (5, (int i64 s.2))] a ∧ Mem Nob w0 w [(false, rd p0_lv (List.map (int i64) p0_l))]) hl2 ⟨(hS.sub (sub_cons rfl (sub_cons rfl (sub_cons rfl sub_nil)))), (hM.pick [0] (by decide) rfl)⟩ ?_
 rintro K2 ⟨x98, x99⟩ a w res2 ⟨hS, hM⟩ hF hN2 hX2
 have hF : S_spec_SetOf_l2 F p0_l x98 x99 = some res2 := hF
 have hS : Sl 36 [(0, p0_lv), (4, (int i64 x98)), (5, (int i64 x99))] a := hS
 have hM : Mem Nob w0 w [(false, rd p0_lv (List.map (int i64) p0_l))] := hM
 unfold S_spec_SetOf_l2 at hF
 refine wp_seq_k fun K144 hK144 => ?_
 refine wp_seq_k fun K146 hK146 => ?_
 refine wp_region_lit ?_
 refine st_val hS rfl rfl (by decide) (rv_move (hS.ev rfl)) fun a hS => ?_
 refine st_val hS rfl rfl (by decide) (rv_move (hS.ev rfl)) fun a hS => ?_
 refine st_val hS rfl rfl (by decide) (rv_len_rowM Try.underlying22 (hS.ev rfl) (hM.get 0 rfl)) fun a hS => ?_
 refine st_val hS rfl rfl (by decide) (rv_lss (hS.ev rfl) (hS.ev rfl)) fun a hS => ?_
 refine wpList_nil ?_
 refine hK146 _ _ ?_
 rcases ite_some hF with ⟨hc, hF⟩ | ⟨hc, hF⟩
 ·refine cond_t hS rfl hc ?_
  refine wp_skip ?_
  refine hK144 _ _ ?_
  refine wp_seq_k fun K147 hK147 => ?_
  refine wp_block ?_
  refine wp_seq_k fun K168 hK168 => ?_
  refine wp_seq_k fun K178 hK178 => ?_
  have hJ3 : ∀ (p182 : Bool) (a : Act) (w : World), Sl 36 [(0, p0_lv), (4, (int i64 x98)), (5, (int i64 x99)), (27, (Value.bool p182))] a → Mem Nob w0 w [(false, rd p0_lv (List.map (int i64) p0_l))] → S_spec_SetOf_j3 F p0_l x98 x99 p182 = some res2 → K178 a w := by
   intro p182 a w hS hM hF
   unfold S_spec_SetOf_j3 at hF
   refine hK178 _ _ ?_
   rcases ite_some hF with ⟨hc, hF⟩ | ⟨hc, hF⟩
   ·refine cond_t hS rfl hc ?_
    refine wp_seq_k fun K183 hK183 => ?_
    refine wp_region_lit ?_
    refine st_val hS rfl rfl (by decide) (rv_assign (hS.ev rfl)) fun a hS => ?_
    refine st_val hS rfl rfl (by decide) (rv_assign (hS.ev rfl)) fun a hS => ?_
    refine wpList_nil ?_
    refine hK183 _ _ ?_
    refine wp_ret ?_
    cases hF
    have e := hX2 _ rfl
    subst e
    have hF := hF2
    cases hF
    exact hQr _ _ (r_2 hS rfl rfl rfl ⟨rfl, hM.pick [] (by decide) rfl⟩)
   ·refine cond_f hS rfl hc ?_
    refine wp_skip ?_
    refine hK168 _ _ ?_
    refine wp_region_lit ?_
    refine st_val hS rfl rfl (by decide) (rv_move (hS.ev rfl)) fun a hS => ?_
    refine st_val hS rfl rfl (by decide) (rv_move (hS.ev rfl)) fun a hS => ?_
    refine st_val hS rfl rfl (by decide) (rv_move (hS.ev rfl)) fun a hS => ?_
    obtain ⟨x184, hx, hF⟩ := bind_some hF
    obtain ⟨hi0, hi1, hex184⟩ := idxL_some hx
    refine st_val hS rfl rfl (by decide) (rv_indexAddr Try.underlying22 ty_el_3 (hS.ev rfl) (hS.ev rfl) (hM.get 0 rfl) hi0 (map_len hi1)) fun a hS => ?_
    refine st_val hS rfl rfl (by decide) (rv_load_el (hS.ev rfl) ty_ag_3 (hM.get 0 rfl) (mget hex184)) fun a hS => ?_
    obtain ⟨_, hx, hF⟩ := bind_some hF
    have hi0 := nnO_some hx
    refine st_val hS rfl rfl (by decide) (rv_shl (hS.ev rfl) (hS.ev rfl) hi0) fun a hS => ?_
    refine st_val hS rfl rfl (by decide) (rv_add (hS.ev rfl) (hS.ev rfl)) fun a hS => ?_
    refine st_val hS rfl rfl (by decide) (rv_assign (hS.ev rfl)) fun a hS => ?_
    refine wpList_nil ?_
    refine hK147 _ _ ?_
    have hS : Sl 36 [(0, p0_lv), (4, (int i64 (i64.wrap (x98 + (shL 1 x184))))), (5, (int i64 x99))] a := hS.sub (sub_cons rfl (sub_cons rfl (sub_cons rfl sub_nil)))
    refine wp_region_lit ?_
    refine st_val hS rfl rfl (by decide) (rv_move (hS.ev rfl)) fun a hS => ?_
    refine st_val hS rfl rfl (by decide) (rv_add (hS.ev rfl) (hS.ev rfl)) fun a hS => ?_
    refine st_val hS rfl rfl (by decide) (rv_assign (hS.ev rfl)) fun a hS => ?_
    refine wpList_nil ?_
    cases hF
    exact hN2 _ _ _ rfl ⟨(hS.sub (sub_cons rfl (sub_cons rfl (sub_cons rfl sub_nil)))), (hM.pick [0] (by decide) rfl)⟩
  refine wp_region_lit ?_
  refine st_val hS rfl rfl (by decide) (rv_move (hS.ev rfl)) fun a hS => ?_
  refine st_val hS rfl rfl (by decide) (rv_move (hS.ev rfl)) fun a hS => ?_
  obtain ⟨x185, hx, hF⟩ := bind_some hF
  obtain ⟨hi0, hi1, hex185⟩ := idxL_some hx
  refine st_val hS rfl rfl (by decide) (rv_indexAddr Try.underlying22 ty_el_3 (hS.ev rfl) (hS.ev rfl) (hM.get 0 rfl) hi0 (map_len hi1)) fun a hS => ?_
  refine st_val hS rfl rfl (by decide) (rv_load_el (hS.ev rfl) ty_ag_3 (hM.get 0 rfl) (mget hex185)) fun a hS => ?_
  obtain ⟨r186, hr, hF⟩ := bind_some hF
  refine st_wp hS rfl (wp_call hS rfl rfl (by decide) fn_ok_74 rfl (c_spec_l1In F x185 0 6 hr _) fun v w a hK hS => ?_)
  obtain ⟨rfl, hN⟩ := hK
  have hM := hM.fra hN.fr
  refine st_val hS rfl rfl (by decide) (rv_not (hS.ev rfl)) fun a hS => ?_
  refine st_val hS rfl rfl (by decide) (rv_move (hS.ev rfl)) fun a hS => ?_
  rcases ite_some hF with ⟨hc, hF⟩ | ⟨hc, hF⟩
  ·have hS := hS.setb (t := 18) rfl hc
   refine st_skip hS rfl rfl (by decide) fun a hS => ?_
   refine st_skip hS rfl rfl (by decide) fun a hS => ?_
   refine st_skip hS rfl rfl (by decide) fun a hS => ?_
   refine st_skip hS rfl rfl (by decide) fun a hS => ?_
   refine st_skip hS rfl rfl (by decide) fun a hS => ?_
   refine st_skip hS rfl rfl (by decide) fun a hS => ?_
   refine st_skip hS rfl rfl (by decide) fun a hS => ?_
   refine st_skip hS rfl rfl (by decide) fun a hS => ?_
   refine st_val hS rfl rfl (by decide) (rv_pick_t (hS.ev rfl) (hS.ev rfl)) fun a hS => ?_
   refine wpList_nil ?_
   exact hJ3 true _ _ (hS.sub (sub_cons rfl (sub_cons rfl (sub_cons rfl (sub_cons rfl sub_nil))))) (hM.pick [0] (by decide) rfl) hF
  ·have hS := hS.setb (t := 18) rfl hc
   refine st_val hS rfl rfl (by decide) (rv_move (hS.ev rfl)) fun a hS => ?_
   refine st_val hS rfl rfl (by decide) (rv_move (hS.ev rfl)) fun a hS => ?_
   refine st_val hS rfl rfl (by decide) (rv_move (hS.ev rfl)) fun a hS => ?_
   obtain ⟨x187, hx, hF⟩ := bind_some hF
   obtain ⟨hi0, hi1, hex187⟩ := idxL_some hx
   refine st_val hS rfl rfl (by decide) (rv_indexAddr Try.underlying22 ty_el_3 (hS.ev rfl) (hS.ev rfl) (hM.get 0 rfl) hi0 (map_len hi1)) fun a hS => ?_
   refine st_val hS rfl rfl (by decide) (rv_load_el (hS.ev rfl) ty_ag_3 (hM.get 0 rfl) (mget hex187)) fun a hS => ?_
   obtain ⟨_, hx, hF⟩ := bind_some hF
   have hi0 := nnO_some hx
   refine st_val hS rfl rfl (by decide) (rv_shr (hS.ev rfl) (hS.ev rfl) hi0) fun a hS => ?_
   refine st_val hS rfl rfl (by decide) (rv_and (hS.ev rfl) (hS.ev rfl)) fun a hS => ?_
   refine st_val hS rfl rfl (by decide) (rv_eql (hS.ev rfl) (hS.ev rfl)) fun a hS => ?_
   refine st_val hS rfl rfl (by decide) (rv_pick_f (hS.ev rfl) (hS.ev rfl)) fun a hS => ?_
   refine wpList_nil ?_
   exact hJ3 ((bAnd (shR x98 x187) 1) == 1) _ _ (hS.sub (sub_cons rfl (sub_cons rfl (sub_cons rfl (sub_cons rfl sub_nil))))) (hM.pick [0] (by decide) rfl) hF
 ·refine cond_f hS rfl hc ?_
  refine wp_exit ?_
  cases hF
  exact hJ1 x98 _ _ (hS.sub (sub_cons rfl sub_nil)) (hM.pick [] (by decide) rfl) (by have e := hX2 _ rfl; subst e; exact hF2)


theorem c_spec_l4Distinct (F : Nat) (p0_g_Size : Int) (p0_g_Rows : List Int) (p1_l : List Int) (p0_g_Rowsv : Value) (p1_lv : Value) {r : Bool} (hF : S_spec_l4Distinct F p0_g_Size p0_g_Rows p1_l = some r) (w0 : World) (h0 : RdRow w0 p0_g_Rowsv (List.map (int i64) p0_g_Rows)) (h1 : RdRow w0 p1_lv (List.map (int i64) p1_l)) :
    Calls Try.prog 93 [(Value.agg #[(int i64 p0_g_Size), p0_g_Rowsv]), p1_lv].toArray w0 (retPost fun v w' => v = (Value.bool r) ∧ Mem Nob w0 w' []) := by
 have hM : Mem Nob w0 w0 [(false, rd p0_g_Rowsv (List.map (int i64) p0_g_Rows)), (false, rd p1_lv (List.map (int i64) p1_l))] := (Mem.rcons (Mem.rcons (Mem.nil w0) h1 (by simp)) h0 (by simp))
 refine enter2 Try.func93 rfl rfl rfl fun Q a hQr hQn hQp hS => ?_
 have hS : Sl 22 [(0, (Value.agg #[(int i64 p0_g_Size), p0_g_Rowsv])), (1, p1_lv)] a := hS
 unfold S_spec_l4Distinct at hF
 refine wp_seq_k fun K1 hK1 => ?_
 refine wp_region_lit ?_
 obtain ⟨b3, w, hr, hM⟩ := hM.boxE (ρ := a.eval) (dst := some 2) (ty := _) (pos := _) (af := _) (gd := _) (x := .tmp 0) (T := 28) [(int i64 p0_g_Size), p0_g_Rowsv] (hS.ev rfl) rfl
 refine st_val hS rfl rfl (by decide) hr fun a hS => ?_
 refine st_val hS rfl rfl (by decide) (rv_assign (hS.ev rfl)) fun a hS => ?_
 refine wpList_nil ?_
 refine hK1 _ _ ?_
 refine wp_seq_k fun K4 hK4 => ?_
 refine wp_region_lit ?_
 refine st_val hS rfl rfl (by decide) (rv_move (hS.ev rfl)) fun a hS => ?_
 obtain ⟨r6, hr, hF⟩ := bind_some hF
 refine st_wp hS rfl (wp_call hS rfl rfl (by decide) fn_ok_123 rfl (c_spec_SetOf F p1_l p1_lv hr _ (hM.get 2 rfl)) fun v w a hK hS => ?_)
 obtain ⟨rfl, hN⟩ := hK
 have hM := hM.fra hN.fr
 refine st_val hS rfl rfl (by decide) (rv_move (hS.ev rfl)) fun a hS => ?_
 refine st_val hS rfl rfl (by decide) (rv_extract (hS.ev rfl) rfl) fun a hS => ?_
 refine st_val hS rfl rfl (by decide) (rv_extract (hS.ev rfl) rfl) fun a hS => ?_
 refine st_val hS rfl rfl (by decide) (rv_assign (hS.ev rfl)) fun a hS => ?_
 refine st_val hS rfl rfl (by decide) (rv_assign (hS.ev rfl)) fun a hS => ?_
 refine wpList_nil ?_
 refine hK4 _ _ ?_
 have hS : Sl 22 [(2, (fdp b3 0)), (5, (int i64 r6.1)), (6, (Value.bool r6.2))] a := hS.sub (sub_cons rfl (sub_cons rfl (sub_cons rfl sub_nil)))
 have hM := hM.pick [0, 1] (by decide) rfl
 refine wp_seq_k fun K7 hK7 => ?_
 have hJ1 : ∀ (p10 : Bool) (a : Act) (w : World), Sl 22 [(4, (Value.bool p10))] a → Mem Nob w0 w [] → S_spec_l4Distinct_j1 F p10 = some r → K7 a w := by
  intro p10 a w hS hM hF
  unfold S_spec_l4Distinct_j1 at hF
  refine hK7 _ _ ?_
  refine wp_ret ?_
  cases hF
  exact hQr _ _ (r_1 hS rfl rfl ⟨rfl, hM.pick [] (by decide) rfl⟩)
 refine wp_region_lit ?_
 refine st_val hS rfl rfl (by decide) (rv_load_agg (hS.ev rfl) ty_ag_28 (hM.get 0 rfl) ty_sz_28) fun a hS => ?_
 obtain ⟨r11, hr, hF⟩ := bind_some hF
 refine st_wp hS rfl (wp_call hS rfl rfl (by decide) fn_ok_73 rfl (c_spec_IsGraph F p0_g_Size p0_g_Rows p0_g_Rowsv hr _ (hM.get 1 rfl)) fun v w a hK hS => ?_)
 obtain ⟨rfl, hN⟩ := hK
 have hM := hM.fra hN.fr
 refine st_val hS rfl rfl (by decide) (rv_move (hS.ev rfl)) fun a hS => ?_
 rcases ite_some hF with ⟨hc, hF⟩ | ⟨hc, hF⟩
 ·have hS := hS.setb (t := 14) rfl hc
  refine st_val hS rfl rfl (by decide) (rv_move (hS.ev rfl)) fun a hS => ?_
  refine st_val hS rfl rfl (by decide) (rv_pick_t (hS.ev rfl) (hS.ev rfl)) fun a hS => ?_
  refine st_val hS rfl rfl (by decide) (rv_move (hS.ev rfl)) fun a hS => ?_
  rcases ite_some hF with ⟨hc, hF⟩ | ⟨hc, hF⟩
  ·have hS := hS.setb (t := 17) rfl hc
   refine st_val hS rfl rfl (by decide) (rv_load_agg (hS.ev rfl) ty_ag_28 (hM.get 0 rfl) ty_sz_28) fun a hS => ?_
   refine st_val hS rfl rfl (by decide) (rv_move (hS.ev rfl)) fun a hS => ?_
   obtain ⟨r12, hr, hF⟩ := bind_some hF
   refine st_wp hS rfl (wp_call hS rfl rfl (by decide) fn_ok_124 rfl (c_spec_IsSet F p0_g_Size p0_g_Rows r6.1 p0_g_Rowsv hr _ (hM.get 1 rfl)) fun v w a hK hS => ?_)
   obtain ⟨rfl, hN⟩ := hK
   have hM := hM.fra hN.fr
   refine st_val hS rfl rfl (by decide) (rv_pick_t (hS.ev rfl) (hS.ev rfl)) fun a hS => ?_
   refine st_val hS rfl rfl (by decide) (rv_assign (hS.ev rfl)) fun a hS => ?_
   refine wpList_nil ?_
   exact hJ1 r12 _ _ (hS.sub (sub_cons rfl sub_nil)) (hM.pick [] (by decide) rfl) hF
  ·have hS := hS.setb (t := 17) rfl hc
   refine st_skip hS rfl rfl (by decide) fun a hS => ?_
   refine st_skip hS rfl rfl (by decide) fun a hS => ?_
   refine st_skip hS rfl rfl (by decide) fun a hS => ?_
   refine st_val hS rfl rfl (by decide) (rv_pick_f (hS.ev rfl) (hS.ev rfl)) fun a hS => ?_
   refine st_val hS rfl rfl (by decide) (rv_assign (hS.ev rfl)) fun a hS => ?_
   refine wpList_nil ?_
   exact hJ1 false _ _ (hS.sub (sub_cons rfl sub_nil)) (hM.pick [] (by decide) rfl) hF
 ·have hS := hS.setb (t := 14) rfl hc
  refine st_skip hS rfl rfl (by decide) fun a hS => ?_
  refine st_val hS rfl rfl (by decide) (rv_pick_f (hS.ev rfl) (hS.ev rfl)) fun a hS => ?_
  refine st_val hS rfl rfl (by decide) (rv_move (hS.ev rfl)) fun a hS => ?_
  refine st_skip hS rfl rfl (by decide) fun a hS => ?_
  refine st_skip hS rfl rfl (by decide) fun a hS => ?_
  refine st_skip hS rfl rfl (by decide) fun a hS => ?_
  refine st_val hS rfl rfl (by decide) (rv_pick_f (hS.ev rfl) (hS.ev rfl)) fun a hS => ?_
  refine st_val hS rfl rfl (by decide) (rv_assign (hS.ev rfl)) fun a hS => ?_
  refine wpList_nil ?_
  exact hJ1 false _ _ (hS.sub (sub_cons rfl sub_nil)) (hM.pick [] (by decide) rfl) hF


theorem c_spec_IsOrder (F : Nat) (p0_g_Size : Int) (p0_g_Rows : List Int) (p1_l : List Int) (p0_g_Rowsv : Value) (p1_lv : Value) {r : Bool} (hF : S_spec_IsOrder F p0_g_Size p0_g_Rows p1_l = some r) (w0 : World) (h0 : RdRow w0 p0_g_Rowsv (List.map (int i64) p0_g_Rows)) (h1 : RdRow w0 p1_lv (List.map (int i64) p1_l)) :
    Calls Try.prog 64 [(Value.agg #[(int i64 p0_g_Size), p0_g_Rowsv]), p1_lv].toArray w0 (retPost fun v w' => v = (Value.bool r) ∧ Mem Nob w0 w' []) := by
 have hM : Mem Nob w0 w0 [(false, rd p0_g_Rowsv (List.map (int i64) p0_g_Rows)), (false, rd p1_lv (List.map (int i64) p1_l))] := (Mem.rcons (Mem.rcons (Mem.nil w0) h1 (by simp)) h0 (by simp))
 refine enter2 Try.func64 rfl rfl rfl fun Q a hQr hQn hQp hS => ?_
 have hS : Sl 15 [(0, (Value.agg #[(int i64 p0_g_Size), p0_g_Rowsv])), (1, p1_lv)] a := hS
 unfold S_spec_IsOrder at hF
 refine wp_seq_k fun K1 hK1 => ?_
 refine wp_region_lit ?_
 obtain ⟨b3, w, hr, hM⟩ := hM.boxE (ρ := a.eval) (dst := some 2) (ty := _) (pos := _) (af := _) (gd := _) (x := .tmp 0) (T := 28) [(int i64 p0_g_Size), p0_g_Rowsv] (hS.ev rfl) rfl
 refine st_val hS rfl rfl (by decide) hr fun a hS => ?_
 refine st_val hS rfl rfl (by decide) (rv_assign (hS.ev rfl)) fun a hS => ?_
 refine wpList_nil ?_
 refine hK1 _ _ ?_
 refine wp_seq_k fun K4 hK4 => ?_
 have hJ1 : ∀ (p6 : Bool) (a : Act) (w : World), Sl 15 [(4, (Value.bool p6))] a → Mem Nob w0 w [] → S_spec_IsOrder_j1 F p6 = some r → K4 a w := by
  intro p6 a w hS hM hF
  unfold S_spec_IsOrder_j1 at hF
  refine hK4 _ _ ?_
  refine wp_ret ?_
  cases hF
  exact hQr _ _ (r_1 hS rfl rfl ⟨rfl, hM.pick [] (by decide) rfl⟩)
 refine wp_region_lit ?_
 refine st_val hS rfl rfl (by decide) (rv_load_agg (hS.ev rfl) ty_ag_28 (hM.get 0 rfl) ty_sz_28) fun a hS => ?_
 refine st_val hS rfl rfl (by decide) (rv_move (hS.ev rfl)) fun a hS => ?_
 obtain ⟨r7, hr, hF⟩ := bind_some hF
 refine st_wp hS rfl (wp_call hS rfl rfl (by decide) fn_ok_93 rfl (c_spec_l4Distinct F p0_g_Size p0_g_Rows p1_l p0_g_Rowsv p1_lv hr _ (hM.get 1 rfl) (hM.get 2 rfl)) fun v w a hK hS => ?_)
 obtain ⟨rfl, hN⟩ := hK
 have hM := hM.fra hN.fr
 refine st_val hS rfl rfl (by decide) (rv_move (hS.ev rfl)) fun a hS => ?_
 rcases ite_some hF with ⟨hc, hF⟩ | ⟨hc, hF⟩
 ·have hS := hS.setb (t := 8) rfl hc
  refine st_val hS rfl rfl (by decide) (rv_move (hS.ev rfl)) fun a hS => ?_
  refine st_val hS rfl rfl (by decide) (rv_len_rowM Try.underlying22 (hS.ev rfl) (hM.get 2 rfl)) fun a hS => ?_
  refine st_val hS rfl rfl (by decide) (rv_fieldAddr ty_fd_28_0 (hS.ev rfl)) fun a hS => ?_
  refine st_val hS rfl rfl (by decide) (rv_load_bx (hS.ev rfl) ty_ag_3 (hM.get 0 rfl) rfl) fun a hS => ?_
  refine st_val hS rfl rfl (by decide) (rv_eql (hS.ev rfl) (hS.ev rfl)) fun a hS => ?_
  refine st_val hS rfl rfl (by decide) (rv_pick_t (hS.ev rfl) (hS.ev rfl)) fun a hS => ?_
  refine st_val hS rfl rfl (by decide) (rv_assign (hS.ev rfl)) fun a hS => ?_
  refine wpList_nil ?_
  exact hJ1 ((p1_l.length : Int) == p0_g_Size) _ _ (hS.sub (sub_cons rfl sub_nil)) (hM.pick [] (by decide) rfl) hF
 ·have hS := hS.setb (t := 8) rfl hc
  refine st_skip hS rfl rfl (by decide) fun a hS => ?_
  refine st_skip hS rfl rfl (by decide) fun a hS => ?_
  refine st_skip hS rfl rfl (by decide) fun a hS => ?_
  refine st_skip hS rfl rfl (by decide) fun a hS => ?_
  refine st_skip hS rfl rfl (by decide) fun a hS => ?_
  refine st_val hS rfl rfl (by decide) (rv_pick_f (hS.ev rfl) (hS.ev rfl)) fun a hS => ?_
  refine st_val hS rfl rfl (by decide) (rv_assign (hS.ev rfl)) fun a hS => ?_
  refine wpList_nil ?_
  exact hJ1 false _ _ (hS.sub (sub_cons rfl sub_nil)) (hM.pick [] (by decide) rfl) hF


theorem c_spec_IsLexOrder (F : Nat) (p0_g_Size : Int) (p0_g_Rows : List Int) (p1_l : List Int) (p0_g_Rowsv : Value) (p1_lv : Value) {r : Bool} (hF : S_spec_IsLexOrder F p0_g_Size p0_g_Rows p1_l = some r) (w0 : World) (h0 : RdRow w0 p0_g_Rowsv (List.map (int i64) p0_g_Rows)) (h1 : RdRow w0 p1_lv (List.map (int i64) p1_l)) :
    Calls Try.prog 63 [(Value.agg #[(int i64 p0_g_Size), p0_g_Rowsv]), p1_lv].toArray w0 (retPost fun v w' => v = (Value.bool r) ∧ Mem Nob w0 w' []) := by
 have hM : Mem Nob w0 w0 [(false, rd p0_g_Rowsv (List.map (int i64) p0_g_Rows)), (false, rd p1_lv (List.map (int i64) p1_l))] := (Mem.rcons (Mem.rcons (Mem.nil w0) h1 (by simp)) h0 (by simp))
 refine enter2 Try.func63 rfl rfl rfl fun Q a hQr hQn hQp hS => ?_
 have hS : Sl 44 [(0, (Value.agg #[(int i64 p0_g_Size), p0_g_Rowsv])), (1, p1_lv)] a := hS
 unfold S_spec_IsLexOrder at hF
 refine wp_seq_k fun K1 hK1 => ?_
 refine wp_region_lit ?_
 obtain ⟨b3, w, hr, hM⟩ := hM.boxE (ρ := a.eval) (dst := some 2) (ty := _) (pos := _) (af := _) (gd := _) (x := .tmp 0) (T := 28) [(int i64 p0_g_Size), p0_g_Rowsv] (hS.ev rfl) rfl
 refine st_val hS rfl rfl (by decide) hr fun a hS => ?_
 refine st_val hS rfl rfl (by decide) (rv_assign (hS.ev rfl)) fun a hS => ?_
 refine wpList_nil ?_
 refine hK1 _ _ ?_
 refine wp_seq_k fun K4 hK4 => ?_
 refine wp_seq_k fun K9 hK9 => ?_
 refine wp_region_lit ?_
 refine st_val hS rfl rfl (by decide) (rv_load_agg (hS.ev rfl) ty_ag_28 (hM.get 0 rfl) ty_sz_28) fun a hS => ?_
 refine st_val hS rfl rfl (by decide) (rv_move (hS.ev rfl)) fun a hS => ?_
 obtain ⟨r11, hr, hF⟩ := bind_some hF
 refine st_wp hS rfl (wp_call hS rfl rfl (by decide) fn_ok_64 rfl (c_spec_IsOrder F p0_g_Size p0_g_Rows p1_l p0_g_Rowsv p1_lv hr _ (hM.get 1 rfl) (hM.get 2 rfl)) fun v w a hK hS => ?_)
 obtain ⟨rfl, hN⟩ := hK
 have hM := hM.fra hN.fr
 refine st_val hS rfl rfl (by decide) (rv_not (hS.ev rfl)) fun a hS => ?_
 refine wpList_nil ?_
 refine hK9 _ _ ?_
 rcases ite_some hF with ⟨hc, hF⟩ | ⟨hc, hF⟩
 ·refine cond_t hS rfl hc ?_
  refine wp_seq_k fun K12 hK12 => ?_
  refine wp_region_lit ?_
  refine st_val hS rfl rfl (by decide) (rv_assign (hS.ev rfl)) fun a hS => ?_
  refine wpList_nil ?_
  refine hK12 _ _ ?_
  have hS : Sl 44 [(4, (Value.bool false))] a := hS.sub (sub_cons rfl sub_nil)
  have hM := hM.pick [] (by decide) rfl
  refine wp_ret ?_
  cases hF
  exact hQr _ _ (r_1 hS rfl rfl ⟨rfl, hM.pick [] (by decide) rfl⟩)
 ·refine cond_f hS rfl hc ?_
  refine wp_skip ?_
  refine hK4 _ _ ?_
  refine wp_seq_k fun K13 hK13 => ?_
  have hJ1 : ∀ (a : Act) (w : World), Sl 44 [] a → Mem Nob w0 w [] → S_spec_IsLexOrder_j1 F = some r → K13 a w := by
   intro a w hS hM hF
   unfold S_spec_IsLexOrder_j1 at hF
   refine hK13 _ _ ?_
   refine wp_seq_k fun K288 hK288 => ?_
   refine wp_region_lit ?_
   refine st_val hS rfl rfl (by decide) (rv_assign (hS.ev rfl)) fun a hS => ?_
   refine wpList_nil ?_
   refine hK288 _ _ ?_
   refine wp_ret ?_
   cases hF
   exact hQr _ _ (r_1 hS rfl rfl ⟨rfl, hM.pick [] (by decide) rfl⟩)
  refine wp_seq_k fun K289 hK289 => ?_
  refine wp_region_lit ?_
  refine st_val hS rfl rfl (by decide) (rv_assign (hS.ev rfl)) fun a hS => ?_
  refine wpList_nil ?_
  refine hK289 _ _ ?_
  refine wp_block ?_
  obtain ⟨lb2, hl2, hF2⟩ := bind_some hF
  refine wp_loop_sh (fun s => S_spec_IsLexOrder_l2 F p0_g_Size p0_g_Rows p1_l s) (fun s a w => Sl 44 [(1, p1_lv), (2, (fdp b3 0)), (5, (int i64 s))] a ∧ Mem Nob w0 w [(false, rd p1_lv (List.map (int i64) p1_l)), (true, bx b3 28 [(int i64 p0_g_Size), p0_g_Rowsv]), (false, rd p0_g_Rowsv (List.map (int i64) p0_g_Rows))]) hl2 ⟨(hS.sub (sub_cons rfl (sub_cons rfl (sub_cons rfl sub_nil)))), (hM.pick [2, 0, 1] (by decide) rfl)⟩ ?_
  rintro K2 x290 a w res2 ⟨hS, hM⟩ hF hN2 hX2
  have hF : S_spec_IsLexOrder_l2 F p0_g_Size p0_g_Rows p1_l x290 = some res2 := hF
  have hS : Sl 44 [(1, p1_lv), (2, (fdp b3 0)), (5, (int i64 x290))] a := hS
  have hM : Mem Nob w0 w [(false, rd p1_lv (List.map (int i64) p1_l)), (true, bx b3 28 [(int i64 p0_g_Size), p0_g_Rowsv]), (false, rd p0_g_Rowsv (List.map (int i64) p0_g_Rows))] := hM
  unfold S_spec_IsLexOrder_l2 at hF
  refine wp_seq_k fun K427 hK427 => ?_
  refine wp_seq_k fun K429 hK429 => ?_
  refine wp_region_lit ?_
  refine st_val hS rfl rfl (by decide) (rv_move (hS.ev rfl)) fun a hS => ?_
  refine st_val hS rfl rfl (by decide) (rv_move (hS.ev rfl)) fun a hS => ?_
  refine st_val hS rfl rfl (by decide) (rv_len_rowM Try.underlying22 (hS.ev rfl) (hM.get 0 rfl)) fun a hS => ?_
  refine st_val hS rfl rfl (by decide) (rv_lss (hS.ev rfl) (hS.ev rfl)) fun a hS => ?_
  refine wpList_nil ?_
  refine hK429 _ _ ?_
  rcases ite_some hF with ⟨hc, hF⟩ | ⟨hc, hF⟩
  ·refine cond_t hS rfl hc ?_
   refine wp_skip ?_
   refine hK427 _ _ ?_
   refine wp_seq_k fun K430 hK430 => ?_
   have hJ3 : ∀ (a : Act) (w : World), Sl 44 [(1, p1_lv), (2, (fdp b3 0)), (5, (int i64 x290))] a → Mem Nob w0 w [(false, rd p1_lv (List.map (int i64) p1_l)), (true, bx b3 28 [(int i64 p0_g_Size), p0_g_Rowsv]), (false, rd p0_g_Rowsv (List.map (int i64) p0_g_Rows))] → S_spec_IsLexOrder_j3 F x290 = some res2 → K430 a w := by
    intro a w hS hM hF
    unfold S_spec_IsLexOrder_j3 at hF
    refine hK430 _ _ ?_
    refine wp_region_lit ?_
    refine st_val hS rfl rfl (by decide) (rv_move (hS.ev rfl)) fun a hS => ?_
    refine st_val hS rfl rfl (by decide) (rv_add (hS.ev rfl) (hS.ev rfl)) fun a hS => ?_
    refine st_val hS rfl rfl (by decide) (rv_assign (hS.ev rfl)) fun a hS => ?_
    refine wpList_nil ?_
    cases hF
    exact hN2 _ _ _ rfl ⟨(hS.sub (sub_cons rfl (sub_cons rfl (sub_cons rfl sub_nil)))), (hM.pick [0, 1, 2] (by decide) rfl)⟩
   refine wp_block ?_
   refine wp_seq_k fun K497 hK497 => ?_
   refine wp_region_lit ?_
   refine st_val hS rfl rfl (by decide) (rv_move (hS.ev rfl)) fun a hS => ?_
   refine st_val hS rfl rfl (by decide) (rv_add (hS.ev rfl) (hS.ev rfl)) fun a hS => ?_
   refine st_val hS rfl rfl (by decide) (rv_assign (hS.ev rfl)) fun a hS => ?_
   refine wpList_nil ?_
   refine hK497 _ _ ?_
   refine wp_block ?_
   obtain ⟨lb4, hl4, hF4⟩ := bind_some hF
   refine wp_loop_sh (fun s => S_spec_IsLexOrder_l4 F p0_g_Size p0_g_Rows p1_l x290 s) (fun s a w => Sl 44 [(1, p1_lv), (2, (fdp b3 0)), (5, (int i64 x290)), (6, (int i64 s))] a ∧ Mem Nob w0 w [(false, rd p1_lv (List.map (int i64) p1_l)), (true, bx b3 28 [(int i64 p0_g_Size), p0_g_Rowsv]), (false, rd p0_g_Rowsv (List.map (int i64) p0_g_Rows))]) hl4 ⟨(hS.sub (sub_cons rfl (sub_cons rfl (sub_cons rfl (sub_cons rfl sub_nil))))), (hM.pick [0, 1, 2] (by decide) rfl)⟩ ?_
   rintro K4 x498 a w res4 ⟨hS, hM⟩ hF hN4 hX4
   have hF : S_spec_IsLexOrder_l4 F p0_g_Size p0_g_Rows p1_l x290 x498 = some res4 := hF
   have hS : Sl 44 [(1, p1_lv), (2, (fdp b3 0)), (5, (int i64 x290)), (6, (int i64 x498))] a := hS
   have hM : Mem Nob w0 w [(false, rd p1_lv (List.map (int i64) p1_l)), (true, bx b3 28 [(int i64 p0_g_Size), p0_g_Rowsv]), (false, rd p0_g_Rowsv (List.map (int i64) p0_g_Rows))] := hM
   unfold S_spec_IsLexOrder_l4 at hF
   refine wp_seq_k fun K531 hK531 => ?_
   refine wp_seq_k fun K533 hK533 => ?_
   refine wp_region_lit ?_
   refine st_val hS rfl rfl (by decide) (rv_move (hS.ev rfl)) fun a hS => ?_
   refine st_val hS rfl rfl (by decide) (rv_move (hS.ev rfl)) fun a hS => ?_
   refine st_val hS rfl rfl (by decide) (rv_len_rowM Try.underlying22 (hS.ev rfl) (hM.get 0 rfl)) fun a hS => ?_
   refine st_val hS rfl rfl (by decide) (rv_lss (hS.ev rfl) (hS.ev rfl)) fun a hS => ?_
   refine wpList_nil ?_
   refine hK533 _ _ ?_
   rcases ite_some hF with ⟨hc, hF⟩ | ⟨hc, hF⟩
   ·refine cond_t hS rfl hc ?_
    refine wp_skip ?_
    refine hK531 _ _ ?_
    refine wp_seq_k fun K534 hK534 => ?_
    refine wp_block ?_
    refine wp_seq_k fun K549 hK549 => ?_
    refine an_startB 19 Nob ty_mixed (by kernel_rfl) fun w hf => ?_
    have hM := hM.fra hf
    have hB := hM
    have hM := hB.reg0
    refine tkB hS 0 1 (by kernel_rfl) rfl rfl rfl hQp rfl (fun w' hC' => (rv_load_agg (hS.ev rfl) ty_ag_28 ((hB.fra hC').get 1 rfl) ty_sz_28)) hM.fr fun a hS => ?_
    refine tkB hS 1 3 (by kernel_rfl) rfl rfl rfl hQp rfl (fun w' hC' => (rv_move (hS.ev rfl))) hM.fr fun a hS => ?_
    refine tkB hS 2 7 (by kernel_rfl) rfl rfl rfl hQp rfl (fun w' hC' => (rv_move (hS.ev rfl))) hM.fr fun a hS => ?_
    obtain ⟨_, hx, hF⟩ := bind_some hF
    have hj556 := slO_some hx
    refine tkB hS 3 15 (by kernel_rfl) rfl rfl rfl hQp rfl (fun w' hC' => (rv_slH Try.underlying22 ty_el_3 (hS.ev rfl) (hS.ev rfl) (hM.get 0 rfl) hj556.1 (map_le hj556.2))) hM.fr fun a hS => ?_
    refine tkB hS 4 31 (by kernel_rfl) rfl rfl rfl hQp rfl (fun w' hC' => (rv_move (hS.ev rfl))) hM.fr fun a hS => ?_
    refine tkB hS 5 63 (by kernel_rfl) rfl rfl rfl hQp rfl (fun w' hC' => (rv_move (hS.ev rfl))) hM.fr fun a hS => ?_
    obtain ⟨x557, hx, hF⟩ := bind_some hF
    obtain ⟨hi0, hi1, hex557⟩ := idxL_some hx
    refine tkB hS 6 127 (by kernel_rfl) rfl rfl rfl hQp rfl (fun w' hC' => (rv_indexAddr Try.underlying22 ty_el_3 (hS.ev rfl) (hS.ev rfl) (hM.get 0 rfl) hi0 (map_len hi1))) hM.fr fun a hS => ?_
    refine tkB hS 7 255 (by kernel_rfl) rfl rfl rfl hQp rfl (fun w' hC' => (rv_load_el (hS.ev rfl) ty_ag_3 ((hB.fra hC').get 0 rfl) (mget hex557))) hM.fr fun a hS => ?_
    refine tkB hS 9 767 (by kernel_rfl) rfl rfl rfl hQp rfl (fun w' hC' => (rv_load_agg (hS.ev rfl) ty_ag_28 ((hB.fra hC').get 1 rfl) ty_sz_28)) hM.fr fun a hS => ?_
    refine tkB hS 10 1791 (by kernel_rfl) rfl rfl rfl hQp rfl (fun w' hC' => (rv_move (hS.ev rfl))) hM.fr fun a hS => ?_
    refine tkB hS 11 3839 (by kernel_rfl) rfl rfl rfl hQp rfl (fun w' hC' => (rv_move (hS.ev rfl))) hM.fr fun a hS => ?_
    obtain ⟨_, hx, hF⟩ := bind_some hF
    have hj558 := slO_some hx
    refine tkB hS 12 7935 (by kernel_rfl) rfl rfl rfl hQp rfl (fun w' hC' => (rv_slH Try.underlying22 ty_el_3 (hS.ev rfl) (hS.ev rfl) (hM.get 0 rfl) hj558.1 (map_le hj558.2))) hM.fr fun a hS => ?_
    refine tkB hS 13 16127 (by kernel_rfl) rfl rfl rfl hQp rfl (fun w' hC' => (rv_move (hS.ev rfl))) hM.fr fun a hS => ?_
    refine tkB hS 14 32511 (by kernel_rfl) rfl rfl rfl hQp rfl (fun w' hC' => (rv_move (hS.ev rfl))) hM.fr fun a hS => ?_
    obtain ⟨x559, hx, hF⟩ := bind_some hF
    obtain ⟨hi0, hi1, hex559⟩ := idxL_some hx
    refine tkB hS 15 65279 (by kernel_rfl) rfl rfl rfl hQp rfl (fun w' hC' => (rv_indexAddr Try.underlying22 ty_el_3 (hS.ev rfl) (hS.ev rfl) (hM.get 0 rfl) hi0 (map_len hi1))) hM.fr fun a hS => ?_
    refine tkB hS 16 130815 (by kernel_rfl) rfl rfl rfl hQp rfl (fun w' hC' => (rv_load_el (hS.ev rfl) ty_ag_3 ((hB.fra hC').get 0 rfl) (mget hex559))) hM.fr fun a hS => ?_
    obtain ⟨r560, hr, hF⟩ := bind_some hF
    refine an_oneB hS (i := 8) 131071 (by kernel_rfl) rfl (by kernel_rfl) rfl ?_
    refine wp_call hS rfl rfl (by decide) fn_ok_99 rfl (c_spec_l5Label F p0_g_Size p0_g_Rows (p1_l.take (x290.toNat)) x557 p0_g_Rowsv (slH p1_lv (x290.toNat)) hr _ (hM.get 2 rfl) (rd_slHm (hM.get 0 rfl) hj556.2)) fun v w a hK hS => ?_
    obtain ⟨rfl, hN⟩ := hK
    have hM := hM.fra hN.fr
    refine ⟨hM.fr, ?_⟩
    obtain ⟨r561, hr, hF⟩ := bind_some hF
    refine an_oneB hS (i := 17) 262143 (by kernel_rfl) rfl (by kernel_rfl) rfl ?_
    refine wp_call hS rfl rfl (by decide) fn_ok_99 rfl (c_spec_l5Label F p0_g_Size p0_g_Rows (p1_l.take (x290.toNat)) x559 p0_g_Rowsv (slH p1_lv (x290.toNat)) hr _ (hM.get 2 rfl) (rd_slHm (hM.get 0 rfl) hj558.2)) fun v w a hK hS => ?_
    obtain ⟨rfl, hN⟩ := hK
    have hM := hM.fra hN.fr
    refine ⟨hM.fr, ?_⟩
    refine tkB hS 18 524287 (by kernel_rfl) rfl rfl rfl hQp rfl (fun w' hC' => (rv_gtr (hS.ev rfl) (hS.ev rfl))) hM.fr fun a hS => ?_
    refine an_done (by kernel_rfl) ?_
    have hN := hM.pick [] (by decide) rfl
    have hM := Mem.callo0 hB hN rfl
    refine hK549 _ _ ?_
    have hS : Sl 44 [(1, p1_lv), (2, (fdp b3 0)), (5, (int i64 x290)), (6, (int i64 x498)), (43, (Value.bool (decide (r561 < r560))))] a := hS.sub (sub_cons rfl (sub_cons rfl (sub_cons rfl (sub_cons rfl (sub_cons rfl sub_nil)))))
    rcases ite_some hF with ⟨hc, hF⟩ | ⟨hc, hF⟩
    ·refine cond_t hS rfl hc ?_
     refine wp_seq_k fun K562 hK562 => ?_
     refine wp_region_lit ?_
     refine st_val hS rfl rfl (by decide) (rv_assign (hS.ev rfl)) fun a hS => ?_
     refine wpList_nil ?_
     refine hK562 _ _ ?_
     have hS : Sl 44 [(4, (Value.bool false))] a := hS.sub (sub_cons rfl sub_nil)
     have hM := hM.pick [] (by decide) rfl
     refine wp_ret ?_
     cases hF
     have e := hX4 _ rfl
     subst e
     have hF := hF4
     cases hF
     have e := hX2 _ rfl
     subst e
     have hF := hF2
     cases hF
     exact hQr _ _ (r_1 hS rfl rfl ⟨rfl, hM.pick [] (by decide) rfl⟩)
    ·refine cond_f hS rfl hc ?_
     refine wp_skip ?_
     refine hK534 _ _ ?_
     refine wp_region_lit ?_
     refine st_val hS rfl rfl (by decide) (rv_move (hS.ev rfl)) fun a hS => ?_
     refine st_val hS rfl rfl (by decide) (rv_add (hS.ev rfl) (hS.ev rfl)) fun a hS => ?_
     refine st_val hS rfl rfl (by decide) (rv_assign (hS.ev rfl)) fun a hS => ?_
     refine wpList_nil ?_
     cases hF
     exact hN4 _ _ _ rfl ⟨(hS.sub (sub_cons rfl (sub_cons rfl (sub_cons rfl (sub_cons rfl sub_nil))))), (hM.pick [0, 1, 2] (by decide) rfl)⟩
   ·refine cond_f hS rfl hc ?_
    refine wp_exit ?_
    cases hF
    exact hJ3 _ _ (hS.sub (sub_cons rfl (sub_cons rfl (sub_cons rfl sub_nil)))) (hM.pick [0, 1, 2] (by decide) rfl) (by have e := hX4 _ rfl; subst e; exact hF4)
  ·refine cond_f hS rfl hc ?_
   refine wp_exit ?_
   cases hF
   exact hJ1 _ _ (hS.sub sub_nil) (hM.pick [] (by decide) rfl) (by have e := hX2 _ rfl; subst e; exact hF2)


theorem c_spec_l3Grow (F : Nat) (p0_g_Size : Int) (p0_g_Rows : List Int) (p1_from : Int) (p2_set : Int) (p0_g_Rowsv : Value) {r : Int} (hF : S_spec_l3Grow F p0_g_Size p0_g_Rows p1_from p2_set = some r) (w0 : World) (h0 : RdRow w0 p0_g_Rowsv (List.map (int i64) p0_g_Rows)) :
    Calls Try.prog 127 [(Value.agg #[(int i64 p0_g_Size), p0_g_Rowsv]), (int i64 p1_from), (int i64 p2_set)].toArray w0 (retPost fun v w' => v = (int i64 r) ∧ Mem Nob w0 w' []) := by
 have hM : Mem Nob w0 w0 [(false, rd p0_g_Rowsv (List.map (int i64) p0_g_Rows))] := (Mem.rcons (Mem.nil w0) h0 (by simp))
 refine enter2 Try.func127 rfl rfl rfl fun Q a hQr hQn hQp hS => ?_
 have hS : Sl 22 [(0, (Value.agg #[(int i64 p0_g_Size), p0_g_Rowsv])), (1, (int i64 p1_from)), (2, (int i64 p2_set))] a := hS
 unfold S_spec_l3Grow at hF
 refine wp_seq_k fun K1 hK1 => ?_
 refine wp_region_lit ?_
 obtain ⟨b3, w, hr, hM⟩ := hM.boxE (ρ := a.eval) (dst := some 3) (ty := _) (pos := _) (af := _) (gd := _) (x := .tmp 0) (T := 28) [(int i64 p0_g_Size), p0_g_Rowsv] (hS.ev rfl) rfl
 refine st_val hS rfl rfl (by decide) hr fun a hS => ?_
 refine st_val hS rfl rfl (by decide) (rv_assign (hS.ev rfl)) fun a hS => ?_
 refine wpList_nil ?_
 refine hK1 _ _ ?_
 refine wp_seq_k fun K4 hK4 => ?_
 refine wp_region_lit ?_
 refine st_val hS rfl rfl (by decide) (rv_move (hS.ev rfl)) fun a hS => ?_
 refine st_val hS rfl rfl (by decide) (rv_assign (hS.ev rfl)) fun a hS => ?_
 refine wpList_nil ?_
 refine hK4 _ _ ?_
 refine wp_seq_k fun K5 hK5 => ?_
 have hJ1 : ∀ (x21 : Int) (a : Act) (w : World), Sl 22 [(7, (int i64 x21))] a → Mem Nob w0 w [] → S_spec_l3Grow_j1 F x21 = some r → K5 a w := by
  intro x21 a w hS hM hF
  unfold S_spec_l3Grow_j1 at hF
  refine hK5 _ _ ?_
  refine wp_seq_k fun K22 hK22 => ?_
  refine wp_region_lit ?_
  refine st_val hS rfl rfl (by decide) (rv_move (hS.ev rfl)) fun a hS => ?_
  refine st_val hS rfl rfl (by decide) (rv_assign (hS.ev rfl)) fun a hS => ?_
  refine wpList_nil ?_
  refine hK22 _ _ ?_
  refine wp_ret ?_
  cases hF
  exact hQr _ _ (r_1 hS rfl rfl ⟨rfl, hM.pick [] (by decide) rfl⟩)
 refine wp_seq_k fun K23 hK23 => ?_
 refine wp_region_lit ?_
 refine st_val hS rfl rfl (by decide) (rv_assign (hS.ev rfl)) fun a hS => ?_
 refine wpList_nil ?_
 refine hK23 _ _ ?_
 refine wp_block ?_
 obtain ⟨lb2, hl2, hF2⟩ := bind_some hF
 refine wp_loop_sh (fun s => S_spec_l3Grow_l2 F p0_g_Size p0_g_Rows p2_set s.1 s.2) (fun s a w => Sl 22 [(2, (int i64 p2_set)), (3, (fdp b3 0)), (7, (int i64 s.1)), (8, (int i64 s.2))] a ∧ Mem Nob w0 w [(true, bx b3 28 [(int i64 p0_g_Size), p0_g_Rowsv]), (false, rd p0_g_Rowsv (List.map (int i64) p0_g_Rows))]) hl2 ⟨(hS.sub (sub_cons rfl (sub_cons rfl (sub_cons rfl (sub_cons rfl sub_nil))))), (hM.pick [0, 1] (by decide) rfl)⟩ ?_
 rintro K2 ⟨x24, x25⟩ a w res2 ⟨hS, hM⟩ hF hN2 hX2
 have hF : S_spec_l3Grow_l2 F p0_g_Size p0_g_Rows p2_set x24 x25 = some res2 := hF
 have hS : Sl 22 [(2, (int i64 p2_set)), (3, (fdp b3 0)), (7, (int i64 x24)), (8, (int i64 x25))] a := hS
 have hM : Mem Nob w0 w [(true, bx b3 28 [(int i64 p0_g_Size), p0_g_Rowsv]), (false, rd p0_g_Rowsv (List.map (int i64) p0_g_Rows))] := hM
 unfold S_spec_l3Grow_l2 at hF
 refine wp_seq_k fun K32 hK32 => ?_
 refine wp_seq_k fun K34 hK34 => ?_
 refine wp_region_lit ?_
 refine st_val hS rfl rfl (by decide) (rv_move (hS.ev rfl)) fun a hS => ?_
 refine st_val hS rfl rfl (by decide) (rv_fieldAddr ty_fd_28_0 (hS.ev rfl)) fun a hS => ?_
 refine st_val hS rfl rfl (by decide) (rv_load_bx (hS.ev rfl) ty_ag_3 (hM.get 0 rfl) rfl) fun a hS => ?_
 refine st_val hS rfl rfl (by decide) (rv_lss (hS.ev rfl) (hS.ev rfl)) fun a hS => ?_
 refine wpList_nil ?_
 refine hK34 _ _ ?_
 rcases ite_some hF with ⟨hc, hF⟩ | ⟨hc, hF⟩
 ·refine cond_t hS rfl hc ?_
  refine wp_skip ?_
  refine hK32 _ _ ?_
  refine wp_seq_k fun K35 hK35 => ?_
  refine wp_block ?_
  refine wp_region_lit ?_
  refine st_val hS rfl rfl (by decide) (rv_load_agg (hS.ev rfl) ty_ag_28 (hM.get 0 rfl) ty_sz_28) fun a hS => ?_
  refine st_val hS rfl rfl (by decide) (rv_move (hS.ev rfl)) fun a hS => ?_
  obtain ⟨r37, hr, hF⟩ := bind_some hF
  refine st_wp hS rfl (wp_call hS rfl rfl (by decide) fn_ok_114 rfl (c_spec_AroundSet F p0_g_Size p0_g_Rows x24 p0_g_Rowsv hr _ (hM.get 1 rfl)) fun v w a hK hS => ?_)
  obtain ⟨rfl, hN⟩ := hK
  have hM := hM.fra hN.fr
  refine st_val hS rfl rfl (by decide) (rv_move (hS.ev rfl)) fun a hS => ?_
  refine st_val hS rfl rfl (by decide) (rv_and (hS.ev rfl) (hS.ev rfl)) fun a hS => ?_
  refine st_val hS rfl rfl (by decide) (rv_assign (hS.ev rfl)) fun a hS => ?_
  refine wpList_nil ?_
  refine hK35 _ _ ?_
  have hS : Sl 22 [(2, (int i64 p2_set)), (3, (fdp b3 0)), (7, (int i64 (bAnd r37 p2_set))), (8, (int i64 x25))] a := hS.sub (sub_cons rfl (sub_cons rfl (sub_cons rfl (sub_cons rfl sub_nil))))
  refine wp_region_lit ?_
  refine st_val hS rfl rfl (by decide) (rv_move (hS.ev rfl)) fun a hS => ?_
  refine st_val hS rfl rfl (by decide) (rv_add (hS.ev rfl) (hS.ev rfl)) fun a hS => ?_
  refine st_val hS rfl rfl (by decide) (rv_assign (hS.ev rfl)) fun a hS => ?_
  refine wpList_nil ?_
  cases hF
  exact hN2 _ _ _ rfl ⟨(hS.sub (sub_cons rfl (sub_cons rfl (sub_cons rfl (sub_cons rfl sub_nil))))), (hM.pick [0, 1] (by decide) rfl)⟩
 ·refine cond_f hS rfl hc ?_
  refine wp_exit ?_
  cases hF
  exact hJ1 x24 _ _ (hS.sub (sub_cons rfl sub_nil)) (hM.pick [] (by decide) rfl) (by have e := hX2 _ rfl; subst e; exact hF2)


theorem c_spec_PartsOf (F : Nat) (p0_g_Size : Int) (p0_g_Rows : List Int) (p1_set : Int) (p0_g_Rowsv : Value) {r : (List (Int))} (hF : S_spec_PartsOf F p0_g_Size p0_g_Rows p1_set = some r) (w0 : World) (h0 : RdRow w0 p0_g_Rowsv (List.map (int i64) p0_g_Rows)) :
    Calls Try.prog 115 [(Value.agg #[(int i64 p0_g_Size), p0_g_Rowsv]), (int i64 p1_set)].toArray w0 (retPost fun v w' => Mem Nob w0 w' [(true, ow 3 v (List.map (int i64) r))]) := by
 have hM : Mem Nob w0 w0 [(false, rd p0_g_Rowsv (List.map (int i64) p0_g_Rows))] := (Mem.rcons (Mem.nil w0) h0 (by simp))
 refine enter2 Try.func115 rfl rfl rfl fun Q a hQr hQn hQp hS => ?_
 have hS : Sl 35 [(0, (Value.agg #[(int i64 p0_g_Size), p0_g_Rowsv])), (1, (int i64 p1_set))] a := hS
 unfold S_spec_PartsOf at hF
 refine wp_seq_k fun K1 hK1 => ?_
 refine wp_region_lit ?_
 obtain ⟨b3, w, hr, hM⟩ := hM.boxE (ρ := a.eval) (dst := some 2) (ty := _) (pos := _) (af := _) (gd := _) (x := .tmp 0) (T := 28) [(int i64 p0_g_Size), p0_g_Rowsv] (hS.ev rfl) rfl
 refine st_val hS rfl rfl (by decide) hr fun a hS => ?_
 refine st_val hS rfl rfl (by decide) (rv_assign (hS.ev rfl)) fun a hS => ?_
 refine wpList_nil ?_
 refine hK1 _ _ ?_
 refine wp_seq_k fun K4 hK4 => ?_
 refine wp_region_lit ?_
 obtain ⟨v6, w, hr, hM⟩ := Mem.litE (f := (int i64)) (dst := some 9) (ty := _) (pos := _) (af := _) (gd := _) (ps := []) ([] : List (Int)) i64_one hM hS Try.underlying22 ty_el_3 rfl rfl rfl rfl
 refine st_val hS rfl rfl (by decide) hr fun a hS => ?_
 refine st_val hS rfl rfl (by decide) (rv_assign (hS.ev rfl)) fun a hS => ?_
 refine wpList_nil ?_
 refine hK4 _ _ ?_
 refine wp_seq_k fun K7 hK7 => ?_
 refine wp_region_lit ?_
 refine st_val hS rfl rfl (by decide) (rv_move (hS.ev rfl)) fun a hS => ?_
 refine st_val hS rfl rfl (by decide) (rv_assign (hS.ev rfl)) fun a hS => ?_
 refine wpList_nil ?_
 refine hK7 _ _ ?_
 refine wp_seq_k fun K8 hK8 => ?_
 have hJ1 : ∀ (l61 : List Int) (v60 : Value) (a : Act) (w : World), Sl 35 [(5, v60)] a → Mem Nob w0 w [(true, ow 3 v60 (List.map (int i64) l61))] → S_spec_PartsOf_j1 F l61 = some r → K8 a w := by
  intro l61 v60 a w hS hM hF
  unfold S_spec_PartsOf_j1 at hF
  refine hK8 _ _ ?_
  refine wp_seq_k fun K62 hK62 => ?_
  refine wp_region_lit ?_
  refine st_val hS rfl rfl (by decide) (rv_move (hS.ev rfl)) fun a hS => ?_
  refine st_val hS rfl rfl (by decide) (rv_assign (hS.ev rfl)) fun a hS => ?_
  refine wpList_nil ?_
  refine hK62 _ _ ?_
  refine wp_ret ?_
  cases hF
  exact hQr _ _ (r_1 hS rfl rfl (hM.pick [0] (by decide) rfl))
 refine wp_block ?_
 obtain ⟨lb2, hl2, hF2⟩ := bind_some hF
 refine wp_loop_sh (fun s => S_spec_PartsOf_l2 F p0_g_Size p0_g_Rows p1_set s.1 s.2) (fun s a w => ∃ (v63 : Value), Sl 35 [(1, (int i64 p1_set)), (2, (fdp b3 0)), (5, v63), (6, (int i64 s.2))] a ∧ Mem Nob w0 w [(true, bx b3 28 [(int i64 p0_g_Size), p0_g_Rowsv]), (false, rd p0_g_Rowsv (List.map (int i64) p0_g_Rows)), (true, ow 3 v63 (List.map (int i64) s.1))]) hl2 ⟨v6, (hS.sub (sub_cons rfl (sub_cons rfl (sub_cons rfl (sub_cons rfl sub_nil))))), (hM.pick [1, 2, 0] (by decide) rfl)⟩ ?_
 rintro K2 ⟨l64, x65⟩ a w res2 ⟨v63, hS, hM⟩ hF hN2 hX2
 have hF : S_spec_PartsOf_l2 F p0_g_Size p0_g_Rows p1_set l64 x65 = some res2 := hF
 have hS : Sl 35 [(1, (int i64 p1_set)), (2, (fdp b3 0)), (5, v63), (6, (int i64 x65))] a := hS
 have hM : Mem Nob w0 w [(true, bx b3 28 [(int i64 p0_g_Size), p0_g_Rowsv]), (false, rd p0_g_Rowsv (List.map (int i64) p0_g_Rows)), (true, ow 3 v63 (List.map (int i64) l64))] := hM
 unfold S_spec_PartsOf_l2 at hF
 refine wp_seq_k fun K90 hK90 => ?_
 refine wp_seq_k fun K95 hK95 => ?_
 have hJ3 : ∀ (p97 : Bool) (a : Act) (w : World), Sl 35 [(1, (int i64 p1_set)), (2, (fdp b3 0)), (5, v63), (6, (int i64 x65)), (17, (Value.bool p97))] a → Mem Nob w0 w [(true, bx b3 28 [(int i64 p0_g_Size), p0_g_Rowsv]), (false, rd p0_g_Rowsv (List.map (int i64) p0_g_Rows)), (true, ow 3 v63 (List.map (int i64) l64))] → S_spec_PartsOf_j3 F p0_g_Size p0_g_Rows p1_set l64 x65 p97 = some res2 → K95 a w := by
  intro p97 a w hS hM hF
  unfold S_spec_PartsOf_j3 at hF
  refine hK95 _ _ ?_
  rcases ite_some hF with ⟨hc, hF⟩ | ⟨hc, hF⟩
  ·refine cond_t hS rfl hc ?_
   refine wp_skip ?_
   refine hK90 _ _ ?_
   refine wp_block ?_
   refine wp_seq_k fun K98 hK98 => ?_
   refine wp_region_lit ?_
   refine st_val hS rfl rfl (by decide) (rv_move (hS.ev rfl)) fun a hS => ?_
   obtain ⟨r102, hr, hF⟩ := bind_some hF
   refine st_wp hS rfl (wp_call hS rfl rfl (by decide) fn_ok_125 rfl (c_spec_ListOf F x65 hr _) fun v103 w a hK hS => ?_)
   have hN := hK
   have hM := hM.add hN rfl
   obtain ⟨x104, hx, hF⟩ := bind_some hF
   obtain ⟨hi0, hi1, hex104⟩ := idxL_some hx
   refine st_val hS rfl rfl (by decide) (rv_indexAddr Try.underlying22 ty_el_3 (hS.ev rfl) (hS.ev rfl) (rd_of_ow (hM.get 0 rfl)) hi0 (map_len hi1)) fun a hS => ?_
   refine st_val hS rfl rfl (by decide) (rv_load_el (hS.ev rfl) ty_ag_3 (rd_of_ow (hM.get 0 rfl)) (mget hex104)) fun a hS => ?_
   refine st_val hS rfl rfl (by decide) (rv_assign (hS.ev rfl)) fun a hS => ?_
   refine wpList_nil ?_
   refine hK98 _ _ ?_
   refine wp_seq_k fun K105 hK105 => ?_
   refine an_startB 6 Nob ty_mixed (by kernel_rfl) fun w hf => ?_
   have hM := hM.fra hf
   have hB := hM
   have hM := hB.reg0
   refine tkB hS 0 1 (by kernel_rfl) rfl rfl rfl hQp rfl (fun w' hC' => (rv_load_agg (hS.ev rfl) ty_ag_28 ((hB.fra hC').get 1 rfl) ty_sz_28)) hM.fr fun a hS => ?_
   refine tkB hS 1 3 (by kernel_rfl) rfl rfl rfl hQp rfl (fun w' hC' => (rv_move (hS.ev rfl))) hM.fr fun a hS => ?_
   obtain ⟨_, hx, hF⟩ := bind_some hF
   have hi0 := nnO_some hx
   refine tkB hS 2 7 (by kernel_rfl) rfl rfl rfl hQp rfl (fun w' hC' => (rv_shl (hS.ev rfl) (hS.ev rfl) hi0)) hM.fr fun a hS => ?_
   refine tkB hS 3 15 (by kernel_rfl) rfl rfl rfl hQp rfl (fun w' hC' => (rv_move (hS.ev rfl))) hM.fr fun a hS => ?_
   obtain ⟨r107, hr, hF⟩ := bind_some hF
   refine an_oneB hS (i := 4) 31 (by kernel_rfl) rfl (by kernel_rfl) rfl ?_
   refine wp_call hS rfl rfl (by decide) fn_ok_127 rfl (c_spec_l3Grow F p0_g_Size p0_g_Rows (shL 1 x104) p1_set p0_g_Rowsv hr _ (hM.get 2 rfl)) fun v w a hK hS => ?_
   obtain ⟨rfl, hN⟩ := hK
   have hM := hM.fra hN.fr
   refine ⟨hM.fr, ?_⟩
   refine tkB hS 5 63 (by kernel_rfl) rfl rfl rfl hQp rfl (fun w' hC' => (rv_assign (hS.ev rfl))) hM.fr fun a hS => ?_
   refine an_done (by kernel_rfl) ?_
   have hN := hM.pick [] (by decide) rfl
   have hM := Mem.callo0 hB hN rfl
   refine hK105 _ _ ?_
   have hS : Sl 35 [(1, (int i64 p1_set)), (2, (fdp b3 0)), (5, v63), (6, (int i64 x65)), (8, (int i64 r107))] a := hS.sub (sub_cons rfl (sub_cons rfl (sub_cons rfl (sub_cons rfl (sub_cons rfl sub_nil)))))
   have hM := hM.pick [1, 2, 3] (by decide) rfl
   refine wp_seq_k fun K108 hK108 => ?_
   refine wp_region_lit ?_
   refine st_val hS rfl rfl (by decide) (rv_move (hS.ev rfl)) fun a hS => ?_
   refine st_val hS rfl rfl (by decide) (rv_move (hS.ev rfl)) fun a hS => ?_
   obtain ⟨v111, w, hr, hM⟩ := Mem.litE (f := (int i64)) (dst := some 29) (ty := _) (pos := _) (af := _) (gd := _) (ps := [(0, .tmp 28)]) ([r107] : List (Int)) i64_one hM hS Try.underlying22 ty_el_3 rfl rfl rfl rfl
   refine st_val hS rfl rfl (by decide) hr fun a hS => ?_
   obtain ⟨_, hx, hF⟩ := bind_some hF
   have hM := hM.pick [3, 0, 1, 2] (by decide) rfl
   obtain ⟨v112, w, hr, hM⟩ := Mem.appE (f := (int i64)) (S := _) (R := [(true, ow 3 v111 (List.map (int i64) ([r107] : List (Int)))), (true, bx b3 28 [(int i64 p0_g_Size), p0_g_Rowsv]), (false, rd p0_g_Rowsv (List.map (int i64) p0_g_Rows))]) (ρ := a.eval) (dst := some 30) (ty := _) (pos := _) (af := _) (gd := _) (x := .tmp 27) (y := .tmp 29) i64_one hM Try.underlying22 ty_el_3 rfl (by decide) (hS.ev rfl) (hS.ev rfl) (rd_of_ow (hM.get 1 rfl)) (catO_some hx)
   refine st_val hS rfl rfl (by decide) hr fun a hS => ?_
   refine st_val hS rfl rfl (by decide) (rv_assign (hS.ev rfl)) fun a hS => ?_
   refine wpList_nil ?_
   refine hK108 _ _ ?_
   refine wp_region_lit ?_
   refine st_val hS rfl rfl (by decide) (rv_move (hS.ev rfl)) fun a hS => ?_
   refine st_val hS rfl rfl (by decide) (rv_move (hS.ev rfl)) fun a hS => ?_
   refine st_val hS rfl rfl (by decide) (rv_sub (hS.ev rfl) (hS.ev rfl)) fun a hS => ?_
   refine st_val hS rfl rfl (by decide) (rv_assign (hS.ev rfl)) fun a hS => ?_
   refine wpList_nil ?_
   cases hF
   exact hN2 _ _ _ rfl ⟨v112, (hS.sub (sub_cons rfl (sub_cons rfl (sub_cons rfl (sub_cons rfl sub_nil))))), (hM.pick [2, 3, 0] (by decide) rfl)⟩
  ·refine cond_f hS rfl hc ?_
   refine wp_exit ?_
   cases hF
   exact hJ1 l64 v63 _ _ (hS.sub (sub_cons rfl sub_nil)) (hM.pick [2] (by decide) rfl) (by have e := hX2 _ rfl; subst e; exact hF2)
 refine wp_region_lit ?_
 refine st_val hS rfl rfl (by decide) (rv_move (hS.ev rfl)) fun a hS => ?_
 refine st_val hS rfl rfl (by decide) (rv_gtr (hS.ev rfl) (hS.ev rfl)) fun a hS => ?_
 refine st_val hS rfl rfl (by decide) (rv_move (hS.ev rfl)) fun a hS => ?_
 rcases ite_some hF with ⟨hc, hF⟩ | ⟨hc, hF⟩
 ·have hS := hS.setb (t := 13) rfl hc
  refine st_val hS rfl rfl (by decide) (rv_load_agg (hS.ev rfl) ty_ag_28 (hM.get 0 rfl) ty_sz_28) fun a hS => ?_
  refine st_val hS rfl rfl (by decide) (rv_move (hS.ev rfl)) fun a hS => ?_
  obtain ⟨r113, hr, hF⟩ := bind_some hF
  refine st_wp hS rfl (wp_call hS rfl rfl (by decide) fn_ok_124 rfl (c_spec_IsSet F p0_g_Size p0_g_Rows p1_set p0_g_Rowsv hr _ (hM.get 1 rfl)) fun v w a hK hS => ?_)
  obtain ⟨rfl, hN⟩ := hK
  have hM := hM.fra hN.fr
  refine st_val hS rfl rfl (by decide) (rv_pick_t (hS.ev rfl) (hS.ev rfl)) fun a hS => ?_
  refine wpList_nil ?_
  exact hJ3 r113 _ _ (hS.sub (sub_cons rfl (sub_cons rfl (sub_cons rfl (sub_cons rfl (sub_cons rfl sub_nil)))))) (hM.pick [0, 1, 2] (by decide) rfl) hF
 ·have hS := hS.setb (t := 13) rfl hc
  refine st_skip hS rfl rfl (by decide) fun a hS => ?_
  refine st_skip hS rfl rfl (by decide) fun a hS => ?_
  refine st_skip hS rfl rfl (by decide) fun a hS => ?_
  refine st_val hS rfl rfl (by decide) (rv_pick_f (hS.ev rfl) (hS.ev rfl)) fun a hS => ?_
  refine wpList_nil ?_
  exact hJ3 false _ _ (hS.sub (sub_cons rfl (sub_cons rfl (sub_cons rfl (sub_cons rfl (sub_cons rfl sub_nil)))))) (hM.pick [0, 1, 2] (by decide) rfl) hF


theorem c_spec_IsConnected (F : Nat) (p0_g_Size : Int) (p0_g_Rows : List Int) (p0_g_Rowsv : Value) {r : Bool} (hF : S_spec_IsConnected F p0_g_Size p0_g_Rows = some r) (w0 : World) (h0 : RdRow w0 p0_g_Rowsv (List.map (int i64) p0_g_Rows)) :
    Calls Try.prog 65 [(Value.agg #[(int i64 p0_g_Size), p0_g_Rowsv])].toArray w0 (retPost fun v w' => v = (Value.bool r) ∧ Mem Nob w0 w' []) := by
 have hM : Mem Nob w0 w0 [(false, rd p0_g_Rowsv (List.map (int i64) p0_g_Rows))] := (Mem.rcons (Mem.nil w0) h0 (by simp))
 refine enter2 Try.func65 rfl rfl rfl fun Q a hQr hQn hQp hS => ?_
 have hS : Sl 15 [(0, (Value.agg #[(int i64 p0_g_Size), p0_g_Rowsv]))] a := hS
 unfold S_spec_IsConnected at hF
 refine wp_seq_k fun K1 hK1 => ?_
 refine wp_region_lit ?_
 obtain ⟨b3, w, hr, hM⟩ := hM.boxE (ρ := a.eval) (dst := some 1) (ty := _) (pos := _) (af := _) (gd := _) (x := .tmp 0) (T := 28) [(int i64 p0_g_Size), p0_g_Rowsv] (hS.ev rfl) rfl
 refine st_val hS rfl rfl (by decide) hr fun a hS => ?_
 refine st_val hS rfl rfl (by decide) (rv_assign (hS.ev rfl)) fun a hS => ?_
 refine wpList_nil ?_
 refine hK1 _ _ ?_
 refine wp_seq_k fun K4 hK4 => ?_
 have hJ1 : ∀ (p8 : Bool) (a : Act) (w : World), Sl 15 [(2, (Value.bool p8))] a → Mem Nob w0 w [] → S_spec_IsConnected_j1 F p8 = some r → K4 a w := by
  intro p8 a w hS hM hF
  unfold S_spec_IsConnected_j1 at hF
  refine hK4 _ _ ?_
  refine wp_ret ?_
  cases hF
  exact hQr _ _ (r_1 hS rfl rfl ⟨rfl, hM.pick [] (by decide) rfl⟩)
 refine an_startB 13 Nob ty_mixed (by kernel_rfl) fun w hf => ?_
 have hM := hM.fra hf
 have hB := hM
 have hM := hB.reg0
 refine tkB hS 0 1 (by kernel_rfl) rfl rfl rfl hQp rfl (fun w' hC' => (rv_load_agg (hS.ev rfl) ty_ag_28 ((hB.fra hC').get 0 rfl) ty_sz_28)) hM.fr fun a hS => ?_
 obtain ⟨r9, hr, hF⟩ := bind_some hF
 refine an_oneB hS (i := 1) 3 (by kernel_rfl) rfl (by kernel_rfl) rfl ?_
 refine wp_call hS rfl rfl (by decide) fn_ok_73 rfl (c_spec_IsGraph F p0_g_Size p0_g_Rows p0_g_Rowsv hr _ (hM.get 1 rfl)) fun v w a hK hS => ?_
 obtain ⟨rfl, hN⟩ := hK
 have hM := hM.fra hN.fr
 refine ⟨hM.fr, ?_⟩
 refine tkB hS 2 7 (by kernel_rfl) rfl rfl rfl hQp rfl (fun w' hC' => (rv_move (hS.ev rfl))) hM.fr fun a hS => ?_
 rcases ite_some hF with ⟨hc, hF⟩ | ⟨hc, hF⟩
 ·have hS := hS.setb (t := 5) rfl hc
  refine tkB hS 3 15 (by kernel_rfl) rfl rfl rfl hQp rfl (fun w' hC' => (rv_load_agg (hS.ev rfl) ty_ag_28 ((hB.fra hC').get 0 rfl) ty_sz_28)) hM.fr fun a hS => ?_
  refine tkB hS 4 31 (by kernel_rfl) rfl rfl rfl hQp rfl (fun w' hC' => (rv_fieldAddr ty_fd_28_0 (hS.ev rfl))) hM.fr fun a hS => ?_
  refine tkB hS 5 63 (by kernel_rfl) rfl rfl rfl hQp rfl (fun w' hC' => (rv_load_bx (hS.ev rfl) ty_ag_3 ((hB.fra hC').get 0 rfl) rfl)) hM.fr fun a hS => ?_
  obtain ⟨_, hx, hF⟩ := bind_some hF
  have hi0 := nnO_some hx
  refine tkB hS 6 127 (by kernel_rfl) rfl rfl rfl hQp rfl (fun w' hC' => (rv_shl (hS.ev rfl) (hS.ev rfl) hi0)) hM.fr fun a hS => ?_
  refine tkB hS 7 255 (by kernel_rfl) rfl rfl rfl hQp rfl (fun w' hC' => (rv_sub (hS.ev rfl) (hS.ev rfl))) hM.fr fun a hS => ?_
  obtain ⟨r10, hr, hF⟩ := bind_some hF
  refine an_oneB hS (i := 8) 511 (by kernel_rfl) rfl (by kernel_rfl) rfl ?_
  refine wp_call hS rfl rfl (by decide) fn_ok_115 rfl (c_spec_PartsOf F p0_g_Size p0_g_Rows (i64.wrap ((shL 1 p0_g_Size) - 1)) p0_g_Rowsv hr _ (hM.get 1 rfl)) fun v11 w a hK hS => ?_
  have hN := hK
  have hM := hM.add hN rfl
  refine ⟨hM.fr, ?_⟩
  refine tkB hS 9 1023 (by kernel_rfl) rfl rfl rfl hQp rfl (fun w' hC' => (rv_len_rowM Try.underlying22 (hS.ev rfl) (rd_of_ow (hM.get 0 rfl)))) hM.fr fun a hS => ?_
  refine tkB hS 10 2047 (by kernel_rfl) rfl rfl rfl hQp rfl (fun w' hC' => (rv_eql (hS.ev rfl) (hS.ev rfl))) hM.fr fun a hS => ?_
  refine tkB hS 11 4095 (by kernel_rfl) rfl rfl rfl hQp rfl (fun w' hC' => (rv_pick_t (hS.ev rfl) (hS.ev rfl))) hM.fr fun a hS => ?_
  refine tkB hS 12 8191 (by kernel_rfl) rfl rfl rfl hQp rfl (fun w' hC' => (rv_assign (hS.ev rfl))) hM.fr fun a hS => ?_
  refine an_done (by kernel_rfl) ?_
  have hN := hM.pick [0] (by decide) rfl
  have hM := Mem.callo0 hB hN rfl
  exact hJ1 ((r10.length : Int) == 1) _ _ (hS.sub (sub_cons rfl sub_nil)) (hM.pick [] (by decide) rfl) hF
 ·have hS := hS.setb (t := 5) rfl hc
  refine skB hS [3, 4, 5, 6, 7, 8, 9, 10] [6, 7, 8, 9, 10, 11, 12, 13] 2047 2 rfl (by kernel_rfl) hQp hM.fr fun a hS => ?_
  refine tkB hS 11 4095 (by kernel_rfl) rfl rfl rfl hQp rfl (fun w' hC' => (rv_pick_f (hS.ev rfl) (hS.ev rfl))) hM.fr fun a hS => ?_
  refine tkB hS 12 8191 (by kernel_rfl) rfl rfl rfl hQp rfl (fun w' hC' => (rv_assign (hS.ev rfl))) hM.fr fun a hS => ?_
  refine an_done (by kernel_rfl) ?_
  have hN := hM.pick [] (by decide) rfl
  have hM := Mem.callo0 hB hN rfl
  exact hJ1 false _ _ (hS.sub (sub_cons rfl sub_nil)) (hM.pick [] (by decide) rfl) hF


end Go.Proofs.Ytilfniehellmmaa
