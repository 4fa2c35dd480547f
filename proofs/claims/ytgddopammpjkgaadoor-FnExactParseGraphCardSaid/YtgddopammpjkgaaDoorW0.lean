/- Proved here: that each Go function does what its shallow function says -/
import Derived.Test.YtgddopammpjkgaaDoorSh
import Derived.Test.YtgddopammpjkgaaDoorTy
import Derived.Test.YtgddopammpjkgaaDoorK11
import Derived.Test.YtgddopammpjkgaaDoorKS
namespace Go.Proofs.YtgddopammpjkgaaDoor
open Go Go.RowKit
set_option linter.unusedVariables false
set_option linter.unusedSimpArgs false
set_option maxRecDepth 100000
set_option maxHeartbeats 4000000

theorem c_spec_l1New (F : Nat) (p0_code : List Int) (p0_codev : Value) {r : Int × Int} (hF : S_spec_l1New F p0_code = some r) (w0 : World) (h0 : RdRow w0 p0_codev (List.map (Value.int IntKind.u8) p0_code)) :
    Calls Tryd.prog 35 [p0_codev].toArray w0 (retPost fun v w' => ∃ b46, v = (fdp b46 0) ∧ Mem Nob w0 w' [(true, bx b46 75 [p0_codev, (Value.int IntKind.i64 r.1), (Value.int IntKind.i64 r.2)])]) := by
  have hM : Mem Nob w0 w0 [(false, rd p0_codev (List.map (Value.int IntKind.u8) p0_code))] := (Mem.rcons (Mem.nil w0) h0 (by simp))
  refine enter2 Tryd.func35 rfl rfl rfl fun Q a hQr hQn hQp hS => ?_
  have hS : Sl 32 [(0, p0_codev)] a := hS
  unfold S_spec_l1New at hF
  refine wp_seq_k fun K1 hK1 => ?_
  refine wp_region_lit ?_
  refine st_val hS rfl rfl (by decide) (rv_assign (hS.ev rfl)) fun a hS => ?_
  refine wpList_nil ?_
  refine hK1 _ _ ?_
  refine wp_seq_k fun K2 hK2 => ?_
  refine wp_region_lit ?_
  refine st_val hS rfl rfl (by decide) (rv_move (hS.ev rfl)) fun a hS => ?_
  refine st_val hS rfl rfl (by decide) (rv_len_rowM Tryd.underlying22 (hS.ev rfl) (hM.get 0 rfl)) fun a hS => ?_
  refine st_val hS rfl rfl (by decide) (rv_add (hS.ev rfl) (hS.ev rfl)) fun a hS => ?_
  refine st_val hS rfl rfl (by decide) (rv_assign (hS.ev rfl)) fun a hS => ?_
  refine wpList_nil ?_
  refine hK2 _ _ ?_
  refine wp_seq_k fun K3 hK3 => ?_
  have hJ1 : ∀ (x23 : Int) (a : Act) (w : World), Sl 32 [(0, p0_codev), (3, (Value.int IntKind.i64 x23))] a → Mem Nob w0 w [(false, rd p0_codev (List.map (Value.int IntKind.u8) p0_code))] → S_spec_l1New_j1 F x23 = some r → K3 a w := by
    intro x23 a w hS hM hF
    unfold S_spec_l1New_j1 at hF
    refine hK3 _ _ ?_
    refine wp_seq_k fun K24 hK24 => ?_
    refine wp_region_lit ?_
    refine st_val hS rfl rfl (by decide) (rv_move (hS.ev rfl)) fun a hS => ?_
    refine st_val hS rfl rfl (by decide) (rv_move (hS.ev rfl)) fun a hS => ?_
    refine st_val hS rfl rfl (by decide) (rv_build hS ty_st_75 rfl (by simp) (ones_cons (by rw [hS.ev (v := p0_codev) rfl]; exact rd_one (hM.get 0 rfl)) (ones_cons (by rw [hS.ev (v := (Value.int IntKind.i64 x23)) rfl]; rfl) ones_nil))) fun a hS => ?_
    obtain ⟨b26, w, hr, hM⟩ := hM.boxE (ρ := a.eval) (dst := some 31) (ty := _) (pos := _) (af := _) (gd := _) (x := .tmp 30) (T := 75) [p0_codev, (Value.int IntKind.i64 0), (Value.int IntKind.i64 x23)] (hS.ev rfl) rfl
    refine st_val hS rfl rfl (by decide) hr fun a hS => ?_
    refine st_val hS rfl rfl (by decide) (rv_assign (hS.ev rfl)) fun a hS => ?_
    refine wpList_nil ?_
    refine hK24 _ _ ?_
    refine wp_ret ?_
    cases hF
    exact hQr _ _ (r_1 hS rfl rfl ⟨b26, rfl, hM.pick [0] (by decide) rfl⟩)
  refine wp_seq_k fun K27 hK27 => ?_
  refine wp_region_lit ?_
  refine st_val hS rfl rfl (by decide) (rv_assign (hS.ev rfl)) fun a hS => ?_
  refine wpList_nil ?_
  refine hK27 _ _ ?_
  refine wp_block ?_
  obtain ⟨lb2, hl2, hF2⟩ := bind_some hF
  refine wp_loop_sh (fun s => S_spec_l1New_l2 F p0_code s.1 s.2) (fun s a w => Sl 32 [(0, p0_codev), (3, (Value.int IntKind.i64 s.1)), (4, (Value.int IntKind.i64 s.2))] a ∧ Mem Nob w0 w [(false, rd p0_codev (List.map (Value.int IntKind.u8) p0_code))]) hl2 ⟨(hS.sub (sub_cons rfl (sub_cons rfl (sub_cons rfl sub_nil)))), (hM.pick [0] (by decide) rfl)⟩ ?_
  rintro K2 ⟨x28, x29⟩ a w res2 ⟨hS, hM⟩ hF hN2 hX2
  have hF : S_spec_l1New_l2 F p0_code x28 x29 = some res2 := hF
  have hS : Sl 32 [(0, p0_codev), (3, (Value.int IntKind.i64 x28)), (4, (Value.int IntKind.i64 x29))] a := hS
  have hM : Mem Nob w0 w [(false, rd p0_codev (List.map (Value.int IntKind.u8) p0_code))] := hM
  unfold S_spec_l1New_l2 at hF
  refine wp_seq_k fun K38 hK38 => ?_
  refine wp_seq_k fun K41 hK41 => ?_
  have hJ3 : ∀ (p42 : Bool) (a : Act) (w : World), Sl 32 [(0, p0_codev), (3, (Value.int IntKind.i64 x28)), (4, (Value.int IntKind.i64 x29)), (15, (Value.bool p42))] a → Mem Nob w0 w [(false, rd p0_codev (List.map (Value.int IntKind.u8) p0_code))] → S_spec_l1New_j3 F p0_code x28 x29 p42 = some res2 → K41 a w := by
    intro p42 a w hS hM hF
    unfold S_spec_l1New_j3 at hF
    refine hK41 _ _ ?_
    rcases ite_some hF with ⟨hc, hF⟩ | ⟨hc, hF⟩
    · refine cond_t hS rfl hc ?_
      refine wp_skip ?_
      refine hK38 _ _ ?_
      refine wp_seq_k fun K43 hK43 => ?_
      refine wp_block ?_
      refine wp_region_lit ?_
      refine st_val hS rfl rfl (by decide) (rv_move (hS.ev rfl)) fun a hS => ?_
      refine st_val hS rfl rfl (by decide) (rv_mul (hS.ev rfl) (hS.ev rfl)) fun a hS => ?_
      refine st_val hS rfl rfl (by decide) (rv_move (hS.ev rfl)) fun a hS => ?_
      refine st_val hS rfl rfl (by decide) (rv_move (hS.ev rfl)) fun a hS => ?_
      obtain ⟨x45, hx, hF⟩ := bind_some hF
      obtain ⟨hi0, hi1, hex45⟩ := idxL_some hx
      refine st_val hS rfl rfl (by decide) (rv_indexAddr Tryd.underlying22 ty_el_5 (hS.ev rfl) (hS.ev rfl) (hM.get 0 rfl) hi0 (map_len hi1)) fun a hS => ?_
      refine st_val hS rfl rfl (by decide) (rv_load_el (hS.ev rfl) ty_ag_5 (hM.get 0 rfl) (mget hex45)) fun a hS => ?_
      refine st_val hS rfl rfl (by decide) (rv_conv Tryd.underlying5 Tryd.underlying3 (hS.ev rfl)) fun a hS => ?_
      refine st_val hS rfl rfl (by decide) (rv_add (hS.ev rfl) (hS.ev rfl)) fun a hS => ?_
      refine st_val hS rfl rfl (by decide) (rv_add (hS.ev rfl) (hS.ev rfl)) fun a hS => ?_
      refine st_val hS rfl rfl (by decide) (rv_and (hS.ev rfl) (hS.ev rfl)) fun a hS => ?_
      refine st_val hS rfl rfl (by decide) (rv_assign (hS.ev rfl)) fun a hS => ?_
      refine wpList_nil ?_
      refine hK43 _ _ ?_
      refine wp_region_lit ?_
      refine st_val hS rfl rfl (by decide) (rv_move (hS.ev rfl)) fun a hS => ?_
      refine st_val hS rfl rfl (by decide) (rv_add (hS.ev rfl) (hS.ev rfl)) fun a hS => ?_
      refine st_val hS rfl rfl (by decide) (rv_assign (hS.ev rfl)) fun a hS => ?_
      refine wpList_nil ?_
      cases hF
      exact hN2 _ _ _ rfl ⟨(hS.sub (sub_cons rfl (sub_cons rfl (sub_cons rfl sub_nil)))), (hM.pick [0] (by decide) rfl)⟩
    · refine cond_f hS rfl hc ?_
      refine wp_exit ?_
      cases hF
      exact hJ1 x28 _ _ (hS.sub (sub_cons rfl (sub_cons rfl sub_nil))) (hM.pick [0] (by decide) rfl) (by have e := hX2 _ rfl; subst e; exact hF2)
  refine wp_region_lit ?_
  refine st_val hS rfl rfl (by decide) (rv_move (hS.ev rfl)) fun a hS => ?_
  refine st_val hS rfl rfl (by decide) (rv_move (hS.ev rfl)) fun a hS => ?_
  refine st_val hS rfl rfl (by decide) (rv_len_rowM Tryd.underlying22 (hS.ev rfl) (hM.get 0 rfl)) fun a hS => ?_
  refine st_val hS rfl rfl (by decide) (rv_lss (hS.ev rfl) (hS.ev rfl)) fun a hS => ?_
  refine st_val hS rfl rfl (by decide) (rv_move (hS.ev rfl)) fun a hS => ?_
  rcases ite_some hF with ⟨hc, hF⟩ | ⟨hc, hF⟩
  · have hS := hS.setb (t := 12) rfl hc
    refine st_val hS rfl rfl (by decide) (rv_move (hS.ev rfl)) fun a hS => ?_
    refine st_val hS rfl rfl (by decide) (rv_lss (hS.ev rfl) (hS.ev rfl)) fun a hS => ?_
    refine st_val hS rfl rfl (by decide) (rv_pick_t (hS.ev rfl) (hS.ev rfl)) fun a hS => ?_
    refine wpList_nil ?_
    exact hJ3 (decide (x29 < 4000)) _ _ (hS.sub (sub_cons rfl (sub_cons rfl (sub_cons rfl (sub_cons rfl sub_nil))))) (hM.pick [0] (by decide) rfl) hF
  · have hS := hS.setb (t := 12) rfl hc
    refine st_skip hS rfl rfl (by decide) fun a hS => ?_
    refine st_skip hS rfl rfl (by decide) fun a hS => ?_
    refine st_val hS rfl rfl (by decide) (rv_pick_f (hS.ev rfl) (hS.ev rfl)) fun a hS => ?_
    refine wpList_nil ?_
    exact hJ3 false _ _ (hS.sub (sub_cons rfl (sub_cons rfl (sub_cons rfl (sub_cons rfl sub_nil))))) (hM.pick [0] (by decide) rfl) hF


theorem c_spec_l1Byte (F : Nat) (p0_c_b : List Int) (p0_c_i : Int) (p0_c_h : Int) (p0_c_bv : Value) (p0_cb : Nat) {r : Int × Int × Int} (hF : S_spec_l1Byte F p0_c_b p0_c_i p0_c_h = some r) (w0 : World) (hM : Mem (feet [(true, bx p0_cb 75 [p0_c_bv, (Value.int IntKind.i64 p0_c_i), (Value.int IntKind.i64 p0_c_h)])]) w0 w0 [(true, bx p0_cb 75 [p0_c_bv, (Value.int IntKind.i64 p0_c_i), (Value.int IntKind.i64 p0_c_h)]), (false, rd p0_c_bv (List.map (Value.int IntKind.u8) p0_c_b))]) :
    Calls Tryd.prog 60 [(fdp p0_cb 0)].toArray w0 (retPost fun v w' => v = (Value.int IntKind.i64 r.1) ∧ Mem (feet [(true, bx p0_cb 75 [p0_c_bv, (Value.int IntKind.i64 p0_c_i), (Value.int IntKind.i64 p0_c_h)])]) w0 w' [(true, bx p0_cb 75 [p0_c_bv, (Value.int IntKind.i64 r.2.1), (Value.int IntKind.i64 r.2.2)])]) := by
  have hM := hM.pick [1, 0] (by decide) rfl
  refine enter2 Tryd.func60 rfl rfl rfl fun Q a hQr hQn hQp hS => ?_
  have hS : Sl 58 [(0, (fdp p0_cb 0))] a := hS
  unfold S_spec_l1Byte at hF
  refine wp_seq_k fun K1 hK1 => ?_
  refine wp_region_lit ?_
  refine st_val hS rfl rfl (by decide) (rv_assign (hS.ev rfl)) fun a hS => ?_
  refine wpList_nil ?_
  refine hK1 _ _ ?_
  refine wp_seq_k fun K2 hK2 => ?_
  refine wp_region_lit ?_
  refine st_val hS rfl rfl (by decide) (rv_move (hS.ev rfl)) fun a hS => ?_
  refine st_val hS rfl rfl (by decide) (rv_move (hS.ev rfl)) fun a hS => ?_
  refine st_val hS rfl rfl (by decide) (rv_nilCheck (hS.ev rfl)) fun a hS => ?_
  refine st_val hS rfl rfl (by decide) (rv_fieldAddr ty_fd_75_2 (hS.ev rfl)) fun a hS => ?_
  refine st_val hS rfl rfl (by decide) (rv_load_bx (hS.ev rfl) ty_ag_3 (hM.get 1 rfl) rfl) fun a hS => ?_
  refine st_val hS rfl rfl (by decide) (rv_mul (hS.ev rfl) (hS.ev rfl)) fun a hS => ?_
  refine st_val hS rfl rfl (by decide) (rv_add (hS.ev rfl) (hS.ev rfl)) fun a hS => ?_
  refine st_val hS rfl rfl (by decide) (rv_nilCheck (hS.ev rfl)) fun a hS => ?_
  refine st_val hS rfl rfl (by decide) (rv_fieldAddr ty_fd_75_2 (hS.ev rfl)) fun a hS => ?_
  have hM := hM.pick [1, 0] (by decide) rfl
  obtain ⟨w, hr, hM⟩ := hM.st_bx1 (n := 2) (cs' := [p0_c_bv, (Value.int IntKind.i64 p0_c_i), (Value.int IntKind.i64 (IntKind.i64.wrap ((IntKind.i64.wrap (p0_c_h * 6364136223846793005)) + 1442695040888963407)))]) (ρ := a.eval) (dst := none) (ty := _) (pos := _) (af := _) (gd := _) (x := .tmp 12) (y := .tmp 10) (hS.ev rfl) (hS.ev rfl) ty_sz_3 rfl rfl rfl
  refine st_unit hS rfl rfl hr ?_
  refine wpList_nil ?_
  refine hK2 _ _ ?_
  refine wp_seq_k fun K3 hK3 => ?_
  refine an_start Nob ty_mixed fun w hf => ?_
  have hM := hM.fra hf
  have hB := hM
  have hM := hB.reg0
  refine an_take hS (i := 0) rfl (by kernel_rfl) (by kernel_rfl) (by kernel_rfl) rfl (by decide) (fun c a a' w hd h => hQp c a a' w hd h) rfl (fun w' hC' => (rv_move (hS.ev rfl))) hM.fr fun a hS => ?_
  refine an_take hS (i := 1) rfl (by kernel_rfl) (by kernel_rfl) (by kernel_rfl) rfl (by decide) (fun c a a' w hd h => hQp c a a' w hd h) rfl (fun w' hC' => (rv_nilCheck (hS.ev rfl))) hM.fr fun a hS => ?_
  refine an_take hS (i := 2) rfl (by kernel_rfl) (by kernel_rfl) (by kernel_rfl) rfl (by decide) (fun c a a' w hd h => hQp c a a' w hd h) rfl (fun w' hC' => (rv_fieldAddr ty_fd_75_2 (hS.ev rfl))) hM.fr fun a hS => ?_
  refine an_take hS (i := 3) rfl (by kernel_rfl) (by kernel_rfl) (by kernel_rfl) rfl (by decide) (fun c a a' w hd h => hQp c a a' w hd h) rfl (fun w' hC' => (rv_load_bx (hS.ev rfl) ty_ag_3 ((hB.fra hC').get 0 rfl) rfl)) hM.fr fun a hS => ?_
  refine an_take hS (i := 4) rfl (by kernel_rfl) (by kernel_rfl) (by kernel_rfl) rfl (by decide) (fun c a a' w hd h => hQp c a a' w hd h) rfl (fun w' hC' => (rv_shr (hS.ev rfl) (hS.ev rfl) (by decide))) hM.fr fun a hS => ?_
  refine an_take hS (i := 5) rfl (by kernel_rfl) (by kernel_rfl) (by kernel_rfl) rfl (by decide) (fun c a a' w hd h => hQp c a a' w hd h) rfl (fun w' hC' => (rv_move (hS.ev rfl))) hM.fr fun a hS => ?_
  refine an_take hS (i := 6) rfl (by kernel_rfl) (by kernel_rfl) (by kernel_rfl) rfl (by decide) (fun c a a' w hd h => hQp c a a' w hd h) rfl (fun w' hC' => (rv_nilCheck (hS.ev rfl))) hM.fr fun a hS => ?_
  refine an_take hS (i := 7) rfl (by kernel_rfl) (by kernel_rfl) (by kernel_rfl) rfl (by decide) (fun c a a' w hd h => hQp c a a' w hd h) rfl (fun w' hC' => (rv_fieldAddr ty_fd_75_2 (hS.ev rfl))) hM.fr fun a hS => ?_
  refine an_take hS (i := 8) rfl (by kernel_rfl) (by kernel_rfl) (by kernel_rfl) rfl (by decide) (fun c a a' w hd h => hQp c a a' w hd h) rfl (fun w' hC' => (rv_load_bx (hS.ev rfl) ty_ag_3 ((hB.fra hC').get 0 rfl) rfl)) hM.fr fun a hS => ?_
  refine an_take hS (i := 9) rfl (by kernel_rfl) (by kernel_rfl) (by kernel_rfl) rfl (by decide) (fun c a a' w hd h => hQp c a a' w hd h) rfl (fun w' hC' => (rv_shr (hS.ev rfl) (hS.ev rfl) (by decide))) hM.fr fun a hS => ?_
  refine an_take hS (i := 10) rfl (by kernel_rfl) (by kernel_rfl) (by kernel_rfl) rfl (by decide) (fun c a a' w hd h => hQp c a a' w hd h) rfl (fun w' hC' => (rv_xor (hS.ev rfl) (hS.ev rfl))) hM.fr fun a hS => ?_
  refine an_take hS (i := 11) rfl (by kernel_rfl) (by kernel_rfl) (by kernel_rfl) rfl (by decide) (fun c a a' w hd h => hQp c a a' w hd h) rfl (fun w' hC' => (rv_and (hS.ev rfl) (hS.ev rfl))) hM.fr fun a hS => ?_
  refine an_take hS (i := 12) rfl (by kernel_rfl) (by kernel_rfl) (by kernel_rfl) rfl (by decide) (fun c a a' w hd h => hQp c a a' w hd h) rfl (fun w' hC' => (rv_assign (hS.ev rfl))) hM.fr fun a hS => ?_
  refine an_done (by kernel_rfl) ?_
  have hN := hM.pick [] (by decide) rfl
  have hM := Mem.callo (A := []) (B := [(true, bx p0_cb 75 [p0_c_bv, (Value.int IntKind.i64 p0_c_i), (Value.int IntKind.i64 (IntKind.i64.wrap ((IntKind.i64.wrap (p0_c_h * 6364136223846793005)) + 1442695040888963407)))]), (false, rd p0_c_bv (List.map (Value.int IntKind.u8) p0_c_b))]) hB rfl (hN.memS fun _ h => h.elim) rfl
  refine hK3 _ _ ?_
  refine wp_seq_k fun K4 hK4 => ?_
  have hJ1 : ∀ (x9 : Int) (x10 : Int) (a : Act) (w : World), Sl 58 [(3, (Value.int IntKind.i64 x9))] a → Mem (feet [(true, bx p0_cb 75 [p0_c_bv, (Value.int IntKind.i64 p0_c_i), (Value.int IntKind.i64 p0_c_h)])]) w0 w [(true, bx p0_cb 75 [p0_c_bv, (Value.int IntKind.i64 x10), (Value.int IntKind.i64 (IntKind.i64.wrap ((IntKind.i64.wrap (p0_c_h * 6364136223846793005)) + 1442695040888963407)))]), (false, rd p0_c_bv (List.map (Value.int IntKind.u8) p0_c_b))] → S_spec_l1Byte_j1 F p0_c_h x9 x10 = some r → K4 a w := by
    intro x9 x10 a w hS hM hF
    unfold S_spec_l1Byte_j1 at hF
    refine hK4 _ _ ?_
    refine wp_seq_k fun K11 hK11 => ?_
    refine wp_region_lit ?_
    refine st_val hS rfl rfl (by decide) (rv_move (hS.ev rfl)) fun a hS => ?_
    refine st_val hS rfl rfl (by decide) (rv_assign (hS.ev rfl)) fun a hS => ?_
    refine wpList_nil ?_
    refine hK11 _ _ ?_
    refine wp_ret ?_
    cases hF
    exact hQr _ _ (r_1 hS rfl rfl ⟨rfl, hM.pick [0] (by decide) rfl⟩)
  refine wp_seq_k fun K12 hK12 => ?_
  refine an_start Nob ty_mixed fun w hf => ?_
  have hM := hM.fra hf
  have hB := hM
  have hM := hB.reg0
  refine an_take hS (i := 0) rfl (by kernel_rfl) (by kernel_rfl) (by kernel_rfl) rfl (by decide) (fun c a a' w hd h => hQp c a a' w hd h) rfl (fun w' hC' => (rv_move (hS.ev rfl))) hM.fr fun a hS => ?_
  refine an_take hS (i := 1) rfl (by kernel_rfl) (by kernel_rfl) (by kernel_rfl) rfl (by decide) (fun c a a' w hd h => hQp c a a' w hd h) rfl (fun w' hC' => (rv_nilCheck (hS.ev rfl))) hM.fr fun a hS => ?_
  refine an_take hS (i := 2) rfl (by kernel_rfl) (by kernel_rfl) (by kernel_rfl) rfl (by decide) (fun c a a' w hd h => hQp c a a' w hd h) rfl (fun w' hC' => (rv_fieldAddr ty_fd_75_1 (hS.ev rfl))) hM.fr fun a hS => ?_
  refine an_take hS (i := 3) rfl (by kernel_rfl) (by kernel_rfl) (by kernel_rfl) rfl (by decide) (fun c a a' w hd h => hQp c a a' w hd h) rfl (fun w' hC' => (rv_load_bx (hS.ev rfl) ty_ag_3 ((hB.fra hC').get 0 rfl) rfl)) hM.fr fun a hS => ?_
  refine an_take hS (i := 4) rfl (by kernel_rfl) (by kernel_rfl) (by kernel_rfl) rfl (by decide) (fun c a a' w hd h => hQp c a a' w hd h) rfl (fun w' hC' => (rv_move (hS.ev rfl))) hM.fr fun a hS => ?_
  refine an_take hS (i := 5) rfl (by kernel_rfl) (by kernel_rfl) (by kernel_rfl) rfl (by decide) (fun c a a' w hd h => hQp c a a' w hd h) rfl (fun w' hC' => (rv_nilCheck (hS.ev rfl))) hM.fr fun a hS => ?_
  refine an_take hS (i := 6) rfl (by kernel_rfl) (by kernel_rfl) (by kernel_rfl) rfl (by decide) (fun c a a' w hd h => hQp c a a' w hd h) rfl (fun w' hC' => (rv_fieldAddr ty_fd_75_0 (hS.ev rfl))) hM.fr fun a hS => ?_
  refine an_take hS (i := 7) rfl (by kernel_rfl) (by kernel_rfl) (by kernel_rfl) rfl (by decide) (fun c a a' w hd h => hQp c a a' w hd h) rfl (fun w' hC' => (rv_load_bx (hS.ev rfl) ty_ag_22 ((hB.fra hC').get 0 rfl) rfl)) hM.fr fun a hS => ?_
  refine an_take hS (i := 8) rfl (by kernel_rfl) (by kernel_rfl) (by kernel_rfl) rfl (by decide) (fun c a a' w hd h => hQp c a a' w hd h) rfl (fun w' hC' => (rv_len_rowM Tryd.underlying22 (hS.ev rfl) (hM.get 1 rfl))) hM.fr fun a hS => ?_
  refine an_take hS (i := 9) rfl (by kernel_rfl) (by kernel_rfl) (by kernel_rfl) rfl (by decide) (fun c a a' w hd h => hQp c a a' w hd h) rfl (fun w' hC' => (rv_lss (hS.ev rfl) (hS.ev rfl))) hM.fr fun a hS => ?_
  refine an_done (by kernel_rfl) ?_
  have hN := hM.pick [] (by decide) rfl
  have hM := Mem.callo (A := []) (B := [(true, bx p0_cb 75 [p0_c_bv, (Value.int IntKind.i64 p0_c_i), (Value.int IntKind.i64 (IntKind.i64.wrap ((IntKind.i64.wrap (p0_c_h * 6364136223846793005)) + 1442695040888963407)))]), (false, rd p0_c_bv (List.map (Value.int IntKind.u8) p0_c_b))]) hB rfl (hN.memS fun _ h => h.elim) rfl
  refine hK12 _ _ ?_
  rcases ite_some hF with ⟨hc, hF⟩ | ⟨hc, hF⟩
  · refine cond_t hS rfl hc ?_
    refine wp_seq_k fun K13 hK13 => ?_
    refine an_start Nob ty_mixed fun w hf => ?_
    have hM := hM.fra hf
    have hB := hM
    have hM := hB.reg0
    refine an_take hS (i := 0) rfl (by kernel_rfl) (by kernel_rfl) (by kernel_rfl) rfl (by decide) (fun c a a' w hd h => hQp c a a' w hd h) rfl (fun w' hC' => (rv_move (hS.ev rfl))) hM.fr fun a hS => ?_
    refine an_take hS (i := 1) rfl (by kernel_rfl) (by kernel_rfl) (by kernel_rfl) rfl (by decide) (fun c a a' w hd h => hQp c a a' w hd h) rfl (fun w' hC' => (rv_move (hS.ev rfl))) hM.fr fun a hS => ?_
    refine an_take hS (i := 2) rfl (by kernel_rfl) (by kernel_rfl) (by kernel_rfl) rfl (by decide) (fun c a a' w hd h => hQp c a a' w hd h) rfl (fun w' hC' => (rv_nilCheck (hS.ev rfl))) hM.fr fun a hS => ?_
    refine an_take hS (i := 3) rfl (by kernel_rfl) (by kernel_rfl) (by kernel_rfl) rfl (by decide) (fun c a a' w hd h => hQp c a a' w hd h) rfl (fun w' hC' => (rv_fieldAddr ty_fd_75_0 (hS.ev rfl))) hM.fr fun a hS => ?_
    refine an_take hS (i := 4) rfl (by kernel_rfl) (by kernel_rfl) (by kernel_rfl) rfl (by decide) (fun c a a' w hd h => hQp c a a' w hd h) rfl (fun w' hC' => (rv_load_bx (hS.ev rfl) ty_ag_22 ((hB.fra hC').get 0 rfl) rfl)) hM.fr fun a hS => ?_
    refine an_take hS (i := 5) rfl (by kernel_rfl) (by kernel_rfl) (by kernel_rfl) rfl (by decide) (fun c a a' w hd h => hQp c a a' w hd h) rfl (fun w' hC' => (rv_move (hS.ev rfl))) hM.fr fun a hS => ?_
    refine an_take hS (i := 6) rfl (by kernel_rfl) (by kernel_rfl) (by kernel_rfl) rfl (by decide) (fun c a a' w hd h => hQp c a a' w hd h) rfl (fun w' hC' => (rv_nilCheck (hS.ev rfl))) hM.fr fun a hS => ?_
    refine an_take hS (i := 7) rfl (by kernel_rfl) (by kernel_rfl) (by kernel_rfl) rfl (by decide) (fun c a a' w hd h => hQp c a a' w hd h) rfl (fun w' hC' => (rv_fieldAddr ty_fd_75_1 (hS.ev rfl))) hM.fr fun a hS => ?_
    refine an_take hS (i := 8) rfl (by kernel_rfl) (by kernel_rfl) (by kernel_rfl) rfl (by decide) (fun c a a' w hd h => hQp c a a' w hd h) rfl (fun w' hC' => (rv_load_bx (hS.ev rfl) ty_ag_3 ((hB.fra hC').get 0 rfl) rfl)) hM.fr fun a hS => ?_
    obtain ⟨x15, hx, hF⟩ := bind_some hF
    obtain ⟨hi0, hi1, hex15⟩ := idxL_some hx
    refine an_take hS (i := 9) rfl (by kernel_rfl) (by kernel_rfl) (by kernel_rfl) rfl (by decide) (fun c a a' w hd h => hQp c a a' w hd h) rfl (fun w' hC' => (rv_indexAddr Tryd.underlying22 ty_el_5 (hS.ev rfl) (hS.ev rfl) (hM.get 1 rfl) hi0 (map_len hi1))) hM.fr fun a hS => ?_
    refine an_take hS (i := 10) rfl (by kernel_rfl) (by kernel_rfl) (by kernel_rfl) rfl (by decide) (fun c a a' w hd h => hQp c a a' w hd h) rfl (fun w' hC' => (rv_load_el (hS.ev rfl) ty_ag_5 ((hB.fra hC').get 1 rfl) (mget hex15))) hM.fr fun a hS => ?_
    refine an_take hS (i := 11) rfl (by kernel_rfl) (by kernel_rfl) (by kernel_rfl) rfl (by decide) (fun c a a' w hd h => hQp c a a' w hd h) rfl (fun w' hC' => (rv_conv Tryd.underlying5 Tryd.underlying3 (hS.ev rfl))) hM.fr fun a hS => ?_
    refine an_take hS (i := 12) rfl (by kernel_rfl) (by kernel_rfl) (by kernel_rfl) rfl (by decide) (fun c a a' w hd h => hQp c a a' w hd h) rfl (fun w' hC' => (rv_add (hS.ev rfl) (hS.ev rfl))) hM.fr fun a hS => ?_
    refine an_take hS (i := 13) rfl (by kernel_rfl) (by kernel_rfl) (by kernel_rfl) rfl (by decide) (fun c a a' w hd h => hQp c a a' w hd h) rfl (fun w' hC' => (rv_and (hS.ev rfl) (hS.ev rfl))) hM.fr fun a hS => ?_
    refine an_take hS (i := 14) rfl (by kernel_rfl) (by kernel_rfl) (by kernel_rfl) rfl (by decide) (fun c a a' w hd h => hQp c a a' w hd h) rfl (fun w' hC' => (rv_assign (hS.ev rfl))) hM.fr fun a hS => ?_
    refine an_done (by kernel_rfl) ?_
    have hN := hM.pick [] (by decide) rfl
    have hM := Mem.callo (A := []) (B := [(true, bx p0_cb 75 [p0_c_bv, (Value.int IntKind.i64 p0_c_i), (Value.int IntKind.i64 (IntKind.i64.wrap ((IntKind.i64.wrap (p0_c_h * 6364136223846793005)) + 1442695040888963407)))]), (false, rd p0_c_bv (List.map (Value.int IntKind.u8) p0_c_b))]) hB rfl (hN.memS fun _ h => h.elim) rfl
    refine hK13 _ _ ?_
    refine wp_region_lit ?_
    refine st_val hS rfl rfl (by decide) (rv_move (hS.ev rfl)) fun a hS => ?_
    refine st_val hS rfl rfl (by decide) (rv_move (hS.ev rfl)) fun a hS => ?_
    refine st_val hS rfl rfl (by decide) (rv_nilCheck (hS.ev rfl)) fun a hS => ?_
    refine st_val hS rfl rfl (by decide) (rv_fieldAddr ty_fd_75_1 (hS.ev rfl)) fun a hS => ?_
    refine st_val hS rfl rfl (by decide) (rv_load_bx (hS.ev rfl) ty_ag_3 (hM.get 0 rfl) rfl) fun a hS => ?_
    refine st_val hS rfl rfl (by decide) (rv_add (hS.ev rfl) (hS.ev rfl)) fun a hS => ?_
    refine st_val hS rfl rfl (by decide) (rv_nilCheck (hS.ev rfl)) fun a hS => ?_
    refine st_val hS rfl rfl (by decide) (rv_fieldAddr ty_fd_75_1 (hS.ev rfl)) fun a hS => ?_
    obtain ⟨w, hr, hM⟩ := hM.st_bx1 (n := 1) (cs' := [p0_c_bv, (Value.int IntKind.i64 (IntKind.i64.wrap (p0_c_i + 1))), (Value.int IntKind.i64 (IntKind.i64.wrap ((IntKind.i64.wrap (p0_c_h * 6364136223846793005)) + 1442695040888963407)))]) (ρ := a.eval) (dst := none) (ty := _) (pos := _) (af := _) (gd := _) (x := .tmp 56) (y := .tmp 54) (hS.ev rfl) (hS.ev rfl) ty_sz_3 rfl rfl rfl
    refine st_unit hS rfl rfl hr ?_
    refine wpList_nil ?_
    exact hJ1 (bAnd (IntKind.i64.wrap ((bAnd (bXor (shR (IntKind.i64.wrap ((IntKind.i64.wrap (p0_c_h * 6364136223846793005)) + 1442695040888963407)) 33) (shR (IntKind.i64.wrap ((IntKind.i64.wrap (p0_c_h * 6364136223846793005)) + 1442695040888963407)) 45)) 255) + (IntKind.i64.wrap x15))) 255) (IntKind.i64.wrap (p0_c_i + 1)) _ _ (hS.sub (sub_cons rfl sub_nil)) (hM.pick [0, 1] (by decide) rfl) hF
  · refine cond_f hS rfl hc ?_
    refine wp_skip ?_
    exact hJ1 (bAnd (bXor (shR (IntKind.i64.wrap ((IntKind.i64.wrap (p0_c_h * 6364136223846793005)) + 1442695040888963407)) 33) (shR (IntKind.i64.wrap ((IntKind.i64.wrap (p0_c_h * 6364136223846793005)) + 1442695040888963407)) 45)) 255) p0_c_i _ _ (hS.sub (sub_cons rfl sub_nil)) (hM.pick [0, 1] (by decide) rfl) hF


theorem c_spec_l1Below (F : Nat) (p0_c_b : List Int) (p0_c_i : Int) (p0_c_h : Int) (p1_n : Int) (p0_c_bv : Value) (p0_cb : Nat) {r : Int × Int × Int} (hF : S_spec_l1Below F p0_c_b p0_c_i p0_c_h p1_n = some r) (w0 : World) (hM : Mem (feet [(true, bx p0_cb 75 [p0_c_bv, (Value.int IntKind.i64 p0_c_i), (Value.int IntKind.i64 p0_c_h)])]) w0 w0 [(true, bx p0_cb 75 [p0_c_bv, (Value.int IntKind.i64 p0_c_i), (Value.int IntKind.i64 p0_c_h)]), (false, rd p0_c_bv (List.map (Value.int IntKind.u8) p0_c_b))]) :
    Calls Tryd.prog 39 [(fdp p0_cb 0), (Value.int IntKind.i64 p1_n)].toArray w0 (retPost fun v w' => v = (Value.int IntKind.i64 r.1) ∧ Mem (feet [(true, bx p0_cb 75 [p0_c_bv, (Value.int IntKind.i64 p0_c_i), (Value.int IntKind.i64 p0_c_h)])]) w0 w' [(true, bx p0_cb 75 [p0_c_bv, (Value.int IntKind.i64 r.2.1), (Value.int IntKind.i64 r.2.2)])]) := by
  have hM := hM.pick [1, 0] (by decide) rfl
  refine enter2 Tryd.func39 rfl rfl rfl fun Q a hQr hQn hQp hS => ?_
  have hS : Sl 37 [(0, (fdp p0_cb 0)), (1, (Value.int IntKind.i64 p1_n))] a := hS
  unfold S_spec_l1Below at hF
  refine wp_seq_k fun K1 hK1 => ?_
  refine wp_region_lit ?_
  refine st_val hS rfl rfl (by decide) (rv_assign (hS.ev rfl)) fun a hS => ?_
  refine wpList_nil ?_
  refine hK1 _ _ ?_
  refine wp_seq_k fun K2 hK2 => ?_
  refine wp_seq_k fun K5 hK5 => ?_
  refine wp_region_lit ?_
  refine st_val hS rfl rfl (by decide) (rv_move (hS.ev rfl)) fun a hS => ?_
  refine st_val hS rfl rfl (by decide) (rv_leq (hS.ev rfl) (hS.ev rfl)) fun a hS => ?_
  refine wpList_nil ?_
  refine hK5 _ _ ?_
  rcases ite_some hF with ⟨hc, hF⟩ | ⟨hc, hF⟩
  · refine cond_t hS rfl hc ?_
    refine wp_seq_k fun K6 hK6 => ?_
    refine wp_region_lit ?_
    refine st_val hS rfl rfl (by decide) (rv_assign (hS.ev rfl)) fun a hS => ?_
    refine wpList_nil ?_
    refine hK6 _ _ ?_
    refine wp_ret ?_
    cases hF
    exact hQr _ _ (r_1 hS rfl rfl ⟨rfl, hM.pick [1] (by decide) rfl⟩)
  · refine cond_f hS rfl hc ?_
    refine wp_skip ?_
    refine hK2 _ _ ?_
    refine wp_seq_k fun K7 hK7 => ?_
    refine wp_seq_k fun K12 hK12 => ?_
    refine wp_region_lit ?_
    refine st_val hS rfl rfl (by decide) (rv_move (hS.ev rfl)) fun a hS => ?_
    refine st_val hS rfl rfl (by decide) (rv_leq (hS.ev rfl) (hS.ev rfl)) fun a hS => ?_
    refine wpList_nil ?_
    refine hK12 _ _ ?_
    rcases ite_some hF with ⟨hc, hF⟩ | ⟨hc, hF⟩
    · refine cond_t hS rfl hc ?_
      refine wp_seq_k fun K13 hK13 => ?_
      refine wp_region_lit ?_
      refine st_val hS rfl rfl (by decide) (rv_move (hS.ev rfl)) fun a hS => ?_
      obtain ⟨r15, hr, hF⟩ := bind_some hF
      have hM := hM.pick [1, 0] (by decide) rfl
      have hP := Mem.pre (A := [(true, bx p0_cb 75 [p0_c_bv, (Value.int IntKind.i64 p0_c_i), (Value.int IntKind.i64 p0_c_h)])]) (C := [(false, rd p0_c_bv (List.map (Value.int IntKind.u8) p0_c_b))]) (B := []) hM rfl (weaks_cons (weak_self _ _) weaks_nil)
      refine st_wp hS rfl (wp_call hS rfl rfl (by decide) fn_ok_60 rfl (c_spec_l1Byte F p0_c_b p0_c_i p0_c_h p0_c_bv p0_cb hr _ hP) fun v w a hK hS => ?_)
      obtain ⟨rfl, hN⟩ := hK
      have hM := Mem.callo (A := [(true, bx p0_cb 75 [p0_c_bv, (Value.int IntKind.i64 p0_c_i), (Value.int IntKind.i64 p0_c_h)])]) (B := [(false, rd p0_c_bv (List.map (Value.int IntKind.u8) p0_c_b))]) hM rfl hN rfl
      refine st_val hS rfl rfl (by decide) (rv_move (hS.ev rfl)) fun a hS => ?_
      obtain ⟨_, hx, hF⟩ := bind_some hF
      have hi0 := nzO_some hx
      refine st_val hS rfl rfl (by decide) (rv_rem (hS.ev rfl) (hS.ev rfl) hi0) fun a hS => ?_
      refine st_val hS rfl rfl (by decide) (rv_assign (hS.ev rfl)) fun a hS => ?_
      refine wpList_nil ?_
      refine hK13 _ _ ?_
      refine wp_ret ?_
      cases hF
      exact hQr _ _ (r_1 hS rfl rfl ⟨rfl, hM.pick [0] (by decide) rfl⟩)
    · refine cond_f hS rfl hc ?_
      refine wp_skip ?_
      refine hK7 _ _ ?_
      refine wp_seq_k fun K16 hK16 => ?_
      refine wp_region_lit ?_
      refine st_val hS rfl rfl (by decide) (rv_move (hS.ev rfl)) fun a hS => ?_
      obtain ⟨r18, hr, hF⟩ := bind_some hF
      have hM := hM.pick [1, 0] (by decide) rfl
      have hP := Mem.pre (A := [(true, bx p0_cb 75 [p0_c_bv, (Value.int IntKind.i64 p0_c_i), (Value.int IntKind.i64 p0_c_h)])]) (C := [(false, rd p0_c_bv (List.map (Value.int IntKind.u8) p0_c_b))]) (B := []) hM rfl (weaks_cons (weak_self _ _) weaks_nil)
      refine st_wp hS rfl (wp_call hS rfl rfl (by decide) fn_ok_60 rfl (c_spec_l1Byte F p0_c_b p0_c_i p0_c_h p0_c_bv p0_cb hr _ hP) fun v w a hK hS => ?_)
      obtain ⟨rfl, hN⟩ := hK
      have hM := Mem.callo (A := [(true, bx p0_cb 75 [p0_c_bv, (Value.int IntKind.i64 p0_c_i), (Value.int IntKind.i64 p0_c_h)])]) (B := [(false, rd p0_c_bv (List.map (Value.int IntKind.u8) p0_c_b))]) hM rfl hN rfl
      refine st_val hS rfl rfl (by decide) (rv_assign (hS.ev rfl)) fun a hS => ?_
      refine wpList_nil ?_
      refine hK16 _ _ ?_
      refine wp_seq_k fun K19 hK19 => ?_
      refine wp_region_lit ?_
      refine st_val hS rfl rfl (by decide) (rv_move (hS.ev rfl)) fun a hS => ?_
      obtain ⟨r21, hr, hF⟩ := bind_some hF
      have hM := hM.pick [0, 1] (by decide) rfl
      have hP := Mem.pre (A := [(true, bx p0_cb 75 [p0_c_bv, (Value.int IntKind.i64 r18.2.1), (Value.int IntKind.i64 r18.2.2)])]) (C := [(false, rd p0_c_bv (List.map (Value.int IntKind.u8) p0_c_b))]) (B := []) hM rfl (weaks_cons (weak_self _ _) weaks_nil)
      refine st_wp hS rfl (wp_call hS rfl rfl (by decide) fn_ok_60 rfl (c_spec_l1Byte F p0_c_b r18.2.1 r18.2.2 p0_c_bv p0_cb hr _ hP) fun v w a hK hS => ?_)
      obtain ⟨rfl, hN⟩ := hK
      have hM := Mem.callo (A := [(true, bx p0_cb 75 [p0_c_bv, (Value.int IntKind.i64 r18.2.1), (Value.int IntKind.i64 r18.2.2)])]) (B := [(false, rd p0_c_bv (List.map (Value.int IntKind.u8) p0_c_b))]) hM rfl hN rfl
      refine st_val hS rfl rfl (by decide) (rv_assign (hS.ev rfl)) fun a hS => ?_
      refine wpList_nil ?_
      refine hK19 _ _ ?_
      refine wp_seq_k fun K22 hK22 => ?_
      refine wp_region_lit ?_
      refine st_val hS rfl rfl (by decide) (rv_move (hS.ev rfl)) fun a hS => ?_
      obtain ⟨r24, hr, hF⟩ := bind_some hF
      have hM := hM.pick [0, 1] (by decide) rfl
      have hP := Mem.pre (A := [(true, bx p0_cb 75 [p0_c_bv, (Value.int IntKind.i64 r21.2.1), (Value.int IntKind.i64 r21.2.2)])]) (C := [(false, rd p0_c_bv (List.map (Value.int IntKind.u8) p0_c_b))]) (B := []) hM rfl (weaks_cons (weak_self _ _) weaks_nil)
      refine st_wp hS rfl (wp_call hS rfl rfl (by decide) fn_ok_60 rfl (c_spec_l1Byte F p0_c_b r21.2.1 r21.2.2 p0_c_bv p0_cb hr _ hP) fun v w a hK hS => ?_)
      obtain ⟨rfl, hN⟩ := hK
      have hM := Mem.callo (A := [(true, bx p0_cb 75 [p0_c_bv, (Value.int IntKind.i64 r21.2.1), (Value.int IntKind.i64 r21.2.2)])]) (B := [(false, rd p0_c_bv (List.map (Value.int IntKind.u8) p0_c_b))]) hM rfl hN rfl
      refine st_val hS rfl rfl (by decide) (rv_assign (hS.ev rfl)) fun a hS => ?_
      refine wpList_nil ?_
      refine hK22 _ _ ?_
      refine wp_seq_k fun K25 hK25 => ?_
      refine wp_region_lit ?_
      refine st_val hS rfl rfl (by decide) (rv_move (hS.ev rfl)) fun a hS => ?_
      obtain ⟨r27, hr, hF⟩ := bind_some hF
      have hM := hM.pick [0, 1] (by decide) rfl
      have hP := Mem.pre (A := [(true, bx p0_cb 75 [p0_c_bv, (Value.int IntKind.i64 r24.2.1), (Value.int IntKind.i64 r24.2.2)])]) (C := [(false, rd p0_c_bv (List.map (Value.int IntKind.u8) p0_c_b))]) (B := []) hM rfl (weaks_cons (weak_self _ _) weaks_nil)
      refine st_wp hS rfl (wp_call hS rfl rfl (by decide) fn_ok_60 rfl (c_spec_l1Byte F p0_c_b r24.2.1 r24.2.2 p0_c_bv p0_cb hr _ hP) fun v w a hK hS => ?_)
      obtain ⟨rfl, hN⟩ := hK
      have hM := Mem.callo (A := [(true, bx p0_cb 75 [p0_c_bv, (Value.int IntKind.i64 r24.2.1), (Value.int IntKind.i64 r24.2.2)])]) (B := [(false, rd p0_c_bv (List.map (Value.int IntKind.u8) p0_c_b))]) hM rfl hN rfl
      refine st_val hS rfl rfl (by decide) (rv_assign (hS.ev rfl)) fun a hS => ?_
      refine wpList_nil ?_
      refine hK25 _ _ ?_
      refine wp_seq_k fun K28 hK28 => ?_
      refine wp_region_lit ?_
      refine st_val hS rfl rfl (by decide) (rv_move (hS.ev rfl)) fun a hS => ?_
      refine st_val hS rfl rfl (by decide) (rv_mul (hS.ev rfl) (hS.ev rfl)) fun a hS => ?_
      refine st_val hS rfl rfl (by decide) (rv_move (hS.ev rfl)) fun a hS => ?_
      refine st_val hS rfl rfl (by decide) (rv_mul (hS.ev rfl) (hS.ev rfl)) fun a hS => ?_
      refine st_val hS rfl rfl (by decide) (rv_add (hS.ev rfl) (hS.ev rfl)) fun a hS => ?_
      refine st_val hS rfl rfl (by decide) (rv_move (hS.ev rfl)) fun a hS => ?_
      refine st_val hS rfl rfl (by decide) (rv_mul (hS.ev rfl) (hS.ev rfl)) fun a hS => ?_
      refine st_val hS rfl rfl (by decide) (rv_add (hS.ev rfl) (hS.ev rfl)) fun a hS => ?_
      refine st_val hS rfl rfl (by decide) (rv_move (hS.ev rfl)) fun a hS => ?_
      refine st_val hS rfl rfl (by decide) (rv_add (hS.ev rfl) (hS.ev rfl)) fun a hS => ?_
      refine st_val hS rfl rfl (by decide) (rv_move (hS.ev rfl)) fun a hS => ?_
      obtain ⟨_, hx, hF⟩ := bind_some hF
      have hi0 := nzO_some hx
      refine st_val hS rfl rfl (by decide) (rv_rem (hS.ev rfl) (hS.ev rfl) hi0) fun a hS => ?_
      refine st_val hS rfl rfl (by decide) (rv_assign (hS.ev rfl)) fun a hS => ?_
      refine wpList_nil ?_
      refine hK28 _ _ ?_
      refine wp_ret ?_
      cases hF
      exact hQr _ _ (r_1 hS rfl rfl ⟨rfl, hM.pick [0] (by decide) rfl⟩)


theorem c_spec_l1PickInt (F : Nat) (p0_c_b : List Int) (p0_c_i : Int) (p0_c_h : Int) (p1_list : List Int) (p0_c_bv : Value) (p0_cb : Nat) (p1_listv : Value) {r : Int × Int × Int} (hF : S_spec_l1PickInt F p0_c_b p0_c_i p0_c_h p1_list = some r) (w0 : World) (hM : Mem (feet [(true, bx p0_cb 75 [p0_c_bv, (Value.int IntKind.i64 p0_c_i), (Value.int IntKind.i64 p0_c_h)])]) w0 w0 [(true, bx p0_cb 75 [p0_c_bv, (Value.int IntKind.i64 p0_c_i), (Value.int IntKind.i64 p0_c_h)]), (false, rd p0_c_bv (List.map (Value.int IntKind.u8) p0_c_b)), (false, rd p1_listv (List.map (Value.int IntKind.i64) p1_list))]) :
    Calls Tryd.prog 59 [(fdp p0_cb 0), p1_listv].toArray w0 (retPost fun v w' => v = (Value.int IntKind.i64 r.1) ∧ Mem (feet [(true, bx p0_cb 75 [p0_c_bv, (Value.int IntKind.i64 p0_c_i), (Value.int IntKind.i64 p0_c_h)])]) w0 w' [(true, bx p0_cb 75 [p0_c_bv, (Value.int IntKind.i64 r.2.1), (Value.int IntKind.i64 r.2.2)])]) := by
  have hM := hM.pick [1, 0, 2] (by decide) rfl
  refine enter2 Tryd.func59 rfl rfl rfl fun Q a hQr hQn hQp hS => ?_
  have hS : Sl 12 [(0, (fdp p0_cb 0)), (1, p1_listv)] a := hS
  unfold S_spec_l1PickInt at hF
  refine wp_seq_k fun K1 hK1 => ?_
  refine wp_region_lit ?_
  refine st_val hS rfl rfl (by decide) (rv_assign (hS.ev rfl)) fun a hS => ?_
  refine wpList_nil ?_
  refine hK1 _ _ ?_
  refine wp_seq_k fun K2 hK2 => ?_
  refine wp_region_lit ?_
  refine st_val hS rfl rfl (by decide) (rv_move (hS.ev rfl)) fun a hS => ?_
  refine st_val hS rfl rfl (by decide) (rv_move (hS.ev rfl)) fun a hS => ?_
  refine st_val hS rfl rfl (by decide) (rv_move (hS.ev rfl)) fun a hS => ?_
  refine st_val hS rfl rfl (by decide) (rv_len_rowM Tryd.underlying38 (hS.ev rfl) (hM.get 2 rfl)) fun a hS => ?_
  obtain ⟨r5, hr, hF⟩ := bind_some hF
  have hM := hM.pick [1, 0, 2] (by decide) rfl
  have hP := Mem.pre (A := [(true, bx p0_cb 75 [p0_c_bv, (Value.int IntKind.i64 p0_c_i), (Value.int IntKind.i64 p0_c_h)])]) (C := [(false, rd p0_c_bv (List.map (Value.int IntKind.u8) p0_c_b))]) (B := [(false, rd p1_listv (List.map (Value.int IntKind.i64) p1_list))]) hM rfl (weaks_cons (weak_self _ _) weaks_nil)
  refine st_wp hS rfl (wp_call hS rfl rfl (by decide) fn_ok_39 rfl (c_spec_l1Below F p0_c_b p0_c_i p0_c_h (p1_list.length : Int) p0_c_bv p0_cb hr _ hP) fun v w a hK hS => ?_)
  obtain ⟨rfl, hN⟩ := hK
  have hM := Mem.callo (A := [(true, bx p0_cb 75 [p0_c_bv, (Value.int IntKind.i64 p0_c_i), (Value.int IntKind.i64 p0_c_h)])]) (B := [(false, rd p0_c_bv (List.map (Value.int IntKind.u8) p0_c_b)), (false, rd p1_listv (List.map (Value.int IntKind.i64) p1_list))]) hM rfl hN rfl
  obtain ⟨x6, hx, hF⟩ := bind_some hF
  obtain ⟨hi0, hi1, hex6⟩ := idxL_some hx
  refine st_val hS rfl rfl (by decide) (rv_indexAddr Tryd.underlying38 ty_el_3 (hS.ev rfl) (hS.ev rfl) (hM.get 2 rfl) hi0 (map_len hi1)) fun a hS => ?_
  refine st_val hS rfl rfl (by decide) (rv_load_el (hS.ev rfl) ty_ag_3 (hM.get 2 rfl) (mget hex6)) fun a hS => ?_
  refine st_val hS rfl rfl (by decide) (rv_assign (hS.ev rfl)) fun a hS => ?_
  refine wpList_nil ?_
  refine hK2 _ _ ?_
  refine wp_ret ?_
  cases hF
  exact hQr _ _ (r_1 hS rfl rfl ⟨rfl, hM.pick [0] (by decide) rfl⟩)


theorem c_spec_l1Num (F : Nat) (p0_c_b : List Int) (p0_c_i : Int) (p0_c_h : Int) (p0_c_bv : Value) (p0_cb : Nat) {r : Int × Int × Int} (hF : S_spec_l1Num F p0_c_b p0_c_i p0_c_h = some r) (w0 : World) (hM : Mem (feet [(true, bx p0_cb 75 [p0_c_bv, (Value.int IntKind.i64 p0_c_i), (Value.int IntKind.i64 p0_c_h)])]) w0 w0 [(true, bx p0_cb 75 [p0_c_bv, (Value.int IntKind.i64 p0_c_i), (Value.int IntKind.i64 p0_c_h)]), (false, rd p0_c_bv (List.map (Value.int IntKind.u8) p0_c_b))]) :
    Calls Tryd.prog 36 [(fdp p0_cb 0)].toArray w0 (retPost fun v w' => v = (Value.int IntKind.i64 r.1) ∧ Mem (feet [(true, bx p0_cb 75 [p0_c_bv, (Value.int IntKind.i64 p0_c_i), (Value.int IntKind.i64 p0_c_h)])]) w0 w' [(true, bx p0_cb 75 [p0_c_bv, (Value.int IntKind.i64 r.2.1), (Value.int IntKind.i64 r.2.2)])]) := by
  have hM := hM.pick [1, 0] (by decide) rfl
  refine enter2 Tryd.func36 rfl rfl rfl fun Q a hQr hQn hQp hS => ?_
  have hS : Sl 24 [(0, (fdp p0_cb 0))] a := hS
  unfold S_spec_l1Num at hF
  refine wp_seq_k fun K1 hK1 => ?_
  refine wp_region_lit ?_
  refine st_val hS rfl rfl (by decide) (rv_assign (hS.ev rfl)) fun a hS => ?_
  refine wpList_nil ?_
  refine hK1 _ _ ?_
  refine wp_seq_k fun K2 hK2 => ?_
  refine wp_seq_k fun K22 hK22 => ?_
  refine wp_region_lit ?_
  refine st_val hS rfl rfl (by decide) (rv_move (hS.ev rfl)) fun a hS => ?_
  obtain ⟨r24, hr, hF⟩ := bind_some hF
  have hM := hM.pick [1, 0] (by decide) rfl
  have hP := Mem.pre (A := [(true, bx p0_cb 75 [p0_c_bv, (Value.int IntKind.i64 p0_c_i), (Value.int IntKind.i64 p0_c_h)])]) (C := [(false, rd p0_c_bv (List.map (Value.int IntKind.u8) p0_c_b))]) (B := []) hM rfl (weaks_cons (weak_self _ _) weaks_nil)
  refine st_wp hS rfl (wp_call hS rfl rfl (by decide) fn_ok_39 rfl (c_spec_l1Below F p0_c_b p0_c_i p0_c_h 8 p0_c_bv p0_cb hr _ hP) fun v w a hK hS => ?_)
  obtain ⟨rfl, hN⟩ := hK
  have hM := Mem.callo (A := [(true, bx p0_cb 75 [p0_c_bv, (Value.int IntKind.i64 p0_c_i), (Value.int IntKind.i64 p0_c_h)])]) (B := [(false, rd p0_c_bv (List.map (Value.int IntKind.u8) p0_c_b))]) hM rfl hN rfl
  refine wpList_nil ?_
  refine hK22 _ _ ?_
  refine wp_block ?_
  refine wp_seq_k fun K25 hK25 => ?_
  refine wp_region_lit ?_
  refine st_val hS rfl rfl (by decide) (rv_eql (hS.ev rfl) (hS.ev rfl)) fun a hS => ?_
  refine st_val hS rfl rfl (by decide) (rv_assign (hS.ev rfl)) fun a hS => ?_
  refine wpList_nil ?_
  refine hK25 _ _ ?_
  rcases ite_some hF with ⟨hc, hF⟩ | ⟨hc, hF⟩
  · refine cond_t hS rfl hc ?_
    refine wp_seq_k fun K26 hK26 => ?_
    refine wp_region_lit ?_
    refine st_val hS rfl rfl (by decide) (rv_move (hS.ev rfl)) fun a hS => ?_
    obtain ⟨v29, w, hr, hM⟩ := Mem.litE (f := (Value.int IntKind.i64)) (dst := some 8) (ty := _) (pos := _) (af := _) (gd := _) (ps := [(0, .const (Value.int IntKind.i64 (-1))), (1, .const (Value.int IntKind.i64 0)), (2, .const (Value.int IntKind.i64 127)), (3, .const (Value.int IntKind.i64 128)), (4, .const (Value.int IntKind.i64 255)), (5, .const (Value.int IntKind.i64 256)), (6, .const (Value.int IntKind.i64 16383)), (7, .const (Value.int IntKind.i64 16384)), (8, .const (Value.int IntKind.i64 65535)), (9, .const (Value.int IntKind.i64 65536)), (10, .const (Value.int IntKind.i64 562949953421311)), (11, .const (Value.int IntKind.i64 562949953421312)), (12, .const (Value.int IntKind.i64 999999999)), (13, .const (Value.int IntKind.i64 1000000000)), (14, .const (Value.int IntKind.i64 (-999999999))), (15, .const (Value.int IntKind.i64 9223372036854775807)), (16, .const (Value.int IntKind.i64 (-9223372036854775808)))]) ([(-1), 0, 127, 128, 255, 256, 16383, 16384, 65535, 65536, 562949953421311, 562949953421312, 999999999, 1000000000, (-999999999), 9223372036854775807, (-9223372036854775808)] : List (Int)) i64_one hM hS Tryd.underlying38 ty_el_3 rfl rfl rfl rfl
    refine st_val hS rfl rfl (by decide) hr fun a hS => ?_
    obtain ⟨r30, hr, hF⟩ := bind_some hF
    have hM := hM.pick [1, 2, 0] (by decide) rfl
    have hP := Mem.pre (A := [(true, bx p0_cb 75 [p0_c_bv, (Value.int IntKind.i64 r24.2.1), (Value.int IntKind.i64 r24.2.2)])]) (C := [(false, rd p0_c_bv (List.map (Value.int IntKind.u8) p0_c_b)), (true, ow 3 v29 (List.map (Value.int IntKind.i64) ([(-1), 0, 127, 128, 255, 256, 16383, 16384, 65535, 65536, 562949953421311, 562949953421312, 999999999, 1000000000, (-999999999), 9223372036854775807, (-9223372036854775808)] : List (Int))))]) (B := []) hM rfl (weaks_cons (weak_self _ _) (weaks_cons (weak_ow _ _ _ _) weaks_nil))
    refine st_wp hS rfl (wp_call hS rfl rfl (by decide) fn_ok_59 rfl (c_spec_l1PickInt F p0_c_b r24.2.1 r24.2.2 ([(-1), 0, 127, 128, 255, 256, 16383, 16384, 65535, 65536, 562949953421311, 562949953421312, 999999999, 1000000000, (-999999999), 9223372036854775807, (-9223372036854775808)] : List (Int)) p0_c_bv p0_cb v29 hr _ hP) fun v w a hK hS => ?_)
    obtain ⟨rfl, hN⟩ := hK
    have hM := Mem.callo (A := [(true, bx p0_cb 75 [p0_c_bv, (Value.int IntKind.i64 r24.2.1), (Value.int IntKind.i64 r24.2.2)])]) (B := [(false, rd p0_c_bv (List.map (Value.int IntKind.u8) p0_c_b)), (true, ow 3 v29 (List.map (Value.int IntKind.i64) ([(-1), 0, 127, 128, 255, 256, 16383, 16384, 65535, 65536, 562949953421311, 562949953421312, 999999999, 1000000000, (-999999999), 9223372036854775807, (-9223372036854775808)] : List (Int))))]) hM rfl hN rfl
    refine st_val hS rfl rfl (by decide) (rv_assign (hS.ev rfl)) fun a hS => ?_
    refine wpList_nil ?_
    refine hK26 _ _ ?_
    refine wp_ret ?_
    cases hF
    exact hQr _ _ (r_1 hS rfl rfl ⟨rfl, hM.pick [0] (by decide) rfl⟩)
  · refine cond_f hS rfl hc ?_
    refine wp_seq_k fun K31 hK31 => ?_
    refine wp_region_lit ?_
    refine st_val hS rfl rfl (by decide) (rv_eql (hS.ev rfl) (hS.ev rfl)) fun a hS => ?_
    refine st_val hS rfl rfl (by decide) (rv_assign (hS.ev rfl)) fun a hS => ?_
    refine wpList_nil ?_
    refine hK31 _ _ ?_
    rcases ite_some hF with ⟨hc, hF⟩ | ⟨hc, hF⟩
    · refine cond_t hS rfl hc ?_
      refine wp_seq_k fun K32 hK32 => ?_
      refine wp_region_lit ?_
      refine st_val hS rfl rfl (by decide) (rv_move (hS.ev rfl)) fun a hS => ?_
      obtain ⟨r35, hr, hF⟩ := bind_some hF
      have hM := hM.pick [0, 1] (by decide) rfl
      have hP := Mem.pre (A := [(true, bx p0_cb 75 [p0_c_bv, (Value.int IntKind.i64 r24.2.1), (Value.int IntKind.i64 r24.2.2)])]) (C := [(false, rd p0_c_bv (List.map (Value.int IntKind.u8) p0_c_b))]) (B := []) hM rfl (weaks_cons (weak_self _ _) weaks_nil)
      refine st_wp hS rfl (wp_call hS rfl rfl (by decide) fn_ok_39 rfl (c_spec_l1Below F p0_c_b r24.2.1 r24.2.2 1000000000 p0_c_bv p0_cb hr _ hP) fun v w a hK hS => ?_)
      obtain ⟨rfl, hN⟩ := hK
      have hM := Mem.callo (A := [(true, bx p0_cb 75 [p0_c_bv, (Value.int IntKind.i64 r24.2.1), (Value.int IntKind.i64 r24.2.2)])]) (B := [(false, rd p0_c_bv (List.map (Value.int IntKind.u8) p0_c_b))]) hM rfl hN rfl
      refine st_val hS rfl rfl (by decide) (rv_move (hS.ev rfl)) fun a hS => ?_
      obtain ⟨r36, hr, hF⟩ := bind_some hF
      have hM := hM.pick [0, 1] (by decide) rfl
      have hP := Mem.pre (A := [(true, bx p0_cb 75 [p0_c_bv, (Value.int IntKind.i64 r35.2.1), (Value.int IntKind.i64 r35.2.2)])]) (C := [(false, rd p0_c_bv (List.map (Value.int IntKind.u8) p0_c_b))]) (B := []) hM rfl (weaks_cons (weak_self _ _) weaks_nil)
      refine st_wp hS rfl (wp_call hS rfl rfl (by decide) fn_ok_39 rfl (c_spec_l1Below F p0_c_b r35.2.1 r35.2.2 1000000000 p0_c_bv p0_cb hr _ hP) fun v w a hK hS => ?_)
      obtain ⟨rfl, hN⟩ := hK
      have hM := Mem.callo (A := [(true, bx p0_cb 75 [p0_c_bv, (Value.int IntKind.i64 r35.2.1), (Value.int IntKind.i64 r35.2.2)])]) (B := [(false, rd p0_c_bv (List.map (Value.int IntKind.u8) p0_c_b))]) hM rfl hN rfl
      refine st_val hS rfl rfl (by decide) (rv_mul (hS.ev rfl) (hS.ev rfl)) fun a hS => ?_
      refine st_val hS rfl rfl (by decide) (rv_assign (hS.ev rfl)) fun a hS => ?_
      refine wpList_nil ?_
      refine hK32 _ _ ?_
      refine wp_ret ?_
      cases hF
      exact hQr _ _ (r_1 hS rfl rfl ⟨rfl, hM.pick [0] (by decide) rfl⟩)
    · refine cond_f hS rfl hc ?_
      refine wp_seq_k fun K37 hK37 => ?_
      refine wp_region_lit ?_
      refine st_val hS rfl rfl (by decide) (rv_eql (hS.ev rfl) (hS.ev rfl)) fun a hS => ?_
      refine st_val hS rfl rfl (by decide) (rv_assign (hS.ev rfl)) fun a hS => ?_
      refine wpList_nil ?_
      refine hK37 _ _ ?_
      rcases ite_some hF with ⟨hc, hF⟩ | ⟨hc, hF⟩
      · refine cond_t hS rfl hc ?_
        refine wp_seq_k fun K38 hK38 => ?_
        refine wp_region_lit ?_
        refine st_val hS rfl rfl (by decide) (rv_move (hS.ev rfl)) fun a hS => ?_
        obtain ⟨r40, hr, hF⟩ := bind_some hF
        have hM := hM.pick [0, 1] (by decide) rfl
        have hP := Mem.pre (A := [(true, bx p0_cb 75 [p0_c_bv, (Value.int IntKind.i64 r24.2.1), (Value.int IntKind.i64 r24.2.2)])]) (C := [(false, rd p0_c_bv (List.map (Value.int IntKind.u8) p0_c_b))]) (B := []) hM rfl (weaks_cons (weak_self _ _) weaks_nil)
        refine st_wp hS rfl (wp_call hS rfl rfl (by decide) fn_ok_39 rfl (c_spec_l1Below F p0_c_b r24.2.1 r24.2.2 100000 p0_c_bv p0_cb hr _ hP) fun v w a hK hS => ?_)
        obtain ⟨rfl, hN⟩ := hK
        have hM := Mem.callo (A := [(true, bx p0_cb 75 [p0_c_bv, (Value.int IntKind.i64 r24.2.1), (Value.int IntKind.i64 r24.2.2)])]) (B := [(false, rd p0_c_bv (List.map (Value.int IntKind.u8) p0_c_b))]) hM rfl hN rfl
        refine st_val hS rfl rfl (by decide) (rv_neg (hS.ev rfl)) fun a hS => ?_
        refine st_val hS rfl rfl (by decide) (rv_assign (hS.ev rfl)) fun a hS => ?_
        refine wpList_nil ?_
        refine hK38 _ _ ?_
        refine wp_ret ?_
        cases hF
        exact hQr _ _ (r_1 hS rfl rfl ⟨rfl, hM.pick [0] (by decide) rfl⟩)
      · refine cond_f hS rfl hc ?_
        refine wp_skip ?_
        refine hK2 _ _ ?_
        refine wp_seq_k fun K41 hK41 => ?_
        refine wp_region_lit ?_
        refine st_val hS rfl rfl (by decide) (rv_move (hS.ev rfl)) fun a hS => ?_
        obtain ⟨r43, hr, hF⟩ := bind_some hF
        have hM := hM.pick [0, 1] (by decide) rfl
        have hP := Mem.pre (A := [(true, bx p0_cb 75 [p0_c_bv, (Value.int IntKind.i64 r24.2.1), (Value.int IntKind.i64 r24.2.2)])]) (C := [(false, rd p0_c_bv (List.map (Value.int IntKind.u8) p0_c_b))]) (B := []) hM rfl (weaks_cons (weak_self _ _) weaks_nil)
        refine st_wp hS rfl (wp_call hS rfl rfl (by decide) fn_ok_39 rfl (c_spec_l1Below F p0_c_b r24.2.1 r24.2.2 70000 p0_c_bv p0_cb hr _ hP) fun v w a hK hS => ?_)
        obtain ⟨rfl, hN⟩ := hK
        have hM := Mem.callo (A := [(true, bx p0_cb 75 [p0_c_bv, (Value.int IntKind.i64 r24.2.1), (Value.int IntKind.i64 r24.2.2)])]) (B := [(false, rd p0_c_bv (List.map (Value.int IntKind.u8) p0_c_b))]) hM rfl hN rfl
        refine st_val hS rfl rfl (by decide) (rv_assign (hS.ev rfl)) fun a hS => ?_
        refine wpList_nil ?_
        refine hK41 _ _ ?_
        refine wp_ret ?_
        cases hF
        exact hQr _ _ (r_1 hS rfl rfl ⟨rfl, hM.pick [0] (by decide) rfl⟩)


theorem c_spec_DrawEncodeVarint (F : Nat) (p0_code : List Int) (p0_codev : Value) {r : Int} (hF : S_spec_DrawEncodeVarint F p0_code = some r) (w0 : World) (h0 : RdRow w0 p0_codev (List.map (Value.int IntKind.u8) p0_code)) :
    Calls Tryd.prog 10 [p0_codev].toArray w0 (retPost fun v w' => v = (Value.int IntKind.i64 r) ∧ Mem Nob w0 w' []) := by
  have hM : Mem Nob w0 w0 [(false, rd p0_codev (List.map (Value.int IntKind.u8) p0_code))] := (Mem.rcons (Mem.nil w0) h0 (by simp))
  refine enter2 Tryd.func10 rfl rfl rfl fun Q a hQr hQn hQp hS => ?_
  have hS : Sl 8 [(0, p0_codev)] a := hS
  unfold S_spec_DrawEncodeVarint at hF
  refine wp_seq_k fun K1 hK1 => ?_
  refine wp_region_lit ?_
  refine st_val hS rfl rfl (by decide) (rv_assign (hS.ev rfl)) fun a hS => ?_
  refine wpList_nil ?_
  refine hK1 _ _ ?_
  refine wp_seq_k fun K2 hK2 => ?_
  refine wp_region_lit ?_
  refine st_val hS rfl rfl (by decide) (rv_move (hS.ev rfl)) fun a hS => ?_
  obtain ⟨r5, hr, hF⟩ := bind_some hF
  refine st_wp hS rfl (wp_call hS rfl rfl (by decide) fn_ok_35 rfl (c_spec_l1New F p0_code p0_codev hr _ (hM.get 0 rfl)) fun v w a hK hS => ?_)
  obtain ⟨b6, rfl, hN⟩ := hK
  have hM := hM.add hN rfl
  refine st_val hS rfl rfl (by decide) (rv_assign (hS.ev rfl)) fun a hS => ?_
  refine wpList_nil ?_
  refine hK2 _ _ ?_
  refine wp_seq_k fun K7 hK7 => ?_
  refine wp_region_lit ?_
  refine st_val hS rfl rfl (by decide) (rv_move (hS.ev rfl)) fun a hS => ?_
  obtain ⟨r9, hr, hF⟩ := bind_some hF
  have hM := hM.pick [0, 1] (by decide) rfl
  have hP := Mem.pre (A := [(true, bx b6 75 [p0_codev, (Value.int IntKind.i64 r5.1), (Value.int IntKind.i64 r5.2)])]) (C := [(false, rd p0_codev (List.map (Value.int IntKind.u8) p0_code))]) (B := []) hM rfl (weaks_cons (weak_self _ _) weaks_nil)
  refine st_wp hS rfl (wp_call hS rfl rfl (by decide) fn_ok_36 rfl (c_spec_l1Num F p0_code r5.1 r5.2 p0_codev b6 hr _ hP) fun v w a hK hS => ?_)
  obtain ⟨rfl, hN⟩ := hK
  have hM := Mem.callo (A := [(true, bx b6 75 [p0_codev, (Value.int IntKind.i64 r5.1), (Value.int IntKind.i64 r5.2)])]) (B := [(false, rd p0_codev (List.map (Value.int IntKind.u8) p0_code))]) hM rfl hN rfl
  refine st_val hS rfl rfl (by decide) (rv_assign (hS.ev rfl)) fun a hS => ?_
  refine wpList_nil ?_
  refine hK7 _ _ ?_
  refine wp_ret ?_
  cases hF
  exact hQr _ _ (r_1 hS rfl rfl ⟨rfl, hM.pick [] (by decide) rfl⟩)


theorem c_spec_l1Text (F : Nat) (p0_c_b : List Int) (p0_c_i : Int) (p0_c_h : Int) (p1_most : Int) (p0_c_bv : Value) (p0_cb : Nat) {r : (List UInt8) × Int × Int} (hF : S_spec_l1Text F p0_c_b p0_c_i p0_c_h p1_most = some r) (w0 : World) (hM : Mem (feet [(true, bx p0_cb 75 [p0_c_bv, (Value.int IntKind.i64 p0_c_i), (Value.int IntKind.i64 p0_c_h)])]) w0 w0 [(true, bx p0_cb 75 [p0_c_bv, (Value.int IntKind.i64 p0_c_i), (Value.int IntKind.i64 p0_c_h)]), (false, rd p0_c_bv (List.map (Value.int IntKind.u8) p0_c_b))]) :
    Calls Tryd.prog 37 [(fdp p0_cb 0), (Value.int IntKind.i64 p1_most)].toArray w0 (retPost fun v w' => v = (Value.string (bs r.1)) ∧ Mem (feet [(true, bx p0_cb 75 [p0_c_bv, (Value.int IntKind.i64 p0_c_i), (Value.int IntKind.i64 p0_c_h)])]) w0 w' [(true, bx p0_cb 75 [p0_c_bv, (Value.int IntKind.i64 r.2.1), (Value.int IntKind.i64 r.2.2)])]) := by
  have hM := hM.pick [1, 0] (by decide) rfl
  refine enter2 Tryd.func37 rfl rfl rfl fun Q a hQr hQn hQp hS => ?_
  have hS : Sl 38 [(0, (fdp p0_cb 0)), (1, (Value.int IntKind.i64 p1_most))] a := hS
  unfold S_spec_l1Text at hF
  refine wp_seq_k fun K1 hK1 => ?_
  refine wp_region_lit ?_
  refine st_val hS rfl rfl (by decide) (rv_assign (hS.ev rfl)) fun a hS => ?_
  refine wpList_nil ?_
  refine hK1 _ _ ?_
  refine wp_seq_k fun K2 hK2 => ?_
  refine wp_region_lit ?_
  obtain ⟨v4, w, hr, hM⟩ := Mem.litE (f := (Value.int IntKind.u8)) (dst := some 9) (ty := _) (pos := _) (af := _) (gd := _) (ps := []) ([] : List (Int)) u8_one hM hS Tryd.underlying22 ty_el_5 rfl rfl rfl rfl
  refine st_val hS rfl rfl (by decide) hr fun a hS => ?_
  refine st_val hS rfl rfl (by decide) (rv_assign (hS.ev rfl)) fun a hS => ?_
  refine wpList_nil ?_
  refine hK2 _ _ ?_
  refine wp_seq_k fun K5 hK5 => ?_
  refine wp_region_lit ?_
  refine st_val hS rfl rfl (by decide) (rv_move (hS.ev rfl)) fun a hS => ?_
  obtain ⟨r7, hr, hF⟩ := bind_some hF
  have hM := hM.pick [2, 1, 0] (by decide) rfl
  have hP := Mem.pre (A := [(true, bx p0_cb 75 [p0_c_bv, (Value.int IntKind.i64 p0_c_i), (Value.int IntKind.i64 p0_c_h)])]) (C := [(false, rd p0_c_bv (List.map (Value.int IntKind.u8) p0_c_b))]) (B := [(true, ow 5 v4 (List.map (Value.int IntKind.u8) ([] : List (Int))))]) hM rfl (weaks_cons (weak_self _ _) weaks_nil)
  refine st_wp hS rfl (wp_call hS rfl rfl (by decide) fn_ok_39 rfl (c_spec_l1Below F p0_c_b p0_c_i p0_c_h 4 p0_c_bv p0_cb hr _ hP) fun v w a hK hS => ?_)
  obtain ⟨rfl, hN⟩ := hK
  have hM := Mem.callo (A := [(true, bx p0_cb 75 [p0_c_bv, (Value.int IntKind.i64 p0_c_i), (Value.int IntKind.i64 p0_c_h)])]) (B := [(false, rd p0_c_bv (List.map (Value.int IntKind.u8) p0_c_b)), (true, ow 5 v4 (List.map (Value.int IntKind.u8) ([] : List (Int))))]) hM rfl hN rfl
  refine st_val hS rfl rfl (by decide) (rv_assign (hS.ev rfl)) fun a hS => ?_
  refine wpList_nil ?_
  refine hK5 _ _ ?_
  refine wp_seq_k fun K8 hK8 => ?_
  have hJ1 : ∀ (l111 : List Int) (x112 : Int) (x113 : Int) (v110 : Value) (a : Act) (w : World), Sl 38 [(5, v110)] a → Mem (feet [(true, bx p0_cb 75 [p0_c_bv, (Value.int IntKind.i64 p0_c_i), (Value.int IntKind.i64 p0_c_h)])]) w0 w [(true, ow 5 v110 (List.map (Value.int IntKind.u8) l111)), (true, bx p0_cb 75 [p0_c_bv, (Value.int IntKind.i64 x112), (Value.int IntKind.i64 x113)]), (false, rd p0_c_bv (List.map (Value.int IntKind.u8) p0_c_b))] → S_spec_l1Text_j1 F l111 x112 x113 = some r → K8 a w := by
    intro l111 x112 x113 v110 a w hS hM hF
    unfold S_spec_l1Text_j1 at hF
    refine hK8 _ _ ?_
    refine wp_seq_k fun K114 hK114 => ?_
    refine wp_region_lit ?_
    refine st_val hS rfl rfl (by decide) (rv_move (hS.ev rfl)) fun a hS => ?_
    refine st_val hS rfl rfl (by decide) (rv_bstr Tryd.underlying22 Tryd.underlying5 Tryd.underlying9 (hS.ev rfl) (rd_of_ow (hM.get 0 rfl))) fun a hS => ?_
    refine st_val hS rfl rfl (by decide) (rv_assign (hS.ev rfl)) fun a hS => ?_
    refine wpList_nil ?_
    refine hK114 _ _ ?_
    refine wp_ret ?_
    cases hF
    exact hQr _ _ (r_1 hS rfl rfl ⟨rfl, hM.pick [1] (by decide) rfl⟩)
  refine wp_seq_k fun K115 hK115 => ?_
  refine wp_region_lit ?_
  refine st_val hS rfl rfl (by decide) (rv_move (hS.ev rfl)) fun a hS => ?_
  refine st_val hS rfl rfl (by decide) (rv_move (hS.ev rfl)) fun a hS => ?_
  refine st_val hS rfl rfl (by decide) (rv_add (hS.ev rfl) (hS.ev rfl)) fun a hS => ?_
  obtain ⟨r117, hr, hF⟩ := bind_some hF
  have hM := hM.pick [0, 1, 2] (by decide) rfl
  have hP := Mem.pre (A := [(true, bx p0_cb 75 [p0_c_bv, (Value.int IntKind.i64 r7.2.1), (Value.int IntKind.i64 r7.2.2)])]) (C := [(false, rd p0_c_bv (List.map (Value.int IntKind.u8) p0_c_b))]) (B := [(true, ow 5 v4 (List.map (Value.int IntKind.u8) ([] : List (Int))))]) hM rfl (weaks_cons (weak_self _ _) weaks_nil)
  refine st_wp hS rfl (wp_call hS rfl rfl (by decide) fn_ok_39 rfl (c_spec_l1Below F p0_c_b r7.2.1 r7.2.2 (IntKind.i64.wrap (p1_most + 1)) p0_c_bv p0_cb hr _ hP) fun v w a hK hS => ?_)
  obtain ⟨rfl, hN⟩ := hK
  have hM := Mem.callo (A := [(true, bx p0_cb 75 [p0_c_bv, (Value.int IntKind.i64 r7.2.1), (Value.int IntKind.i64 r7.2.2)])]) (B := [(false, rd p0_c_bv (List.map (Value.int IntKind.u8) p0_c_b)), (true, ow 5 v4 (List.map (Value.int IntKind.u8) ([] : List (Int))))]) hM rfl hN rfl
  refine st_val hS rfl rfl (by decide) (rv_assign (hS.ev rfl)) fun a hS => ?_
  refine wpList_nil ?_
  refine hK115 _ _ ?_
  refine wp_block ?_
  obtain ⟨lb2, hl2, hF2⟩ := bind_some hF
  refine wp_loop_sh (fun s => S_spec_l1Text_l2 F p0_c_b r7 s.1 s.2.1 s.2.2.1 s.2.2.2) (fun s a w => ∃ (v153 : Value), Sl 38 [(0, (fdp p0_cb 0)), (5, v153), (6, (Value.int IntKind.i64 r7.1)), (7, (Value.int IntKind.i64 s.2.2.2))] a ∧ Mem (feet [(true, bx p0_cb 75 [p0_c_bv, (Value.int IntKind.i64 p0_c_i), (Value.int IntKind.i64 p0_c_h)])]) w0 w [(true, bx p0_cb 75 [p0_c_bv, (Value.int IntKind.i64 s.1), (Value.int IntKind.i64 s.2.1)]), (false, rd p0_c_bv (List.map (Value.int IntKind.u8) p0_c_b)), (true, ow 5 v153 (List.map (Value.int IntKind.u8) s.2.2.1))]) hl2 ⟨v4, (hS.sub (sub_cons rfl (sub_cons rfl (sub_cons rfl (sub_cons rfl sub_nil))))), (hM.pick [0, 1, 2] (by decide) rfl)⟩ ?_
  rintro K2 ⟨x151, x152, l154, x155⟩ a w res2 ⟨v153, hS, hM⟩ hF hN2 hX2
  have hF : S_spec_l1Text_l2 F p0_c_b r7 x151 x152 l154 x155 = some res2 := hF
  have hS : Sl 38 [(0, (fdp p0_cb 0)), (5, v153), (6, (Value.int IntKind.i64 r7.1)), (7, (Value.int IntKind.i64 x155))] a := hS
  have hM : Mem (feet [(true, bx p0_cb 75 [p0_c_bv, (Value.int IntKind.i64 p0_c_i), (Value.int IntKind.i64 p0_c_h)])]) w0 w [(true, bx p0_cb 75 [p0_c_bv, (Value.int IntKind.i64 x151), (Value.int IntKind.i64 x152)]), (false, rd p0_c_bv (List.map (Value.int IntKind.u8) p0_c_b)), (true, ow 5 v153 (List.map (Value.int IntKind.u8) l154))] := hM
  unfold S_spec_l1Text_l2 at hF
  refine wp_seq_k fun K186 hK186 => ?_
  refine wp_seq_k fun K188 hK188 => ?_
  refine wp_region_lit ?_
  refine st_val hS rfl rfl (by decide) (rv_move (hS.ev rfl)) fun a hS => ?_
  refine st_val hS rfl rfl (by decide) (rv_gtr (hS.ev rfl) (hS.ev rfl)) fun a hS => ?_
  refine wpList_nil ?_
  refine hK188 _ _ ?_
  rcases ite_some hF with ⟨hc, hF⟩ | ⟨hc, hF⟩
  · refine cond_t hS rfl hc ?_
    refine wp_skip ?_
    refine hK186 _ _ ?_
    refine wp_seq_k fun K189 hK189 => ?_
    refine wp_block ?_
    refine wp_seq_k fun K203 hK203 => ?_
    refine wp_region_lit ?_
    refine st_val hS rfl rfl (by decide) (rv_move (hS.ev rfl)) fun a hS => ?_
    obtain ⟨r205, hr, hF⟩ := bind_some hF
    have hM := hM.pick [0, 1, 2] (by decide) rfl
    have hP := Mem.pre (A := [(true, bx p0_cb 75 [p0_c_bv, (Value.int IntKind.i64 x151), (Value.int IntKind.i64 x152)])]) (C := [(false, rd p0_c_bv (List.map (Value.int IntKind.u8) p0_c_b))]) (B := [(true, ow 5 v153 (List.map (Value.int IntKind.u8) l154))]) hM rfl (weaks_cons (weak_self _ _) weaks_nil)
    refine st_wp hS rfl (wp_call hS rfl rfl (by decide) fn_ok_60 rfl (c_spec_l1Byte F p0_c_b x151 x152 p0_c_bv p0_cb hr _ hP) fun v w a hK hS => ?_)
    obtain ⟨rfl, hN⟩ := hK
    have hM := Mem.callo (A := [(true, bx p0_cb 75 [p0_c_bv, (Value.int IntKind.i64 x151), (Value.int IntKind.i64 x152)])]) (B := [(false, rd p0_c_bv (List.map (Value.int IntKind.u8) p0_c_b)), (true, ow 5 v153 (List.map (Value.int IntKind.u8) l154))]) hM rfl hN rfl
    refine st_val hS rfl rfl (by decide) (rv_assign (hS.ev rfl)) fun a hS => ?_
    refine wpList_nil ?_
    refine hK203 _ _ ?_
    refine wp_seq_k fun K206 hK206 => ?_
    have hJ3 : ∀ (x208 : Int) (a : Act) (w : World), Sl 38 [(0, (fdp p0_cb 0)), (5, v153), (6, (Value.int IntKind.i64 r7.1)), (7, (Value.int IntKind.i64 x155)), (8, (Value.int IntKind.i64 x208))] a → Mem (feet [(true, bx p0_cb 75 [p0_c_bv, (Value.int IntKind.i64 p0_c_i), (Value.int IntKind.i64 p0_c_h)])]) w0 w [(true, bx p0_cb 75 [p0_c_bv, (Value.int IntKind.i64 r205.2.1), (Value.int IntKind.i64 r205.2.2)]), (false, rd p0_c_bv (List.map (Value.int IntKind.u8) p0_c_b)), (true, ow 5 v153 (List.map (Value.int IntKind.u8) l154))] → S_spec_l1Text_j3 F r7 l154 x155 r205 x208 = some res2 → K206 a w := by
      intro x208 a w hS hM hF
      unfold S_spec_l1Text_j3 at hF
      refine hK206 _ _ ?_
      refine wp_seq_k fun K209 hK209 => ?_
      have hJ4 : ∀ (x211 : Int) (a : Act) (w : World), Sl 38 [(0, (fdp p0_cb 0)), (5, v153), (6, (Value.int IntKind.i64 r7.1)), (7, (Value.int IntKind.i64 x155)), (8, (Value.int IntKind.i64 x211))] a → Mem (feet [(true, bx p0_cb 75 [p0_c_bv, (Value.int IntKind.i64 p0_c_i), (Value.int IntKind.i64 p0_c_h)])]) w0 w [(true, bx p0_cb 75 [p0_c_bv, (Value.int IntKind.i64 r205.2.1), (Value.int IntKind.i64 r205.2.2)]), (false, rd p0_c_bv (List.map (Value.int IntKind.u8) p0_c_b)), (true, ow 5 v153 (List.map (Value.int IntKind.u8) l154))] → S_spec_l1Text_j4 F l154 x155 r205 x211 = some res2 → K209 a w := by
        intro x211 a w hS hM hF
        unfold S_spec_l1Text_j4 at hF
        refine hK209 _ _ ?_
        refine wp_region_lit ?_
        refine st_val hS rfl rfl (by decide) (rv_move (hS.ev rfl)) fun a hS => ?_
        refine st_val hS rfl rfl (by decide) (rv_move (hS.ev rfl)) fun a hS => ?_
        refine st_val hS rfl rfl (by decide) (rv_conv Tryd.underlying3 Tryd.underlying5 (hS.ev rfl)) fun a hS => ?_
        obtain ⟨v212, w, hr, hM⟩ := Mem.litE (f := (Value.int IntKind.u8)) (dst := some 34) (ty := _) (pos := _) (af := _) (gd := _) (ps := [(0, .tmp 33)]) ([(IntKind.u8.wrap x211)] : List (Int)) u8_one hM hS Tryd.underlying22 ty_el_5 rfl rfl rfl rfl
        refine st_val hS rfl rfl (by decide) hr fun a hS => ?_
        obtain ⟨_, hx, hF⟩ := bind_some hF
        have hM := hM.pick [3, 0, 1, 2] (by decide) rfl
        obtain ⟨v213, w, hr, hM⟩ := Mem.appE (f := (Value.int IntKind.u8)) (S := _) (R := [(true, ow 5 v212 (List.map (Value.int IntKind.u8) ([(IntKind.u8.wrap x211)] : List (Int)))), (true, bx p0_cb 75 [p0_c_bv, (Value.int IntKind.i64 r205.2.1), (Value.int IntKind.i64 r205.2.2)]), (false, rd p0_c_bv (List.map (Value.int IntKind.u8) p0_c_b))]) (ρ := a.eval) (dst := some 35) (ty := _) (pos := _) (af := _) (gd := _) (x := .tmp 31) (y := .tmp 34) u8_one hM Tryd.underlying22 ty_el_5 rfl (by decide) (hS.ev rfl) (hS.ev rfl) (rd_of_ow (hM.get 1 rfl)) (catO_some hx)
        refine st_val hS rfl rfl (by decide) hr fun a hS => ?_
        refine st_val hS rfl rfl (by decide) (rv_assign (hS.ev rfl)) fun a hS => ?_
        refine wpList_nil ?_
        refine hK189 _ _ ?_
        refine wp_region_lit ?_
        refine st_val hS rfl rfl (by decide) (rv_move (hS.ev rfl)) fun a hS => ?_
        refine st_val hS rfl rfl (by decide) (rv_sub (hS.ev rfl) (hS.ev rfl)) fun a hS => ?_
        refine st_val hS rfl rfl (by decide) (rv_assign (hS.ev rfl)) fun a hS => ?_
        refine wpList_nil ?_
        cases hF
        exact hN2 _ _ _ rfl ⟨v213, (hS.sub (sub_cons rfl (sub_cons rfl (sub_cons rfl (sub_cons rfl sub_nil))))), (hM.pick [2, 3, 0] (by decide) rfl)⟩
      refine wp_seq_k fun K214 hK214 => ?_
      refine wp_region_lit ?_
      refine st_val hS rfl rfl (by decide) (rv_move (hS.ev rfl)) fun a hS => ?_
      refine st_val hS rfl rfl (by decide) (rv_eql (hS.ev rfl) (hS.ev rfl)) fun a hS => ?_
      refine wpList_nil ?_
      refine hK214 _ _ ?_
      rcases ite_some hF with ⟨hc, hF⟩ | ⟨hc, hF⟩
      · refine cond_t hS rfl hc ?_
        refine wp_region_lit ?_
        refine st_val hS rfl rfl (by decide) (rv_move (hS.ev rfl)) fun a hS => ?_
        refine st_val hS rfl rfl (by decide) (rv_rem (hS.ev rfl) (hS.ev rfl) (by decide)) fun a hS => ?_
        refine st_val hS rfl rfl (by decide) (rv_add (hS.ev rfl) (hS.ev rfl)) fun a hS => ?_
        refine st_val hS rfl rfl (by decide) (rv_assign (hS.ev rfl)) fun a hS => ?_
        refine wpList_nil ?_
        exact hJ4 (IntKind.i64.wrap (97 + (x208.tmod 4))) _ _ (hS.sub (sub_cons rfl (sub_cons rfl (sub_cons rfl (sub_cons rfl (sub_cons rfl sub_nil)))))) (hM.pick [0, 1, 2] (by decide) rfl) hF
      · refine cond_f hS rfl hc ?_
        refine wp_skip ?_
        exact hJ4 x208 _ _ (hS.sub (sub_cons rfl (sub_cons rfl (sub_cons rfl (sub_cons rfl (sub_cons rfl sub_nil)))))) (hM.pick [0, 1, 2] (by decide) rfl) hF
    refine wp_seq_k fun K215 hK215 => ?_
    refine wp_region_lit ?_
    refine st_val hS rfl rfl (by decide) (rv_move (hS.ev rfl)) fun a hS => ?_
    refine st_val hS rfl rfl (by decide) (rv_eql (hS.ev rfl) (hS.ev rfl)) fun a hS => ?_
    refine wpList_nil ?_
    refine hK215 _ _ ?_
    rcases ite_some hF with ⟨hc, hF⟩ | ⟨hc, hF⟩
    · refine cond_t hS rfl hc ?_
      refine wp_region_lit ?_
      refine st_val hS rfl rfl (by decide) (rv_move (hS.ev rfl)) fun a hS => ?_
      refine st_val hS rfl rfl (by decide) (rv_rem (hS.ev rfl) (hS.ev rfl) (by decide)) fun a hS => ?_
      refine st_val hS rfl rfl (by decide) (rv_assign (hS.ev rfl)) fun a hS => ?_
      refine wpList_nil ?_
      exact hJ3 (r205.1.tmod 2) _ _ (hS.sub (sub_cons rfl (sub_cons rfl (sub_cons rfl (sub_cons rfl (sub_cons rfl sub_nil)))))) (hM.pick [0, 1, 2] (by decide) rfl) hF
    · refine cond_f hS rfl hc ?_
      refine wp_skip ?_
      exact hJ3 r205.1 _ _ (hS.sub (sub_cons rfl (sub_cons rfl (sub_cons rfl (sub_cons rfl (sub_cons rfl sub_nil)))))) (hM.pick [0, 1, 2] (by decide) rfl) hF
  · refine cond_f hS rfl hc ?_
    refine wp_exit ?_
    cases hF
    exact hJ1 l154 x151 x152 v153 _ _ (hS.sub (sub_cons rfl sub_nil)) (hM.pick [2, 0, 1] (by decide) rfl) (by have e := hX2 _ rfl; subst e; exact hF2)


theorem c_spec_DrawEncodeHex (F : Nat) (p0_code : List Int) (p0_codev : Value) {r : (List UInt8)} (hF : S_spec_DrawEncodeHex F p0_code = some r) (w0 : World) (h0 : RdRow w0 p0_codev (List.map (Value.int IntKind.u8) p0_code)) :
    Calls Tryd.prog 11 [p0_codev].toArray w0 (retPost fun v w' => v = (Value.string (bs r)) ∧ Mem Nob w0 w' []) := by
  have hM : Mem Nob w0 w0 [(false, rd p0_codev (List.map (Value.int IntKind.u8) p0_code))] := (Mem.rcons (Mem.nil w0) h0 (by simp))
  refine enter2 Tryd.func11 rfl rfl rfl fun Q a hQr hQn hQp hS => ?_
  have hS : Sl 8 [(0, p0_codev)] a := hS
  unfold S_spec_DrawEncodeHex at hF
  refine wp_seq_k fun K1 hK1 => ?_
  refine wp_region_lit ?_
  refine st_val hS rfl rfl (by decide) (rv_assign (hS.ev rfl)) fun a hS => ?_
  refine wpList_nil ?_
  refine hK1 _ _ ?_
  refine wp_seq_k fun K2 hK2 => ?_
  refine wp_region_lit ?_
  refine st_val hS rfl rfl (by decide) (rv_move (hS.ev rfl)) fun a hS => ?_
  obtain ⟨r5, hr, hF⟩ := bind_some hF
  refine st_wp hS rfl (wp_call hS rfl rfl (by decide) fn_ok_35 rfl (c_spec_l1New F p0_code p0_codev hr _ (hM.get 0 rfl)) fun v w a hK hS => ?_)
  obtain ⟨b6, rfl, hN⟩ := hK
  have hM := hM.add hN rfl
  refine st_val hS rfl rfl (by decide) (rv_assign (hS.ev rfl)) fun a hS => ?_
  refine wpList_nil ?_
  refine hK2 _ _ ?_
  refine wp_seq_k fun K7 hK7 => ?_
  refine wp_region_lit ?_
  refine st_val hS rfl rfl (by decide) (rv_move (hS.ev rfl)) fun a hS => ?_
  obtain ⟨r9, hr, hF⟩ := bind_some hF
  have hM := hM.pick [0, 1] (by decide) rfl
  have hP := Mem.pre (A := [(true, bx b6 75 [p0_codev, (Value.int IntKind.i64 r5.1), (Value.int IntKind.i64 r5.2)])]) (C := [(false, rd p0_codev (List.map (Value.int IntKind.u8) p0_code))]) (B := []) hM rfl (weaks_cons (weak_self _ _) weaks_nil)
  refine st_wp hS rfl (wp_call hS rfl rfl (by decide) fn_ok_37 rfl (c_spec_l1Text F p0_code r5.1 r5.2 40 p0_codev b6 hr _ hP) fun v w a hK hS => ?_)
  obtain ⟨rfl, hN⟩ := hK
  have hM := Mem.callo (A := [(true, bx b6 75 [p0_codev, (Value.int IntKind.i64 r5.1), (Value.int IntKind.i64 r5.2)])]) (B := [(false, rd p0_codev (List.map (Value.int IntKind.u8) p0_code))]) hM rfl hN rfl
  refine st_val hS rfl rfl (by decide) (rv_assign (hS.ev rfl)) fun a hS => ?_
  refine wpList_nil ?_
  refine hK7 _ _ ?_
  refine wp_ret ?_
  cases hF
  exact hQr _ _ (r_1 hS rfl rfl ⟨rfl, hM.pick [] (by decide) rfl⟩)


theorem c_impl_within (F : Nat) (p0_n : Int) (p1_low : Int) (p2_high : Int) {r : Bool} (hF : S_impl_within F p0_n p1_low p2_high = some r) (w0 : World) :
    Calls Tryd.prog 38 [(Value.int IntKind.i64 p0_n), (Value.int IntKind.i64 p1_low), (Value.int IntKind.i64 p2_high)].toArray w0 (retPost fun v w' => v = (Value.bool r) ∧ Mem Nob w0 w' []) := by
  have hM : Mem Nob w0 w0 [] := (Mem.nil w0)
  refine enter2 Tryd.func38 rfl rfl rfl fun Q a hQr hQn hQp hS => ?_
  have hS : Sl 15 [(0, (Value.int IntKind.i64 p0_n)), (1, (Value.int IntKind.i64 p1_low)), (2, (Value.int IntKind.i64 p2_high))] a := hS
  unfold S_impl_within at hF
  refine wp_seq_k fun K1 hK1 => ?_
  refine wp_region_lit ?_
  refine st_val hS rfl rfl (by decide) (rv_assign (hS.ev rfl)) fun a hS => ?_
  refine wpList_nil ?_
  refine hK1 _ _ ?_
  refine wp_seq_k fun K2 hK2 => ?_
  have hJ1 : ∀ (p3 : Bool) (a : Act) (w : World), Sl 15 [(6, (Value.bool p3))] a → Mem Nob w0 w [] → S_impl_within_j1 F p3 = some r → K2 a w := by
    intro p3 a w hS hM hF
    unfold S_impl_within_j1 at hF
    refine hK2 _ _ ?_
    refine wp_ret ?_
    cases hF
    exact hQr _ _ (r_1 hS rfl rfl ⟨rfl, hM.pick [] (by decide) rfl⟩)
  refine wp_region_lit ?_
  refine st_val hS rfl rfl (by decide) (rv_move (hS.ev rfl)) fun a hS => ?_
  refine st_val hS rfl rfl (by decide) (rv_move (hS.ev rfl)) fun a hS => ?_
  refine st_val hS rfl rfl (by decide) (rv_leq (hS.ev rfl) (hS.ev rfl)) fun a hS => ?_
  refine st_val hS rfl rfl (by decide) (rv_move (hS.ev rfl)) fun a hS => ?_
  rcases ite_some hF with ⟨hc, hF⟩ | ⟨hc, hF⟩
  · have hS := hS.setb (t := 10) rfl hc
    refine st_val hS rfl rfl (by decide) (rv_move (hS.ev rfl)) fun a hS => ?_
    refine st_val hS rfl rfl (by decide) (rv_move (hS.ev rfl)) fun a hS => ?_
    refine st_val hS rfl rfl (by decide) (rv_leq (hS.ev rfl) (hS.ev rfl)) fun a hS => ?_
    refine st_val hS rfl rfl (by decide) (rv_pick_t (hS.ev rfl) (hS.ev rfl)) fun a hS => ?_
    refine st_val hS rfl rfl (by decide) (rv_assign (hS.ev rfl)) fun a hS => ?_
    refine wpList_nil ?_
    exact hJ1 (decide (p0_n ≤ p2_high)) _ _ (hS.sub (sub_cons rfl sub_nil)) (hM.pick [] (by decide) rfl) hF
  · have hS := hS.setb (t := 10) rfl hc
    refine st_skip hS rfl rfl (by decide) fun a hS => ?_
    refine st_skip hS rfl rfl (by decide) fun a hS => ?_
    refine st_skip hS rfl rfl (by decide) fun a hS => ?_
    refine st_val hS rfl rfl (by decide) (rv_pick_f (hS.ev rfl) (hS.ev rfl)) fun a hS => ?_
    refine st_val hS rfl rfl (by decide) (rv_assign (hS.ev rfl)) fun a hS => ?_
    refine wpList_nil ?_
    exact hJ1 false _ _ (hS.sub (sub_cons rfl sub_nil)) (hM.pick [] (by decide) rfl) hF


theorem c_impl_EncodeVarint (F : Nat) (p0_n : Int) {r : (List UInt8)} (hF : S_impl_EncodeVarint F p0_n = some r) (w0 : World) :
    Calls Tryd.prog 12 [(Value.int IntKind.i64 p0_n)].toArray w0 (retPost fun v w' => v = (Value.string (bs r)) ∧ Mem Nob w0 w' []) := by
  have hM : Mem Nob w0 w0 [] := (Mem.nil w0)
  refine enter2 Tryd.func12 rfl rfl rfl fun Q a hQr hQn hQp hS => ?_
  have hS : Sl 25 [(0, (Value.int IntKind.i64 p0_n))] a := hS
  unfold S_impl_EncodeVarint at hF
  refine wp_seq_k fun K1 hK1 => ?_
  refine wp_region_lit ?_
  refine st_val hS rfl rfl (by decide) (rv_assign (hS.ev rfl)) fun a hS => ?_
  refine wpList_nil ?_
  refine hK1 _ _ ?_
  refine wp_seq_k fun K2 hK2 => ?_
  refine wp_seq_k fun K7 hK7 => ?_
  refine wp_region_lit ?_
  refine st_val hS rfl rfl (by decide) (rv_move (hS.ev rfl)) fun a hS => ?_
  obtain ⟨r9, hr, hF⟩ := bind_some hF
  refine st_wp hS rfl (wp_call hS rfl rfl (by decide) fn_ok_38 rfl (c_impl_within F p0_n 0 562949953421311 hr _) fun v w a hK hS => ?_)
  obtain ⟨rfl, hN⟩ := hK
  have hM := hM.fra hN.fr
  refine st_val hS rfl rfl (by decide) (rv_not (hS.ev rfl)) fun a hS => ?_
  refine wpList_nil ?_
  refine hK7 _ _ ?_
  rcases ite_some hF with ⟨hc, hF⟩ | ⟨hc, hF⟩
  · refine cond_t hS rfl hc ?_
    refine wp_seq_k fun K10 hK10 => ?_
    refine wp_region_lit ?_
    refine st_val hS rfl rfl (by decide) (rv_assign (hS.ev rfl)) fun a hS => ?_
    refine wpList_nil ?_
    refine hK10 _ _ ?_
    refine wp_ret ?_
    cases hF
    exact hQr _ _ (r_1 hS rfl rfl ⟨rfl, hM.pick [] (by decide) rfl⟩)
  · refine cond_f hS rfl hc ?_
    refine wp_skip ?_
    refine hK2 _ _ ?_
    refine wp_seq_k fun K11 hK11 => ?_
    refine wp_region_lit ?_
    obtain ⟨v13, w, hr, hM⟩ := Mem.litE (f := (Value.int IntKind.u8)) (dst := some 7) (ty := _) (pos := _) (af := _) (gd := _) (ps := []) ([] : List (Int)) u8_one hM hS Tryd.underlying22 ty_el_5 rfl rfl rfl rfl
    refine st_val hS rfl rfl (by decide) hr fun a hS => ?_
    refine st_val hS rfl rfl (by decide) (rv_assign (hS.ev rfl)) fun a hS => ?_
    refine wpList_nil ?_
    refine hK11 _ _ ?_
    refine wp_seq_k fun K14 hK14 => ?_
    have hJ1 : ∀ (x34 : Int) (l36 : List Int) (v35 : Value) (a : Act) (w : World), Sl 25 [(0, (Value.int IntKind.i64 x34)), (3, v35)] a → Mem Nob w0 w [(true, ow 5 v35 (List.map (Value.int IntKind.u8) l36))] → S_impl_EncodeVarint_j1 F x34 l36 = some r → K14 a w := by
      intro x34 l36 v35 a w hS hM hF
      unfold S_impl_EncodeVarint_j1 at hF
      refine hK14 _ _ ?_
      refine wp_seq_k fun K37 hK37 => ?_
      refine wp_region_lit ?_
      refine st_val hS rfl rfl (by decide) (rv_move (hS.ev rfl)) fun a hS => ?_
      refine st_val hS rfl rfl (by decide) (rv_move (hS.ev rfl)) fun a hS => ?_
      refine st_val hS rfl rfl (by decide) (rv_conv Tryd.underlying3 Tryd.underlying5 (hS.ev rfl)) fun a hS => ?_
      obtain ⟨v40, w, hr, hM⟩ := Mem.litE (f := (Value.int IntKind.u8)) (dst := some 22) (ty := _) (pos := _) (af := _) (gd := _) (ps := [(0, .tmp 21)]) ([(IntKind.u8.wrap x34)] : List (Int)) u8_one hM hS Tryd.underlying22 ty_el_5 rfl rfl rfl rfl
      refine st_val hS rfl rfl (by decide) hr fun a hS => ?_
      obtain ⟨_, hx, hF⟩ := bind_some hF
      have hM := hM.pick [1, 0] (by decide) rfl
      obtain ⟨v41, w, hr, hM⟩ := Mem.appE (f := (Value.int IntKind.u8)) (S := _) (R := [(true, ow 5 v40 (List.map (Value.int IntKind.u8) ([(IntKind.u8.wrap x34)] : List (Int))))]) (ρ := a.eval) (dst := some 23) (ty := _) (pos := _) (af := _) (gd := _) (x := .tmp 19) (y := .tmp 22) u8_one hM Tryd.underlying22 ty_el_5 rfl (by decide) (hS.ev rfl) (hS.ev rfl) (rd_of_ow (hM.get 1 rfl)) (catO_some hx)
      refine st_val hS rfl rfl (by decide) hr fun a hS => ?_
      refine st_val hS rfl rfl (by decide) (rv_bstr Tryd.underlying22 Tryd.underlying5 Tryd.underlying9 (hS.ev rfl) (rd_of_ow (hM.get 0 rfl))) fun a hS => ?_
      refine st_val hS rfl rfl (by decide) (rv_assign (hS.ev rfl)) fun a hS => ?_
      refine wpList_nil ?_
      refine hK37 _ _ ?_
      refine wp_ret ?_
      cases hF
      exact hQr _ _ (r_1 hS rfl rfl ⟨rfl, hM.pick [] (by decide) rfl⟩)
    refine wp_block ?_
    obtain ⟨lb2, hl2, hF2⟩ := bind_some hF
    refine wp_loop_sh (fun s => S_impl_EncodeVarint_l2 F s.1 s.2) (fun s a w => ∃ (v43 : Value), Sl 25 [(0, (Value.int IntKind.i64 s.1)), (3, v43)] a ∧ Mem Nob w0 w [(true, ow 5 v43 (List.map (Value.int IntKind.u8) s.2))]) hl2 ⟨v13, (hS.sub (sub_cons rfl (sub_cons rfl sub_nil))), (hM.pick [0] (by decide) rfl)⟩ ?_
    rintro K2 ⟨x42, l44⟩ a w res2 ⟨v43, hS, hM⟩ hF hN2 hX2
    have hF : S_impl_EncodeVarint_l2 F x42 l44 = some res2 := hF
    have hS : Sl 25 [(0, (Value.int IntKind.i64 x42)), (3, v43)] a := hS
    have hM : Mem Nob w0 w [(true, ow 5 v43 (List.map (Value.int IntKind.u8) l44))] := hM
    unfold S_impl_EncodeVarint_l2 at hF
    refine wp_seq_k fun K53 hK53 => ?_
    refine wp_seq_k fun K55 hK55 => ?_
    refine wp_region_lit ?_
    refine st_val hS rfl rfl (by decide) (rv_move (hS.ev rfl)) fun a hS => ?_
    refine st_val hS rfl rfl (by decide) (rv_geq (hS.ev rfl) (hS.ev rfl)) fun a hS => ?_
    refine wpList_nil ?_
    refine hK55 _ _ ?_
    rcases ite_some hF with ⟨hc, hF⟩ | ⟨hc, hF⟩
    · refine cond_t hS rfl hc ?_
      refine wp_skip ?_
      refine hK53 _ _ ?_
      refine wp_block ?_
      refine wp_seq_k fun K56 hK56 => ?_
      refine wp_region_lit ?_
      refine st_val hS rfl rfl (by decide) (rv_move (hS.ev rfl)) fun a hS => ?_
      refine st_val hS rfl rfl (by decide) (rv_move (hS.ev rfl)) fun a hS => ?_
      refine st_val hS rfl rfl (by decide) (rv_rem (hS.ev rfl) (hS.ev rfl) (by decide)) fun a hS => ?_
      refine st_val hS rfl rfl (by decide) (rv_add (hS.ev rfl) (hS.ev rfl)) fun a hS => ?_
      refine st_val hS rfl rfl (by decide) (rv_conv Tryd.underlying3 Tryd.underlying5 (hS.ev rfl)) fun a hS => ?_
      obtain ⟨v59, w, hr, hM⟩ := Mem.litE (f := (Value.int IntKind.u8)) (dst := some 15) (ty := _) (pos := _) (af := _) (gd := _) (ps := [(0, .tmp 14)]) ([(IntKind.u8.wrap (IntKind.i64.wrap ((x42.tmod 128) + 128)))] : List (Int)) u8_one hM hS Tryd.underlying22 ty_el_5 rfl rfl rfl rfl
      refine st_val hS rfl rfl (by decide) hr fun a hS => ?_
      obtain ⟨_, hx, hF⟩ := bind_some hF
      have hM := hM.pick [1, 0] (by decide) rfl
      obtain ⟨v60, w, hr, hM⟩ := Mem.appE (f := (Value.int IntKind.u8)) (S := _) (R := [(true, ow 5 v59 (List.map (Value.int IntKind.u8) ([(IntKind.u8.wrap (IntKind.i64.wrap ((x42.tmod 128) + 128)))] : List (Int))))]) (ρ := a.eval) (dst := some 16) (ty := _) (pos := _) (af := _) (gd := _) (x := .tmp 10) (y := .tmp 15) u8_one hM Tryd.underlying22 ty_el_5 rfl (by decide) (hS.ev rfl) (hS.ev rfl) (rd_of_ow (hM.get 1 rfl)) (catO_some hx)
      refine st_val hS rfl rfl (by decide) hr fun a hS => ?_
      refine st_val hS rfl rfl (by decide) (rv_assign (hS.ev rfl)) fun a hS => ?_
      refine wpList_nil ?_
      refine hK56 _ _ ?_
      refine wp_region_lit ?_
      refine st_val hS rfl rfl (by decide) (rv_move (hS.ev rfl)) fun a hS => ?_
      refine st_val hS rfl rfl (by decide) (rv_quo (hS.ev rfl) (hS.ev rfl) (by decide)) fun a hS => ?_
      refine st_val hS rfl rfl (by decide) (rv_assign (hS.ev rfl)) fun a hS => ?_
      refine wpList_nil ?_
      cases hF
      exact hN2 _ _ _ rfl ⟨v60, (hS.sub (sub_cons rfl (sub_cons rfl sub_nil))), (hM.pick [0] (by decide) rfl)⟩
    · refine cond_f hS rfl hc ?_
      refine wp_exit ?_
      cases hF
      exact hJ1 x42 l44 v43 _ _ (hS.sub (sub_cons rfl (sub_cons rfl sub_nil))) (hM.pick [0] (by decide) rfl) (by have e := hX2 _ rfl; subst e; exact hF2)


theorem c_impl_DecodeVarint (F : Nat) (p0_s : List UInt8) {r : Int × Int} (hF : S_impl_DecodeVarint F p0_s = some r) (w0 : World) :
    Calls Tryd.prog 13 [(Value.string (bs p0_s))].toArray w0 (retPost fun v w' => v = (Value.tuple #[(Value.int IntKind.i64 r.1), (Value.int IntKind.i64 r.2)]) ∧ Mem Nob w0 w' []) := by
  have hM : Mem Nob w0 w0 [] := (Mem.nil w0)
  refine enter2 Tryd.func13 rfl rfl rfl fun Q a hQr hQn hQp hS => ?_
  have hS : Sl 41 [(0, (Value.string (bs p0_s)))] a := hS
  unfold S_impl_DecodeVarint at hF
  refine wp_seq_k fun K1 hK1 => ?_
  refine wp_region_lit ?_
  refine st_val hS rfl rfl (by decide) (rv_assign (hS.ev rfl)) fun a hS => ?_
  refine st_val hS rfl rfl (by decide) (rv_assign (hS.ev rfl)) fun a hS => ?_
  refine wpList_nil ?_
  refine hK1 _ _ ?_
  refine wp_seq_k fun K2 hK2 => ?_
  refine wp_region_lit ?_
  refine st_val hS rfl rfl (by decide) (rv_assign (hS.ev rfl)) fun a hS => ?_
  refine wpList_nil ?_
  refine hK2 _ _ ?_
  refine wp_seq_k fun K3 hK3 => ?_
  have hJ1 : ∀ (a : Act) (w : World), Sl 41 [] a → Mem Nob w0 w [] → S_impl_DecodeVarint_j1 F = some r → K3 a w := by
    intro a w hS hM hF
    unfold S_impl_DecodeVarint_j1 at hF
    refine hK3 _ _ ?_
    refine wp_seq_k fun K91 hK91 => ?_
    refine wp_region_lit ?_
    refine st_val hS rfl rfl (by decide) (rv_assign (hS.ev rfl)) fun a hS => ?_
    refine st_val hS rfl rfl (by decide) (rv_assign (hS.ev rfl)) fun a hS => ?_
    refine wpList_nil ?_
    refine hK91 _ _ ?_
    refine wp_ret ?_
    cases hF
    exact hQr _ _ (r_2 hS rfl rfl rfl ⟨rfl, hM.pick [] (by decide) rfl⟩)
  refine wp_seq_k fun K92 hK92 => ?_
  refine wp_region_lit ?_
  refine st_val hS rfl rfl (by decide) (rv_assign (hS.ev rfl)) fun a hS => ?_
  refine wpList_nil ?_
  refine hK92 _ _ ?_
  refine wp_block ?_
  obtain ⟨lb2, hl2, hF2⟩ := bind_some hF
  refine wp_loop_sh (fun s => S_impl_DecodeVarint_l2 F p0_s s.1 s.2) (fun s a w => Sl 41 [(0, (Value.string (bs p0_s))), (4, (Value.int IntKind.i64 s.1)), (5, (Value.int IntKind.i64 s.2))] a ∧ Mem Nob w0 w []) hl2 ⟨(hS.sub (sub_cons rfl (sub_cons rfl (sub_cons rfl sub_nil)))), (hM.pick [] (by decide) rfl)⟩ ?_
  rintro K2 ⟨x93, x94⟩ a w res2 ⟨hS, hM⟩ hF hN2 hX2
  have hF : S_impl_DecodeVarint_l2 F p0_s x93 x94 = some res2 := hF
  have hS : Sl 41 [(0, (Value.string (bs p0_s))), (4, (Value.int IntKind.i64 x93)), (5, (Value.int IntKind.i64 x94))] a := hS
  have hM : Mem Nob w0 w [] := hM
  unfold S_impl_DecodeVarint_l2 at hF
  refine wp_seq_k fun K137 hK137 => ?_
  refine wp_seq_k fun K140 hK140 => ?_
  have hJ3 : ∀ (p141 : Bool) (a : Act) (w : World), Sl 41 [(0, (Value.string (bs p0_s))), (4, (Value.int IntKind.i64 x93)), (5, (Value.int IntKind.i64 x94)), (13, (Value.bool p141))] a → Mem Nob w0 w [] → S_impl_DecodeVarint_j3 F p0_s x93 x94 p141 = some res2 → K140 a w := by
    intro p141 a w hS hM hF
    unfold S_impl_DecodeVarint_j3 at hF
    refine hK140 _ _ ?_
    rcases ite_some hF with ⟨hc, hF⟩ | ⟨hc, hF⟩
    · refine cond_t hS rfl hc ?_
      refine wp_skip ?_
      refine hK137 _ _ ?_
      refine wp_seq_k fun K142 hK142 => ?_
      refine wp_block ?_
      refine wp_seq_k fun K161 hK161 => ?_
      refine wp_region_lit ?_
      refine st_val hS rfl rfl (by decide) (rv_move (hS.ev rfl)) fun a hS => ?_
      refine st_val hS rfl rfl (by decide) (rv_move (hS.ev rfl)) fun a hS => ?_
      refine st_val hS rfl rfl (by decide) (rv_move (hS.ev rfl)) fun a hS => ?_
      obtain ⟨x163, hx, hF⟩ := bind_some hF
      obtain ⟨hi0, hi1, hi2⟩ := idxL_some hx
      refine st_val hS rfl rfl (by decide) (rv_index Tryd.underlying9 (hS.ev rfl) (hS.ev rfl) hi0 hi2) fun a hS => ?_
      refine st_val hS rfl rfl (by decide) (rv_rem (hS.ev rfl) (hS.ev rfl) (by decide)) fun a hS => ?_
      refine st_val hS rfl rfl (by decide) (rv_conv Tryd.underlying5 Tryd.underlying3 (hS.ev rfl)) fun a hS => ?_
      refine st_val hS rfl rfl (by decide) (rv_move (hS.ev rfl)) fun a hS => ?_
      refine st_val hS rfl rfl (by decide) (rv_mul (hS.ev rfl) (hS.ev rfl)) fun a hS => ?_
      obtain ⟨_, hx, hF⟩ := bind_some hF
      have hi0 := nnO_some hx
      refine st_val hS rfl rfl (by decide) (rv_shl (hS.ev rfl) (hS.ev rfl) hi0) fun a hS => ?_
      refine st_val hS rfl rfl (by decide) (rv_or (hS.ev rfl) (hS.ev rfl)) fun a hS => ?_
      refine st_val hS rfl rfl (by decide) (rv_assign (hS.ev rfl)) fun a hS => ?_
      refine wpList_nil ?_
      refine hK161 _ _ ?_
      refine wp_seq_k fun K164 hK164 => ?_
      refine wp_region_lit ?_
      refine st_val hS rfl rfl (by decide) (rv_move (hS.ev rfl)) fun a hS => ?_
      refine st_val hS rfl rfl (by decide) (rv_move (hS.ev rfl)) fun a hS => ?_
      obtain ⟨x166, hx, hF⟩ := bind_some hF
      obtain ⟨hi0, hi1, hi2⟩ := idxL_some hx
      refine st_val hS rfl rfl (by decide) (rv_index Tryd.underlying9 (hS.ev rfl) (hS.ev rfl) hi0 hi2) fun a hS => ?_
      refine st_val hS rfl rfl (by decide) (rv_lss (hS.ev rfl) (hS.ev rfl)) fun a hS => ?_
      refine wpList_nil ?_
      refine hK164 _ _ ?_
      rcases ite_some hF with ⟨hc, hF⟩ | ⟨hc, hF⟩
      · refine cond_t hS rfl hc ?_
        refine wp_seq_k fun K167 hK167 => ?_
        refine wp_seq_k fun K173 hK173 => ?_
        have hJ4 : ∀ (p175 : Bool) (a : Act) (w : World), Sl 41 [(4, (Value.int IntKind.i64 (bOr x93 (shL (IntKind.i64.wrap ((x163.toNat : Int).tmod 128)) (IntKind.i64.wrap (7 * x94)))))), (5, (Value.int IntKind.i64 x94)), (37, (Value.bool p175))] a → Mem Nob w0 w [] → S_impl_DecodeVarint_j4 F x93 x94 x163 p175 = some res2 → K173 a w := by
          intro p175 a w hS hM hF
          unfold S_impl_DecodeVarint_j4 at hF
          refine hK173 _ _ ?_
          rcases ite_some hF with ⟨hc, hF⟩ | ⟨hc, hF⟩
          · refine cond_t hS rfl hc ?_
            refine wp_seq_k fun K176 hK176 => ?_
            refine wp_region_lit ?_
            refine st_val hS rfl rfl (by decide) (rv_assign (hS.ev rfl)) fun a hS => ?_
            refine st_val hS rfl rfl (by decide) (rv_assign (hS.ev rfl)) fun a hS => ?_
            refine wpList_nil ?_
            refine hK176 _ _ ?_
            refine wp_ret ?_
            cases hF
            have e := hX2 _ rfl
            subst e
            have hF := hF2
            cases hF
            exact hQr _ _ (r_2 hS rfl rfl rfl ⟨rfl, hM.pick [] (by decide) rfl⟩)
          · refine cond_f hS rfl hc ?_
            refine wp_skip ?_
            refine hK167 _ _ ?_
            refine wp_seq_k fun K177 hK177 => ?_
            refine wp_region_lit ?_
            refine st_val hS rfl rfl (by decide) (rv_move (hS.ev rfl)) fun a hS => ?_
            refine st_val hS rfl rfl (by decide) (rv_move (hS.ev rfl)) fun a hS => ?_
            refine st_val hS rfl rfl (by decide) (rv_add (hS.ev rfl) (hS.ev rfl)) fun a hS => ?_
            refine st_val hS rfl rfl (by decide) (rv_assign (hS.ev rfl)) fun a hS => ?_
            refine st_val hS rfl rfl (by decide) (rv_assign (hS.ev rfl)) fun a hS => ?_
            refine wpList_nil ?_
            refine hK177 _ _ ?_
            refine wp_ret ?_
            cases hF
            have e := hX2 _ rfl
            subst e
            have hF := hF2
            cases hF
            exact hQr _ _ (r_2 hS rfl rfl rfl ⟨rfl, hM.pick [] (by decide) rfl⟩)
        refine wp_region_lit ?_
        refine st_val hS rfl rfl (by decide) (rv_move (hS.ev rfl)) fun a hS => ?_
        refine st_val hS rfl rfl (by decide) (rv_gtr (hS.ev rfl) (hS.ev rfl)) fun a hS => ?_
        refine st_val hS rfl rfl (by decide) (rv_move (hS.ev rfl)) fun a hS => ?_
        rcases ite_some hF with ⟨hc, hF⟩ | ⟨hc, hF⟩
        · have hS := hS.setb (t := 32) rfl hc
          refine st_val hS rfl rfl (by decide) (rv_move (hS.ev rfl)) fun a hS => ?_
          refine st_val hS rfl rfl (by decide) (rv_move (hS.ev rfl)) fun a hS => ?_
          obtain ⟨x178, hx, hF⟩ := bind_some hF
          obtain ⟨hi0, hi1, hi2⟩ := idxL_some hx
          refine st_val hS rfl rfl (by decide) (rv_index Tryd.underlying9 (hS.ev rfl) (hS.ev rfl) hi0 hi2) fun a hS => ?_
          refine st_val hS rfl rfl (by decide) (rv_eql (hS.ev rfl) (hS.ev rfl)) fun a hS => ?_
          refine st_val hS rfl rfl (by decide) (rv_pick_t (hS.ev rfl) (hS.ev rfl)) fun a hS => ?_
          refine wpList_nil ?_
          exact hJ4 ((x178.toNat : Int) == 0) _ _ (hS.sub (sub_cons rfl (sub_cons rfl (sub_cons rfl sub_nil)))) (hM.pick [] (by decide) rfl) hF
        · have hS := hS.setb (t := 32) rfl hc
          refine st_skip hS rfl rfl (by decide) fun a hS => ?_
          refine st_skip hS rfl rfl (by decide) fun a hS => ?_
          refine st_skip hS rfl rfl (by decide) fun a hS => ?_
          refine st_skip hS rfl rfl (by decide) fun a hS => ?_
          refine st_val hS rfl rfl (by decide) (rv_pick_f (hS.ev rfl) (hS.ev rfl)) fun a hS => ?_
          refine wpList_nil ?_
          exact hJ4 false _ _ (hS.sub (sub_cons rfl (sub_cons rfl (sub_cons rfl sub_nil)))) (hM.pick [] (by decide) rfl) hF
      · refine cond_f hS rfl hc ?_
        refine wp_skip ?_
        refine hK142 _ _ ?_
        refine wp_region_lit ?_
        refine st_val hS rfl rfl (by decide) (rv_move (hS.ev rfl)) fun a hS => ?_
        refine st_val hS rfl rfl (by decide) (rv_add (hS.ev rfl) (hS.ev rfl)) fun a hS => ?_
        refine st_val hS rfl rfl (by decide) (rv_assign (hS.ev rfl)) fun a hS => ?_
        refine wpList_nil ?_
        cases hF
        exact hN2 _ _ _ rfl ⟨(hS.sub (sub_cons rfl (sub_cons rfl (sub_cons rfl sub_nil)))), (hM.pick [] (by decide) rfl)⟩
    · refine cond_f hS rfl hc ?_
      refine wp_exit ?_
      cases hF
      exact hJ1 _ _ (hS.sub sub_nil) (hM.pick [] (by decide) rfl) (by have e := hX2 _ rfl; subst e; exact hF2)
  refine wp_region_lit ?_
  refine st_val hS rfl rfl (by decide) (rv_move (hS.ev rfl)) fun a hS => ?_
  refine st_val hS rfl rfl (by decide) (rv_move (hS.ev rfl)) fun a hS => ?_
  refine st_val hS rfl rfl (by decide) (rv_len_str Tryd.underlying9 (hS.ev rfl)) fun a hS => ?_
  refine st_val hS rfl rfl (by decide) (rv_lss (hS.ev rfl) (hS.ev rfl)) fun a hS => ?_
  refine st_val hS rfl rfl (by decide) (rv_move (hS.ev rfl)) fun a hS => ?_
  rcases ite_some hF with ⟨hc, hF⟩ | ⟨hc, hF⟩
  · have hS := hS.setb (t := 10) rfl hc
    refine st_val hS rfl rfl (by decide) (rv_move (hS.ev rfl)) fun a hS => ?_
    refine st_val hS rfl rfl (by decide) (rv_lss (hS.ev rfl) (hS.ev rfl)) fun a hS => ?_
    refine st_val hS rfl rfl (by decide) (rv_pick_t (hS.ev rfl) (hS.ev rfl)) fun a hS => ?_
    refine wpList_nil ?_
    exact hJ3 (decide (x94 < 7)) _ _ (hS.sub (sub_cons rfl (sub_cons rfl (sub_cons rfl (sub_cons rfl sub_nil))))) (hM.pick [] (by decide) rfl) hF
  · have hS := hS.setb (t := 10) rfl hc
    refine st_skip hS rfl rfl (by decide) fun a hS => ?_
    refine st_skip hS rfl rfl (by decide) fun a hS => ?_
    refine st_val hS rfl rfl (by decide) (rv_pick_f (hS.ev rfl) (hS.ev rfl)) fun a hS => ?_
    refine wpList_nil ?_
    exact hJ3 false _ _ (hS.sub (sub_cons rfl (sub_cons rfl (sub_cons rfl (sub_cons rfl sub_nil))))) (hM.pick [] (by decide) rfl) hF


theorem c_spec_DrawEncodeFixed (F : Nat) (p0_code : List Int) (p0_codev : Value) {r : Int × Int} (hF : S_spec_DrawEncodeFixed F p0_code = some r) (w0 : World) (h0 : RdRow w0 p0_codev (List.map (Value.int IntKind.u8) p0_code)) :
    Calls Tryd.prog 14 [p0_codev].toArray w0 (retPost fun v w' => v = (Value.tuple #[(Value.int IntKind.i64 r.1), (Value.int IntKind.i64 r.2)]) ∧ Mem Nob w0 w' []) := by
  have hM : Mem Nob w0 w0 [(false, rd p0_codev (List.map (Value.int IntKind.u8) p0_code))] := (Mem.rcons (Mem.nil w0) h0 (by simp))
  refine enter2 Tryd.func14 rfl rfl rfl fun Q a hQr hQn hQp hS => ?_
  have hS : Sl 14 [(0, p0_codev)] a := hS
  unfold S_spec_DrawEncodeFixed at hF
  refine wp_seq_k fun K1 hK1 => ?_
  refine wp_region_lit ?_
  refine st_val hS rfl rfl (by decide) (rv_assign (hS.ev rfl)) fun a hS => ?_
  refine st_val hS rfl rfl (by decide) (rv_assign (hS.ev rfl)) fun a hS => ?_
  refine wpList_nil ?_
  refine hK1 _ _ ?_
  refine wp_seq_k fun K2 hK2 => ?_
  refine wp_region_lit ?_
  refine st_val hS rfl rfl (by decide) (rv_move (hS.ev rfl)) fun a hS => ?_
  obtain ⟨r5, hr, hF⟩ := bind_some hF
  refine st_wp hS rfl (wp_call hS rfl rfl (by decide) fn_ok_35 rfl (c_spec_l1New F p0_code p0_codev hr _ (hM.get 0 rfl)) fun v w a hK hS => ?_)
  obtain ⟨b6, rfl, hN⟩ := hK
  have hM := hM.add hN rfl
  refine st_val hS rfl rfl (by decide) (rv_assign (hS.ev rfl)) fun a hS => ?_
  refine wpList_nil ?_
  refine hK2 _ _ ?_
  refine wp_seq_k fun K7 hK7 => ?_
  refine wp_region_lit ?_
  refine st_val hS rfl rfl (by decide) (rv_move (hS.ev rfl)) fun a hS => ?_
  obtain ⟨r9, hr, hF⟩ := bind_some hF
  have hM := hM.pick [0, 1] (by decide) rfl
  have hP := Mem.pre (A := [(true, bx b6 75 [p0_codev, (Value.int IntKind.i64 r5.1), (Value.int IntKind.i64 r5.2)])]) (C := [(false, rd p0_codev (List.map (Value.int IntKind.u8) p0_code))]) (B := []) hM rfl (weaks_cons (weak_self _ _) weaks_nil)
  refine st_wp hS rfl (wp_call hS rfl rfl (by decide) fn_ok_36 rfl (c_spec_l1Num F p0_code r5.1 r5.2 p0_codev b6 hr _ hP) fun v w a hK hS => ?_)
  obtain ⟨rfl, hN⟩ := hK
  have hM := Mem.callo (A := [(true, bx b6 75 [p0_codev, (Value.int IntKind.i64 r5.1), (Value.int IntKind.i64 r5.2)])]) (B := [(false, rd p0_codev (List.map (Value.int IntKind.u8) p0_code))]) hM rfl hN rfl
  refine st_val hS rfl rfl (by decide) (rv_assign (hS.ev rfl)) fun a hS => ?_
  refine wpList_nil ?_
  refine hK7 _ _ ?_
  refine wp_seq_k fun K10 hK10 => ?_
  refine wp_region_lit ?_
  refine st_val hS rfl rfl (by decide) (rv_move (hS.ev rfl)) fun a hS => ?_
  refine st_val hS rfl rfl (by decide) (rv_move (hS.ev rfl)) fun a hS => ?_
  obtain ⟨r12, hr, hF⟩ := bind_some hF
  have hM := hM.pick [0, 1] (by decide) rfl
  have hP := Mem.pre (A := [(true, bx b6 75 [p0_codev, (Value.int IntKind.i64 r9.2.1), (Value.int IntKind.i64 r9.2.2)])]) (C := [(false, rd p0_codev (List.map (Value.int IntKind.u8) p0_code))]) (B := []) hM rfl (weaks_cons (weak_self _ _) weaks_nil)
  refine st_wp hS rfl (wp_call hS rfl rfl (by decide) fn_ok_39 rfl (c_spec_l1Below F p0_code r9.2.1 r9.2.2 10 p0_codev b6 hr _ hP) fun v w a hK hS => ?_)
  obtain ⟨rfl, hN⟩ := hK
  have hM := Mem.callo (A := [(true, bx b6 75 [p0_codev, (Value.int IntKind.i64 r9.2.1), (Value.int IntKind.i64 r9.2.2)])]) (B := [(false, rd p0_codev (List.map (Value.int IntKind.u8) p0_code))]) hM rfl hN rfl
  refine st_val hS rfl rfl (by decide) (rv_sub (hS.ev rfl) (hS.ev rfl)) fun a hS => ?_
  refine st_val hS rfl rfl (by decide) (rv_assign (hS.ev rfl)) fun a hS => ?_
  refine st_val hS rfl rfl (by decide) (rv_assign (hS.ev rfl)) fun a hS => ?_
  refine wpList_nil ?_
  refine hK10 _ _ ?_
  refine wp_ret ?_
  cases hF
  exact hQr _ _ (r_2 hS rfl rfl rfl ⟨rfl, hM.pick [] (by decide) rfl⟩)


theorem c_impl_EncodeFixed (F : Nat) (p0_n : Int) (p1_width : Int) {r : (List UInt8)} (hF : S_impl_EncodeFixed F p0_n p1_width = some r) (w0 : World) :
    Calls Tryd.prog 15 [(Value.int IntKind.i64 p0_n), (Value.int IntKind.i64 p1_width)].toArray w0 (retPost fun v w' => v = (Value.string (bs r)) ∧ Mem Nob w0 w' []) := by
  have hM : Mem Nob w0 w0 [] := (Mem.nil w0)
  refine enter2 Tryd.func15 rfl rfl rfl fun Q a hQr hQn hQp hS => ?_
  have hS : Sl 38 [(0, (Value.int IntKind.i64 p0_n)), (1, (Value.int IntKind.i64 p1_width))] a := hS
  unfold S_impl_EncodeFixed at hF
  refine wp_seq_k fun K1 hK1 => ?_
  refine wp_region_lit ?_
  refine st_val hS rfl rfl (by decide) (rv_assign (hS.ev rfl)) fun a hS => ?_
  refine wpList_nil ?_
  refine hK1 _ _ ?_
  refine wp_seq_k fun K2 hK2 => ?_
  refine wp_seq_k fun K8 hK8 => ?_
  have hJ1 : ∀ (p10 : Bool) (a : Act) (w : World), Sl 38 [(0, (Value.int IntKind.i64 p0_n)), (1, (Value.int IntKind.i64 p1_width)), (20, (Value.bool p10))] a → Mem Nob w0 w [] → S_impl_EncodeFixed_j1 F p0_n p1_width p10 = some r → K8 a w := by
    intro p10 a w hS hM hF
    unfold S_impl_EncodeFixed_j1 at hF
    refine hK8 _ _ ?_
    rcases ite_some hF with ⟨hc, hF⟩ | ⟨hc, hF⟩
    · refine cond_t hS rfl hc ?_
      refine wp_seq_k fun K11 hK11 => ?_
      refine wp_region_lit ?_
      refine st_val hS rfl rfl (by decide) (rv_assign (hS.ev rfl)) fun a hS => ?_
      refine wpList_nil ?_
      refine hK11 _ _ ?_
      refine wp_ret ?_
      cases hF
      exact hQr _ _ (r_1 hS rfl rfl ⟨rfl, hM.pick [] (by decide) rfl⟩)
    · refine cond_f hS rfl hc ?_
      refine wp_skip ?_
      refine hK2 _ _ ?_
      refine wp_seq_k fun K12 hK12 => ?_
      refine wp_region_lit ?_
      refine st_val hS rfl rfl (by decide) (rv_move (hS.ev rfl)) fun a hS => ?_
      obtain ⟨_, hx, hF⟩ := bind_some hF
      obtain ⟨v14, w, hr, hM⟩ := hM.makeE (f := (Value.int IntKind.u8)) (c := (0 : Int)) (ρ := a.eval) (dst := some 22) (ty := _) (pos := _) (af := _) (gd := _) (x := .tmp 21) (y := .tmp 21) Tryd.underlying22 ty_el_5 u8_one (by decide) (hS.ev rfl) (hS.ev rfl) (mkO_some hx)
      refine st_val hS rfl rfl (by decide) hr fun a hS => ?_
      refine st_val hS rfl rfl (by decide) (rv_assign (hS.ev rfl)) fun a hS => ?_
      refine wpList_nil ?_
      refine hK12 _ _ ?_
      refine wp_seq_k fun K15 hK15 => ?_
      have hJ2 : ∀ (l52 : List Int) (a : Act) (w : World), Sl 38 [(5, v14)] a → Mem Nob w0 w [(true, ow 5 v14 (List.map (Value.int IntKind.u8) l52))] → S_impl_EncodeFixed_j2 F l52 = some r → K15 a w := by
        intro l52 a w hS hM hF
        unfold S_impl_EncodeFixed_j2 at hF
        refine hK15 _ _ ?_
        refine wp_seq_k fun K53 hK53 => ?_
        refine wp_region_lit ?_
        refine st_val hS rfl rfl (by decide) (rv_move (hS.ev rfl)) fun a hS => ?_
        refine st_val hS rfl rfl (by decide) (rv_bstr Tryd.underlying22 Tryd.underlying5 Tryd.underlying9 (hS.ev rfl) (rd_of_ow (hM.get 0 rfl))) fun a hS => ?_
        refine st_val hS rfl rfl (by decide) (rv_assign (hS.ev rfl)) fun a hS => ?_
        refine wpList_nil ?_
        refine hK53 _ _ ?_
        refine wp_ret ?_
        cases hF
        exact hQr _ _ (r_1 hS rfl rfl ⟨rfl, hM.pick [] (by decide) rfl⟩)
      refine wp_seq_k fun K54 hK54 => ?_
      refine wp_region_lit ?_
      refine st_val hS rfl rfl (by decide) (rv_move (hS.ev rfl)) fun a hS => ?_
      refine st_val hS rfl rfl (by decide) (rv_sub (hS.ev rfl) (hS.ev rfl)) fun a hS => ?_
      refine st_val hS rfl rfl (by decide) (rv_assign (hS.ev rfl)) fun a hS => ?_
      refine wpList_nil ?_
      refine hK54 _ _ ?_
      refine wp_block ?_
      obtain ⟨lb3, hl3, hF3⟩ := bind_some hF
      refine wp_loop_sh (fun s => S_impl_EncodeFixed_l3 F s.1 s.2.1 s.2.2) (fun s a w => Sl 38 [(0, (Value.int IntKind.i64 s.1)), (5, v14), (6, (Value.int IntKind.i64 s.2.2))] a ∧ Mem Nob w0 w [(true, ow 5 v14 (List.map (Value.int IntKind.u8) s.2.1))]) hl3 ⟨(hS.sub (sub_cons rfl (sub_cons rfl (sub_cons rfl sub_nil)))), (hM.pick [0] (by decide) rfl)⟩ ?_
      rintro K3 ⟨x67, l68, x69⟩ a w res3 ⟨hS, hM⟩ hF hN3 hX3
      have hF : S_impl_EncodeFixed_l3 F x67 l68 x69 = some res3 := hF
      have hS : Sl 38 [(0, (Value.int IntKind.i64 x67)), (5, v14), (6, (Value.int IntKind.i64 x69))] a := hS
      have hM : Mem Nob w0 w [(true, ow 5 v14 (List.map (Value.int IntKind.u8) l68))] := hM
      unfold S_impl_EncodeFixed_l3 at hF
      refine wp_seq_k fun K80 hK80 => ?_
      refine wp_seq_k fun K82 hK82 => ?_
      refine wp_region_lit ?_
      refine st_val hS rfl rfl (by decide) (rv_move (hS.ev rfl)) fun a hS => ?_
      refine st_val hS rfl rfl (by decide) (rv_geq (hS.ev rfl) (hS.ev rfl)) fun a hS => ?_
      refine wpList_nil ?_
      refine hK82 _ _ ?_
      rcases ite_some hF with ⟨hc, hF⟩ | ⟨hc, hF⟩
      · refine cond_t hS rfl hc ?_
        refine wp_skip ?_
        refine hK80 _ _ ?_
        refine wp_seq_k fun K83 hK83 => ?_
        refine wp_block ?_
        refine wp_seq_k fun K87 hK87 => ?_
        refine wp_region_lit ?_
        refine st_val hS rfl rfl (by decide) (rv_move (hS.ev rfl)) fun a hS => ?_
        refine st_val hS rfl rfl (by decide) (rv_move (hS.ev rfl)) fun a hS => ?_
        refine st_val hS rfl rfl (by decide) (rv_move (hS.ev rfl)) fun a hS => ?_
        refine st_val hS rfl rfl (by decide) (rv_conv Tryd.underlying3 Tryd.underlying5 (hS.ev rfl)) fun a hS => ?_
        obtain ⟨x89, hx, hF⟩ := bind_some hF
        obtain ⟨hi0, hi1, hex89⟩ := idxL_some hx
        refine st_val hS rfl rfl (by decide) (rv_indexAddr Tryd.underlying22 ty_el_5 (hS.ev rfl) (hS.ev rfl) (rd_of_ow (hM.get 0 rfl)) hi0 (map_len hi1)) fun a hS => ?_
        obtain ⟨w, hr, hM⟩ := hM.st_el (f := (Value.int IntKind.u8)) (n := x69.toNat) (c := (IntKind.u8.wrap x67)) (ρ := a.eval) (dst := none) (ty := _) (pos := _) (af := _) (gd := _) (x := .tmp 33) (y := .tmp 32) u8_one (hS.ev rfl) (hS.ev rfl) ty_sz_5 (List.getElem?_eq_some_iff.1 hex89).1
        refine st_unit hS rfl rfl hr ?_
        refine wpList_nil ?_
        refine hK87 _ _ ?_
        refine wp_region_lit ?_
        refine st_val hS rfl rfl (by decide) (rv_move (hS.ev rfl)) fun a hS => ?_
        refine st_val hS rfl rfl (by decide) (rv_shr (hS.ev rfl) (hS.ev rfl) (by decide)) fun a hS => ?_
        refine st_val hS rfl rfl (by decide) (rv_assign (hS.ev rfl)) fun a hS => ?_
        refine wpList_nil ?_
        refine hK83 _ _ ?_
        refine wp_region_lit ?_
        refine st_val hS rfl rfl (by decide) (rv_move (hS.ev rfl)) fun a hS => ?_
        refine st_val hS rfl rfl (by decide) (rv_sub (hS.ev rfl) (hS.ev rfl)) fun a hS => ?_
        refine st_val hS rfl rfl (by decide) (rv_assign (hS.ev rfl)) fun a hS => ?_
        refine wpList_nil ?_
        cases hF
        exact hN3 _ _ _ rfl ⟨(hS.sub (sub_cons rfl (sub_cons rfl (sub_cons rfl sub_nil)))), (hM.pick [0] (by decide) rfl)⟩
      · refine cond_f hS rfl hc ?_
        refine wp_exit ?_
        cases hF
        exact hJ2 l68 _ _ (hS.sub (sub_cons rfl sub_nil)) (hM.pick [0] (by decide) rfl) (by have e := hX3 _ rfl; subst e; exact hF3)
  refine wp_region_lit ?_
  refine st_val hS rfl rfl (by decide) (rv_move (hS.ev rfl)) fun a hS => ?_
  obtain ⟨r90, hr, hF⟩ := bind_some hF
  refine st_wp hS rfl (wp_call hS rfl rfl (by decide) fn_ok_38 rfl (c_impl_within F p1_width 1 7 hr _) fun v w a hK hS => ?_)
  obtain ⟨rfl, hN⟩ := hK
  have hM := hM.fra hN.fr
  refine st_val hS rfl rfl (by decide) (rv_not (hS.ev rfl)) fun a hS => ?_
  refine st_val hS rfl rfl (by decide) (rv_move (hS.ev rfl)) fun a hS => ?_
  rcases ite_some hF with ⟨hc, hF⟩ | ⟨hc, hF⟩
  · have hS := hS.setb (t := 10) rfl hc
    refine st_skip hS rfl rfl (by decide) fun a hS => ?_
    refine st_skip hS rfl rfl (by decide) fun a hS => ?_
    refine st_val hS rfl rfl (by decide) (rv_pick_t (hS.ev rfl) (hS.ev rfl)) fun a hS => ?_
    refine st_val hS rfl rfl (by decide) (rv_move (hS.ev rfl)) fun a hS => ?_
    refine st_skip hS rfl rfl (by decide) fun a hS => ?_
    refine st_skip hS rfl rfl (by decide) fun a hS => ?_
    refine st_skip hS rfl rfl (by decide) fun a hS => ?_
    refine st_skip hS rfl rfl (by decide) fun a hS => ?_
    refine st_skip hS rfl rfl (by decide) fun a hS => ?_
    refine st_val hS rfl rfl (by decide) (rv_pick_t (hS.ev rfl) (hS.ev rfl)) fun a hS => ?_
    refine wpList_nil ?_
    exact hJ1 true _ _ (hS.sub (sub_cons rfl (sub_cons rfl (sub_cons rfl sub_nil)))) (hM.pick [] (by decide) rfl) hF
  · have hS := hS.setb (t := 10) rfl hc
    refine st_val hS rfl rfl (by decide) (rv_move (hS.ev rfl)) fun a hS => ?_
    refine st_val hS rfl rfl (by decide) (rv_lss (hS.ev rfl) (hS.ev rfl)) fun a hS => ?_
    refine st_val hS rfl rfl (by decide) (rv_pick_f (hS.ev rfl) (hS.ev rfl)) fun a hS => ?_
    refine st_val hS rfl rfl (by decide) (rv_move (hS.ev rfl)) fun a hS => ?_
    rcases ite_some hF with ⟨hc, hF⟩ | ⟨hc, hF⟩
    · have hS := hS.setb (t := 14) rfl hc
      refine st_skip hS rfl rfl (by decide) fun a hS => ?_
      refine st_skip hS rfl rfl (by decide) fun a hS => ?_
      refine st_skip hS rfl rfl (by decide) fun a hS => ?_
      refine st_skip hS rfl rfl (by decide) fun a hS => ?_
      refine st_skip hS rfl rfl (by decide) fun a hS => ?_
      refine st_val hS rfl rfl (by decide) (rv_pick_t (hS.ev rfl) (hS.ev rfl)) fun a hS => ?_
      refine wpList_nil ?_
      exact hJ1 true _ _ (hS.sub (sub_cons rfl (sub_cons rfl (sub_cons rfl sub_nil)))) (hM.pick [] (by decide) rfl) hF
    · have hS := hS.setb (t := 14) rfl hc
      refine st_val hS rfl rfl (by decide) (rv_move (hS.ev rfl)) fun a hS => ?_
      refine st_val hS rfl rfl (by decide) (rv_move (hS.ev rfl)) fun a hS => ?_
      refine st_val hS rfl rfl (by decide) (rv_mul (hS.ev rfl) (hS.ev rfl)) fun a hS => ?_
      obtain ⟨_, hx, hF⟩ := bind_some hF
      have hi0 := nnO_some hx
      refine st_val hS rfl rfl (by decide) (rv_shr (hS.ev rfl) (hS.ev rfl) hi0) fun a hS => ?_
      refine st_val hS rfl rfl (by decide) (rv_neq (hS.ev rfl) (hS.ev rfl)) fun a hS => ?_
      refine st_val hS rfl rfl (by decide) (rv_pick_f (hS.ev rfl) (hS.ev rfl)) fun a hS => ?_
      refine wpList_nil ?_
      exact hJ1 ((shR p0_n (IntKind.i64.wrap (8 * p1_width))) != 0) _ _ (hS.sub (sub_cons rfl (sub_cons rfl (sub_cons rfl sub_nil)))) (hM.pick [] (by decide) rfl) hF


theorem c_impl_DecodeFixed (F : Nat) (p0_s : List UInt8) (p1_width : Int) {r : Int × Bool} (hF : S_impl_DecodeFixed F p0_s p1_width = some r) (w0 : World) :
    Calls Tryd.prog 16 [(Value.string (bs p0_s)), (Value.int IntKind.i64 p1_width)].toArray w0 (retPost fun v w' => v = (Value.tuple #[(Value.int IntKind.i64 r.1), (Value.bool r.2)]) ∧ Mem Nob w0 w' []) := by
  have hM : Mem Nob w0 w0 [] := (Mem.nil w0)
  refine enter2 Tryd.func16 rfl rfl rfl fun Q a hQr hQn hQp hS => ?_
  have hS : Sl 30 [(0, (Value.string (bs p0_s))), (1, (Value.int IntKind.i64 p1_width))] a := hS
  unfold S_impl_DecodeFixed at hF
  refine wp_seq_k fun K1 hK1 => ?_
  refine wp_region_lit ?_
  refine st_val hS rfl rfl (by decide) (rv_assign (hS.ev rfl)) fun a hS => ?_
  refine st_val hS rfl rfl (by decide) (rv_assign (hS.ev rfl)) fun a hS => ?_
  refine wpList_nil ?_
  refine hK1 _ _ ?_
  refine wp_seq_k fun K2 hK2 => ?_
  refine wp_seq_k fun K8 hK8 => ?_
  have hJ1 : ∀ (p10 : Bool) (a : Act) (w : World), Sl 30 [(0, (Value.string (bs p0_s))), (1, (Value.int IntKind.i64 p1_width)), (16, (Value.bool p10))] a → Mem Nob w0 w [] → S_impl_DecodeFixed_j1 F p0_s p1_width p10 = some r → K8 a w := by
    intro p10 a w hS hM hF
    unfold S_impl_DecodeFixed_j1 at hF
    refine hK8 _ _ ?_
    rcases ite_some hF with ⟨hc, hF⟩ | ⟨hc, hF⟩
    · refine cond_t hS rfl hc ?_
      refine wp_seq_k fun K11 hK11 => ?_
      refine wp_region_lit ?_
      refine st_val hS rfl rfl (by decide) (rv_assign (hS.ev rfl)) fun a hS => ?_
      refine st_val hS rfl rfl (by decide) (rv_assign (hS.ev rfl)) fun a hS => ?_
      refine wpList_nil ?_
      refine hK11 _ _ ?_
      refine wp_ret ?_
      cases hF
      exact hQr _ _ (r_2 hS rfl rfl rfl ⟨rfl, hM.pick [] (by decide) rfl⟩)
    · refine cond_f hS rfl hc ?_
      refine wp_skip ?_
      refine hK2 _ _ ?_
      refine wp_seq_k fun K12 hK12 => ?_
      refine wp_region_lit ?_
      refine st_val hS rfl rfl (by decide) (rv_assign (hS.ev rfl)) fun a hS => ?_
      refine wpList_nil ?_
      refine hK12 _ _ ?_
      refine wp_seq_k fun K13 hK13 => ?_
      have hJ2 : ∀ (x31 : Int) (a : Act) (w : World), Sl 30 [(6, (Value.int IntKind.i64 x31))] a → Mem Nob w0 w [] → S_impl_DecodeFixed_j2 F x31 = some r → K13 a w := by
        intro x31 a w hS hM hF
        unfold S_impl_DecodeFixed_j2 at hF
        refine hK13 _ _ ?_
        refine wp_seq_k fun K32 hK32 => ?_
        refine wp_region_lit ?_
        refine st_val hS rfl rfl (by decide) (rv_move (hS.ev rfl)) fun a hS => ?_
        refine st_val hS rfl rfl (by decide) (rv_assign (hS.ev rfl)) fun a hS => ?_
        refine st_val hS rfl rfl (by decide) (rv_assign (hS.ev rfl)) fun a hS => ?_
        refine wpList_nil ?_
        refine hK32 _ _ ?_
        refine wp_ret ?_
        cases hF
        exact hQr _ _ (r_2 hS rfl rfl rfl ⟨rfl, hM.pick [] (by decide) rfl⟩)
      refine wp_seq_k fun K33 hK33 => ?_
      refine wp_region_lit ?_
      refine st_val hS rfl rfl (by decide) (rv_move (hS.ev rfl)) fun a hS => ?_
      refine st_val hS rfl rfl (by decide) (rv_move (hS.ev rfl)) fun a hS => ?_
      refine wpList_nil ?_
      refine hK33 _ _ ?_
      refine wp_block ?_
      obtain ⟨lb3, hl3, hF3⟩ := bind_some hF
      refine wp_loop_sh (fun s => S_impl_DecodeFixed_l3 F p0_s p1_width s.1 s.2) (fun s a w => Sl 30 [(0, (Value.string (bs p0_s))), (6, (Value.int IntKind.i64 s.1)), (17, (Value.int IntKind.i64 p1_width)), (18, (Value.int IntKind.i64 s.2))] a ∧ Mem Nob w0 w []) hl3 ⟨(hS.sub (sub_cons rfl (sub_cons rfl (sub_cons rfl (sub_cons rfl sub_nil))))), (hM.pick [] (by decide) rfl)⟩ ?_
      rintro K3 ⟨x34, x35⟩ a w res3 ⟨hS, hM⟩ hF hN3 hX3
      have hF : S_impl_DecodeFixed_l3 F p0_s p1_width x34 x35 = some res3 := hF
      have hS : Sl 30 [(0, (Value.string (bs p0_s))), (6, (Value.int IntKind.i64 x34)), (17, (Value.int IntKind.i64 p1_width)), (18, (Value.int IntKind.i64 x35))] a := hS
      have hM : Mem Nob w0 w [] := hM
      unfold S_impl_DecodeFixed_l3 at hF
      refine wp_seq_k fun K43 hK43 => ?_
      refine wp_region_lit ?_
      refine st_val hS rfl rfl (by decide) (rv_lss (hS.ev rfl) (hS.ev rfl)) fun a hS => ?_
      refine wpList_nil ?_
      refine hK43 _ _ ?_
      refine wp_seq_k fun K44 hK44 => ?_
      rcases ite_some hF with ⟨hc, hF⟩ | ⟨hc, hF⟩
      · refine cond_t hS rfl hc ?_
        refine wp_skip ?_
        refine hK44 _ _ ?_
        refine wp_seq_k fun K45 hK45 => ?_
        refine wp_block ?_
        refine wp_seq_k fun K48 hK48 => ?_
        refine wp_region_lit ?_
        refine st_val hS rfl rfl (by decide) (rv_move (hS.ev rfl)) fun a hS => ?_
        refine st_val hS rfl rfl (by decide) (rv_assign (hS.ev rfl)) fun a hS => ?_
        refine wpList_nil ?_
        refine hK48 _ _ ?_
        refine wp_region_lit ?_
        refine st_val hS rfl rfl (by decide) (rv_move (hS.ev rfl)) fun a hS => ?_
        refine st_val hS rfl rfl (by decide) (rv_shl (hS.ev rfl) (hS.ev rfl) (by decide)) fun a hS => ?_
        refine st_val hS rfl rfl (by decide) (rv_move (hS.ev rfl)) fun a hS => ?_
        refine st_val hS rfl rfl (by decide) (rv_move (hS.ev rfl)) fun a hS => ?_
        obtain ⟨x49, hx, hF⟩ := bind_some hF
        obtain ⟨hi0, hi1, hi2⟩ := idxL_some hx
        refine st_val hS rfl rfl (by decide) (rv_index Tryd.underlying9 (hS.ev rfl) (hS.ev rfl) hi0 hi2) fun a hS => ?_
        refine st_val hS rfl rfl (by decide) (rv_conv Tryd.underlying5 Tryd.underlying3 (hS.ev rfl)) fun a hS => ?_
        refine st_val hS rfl rfl (by decide) (rv_or (hS.ev rfl) (hS.ev rfl)) fun a hS => ?_
        refine st_val hS rfl rfl (by decide) (rv_assign (hS.ev rfl)) fun a hS => ?_
        refine wpList_nil ?_
        refine hK45 _ _ ?_
        refine wp_region_lit ?_
        refine st_val hS rfl rfl (by decide) (rv_add (hS.ev rfl) (hS.ev rfl)) fun a hS => ?_
        refine st_val hS rfl rfl (by decide) (rv_move (hS.ev rfl)) fun a hS => ?_
        refine wpList_nil ?_
        cases hF
        exact hN3 _ _ _ rfl ⟨(hS.sub (sub_cons rfl (sub_cons rfl (sub_cons rfl (sub_cons rfl sub_nil))))), (hM.pick [] (by decide) rfl)⟩
      · refine cond_f hS rfl hc ?_
        refine wp_exit ?_
        cases hF
        exact hJ2 x34 _ _ (hS.sub (sub_cons rfl sub_nil)) (hM.pick [] (by decide) rfl) (by have e := hX3 _ rfl; subst e; exact hF3)
  refine wp_region_lit ?_
  refine st_val hS rfl rfl (by decide) (rv_move (hS.ev rfl)) fun a hS => ?_
  obtain ⟨r50, hr, hF⟩ := bind_some hF
  refine st_wp hS rfl (wp_call hS rfl rfl (by decide) fn_ok_38 rfl (c_impl_within F p1_width 1 7 hr _) fun v w a hK hS => ?_)
  obtain ⟨rfl, hN⟩ := hK
  have hM := hM.fra hN.fr
  refine st_val hS rfl rfl (by decide) (rv_not (hS.ev rfl)) fun a hS => ?_
  refine st_val hS rfl rfl (by decide) (rv_move (hS.ev rfl)) fun a hS => ?_
  rcases ite_some hF with ⟨hc, hF⟩ | ⟨hc, hF⟩
  · have hS := hS.setb (t := 11) rfl hc
    refine st_skip hS rfl rfl (by decide) fun a hS => ?_
    refine st_skip hS rfl rfl (by decide) fun a hS => ?_
    refine st_skip hS rfl rfl (by decide) fun a hS => ?_
    refine st_skip hS rfl rfl (by decide) fun a hS => ?_
    refine st_val hS rfl rfl (by decide) (rv_pick_t (hS.ev rfl) (hS.ev rfl)) fun a hS => ?_
    refine wpList_nil ?_
    exact hJ1 true _ _ (hS.sub (sub_cons rfl (sub_cons rfl (sub_cons rfl sub_nil)))) (hM.pick [] (by decide) rfl) hF
  · have hS := hS.setb (t := 11) rfl hc
    refine st_val hS rfl rfl (by decide) (rv_move (hS.ev rfl)) fun a hS => ?_
    refine st_val hS rfl rfl (by decide) (rv_len_str Tryd.underlying9 (hS.ev rfl)) fun a hS => ?_
    refine st_val hS rfl rfl (by decide) (rv_move (hS.ev rfl)) fun a hS => ?_
    refine st_val hS rfl rfl (by decide) (rv_lss (hS.ev rfl) (hS.ev rfl)) fun a hS => ?_
    refine st_val hS rfl rfl (by decide) (rv_pick_f (hS.ev rfl) (hS.ev rfl)) fun a hS => ?_
    refine wpList_nil ?_
    exact hJ1 (decide ((p0_s.length : Int) < p1_width)) _ _ (hS.sub (sub_cons rfl (sub_cons rfl (sub_cons rfl sub_nil)))) (hM.pick [] (by decide) rfl) hF


theorem c_spec_l1In (F : Nat) (p0_x : Int) (p1_low : Int) (p2_high : Int) {r : Bool} (hF : S_spec_l1In F p0_x p1_low p2_high = some r) (w0 : World) :
    Calls Tryd.prog 40 [(Value.int IntKind.i64 p0_x), (Value.int IntKind.i64 p1_low), (Value.int IntKind.i64 p2_high)].toArray w0 (retPost fun v w' => v = (Value.bool r) ∧ Mem Nob w0 w' []) := by
  have hM : Mem Nob w0 w0 [] := (Mem.nil w0)
  refine enter2 Tryd.func40 rfl rfl rfl fun Q a hQr hQn hQp hS => ?_
  have hS : Sl 15 [(0, (Value.int IntKind.i64 p0_x)), (1, (Value.int IntKind.i64 p1_low)), (2, (Value.int IntKind.i64 p2_high))] a := hS
  unfold S_spec_l1In at hF
  refine wp_seq_k fun K1 hK1 => ?_
  refine wp_region_lit ?_
  refine st_val hS rfl rfl (by decide) (rv_assign (hS.ev rfl)) fun a hS => ?_
  refine wpList_nil ?_
  refine hK1 _ _ ?_
  refine wp_seq_k fun K2 hK2 => ?_
  have hJ1 : ∀ (p3 : Bool) (a : Act) (w : World), Sl 15 [(6, (Value.bool p3))] a → Mem Nob w0 w [] → S_spec_l1In_j1 F p3 = some r → K2 a w := by
    intro p3 a w hS hM hF
    unfold S_spec_l1In_j1 at hF
    refine hK2 _ _ ?_
    refine wp_ret ?_
    cases hF
    exact hQr _ _ (r_1 hS rfl rfl ⟨rfl, hM.pick [] (by decide) rfl⟩)
  refine wp_region_lit ?_
  refine st_val hS rfl rfl (by decide) (rv_move (hS.ev rfl)) fun a hS => ?_
  refine st_val hS rfl rfl (by decide) (rv_move (hS.ev rfl)) fun a hS => ?_
  refine st_val hS rfl rfl (by decide) (rv_geq (hS.ev rfl) (hS.ev rfl)) fun a hS => ?_
  refine st_val hS rfl rfl (by decide) (rv_move (hS.ev rfl)) fun a hS => ?_
  rcases ite_some hF with ⟨hc, hF⟩ | ⟨hc, hF⟩
  · have hS := hS.setb (t := 10) rfl hc
    refine st_val hS rfl rfl (by decide) (rv_move (hS.ev rfl)) fun a hS => ?_
    refine st_val hS rfl rfl (by decide) (rv_move (hS.ev rfl)) fun a hS => ?_
    refine st_val hS rfl rfl (by decide) (rv_leq (hS.ev rfl) (hS.ev rfl)) fun a hS => ?_
    refine st_val hS rfl rfl (by decide) (rv_pick_t (hS.ev rfl) (hS.ev rfl)) fun a hS => ?_
    refine st_val hS rfl rfl (by decide) (rv_assign (hS.ev rfl)) fun a hS => ?_
    refine wpList_nil ?_
    exact hJ1 (decide (p0_x ≤ p2_high)) _ _ (hS.sub (sub_cons rfl sub_nil)) (hM.pick [] (by decide) rfl) hF
  · have hS := hS.setb (t := 10) rfl hc
    refine st_skip hS rfl rfl (by decide) fun a hS => ?_
    refine st_skip hS rfl rfl (by decide) fun a hS => ?_
    refine st_skip hS rfl rfl (by decide) fun a hS => ?_
    refine st_val hS rfl rfl (by decide) (rv_pick_f (hS.ev rfl) (hS.ev rfl)) fun a hS => ?_
    refine st_val hS rfl rfl (by decide) (rv_assign (hS.ev rfl)) fun a hS => ?_
    refine wpList_nil ?_
    exact hJ1 false _ _ (hS.sub (sub_cons rfl sub_nil)) (hM.pick [] (by decide) rfl) hF


theorem c_spec_EncodeFixed (F : Nat) (p0_n : Int) (p1_width : Int) {r : (List UInt8)} (hF : S_spec_EncodeFixed F p0_n p1_width = some r) (w0 : World) :
    Calls Tryd.prog 17 [(Value.int IntKind.i64 p0_n), (Value.int IntKind.i64 p1_width)].toArray w0 (retPost fun v w' => v = (Value.string (bs r)) ∧ Mem Nob w0 w' []) := by
  have hM : Mem Nob w0 w0 [] := (Mem.nil w0)
  refine enter2 Tryd.func17 rfl rfl rfl fun Q a hQr hQn hQp hS => ?_
  have hS : Sl 31 [(0, (Value.int IntKind.i64 p0_n)), (1, (Value.int IntKind.i64 p1_width))] a := hS
  unfold S_spec_EncodeFixed at hF
  refine wp_seq_k fun K1 hK1 => ?_
  refine wp_region_lit ?_
  refine st_val hS rfl rfl (by decide) (rv_assign (hS.ev rfl)) fun a hS => ?_
  refine wpList_nil ?_
  refine hK1 _ _ ?_
  refine wp_seq_k fun K2 hK2 => ?_
  refine wp_seq_k fun K8 hK8 => ?_
  have hJ1 : ∀ (p10 : Bool) (a : Act) (w : World), Sl 31 [(0, (Value.int IntKind.i64 p0_n)), (1, (Value.int IntKind.i64 p1_width)), (13, (Value.bool p10))] a → Mem Nob w0 w [] → S_spec_EncodeFixed_j1 F p0_n p1_width p10 = some r → K8 a w := by
    intro p10 a w hS hM hF
    unfold S_spec_EncodeFixed_j1 at hF
    refine hK8 _ _ ?_
    rcases ite_some hF with ⟨hc, hF⟩ | ⟨hc, hF⟩
    · refine cond_t hS rfl hc ?_
      refine wp_seq_k fun K11 hK11 => ?_
      refine wp_region_lit ?_
      refine st_val hS rfl rfl (by decide) (rv_assign (hS.ev rfl)) fun a hS => ?_
      refine wpList_nil ?_
      refine hK11 _ _ ?_
      refine wp_ret ?_
      cases hF
      exact hQr _ _ (r_1 hS rfl rfl ⟨rfl, hM.pick [] (by decide) rfl⟩)
    · refine cond_f hS rfl hc ?_
      refine wp_skip ?_
      refine hK2 _ _ ?_
      refine wp_seq_k fun K12 hK12 => ?_
      refine wp_region_lit ?_
      refine st_val hS rfl rfl (by decide) (rv_assign (hS.ev rfl)) fun a hS => ?_
      refine wpList_nil ?_
      refine hK12 _ _ ?_
      refine wp_seq_k fun K13 hK13 => ?_
      have hJ2 : ∀ (x38 : Int) (s39 : List UInt8) (a : Act) (w : World), Sl 31 [(0, (Value.int IntKind.i64 x38)), (5, (Value.string (bs s39)))] a → Mem Nob w0 w [] → S_spec_EncodeFixed_j2 F x38 s39 = some r → K13 a w := by
        intro x38 s39 a w hS hM hF
        unfold S_spec_EncodeFixed_j2 at hF
        refine hK13 _ _ ?_
        refine wp_seq_k fun K40 hK40 => ?_
        refine wp_seq_k fun K43 hK43 => ?_
        refine wp_region_lit ?_
        refine st_val hS rfl rfl (by decide) (rv_move (hS.ev rfl)) fun a hS => ?_
        refine st_val hS rfl rfl (by decide) (rv_gtr (hS.ev rfl) (hS.ev rfl)) fun a hS => ?_
        refine wpList_nil ?_
        refine hK43 _ _ ?_
        rcases ite_some hF with ⟨hc, hF⟩ | ⟨hc, hF⟩
        · refine cond_t hS rfl hc ?_
          refine wp_seq_k fun K44 hK44 => ?_
          refine wp_region_lit ?_
          refine st_val hS rfl rfl (by decide) (rv_assign (hS.ev rfl)) fun a hS => ?_
          refine wpList_nil ?_
          refine hK44 _ _ ?_
          refine wp_ret ?_
          cases hF
          exact hQr _ _ (r_1 hS rfl rfl ⟨rfl, hM.pick [] (by decide) rfl⟩)
        · refine cond_f hS rfl hc ?_
          refine wp_skip ?_
          refine hK40 _ _ ?_
          refine wp_seq_k fun K45 hK45 => ?_
          refine wp_region_lit ?_
          refine st_val hS rfl rfl (by decide) (rv_move (hS.ev rfl)) fun a hS => ?_
          refine st_val hS rfl rfl (by decide) (rv_assign (hS.ev rfl)) fun a hS => ?_
          refine wpList_nil ?_
          refine hK45 _ _ ?_
          refine wp_ret ?_
          cases hF
          exact hQr _ _ (r_1 hS rfl rfl ⟨rfl, hM.pick [] (by decide) rfl⟩)
      refine wp_seq_k fun K46 hK46 => ?_
      refine wp_region_lit ?_
      refine st_val hS rfl rfl (by decide) (rv_assign (hS.ev rfl)) fun a hS => ?_
      refine wpList_nil ?_
      refine hK46 _ _ ?_
      refine wp_block ?_
      obtain ⟨lb3, hl3, hF3⟩ := bind_some hF
      refine wp_loop_sh (fun s => S_spec_EncodeFixed_l3 F p1_width s.1 s.2.1 s.2.2) (fun s a w => Sl 31 [(0, (Value.int IntKind.i64 s.1)), (1, (Value.int IntKind.i64 p1_width)), (5, (Value.string (bs s.2.1))), (6, (Value.int IntKind.i64 s.2.2))] a ∧ Mem Nob w0 w []) hl3 ⟨(hS.sub (sub_cons rfl (sub_cons rfl (sub_cons rfl (sub_cons rfl sub_nil))))), (hM.pick [] (by decide) rfl)⟩ ?_
      rintro K3 ⟨x47, s48, x49⟩ a w res3 ⟨hS, hM⟩ hF hN3 hX3
      have hF : S_spec_EncodeFixed_l3 F p1_width x47 s48 x49 = some res3 := hF
      have hS : Sl 31 [(0, (Value.int IntKind.i64 x47)), (1, (Value.int IntKind.i64 p1_width)), (5, (Value.string (bs s48))), (6, (Value.int IntKind.i64 x49))] a := hS
      have hM : Mem Nob w0 w [] := hM
      unfold S_spec_EncodeFixed_l3 at hF
      refine wp_seq_k fun K60 hK60 => ?_
      refine wp_seq_k fun K62 hK62 => ?_
      refine wp_region_lit ?_
      refine st_val hS rfl rfl (by decide) (rv_move (hS.ev rfl)) fun a hS => ?_
      refine st_val hS rfl rfl (by decide) (rv_move (hS.ev rfl)) fun a hS => ?_
      refine st_val hS rfl rfl (by decide) (rv_lss (hS.ev rfl) (hS.ev rfl)) fun a hS => ?_
      refine wpList_nil ?_
      refine hK62 _ _ ?_
      rcases ite_some hF with ⟨hc, hF⟩ | ⟨hc, hF⟩
      · refine cond_t hS rfl hc ?_
        refine wp_skip ?_
        refine hK60 _ _ ?_
        refine wp_seq_k fun K63 hK63 => ?_
        refine wp_block ?_
        refine wp_seq_k fun K67 hK67 => ?_
        refine wp_region_lit ?_
        refine st_val hS rfl rfl (by decide) (rv_move (hS.ev rfl)) fun a hS => ?_
        refine st_val hS rfl rfl (by decide) (rv_rem (hS.ev rfl) (hS.ev rfl) (by decide)) fun a hS => ?_
        refine st_val hS rfl rfl (by decide) (rv_conv Tryd.underlying3 Tryd.underlying5 (hS.ev rfl)) fun a hS => ?_
        obtain ⟨v69, w, hr, hM⟩ := Mem.litE (f := (Value.int IntKind.u8)) (dst := some 22) (ty := _) (pos := _) (af := _) (gd := _) (ps := [(0, .tmp 21)]) ([(IntKind.u8.wrap (x47.tmod 256))] : List (Int)) u8_one hM hS Tryd.underlying22 ty_el_5 rfl rfl rfl rfl
        refine st_val hS rfl rfl (by decide) hr fun a hS => ?_
        refine st_val hS rfl rfl (by decide) (rv_bstr Tryd.underlying22 Tryd.underlying5 Tryd.underlying9 (hS.ev rfl) (rd_of_ow (hM.get 0 rfl))) fun a hS => ?_
        refine st_val hS rfl rfl (by decide) (rv_move (hS.ev rfl)) fun a hS => ?_
        obtain ⟨_, hx, hF⟩ := bind_some hF
        have hi0 := catO_some hx
        refine st_val hS rfl rfl (by decide) (rv_str_add (hS.ev rfl) (hS.ev rfl) hi0) fun a hS => ?_
        refine st_val hS rfl rfl (by decide) (rv_assign (hS.ev rfl)) fun a hS => ?_
        refine wpList_nil ?_
        refine hK67 _ _ ?_
        refine wp_region_lit ?_
        refine st_val hS rfl rfl (by decide) (rv_move (hS.ev rfl)) fun a hS => ?_
        refine st_val hS rfl rfl (by decide) (rv_quo (hS.ev rfl) (hS.ev rfl) (by decide)) fun a hS => ?_
        refine st_val hS rfl rfl (by decide) (rv_assign (hS.ev rfl)) fun a hS => ?_
        refine wpList_nil ?_
        refine hK63 _ _ ?_
        refine wp_region_lit ?_
        refine st_val hS rfl rfl (by decide) (rv_move (hS.ev rfl)) fun a hS => ?_
        refine st_val hS rfl rfl (by decide) (rv_add (hS.ev rfl) (hS.ev rfl)) fun a hS => ?_
        refine st_val hS rfl rfl (by decide) (rv_assign (hS.ev rfl)) fun a hS => ?_
        refine wpList_nil ?_
        cases hF
        exact hN3 _ _ _ rfl ⟨(hS.sub (sub_cons rfl (sub_cons rfl (sub_cons rfl (sub_cons rfl sub_nil))))), (hM.pick [] (by decide) rfl)⟩
      · refine cond_f hS rfl hc ?_
        refine wp_exit ?_
        cases hF
        exact hJ2 x47 s48 _ _ (hS.sub (sub_cons rfl (sub_cons rfl sub_nil))) (hM.pick [] (by decide) rfl) (by have e := hX3 _ rfl; subst e; exact hF3)
  refine wp_region_lit ?_
  refine st_val hS rfl rfl (by decide) (rv_move (hS.ev rfl)) fun a hS => ?_
  obtain ⟨r70, hr, hF⟩ := bind_some hF
  refine st_wp hS rfl (wp_call hS rfl rfl (by decide) fn_ok_40 rfl (c_spec_l1In F p1_width 1 7 hr _) fun v w a hK hS => ?_)
  obtain ⟨rfl, hN⟩ := hK
  have hM := hM.fra hN.fr
  refine st_val hS rfl rfl (by decide) (rv_not (hS.ev rfl)) fun a hS => ?_
  refine st_val hS rfl rfl (by decide) (rv_move (hS.ev rfl)) fun a hS => ?_
  rcases ite_some hF with ⟨hc, hF⟩ | ⟨hc, hF⟩
  · have hS := hS.setb (t := 10) rfl hc
    refine st_skip hS rfl rfl (by decide) fun a hS => ?_
    refine st_skip hS rfl rfl (by decide) fun a hS => ?_
    refine st_val hS rfl rfl (by decide) (rv_pick_t (hS.ev rfl) (hS.ev rfl)) fun a hS => ?_
    refine wpList_nil ?_
    exact hJ1 true _ _ (hS.sub (sub_cons rfl (sub_cons rfl (sub_cons rfl sub_nil)))) (hM.pick [] (by decide) rfl) hF
  · have hS := hS.setb (t := 10) rfl hc
    refine st_val hS rfl rfl (by decide) (rv_move (hS.ev rfl)) fun a hS => ?_
    refine st_val hS rfl rfl (by decide) (rv_lss (hS.ev rfl) (hS.ev rfl)) fun a hS => ?_
    refine st_val hS rfl rfl (by decide) (rv_pick_f (hS.ev rfl) (hS.ev rfl)) fun a hS => ?_
    refine wpList_nil ?_
    exact hJ1 (decide (p0_n < 0)) _ _ (hS.sub (sub_cons rfl (sub_cons rfl (sub_cons rfl sub_nil)))) (hM.pick [] (by decide) rfl) hF


end Go.Proofs.YtgddopammpjkgaaDoor
