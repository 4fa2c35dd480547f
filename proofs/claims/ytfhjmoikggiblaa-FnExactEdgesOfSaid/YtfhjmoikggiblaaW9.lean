/- Proved here: that each Go function does what its shallow function says -/
import Derived.Test.YtfhjmoikggiblaaSh
import Derived.Test.YtfhjmoikggiblaaTy
import Derived.Test.YtfhjmoikggiblaaK11
import Derived.Test.YtfhjmoikggiblaaW0
import Derived.Test.YtfhjmoikggiblaaW1
import Derived.Test.YtfhjmoikggiblaaW2
import Derived.Test.YtfhjmoikggiblaaW7
namespace Go.Proofs.Ytfhjmoikggiblaa
open Go Go.RowKit
set_option linter.unusedVariables false
set_option linter.unusedSimpArgs false
set_option maxRecDepth 100000
set_option maxHeartbeats 4000000

theorem c_spec_DistanceOf (F : Nat) (p0_g_Size : Int) (p0_g_Rows : List Int) (p1_v : Int) (p2_w : Int) (p0_g_Rowsv : Value) {r : Int} (hF : S_spec_DistanceOf F p0_g_Size p0_g_Rows p1_v p2_w = some r) (w0 : World) (h0 : RdRow w0 p0_g_Rowsv (List.map (Value.int IntKind.i64) p0_g_Rows)) :
    Calls Try.prog 40 [(Value.agg #[(Value.int IntKind.i64 p0_g_Size), p0_g_Rowsv]), (Value.int IntKind.i64 p1_v), (Value.int IntKind.i64 p2_w)].toArray w0 (retPost fun v w' => v = (Value.int IntKind.i64 r) ∧ Mem Nob w0 w' []) := by
  have hM : Mem Nob w0 w0 [(false, rd p0_g_Rowsv (List.map (Value.int IntKind.i64) p0_g_Rows))] := (Mem.rcons (Mem.nil w0) h0 (by simp))
  refine enter2 Try.func40 rfl rfl rfl fun Q a hQr hQn hQp hS => ?_
  have hS : Sl 49 [(0, (Value.agg #[(Value.int IntKind.i64 p0_g_Size), p0_g_Rowsv])), (1, (Value.int IntKind.i64 p1_v)), (2, (Value.int IntKind.i64 p2_w))] a := hS
  unfold S_spec_DistanceOf at hF
  refine wp_seq_k fun K1 hK1 => ?_
  refine wp_region_lit ?_
  obtain ⟨b3, w, hr, hM⟩ := hM.boxE (ρ := a.eval) (dst := some 3) (ty := _) (pos := _) (af := _) (gd := _) (x := .tmp 0) (T := 27) [(Value.int IntKind.i64 p0_g_Size), p0_g_Rowsv] (hS.ev rfl) rfl
  refine st_val hS rfl rfl (by decide) hr fun a hS => ?_
  refine st_val hS rfl rfl (by decide) (rv_assign (hS.ev rfl)) fun a hS => ?_
  refine wpList_nil ?_
  refine hK1 _ _ ?_
  refine wp_seq_k fun K4 hK4 => ?_
  refine wp_seq_k fun K10 hK10 => ?_
  have hJ1 : ∀ (p12 : Bool) (a : Act) (w : World), Sl 49 [(1, (Value.int IntKind.i64 p1_v)), (2, (Value.int IntKind.i64 p2_w)), (3, (fdp b3 0)), (31, (Value.bool p12))] a → Mem Nob w0 w [(true, bx b3 27 [(Value.int IntKind.i64 p0_g_Size), p0_g_Rowsv]), (false, rd p0_g_Rowsv (List.map (Value.int IntKind.i64) p0_g_Rows))] → S_spec_DistanceOf_j1 F p0_g_Size p0_g_Rows p1_v p2_w p12 = some r → K10 a w := by
    intro p12 a w hS hM hF
    unfold S_spec_DistanceOf_j1 at hF
    refine hK10 _ _ ?_
    rcases ite_some hF with ⟨hc, hF⟩ | ⟨hc, hF⟩
    · refine cond_t hS rfl hc ?_
      refine wp_seq_k fun K13 hK13 => ?_
      refine wp_region_lit ?_
      refine st_val hS rfl rfl (by decide) (rv_assign (hS.ev rfl)) fun a hS => ?_
      refine wpList_nil ?_
      refine hK13 _ _ ?_
      refine wp_ret ?_
      cases hF
      exact hQr _ _ (r_1 hS rfl rfl ⟨rfl, hM.pick [] (by decide) rfl⟩)
    · refine cond_f hS rfl hc ?_
      refine wp_skip ?_
      refine hK4 _ _ ?_
      refine wp_seq_k fun K14 hK14 => ?_
      refine wp_region_lit ?_
      refine st_val hS rfl rfl (by decide) (rv_move (hS.ev rfl)) fun a hS => ?_
      obtain ⟨_, hx, hF⟩ := bind_some hF
      have hi0 := nnO_some hx
      refine st_val hS rfl rfl (by decide) (rv_shl (hS.ev rfl) (hS.ev rfl) hi0) fun a hS => ?_
      refine st_val hS rfl rfl (by decide) (rv_assign (hS.ev rfl)) fun a hS => ?_
      refine wpList_nil ?_
      refine hK14 _ _ ?_
      refine wp_seq_k fun K15 hK15 => ?_
      have hJ2 : ∀ (a : Act) (w : World), Sl 49 [] a → Mem Nob w0 w [] → S_spec_DistanceOf_j2 F = some r → K15 a w := by
        intro a w hS hM hF
        unfold S_spec_DistanceOf_j2 at hF
        refine hK15 _ _ ?_
        refine wp_seq_k fun K51 hK51 => ?_
        refine wp_region_lit ?_
        refine st_val hS rfl rfl (by decide) (rv_assign (hS.ev rfl)) fun a hS => ?_
        refine wpList_nil ?_
        refine hK51 _ _ ?_
        refine wp_ret ?_
        cases hF
        exact hQr _ _ (r_1 hS rfl rfl ⟨rfl, hM.pick [] (by decide) rfl⟩)
      refine wp_seq_k fun K52 hK52 => ?_
      refine wp_region_lit ?_
      refine st_val hS rfl rfl (by decide) (rv_assign (hS.ev rfl)) fun a hS => ?_
      refine wpList_nil ?_
      refine hK52 _ _ ?_
      refine wp_block ?_
      obtain ⟨lb3, hl3, hF3⟩ := bind_some hF
      refine wp_loop_sh (fun s => S_spec_DistanceOf_l3 F p0_g_Size p0_g_Rows p2_w s.1 s.2) (fun s a w => Sl 49 [(2, (Value.int IntKind.i64 p2_w)), (3, (fdp b3 0)), (7, (Value.int IntKind.i64 s.1)), (8, (Value.int IntKind.i64 s.2))] a ∧ Mem Nob w0 w [(true, bx b3 27 [(Value.int IntKind.i64 p0_g_Size), p0_g_Rowsv]), (false, rd p0_g_Rowsv (List.map (Value.int IntKind.i64) p0_g_Rows))]) hl3 ⟨(hS.sub (sub_cons rfl (sub_cons rfl (sub_cons rfl (sub_cons rfl sub_nil))))), (hM.pick [0, 1] (by decide) rfl)⟩ ?_
      rintro K3 ⟨x53, x54⟩ a w res3 ⟨hS, hM⟩ hF hN3 hX3
      have hF : S_spec_DistanceOf_l3 F p0_g_Size p0_g_Rows p2_w x53 x54 = some res3 := hF
      have hS : Sl 49 [(2, (Value.int IntKind.i64 p2_w)), (3, (fdp b3 0)), (7, (Value.int IntKind.i64 x53)), (8, (Value.int IntKind.i64 x54))] a := hS
      have hM : Mem Nob w0 w [(true, bx b3 27 [(Value.int IntKind.i64 p0_g_Size), p0_g_Rowsv]), (false, rd p0_g_Rowsv (List.map (Value.int IntKind.i64) p0_g_Rows))] := hM
      unfold S_spec_DistanceOf_l3 at hF
      refine wp_seq_k fun K71 hK71 => ?_
      refine wp_seq_k fun K73 hK73 => ?_
      refine wp_region_lit ?_
      refine st_val hS rfl rfl (by decide) (rv_move (hS.ev rfl)) fun a hS => ?_
      refine st_val hS rfl rfl (by decide) (rv_fieldAddr ty_fd_27_0 (hS.ev rfl)) fun a hS => ?_
      refine st_val hS rfl rfl (by decide) (rv_load_bx (hS.ev rfl) ty_ag_3 (hM.get 0 rfl) rfl) fun a hS => ?_
      refine st_val hS rfl rfl (by decide) (rv_lss (hS.ev rfl) (hS.ev rfl)) fun a hS => ?_
      refine wpList_nil ?_
      refine hK73 _ _ ?_
      rcases ite_some hF with ⟨hc, hF⟩ | ⟨hc, hF⟩
      · refine cond_t hS rfl hc ?_
        refine wp_skip ?_
        refine hK71 _ _ ?_
        refine wp_seq_k fun K74 hK74 => ?_
        refine wp_block ?_
        refine wp_seq_k fun K81 hK81 => ?_
        refine wp_seq_k fun K84 hK84 => ?_
        refine wp_region_lit ?_
        refine st_val hS rfl rfl (by decide) (rv_move (hS.ev rfl)) fun a hS => ?_
        refine st_val hS rfl rfl (by decide) (rv_move (hS.ev rfl)) fun a hS => ?_
        obtain ⟨_, hx, hF⟩ := bind_some hF
        have hi0 := nnO_some hx
        refine st_val hS rfl rfl (by decide) (rv_shr (hS.ev rfl) (hS.ev rfl) hi0) fun a hS => ?_
        refine st_val hS rfl rfl (by decide) (rv_and (hS.ev rfl) (hS.ev rfl)) fun a hS => ?_
        refine st_val hS rfl rfl (by decide) (rv_eql (hS.ev rfl) (hS.ev rfl)) fun a hS => ?_
        refine wpList_nil ?_
        refine hK84 _ _ ?_
        rcases ite_some hF with ⟨hc, hF⟩ | ⟨hc, hF⟩
        · refine cond_t hS rfl hc ?_
          refine wp_seq_k fun K85 hK85 => ?_
          refine wp_region_lit ?_
          refine st_val hS rfl rfl (by decide) (rv_move (hS.ev rfl)) fun a hS => ?_
          refine st_val hS rfl rfl (by decide) (rv_assign (hS.ev rfl)) fun a hS => ?_
          refine wpList_nil ?_
          refine hK85 _ _ ?_
          refine wp_ret ?_
          cases hF
          have e := hX3 _ rfl
          subst e
          have hF := hF3
          cases hF
          exact hQr _ _ (r_1 hS rfl rfl ⟨rfl, hM.pick [] (by decide) rfl⟩)
        · refine cond_f hS rfl hc ?_
          refine wp_skip ?_
          refine hK81 _ _ ?_
          refine wp_region_lit ?_
          refine st_val hS rfl rfl (by decide) (rv_load_agg (hS.ev rfl) ty_ag_27 (hM.get 0 rfl) ty_sz_27) fun a hS => ?_
          refine st_val hS rfl rfl (by decide) (rv_move (hS.ev rfl)) fun a hS => ?_
          obtain ⟨r86, hr, hF⟩ := bind_some hF
          refine st_wp hS rfl (wp_call hS rfl rfl (by decide) fn_ok_16 rfl (c_spec_AroundSet F p0_g_Size p0_g_Rows x53 p0_g_Rowsv hr _ (hM.get 1 rfl)) fun v w a hK hS => ?_)
          obtain ⟨rfl, hN⟩ := hK
          have hM := hM.fra hN.fr
          refine st_val hS rfl rfl (by decide) (rv_assign (hS.ev rfl)) fun a hS => ?_
          refine wpList_nil ?_
          refine hK74 _ _ ?_
          refine wp_region_lit ?_
          refine st_val hS rfl rfl (by decide) (rv_move (hS.ev rfl)) fun a hS => ?_
          refine st_val hS rfl rfl (by decide) (rv_add (hS.ev rfl) (hS.ev rfl)) fun a hS => ?_
          refine st_val hS rfl rfl (by decide) (rv_assign (hS.ev rfl)) fun a hS => ?_
          refine wpList_nil ?_
          cases hF
          exact hN3 _ _ _ rfl ⟨(hS.sub (sub_cons rfl (sub_cons rfl (sub_cons rfl (sub_cons rfl sub_nil))))), (hM.pick [0, 1] (by decide) rfl)⟩
      · refine cond_f hS rfl hc ?_
        refine wp_exit ?_
        cases hF
        exact hJ2 _ _ (hS.sub sub_nil) (hM.pick [] (by decide) rfl) (by have e := hX3 _ rfl; subst e; exact hF3)
  refine wp_region_lit ?_
  refine st_val hS rfl rfl (by decide) (rv_load_agg (hS.ev rfl) ty_ag_27 (hM.get 0 rfl) ty_sz_27) fun a hS => ?_
  obtain ⟨r87, hr, hF⟩ := bind_some hF
  refine st_wp hS rfl (wp_call hS rfl rfl (by decide) fn_ok_53 rfl (c_spec_IsGraph F p0_g_Size p0_g_Rows p0_g_Rowsv hr _ (hM.get 1 rfl)) fun v w a hK hS => ?_)
  obtain ⟨rfl, hN⟩ := hK
  have hM := hM.fra hN.fr
  refine st_val hS rfl rfl (by decide) (rv_not (hS.ev rfl)) fun a hS => ?_
  refine st_val hS rfl rfl (by decide) (rv_move (hS.ev rfl)) fun a hS => ?_
  rcases ite_some hF with ⟨hc, hF⟩ | ⟨hc, hF⟩
  · have hS := hS.setb (t := 12) rfl hc
    refine st_skip hS rfl rfl (by decide) fun a hS => ?_
    refine st_skip hS rfl rfl (by decide) fun a hS => ?_
    refine st_val hS rfl rfl (by decide) (rv_pick_t (hS.ev rfl) (hS.ev rfl)) fun a hS => ?_
    refine st_val hS rfl rfl (by decide) (rv_move (hS.ev rfl)) fun a hS => ?_
    refine st_skip hS rfl rfl (by decide) fun a hS => ?_
    refine st_skip hS rfl rfl (by decide) fun a hS => ?_
    refine st_val hS rfl rfl (by decide) (rv_pick_t (hS.ev rfl) (hS.ev rfl)) fun a hS => ?_
    refine st_val hS rfl rfl (by decide) (rv_move (hS.ev rfl)) fun a hS => ?_
    refine st_skip hS rfl rfl (by decide) fun a hS => ?_
    refine st_skip hS rfl rfl (by decide) fun a hS => ?_
    refine st_skip hS rfl rfl (by decide) fun a hS => ?_
    refine st_skip hS rfl rfl (by decide) fun a hS => ?_
    refine st_val hS rfl rfl (by decide) (rv_pick_t (hS.ev rfl) (hS.ev rfl)) fun a hS => ?_
    refine st_val hS rfl rfl (by decide) (rv_move (hS.ev rfl)) fun a hS => ?_
    refine st_skip hS rfl rfl (by decide) fun a hS => ?_
    refine st_skip hS rfl rfl (by decide) fun a hS => ?_
    refine st_skip hS rfl rfl (by decide) fun a hS => ?_
    refine st_skip hS rfl rfl (by decide) fun a hS => ?_
    refine st_val hS rfl rfl (by decide) (rv_pick_t (hS.ev rfl) (hS.ev rfl)) fun a hS => ?_
    refine wpList_nil ?_
    exact hJ1 true _ _ (hS.sub (sub_cons rfl (sub_cons rfl (sub_cons rfl (sub_cons rfl sub_nil))))) (hM.pick [0, 1] (by decide) rfl) hF
  · have hS := hS.setb (t := 12) rfl hc
    refine st_val hS rfl rfl (by decide) (rv_move (hS.ev rfl)) fun a hS => ?_
    refine st_val hS rfl rfl (by decide) (rv_lss (hS.ev rfl) (hS.ev rfl)) fun a hS => ?_
    refine st_val hS rfl rfl (by decide) (rv_pick_f (hS.ev rfl) (hS.ev rfl)) fun a hS => ?_
    refine st_val hS rfl rfl (by decide) (rv_move (hS.ev rfl)) fun a hS => ?_
    rcases ite_some hF with ⟨hc, hF⟩ | ⟨hc, hF⟩
    · have hS := hS.setb (t := 16) rfl hc
      refine st_skip hS rfl rfl (by decide) fun a hS => ?_
      refine st_skip hS rfl rfl (by decide) fun a hS => ?_
      refine st_val hS rfl rfl (by decide) (rv_pick_t (hS.ev rfl) (hS.ev rfl)) fun a hS => ?_
      refine st_val hS rfl rfl (by decide) (rv_move (hS.ev rfl)) fun a hS => ?_
      refine st_skip hS rfl rfl (by decide) fun a hS => ?_
      refine st_skip hS rfl rfl (by decide) fun a hS => ?_
      refine st_skip hS rfl rfl (by decide) fun a hS => ?_
      refine st_skip hS rfl rfl (by decide) fun a hS => ?_
      refine st_val hS rfl rfl (by decide) (rv_pick_t (hS.ev rfl) (hS.ev rfl)) fun a hS => ?_
      refine st_val hS rfl rfl (by decide) (rv_move (hS.ev rfl)) fun a hS => ?_
      refine st_skip hS rfl rfl (by decide) fun a hS => ?_
      refine st_skip hS rfl rfl (by decide) fun a hS => ?_
      refine st_skip hS rfl rfl (by decide) fun a hS => ?_
      refine st_skip hS rfl rfl (by decide) fun a hS => ?_
      refine st_val hS rfl rfl (by decide) (rv_pick_t (hS.ev rfl) (hS.ev rfl)) fun a hS => ?_
      refine wpList_nil ?_
      exact hJ1 true _ _ (hS.sub (sub_cons rfl (sub_cons rfl (sub_cons rfl (sub_cons rfl sub_nil))))) (hM.pick [0, 1] (by decide) rfl) hF
    · have hS := hS.setb (t := 16) rfl hc
      refine st_val hS rfl rfl (by decide) (rv_move (hS.ev rfl)) fun a hS => ?_
      refine st_val hS rfl rfl (by decide) (rv_lss (hS.ev rfl) (hS.ev rfl)) fun a hS => ?_
      refine st_val hS rfl rfl (by decide) (rv_pick_f (hS.ev rfl) (hS.ev rfl)) fun a hS => ?_
      refine st_val hS rfl rfl (by decide) (rv_move (hS.ev rfl)) fun a hS => ?_
      rcases ite_some hF with ⟨hc, hF⟩ | ⟨hc, hF⟩
      · have hS := hS.setb (t := 20) rfl hc
        refine st_skip hS rfl rfl (by decide) fun a hS => ?_
        refine st_skip hS rfl rfl (by decide) fun a hS => ?_
        refine st_skip hS rfl rfl (by decide) fun a hS => ?_
        refine st_skip hS rfl rfl (by decide) fun a hS => ?_
        refine st_val hS rfl rfl (by decide) (rv_pick_t (hS.ev rfl) (hS.ev rfl)) fun a hS => ?_
        refine st_val hS rfl rfl (by decide) (rv_move (hS.ev rfl)) fun a hS => ?_
        refine st_skip hS rfl rfl (by decide) fun a hS => ?_
        refine st_skip hS rfl rfl (by decide) fun a hS => ?_
        refine st_skip hS rfl rfl (by decide) fun a hS => ?_
        refine st_skip hS rfl rfl (by decide) fun a hS => ?_
        refine st_val hS rfl rfl (by decide) (rv_pick_t (hS.ev rfl) (hS.ev rfl)) fun a hS => ?_
        refine wpList_nil ?_
        exact hJ1 true _ _ (hS.sub (sub_cons rfl (sub_cons rfl (sub_cons rfl (sub_cons rfl sub_nil))))) (hM.pick [0, 1] (by decide) rfl) hF
      · have hS := hS.setb (t := 20) rfl hc
        refine st_val hS rfl rfl (by decide) (rv_move (hS.ev rfl)) fun a hS => ?_
        refine st_val hS rfl rfl (by decide) (rv_fieldAddr ty_fd_27_0 (hS.ev rfl)) fun a hS => ?_
        refine st_val hS rfl rfl (by decide) (rv_load_bx (hS.ev rfl) ty_ag_3 (hM.get 0 rfl) rfl) fun a hS => ?_
        refine st_val hS rfl rfl (by decide) (rv_geq (hS.ev rfl) (hS.ev rfl)) fun a hS => ?_
        refine st_val hS rfl rfl (by decide) (rv_pick_f (hS.ev rfl) (hS.ev rfl)) fun a hS => ?_
        refine st_val hS rfl rfl (by decide) (rv_move (hS.ev rfl)) fun a hS => ?_
        rcases ite_some hF with ⟨hc, hF⟩ | ⟨hc, hF⟩
        · have hS := hS.setb (t := 26) rfl hc
          refine st_skip hS rfl rfl (by decide) fun a hS => ?_
          refine st_skip hS rfl rfl (by decide) fun a hS => ?_
          refine st_skip hS rfl rfl (by decide) fun a hS => ?_
          refine st_skip hS rfl rfl (by decide) fun a hS => ?_
          refine st_val hS rfl rfl (by decide) (rv_pick_t (hS.ev rfl) (hS.ev rfl)) fun a hS => ?_
          refine wpList_nil ?_
          exact hJ1 true _ _ (hS.sub (sub_cons rfl (sub_cons rfl (sub_cons rfl (sub_cons rfl sub_nil))))) (hM.pick [0, 1] (by decide) rfl) hF
        · have hS := hS.setb (t := 26) rfl hc
          refine st_val hS rfl rfl (by decide) (rv_move (hS.ev rfl)) fun a hS => ?_
          refine st_val hS rfl rfl (by decide) (rv_fieldAddr ty_fd_27_0 (hS.ev rfl)) fun a hS => ?_
          refine st_val hS rfl rfl (by decide) (rv_load_bx (hS.ev rfl) ty_ag_3 (hM.get 0 rfl) rfl) fun a hS => ?_
          refine st_val hS rfl rfl (by decide) (rv_geq (hS.ev rfl) (hS.ev rfl)) fun a hS => ?_
          refine st_val hS rfl rfl (by decide) (rv_pick_f (hS.ev rfl) (hS.ev rfl)) fun a hS => ?_
          refine wpList_nil ?_
          exact hJ1 (decide (p0_g_Size ≤ p2_w)) _ _ (hS.sub (sub_cons rfl (sub_cons rfl (sub_cons rfl (sub_cons rfl sub_nil))))) (hM.pick [0, 1] (by decide) rfl) hF


theorem c_impl_DistanceOf (F : Nat) (p0_g_Size : Int) (p0_g_Rows : List Int) (p1_v : Int) (p2_w : Int) (p0_g_Rowsv : Value) {r : Int} (hF : S_impl_DistanceOf F p0_g_Size p0_g_Rows p1_v p2_w = some r) (w0 : World) (h0 : RdRow w0 p0_g_Rowsv (List.map (Value.int IntKind.i64) p0_g_Rows)) :
    Calls Try.prog 41 [(Value.agg #[(Value.int IntKind.i64 p0_g_Size), p0_g_Rowsv]), (Value.int IntKind.i64 p1_v), (Value.int IntKind.i64 p2_w)].toArray w0 (retPost fun v w' => v = (Value.int IntKind.i64 r) ∧ Mem Nob w0 w' []) := by
  have hM : Mem Nob w0 w0 [(false, rd p0_g_Rowsv (List.map (Value.int IntKind.i64) p0_g_Rows))] := (Mem.rcons (Mem.nil w0) h0 (by simp))
  refine enter2 Try.func41 rfl rfl rfl fun Q a hQr hQn hQp hS => ?_
  have hS : Sl 34 [(0, (Value.agg #[(Value.int IntKind.i64 p0_g_Size), p0_g_Rowsv])), (1, (Value.int IntKind.i64 p1_v)), (2, (Value.int IntKind.i64 p2_w))] a := hS
  unfold S_impl_DistanceOf at hF
  refine wp_seq_k fun K1 hK1 => ?_
  refine wp_region_lit ?_
  obtain ⟨b3, w, hr, hM⟩ := hM.boxE (ρ := a.eval) (dst := some 3) (ty := _) (pos := _) (af := _) (gd := _) (x := .tmp 0) (T := 27) [(Value.int IntKind.i64 p0_g_Size), p0_g_Rowsv] (hS.ev rfl) rfl
  refine st_val hS rfl rfl (by decide) hr fun a hS => ?_
  refine st_val hS rfl rfl (by decide) (rv_assign (hS.ev rfl)) fun a hS => ?_
  refine wpList_nil ?_
  refine hK1 _ _ ?_
  refine wp_seq_k fun K4 hK4 => ?_
  refine wp_seq_k fun K11 hK11 => ?_
  refine wp_region_lit ?_
  refine st_val hS rfl rfl (by decide) (rv_load_agg (hS.ev rfl) ty_ag_27 (hM.get 0 rfl) ty_sz_27) fun a hS => ?_
  refine st_val hS rfl rfl (by decide) (rv_move (hS.ev rfl)) fun a hS => ?_
  refine st_val hS rfl rfl (by decide) (rv_move (hS.ev rfl)) fun a hS => ?_
  obtain ⟨v14, w, hr, hM⟩ := Mem.litE (f := (Value.int IntKind.i64)) (dst := some 13) (ty := _) (pos := _) (af := _) (gd := _) (ps := [(0, .tmp 11), (1, .tmp 12)]) ([p1_v, p2_w] : List (Int)) i64_one hM hS Try.underlying22 ty_el_3 rfl rfl rfl rfl
  refine st_val hS rfl rfl (by decide) hr fun a hS => ?_
  obtain ⟨r15, hr, hF⟩ := bind_some hF
  refine st_wp hS rfl (wp_call hS rfl rfl (by decide) fn_ok_73 rfl (c_impl_isVertex F p0_g_Size p0_g_Rows ([p1_v, p2_w] : List (Int)) p0_g_Rowsv v14 hr _ (hM.get 2 rfl) (rd_of_ow (hM.get 0 rfl))) fun v w a hK hS => ?_)
  obtain ⟨rfl, hN⟩ := hK
  have hM := hM.fra hN.fr
  refine st_val hS rfl rfl (by decide) (rv_not (hS.ev rfl)) fun a hS => ?_
  refine wpList_nil ?_
  refine hK11 _ _ ?_
  rcases ite_some hF with ⟨hc, hF⟩ | ⟨hc, hF⟩
  · refine cond_t hS rfl hc ?_
    refine wp_seq_k fun K16 hK16 => ?_
    refine wp_region_lit ?_
    refine st_val hS rfl rfl (by decide) (rv_assign (hS.ev rfl)) fun a hS => ?_
    refine wpList_nil ?_
    refine hK16 _ _ ?_
    refine wp_ret ?_
    cases hF
    exact hQr _ _ (r_1 hS rfl rfl ⟨rfl, hM.pick [] (by decide) rfl⟩)
  · refine cond_f hS rfl hc ?_
    refine wp_skip ?_
    refine hK4 _ _ ?_
    refine wp_seq_k fun K17 hK17 => ?_
    refine wp_region_lit ?_
    refine st_val hS rfl rfl (by decide) (rv_move (hS.ev rfl)) fun a hS => ?_
    obtain ⟨_, hx, hF⟩ := bind_some hF
    have hi0 := nnO_some hx
    refine st_val hS rfl rfl (by decide) (rv_shl (hS.ev rfl) (hS.ev rfl) hi0) fun a hS => ?_
    refine st_val hS rfl rfl (by decide) (rv_assign (hS.ev rfl)) fun a hS => ?_
    refine st_val hS rfl rfl (by decide) (rv_assign (hS.ev rfl)) fun a hS => ?_
    refine wpList_nil ?_
    refine hK17 _ _ ?_
    refine wp_seq_k fun K18 hK18 => ?_
    have hJ1 : ∀ (x53 : Int) (a : Act) (w : World), Sl 34 [(8, (Value.int IntKind.i64 x53))] a → Mem Nob w0 w [] → S_impl_DistanceOf_j1 F x53 = some r → K18 a w := by
      intro x53 a w hS hM hF
      unfold S_impl_DistanceOf_j1 at hF
      refine hK18 _ _ ?_
      refine wp_seq_k fun K54 hK54 => ?_
      refine wp_region_lit ?_
      refine st_val hS rfl rfl (by decide) (rv_move (hS.ev rfl)) fun a hS => ?_
      refine st_val hS rfl rfl (by decide) (rv_assign (hS.ev rfl)) fun a hS => ?_
      refine wpList_nil ?_
      refine hK54 _ _ ?_
      refine wp_ret ?_
      cases hF
      exact hQr _ _ (r_1 hS rfl rfl ⟨rfl, hM.pick [] (by decide) rfl⟩)
    refine wp_block ?_
    obtain ⟨lb2, hl2, hF2⟩ := bind_some hF
    refine wp_loop_sh (fun s => S_impl_DistanceOf_l2 F p0_g_Size p0_g_Rows p2_w s.1 s.2) (fun s a w => Sl 34 [(2, (Value.int IntKind.i64 p2_w)), (3, (fdp b3 0)), (7, (Value.int IntKind.i64 s.1)), (8, (Value.int IntKind.i64 s.2))] a ∧ Mem Nob w0 w [(true, bx b3 27 [(Value.int IntKind.i64 p0_g_Size), p0_g_Rowsv]), (false, rd p0_g_Rowsv (List.map (Value.int IntKind.i64) p0_g_Rows))]) hl2 ⟨(hS.sub (sub_cons rfl (sub_cons rfl (sub_cons rfl (sub_cons rfl sub_nil))))), (hM.pick [1, 2] (by decide) rfl)⟩ ?_
    rintro K2 ⟨x55, x56⟩ a w res2 ⟨hS, hM⟩ hF hN2 hX2
    have hF : S_impl_DistanceOf_l2 F p0_g_Size p0_g_Rows p2_w x55 x56 = some res2 := hF
    have hS : Sl 34 [(2, (Value.int IntKind.i64 p2_w)), (3, (fdp b3 0)), (7, (Value.int IntKind.i64 x55)), (8, (Value.int IntKind.i64 x56))] a := hS
    have hM : Mem Nob w0 w [(true, bx b3 27 [(Value.int IntKind.i64 p0_g_Size), p0_g_Rowsv]), (false, rd p0_g_Rowsv (List.map (Value.int IntKind.i64) p0_g_Rows))] := hM
    unfold S_impl_DistanceOf_l2 at hF
    refine wp_seq_k fun K73 hK73 => ?_
    refine wp_seq_k fun K77 hK77 => ?_
    refine wp_region_lit ?_
    refine st_val hS rfl rfl (by decide) (rv_move (hS.ev rfl)) fun a hS => ?_
    refine st_val hS rfl rfl (by decide) (rv_move (hS.ev rfl)) fun a hS => ?_
    obtain ⟨r79, hr, hF⟩ := bind_some hF
    refine st_wp hS rfl (wp_call hS rfl rfl (by decide) fn_ok_74 rfl (c_impl_has F x55 p2_w hr _) fun v w a hK hS => ?_)
    obtain ⟨rfl, hN⟩ := hK
    have hM := hM.fra hN.fr
    refine st_val hS rfl rfl (by decide) (rv_not (hS.ev rfl)) fun a hS => ?_
    refine wpList_nil ?_
    refine hK77 _ _ ?_
    rcases ite_some hF with ⟨hc, hF⟩ | ⟨hc, hF⟩
    · refine cond_t hS rfl hc ?_
      refine wp_skip ?_
      refine hK73 _ _ ?_
      refine wp_block ?_
      refine wp_seq_k fun K80 hK80 => ?_
      refine wp_region_lit ?_
      refine st_val hS rfl rfl (by decide) (rv_move (hS.ev rfl)) fun a hS => ?_
      refine st_val hS rfl rfl (by decide) (rv_load_agg (hS.ev rfl) ty_ag_27 (hM.get 0 rfl) ty_sz_27) fun a hS => ?_
      refine st_val hS rfl rfl (by decide) (rv_move (hS.ev rfl)) fun a hS => ?_
      obtain ⟨r82, hr, hF⟩ := bind_some hF
      refine st_wp hS rfl (wp_call hS rfl rfl (by decide) fn_ok_52 rfl (c_impl_neighbors F p0_g_Size p0_g_Rows x55 p0_g_Rowsv hr _ (hM.get 1 rfl)) fun v w a hK hS => ?_)
      obtain ⟨rfl, hN⟩ := hK
      have hM := hM.fra hN.fr
      refine st_val hS rfl rfl (by decide) (rv_or (hS.ev rfl) (hS.ev rfl)) fun a hS => ?_
      refine st_val hS rfl rfl (by decide) (rv_assign (hS.ev rfl)) fun a hS => ?_
      refine wpList_nil ?_
      refine hK80 _ _ ?_
      refine wp_seq_k fun K83 hK83 => ?_
      refine wp_seq_k fun K86 hK86 => ?_
      refine wp_region_lit ?_
      refine st_val hS rfl rfl (by decide) (rv_move (hS.ev rfl)) fun a hS => ?_
      refine st_val hS rfl rfl (by decide) (rv_move (hS.ev rfl)) fun a hS => ?_
      refine st_val hS rfl rfl (by decide) (rv_eql (hS.ev rfl) (hS.ev rfl)) fun a hS => ?_
      refine wpList_nil ?_
      refine hK86 _ _ ?_
      rcases ite_some hF with ⟨hc, hF⟩ | ⟨hc, hF⟩
      · refine cond_t hS rfl hc ?_
        refine wp_seq_k fun K87 hK87 => ?_
        refine wp_region_lit ?_
        refine st_val hS rfl rfl (by decide) (rv_assign (hS.ev rfl)) fun a hS => ?_
        refine wpList_nil ?_
        refine hK87 _ _ ?_
        refine wp_ret ?_
        cases hF
        have e := hX2 _ rfl
        subst e
        have hF := hF2
        cases hF
        exact hQr _ _ (r_1 hS rfl rfl ⟨rfl, hM.pick [] (by decide) rfl⟩)
      · refine cond_f hS rfl hc ?_
        refine wp_skip ?_
        refine hK83 _ _ ?_
        refine wp_seq_k fun K88 hK88 => ?_
        refine wp_region_lit ?_
        refine st_val hS rfl rfl (by decide) (rv_move (hS.ev rfl)) fun a hS => ?_
        refine st_val hS rfl rfl (by decide) (rv_assign (hS.ev rfl)) fun a hS => ?_
        refine wpList_nil ?_
        refine hK88 _ _ ?_
        refine wp_region_lit ?_
        refine st_val hS rfl rfl (by decide) (rv_move (hS.ev rfl)) fun a hS => ?_
        refine st_val hS rfl rfl (by decide) (rv_add (hS.ev rfl) (hS.ev rfl)) fun a hS => ?_
        refine st_val hS rfl rfl (by decide) (rv_assign (hS.ev rfl)) fun a hS => ?_
        refine wpList_nil ?_
        cases hF
        exact hN2 _ _ _ rfl ⟨(hS.sub (sub_cons rfl (sub_cons rfl (sub_cons rfl (sub_cons rfl sub_nil))))), (hM.pick [0, 1] (by decide) rfl)⟩
    · refine cond_f hS rfl hc ?_
      refine wp_exit ?_
      cases hF
      exact hJ1 x56 _ _ (hS.sub (sub_cons rfl sub_nil)) (hM.pick [] (by decide) rfl) (by have e := hX2 _ rfl; subst e; exact hF2)


theorem c_laws_FnExactDistanceOf (F : Nat) (p0_aG_Size : Int) (p0_aG_Rows : List Int) (p1_aV : Int) (p2_aW : Int) (p0_aG_Rowsv : Value) {r : Bool} (hF : S_laws_FnExactDistanceOf F p0_aG_Size p0_aG_Rows p1_aV p2_aW = some r) (w0 : World) (h0 : RdRow w0 p0_aG_Rowsv (List.map (Value.int IntKind.i64) p0_aG_Rows)) :
    Calls Try.prog 12 [(Value.agg #[(Value.int IntKind.i64 p0_aG_Size), p0_aG_Rowsv]), (Value.int IntKind.i64 p1_aV), (Value.int IntKind.i64 p2_aW)].toArray w0 (retPost fun v w' => v = (Value.bool r) ∧ Mem Nob w0 w' []) := by
  have hM : Mem Nob w0 w0 [(false, rd p0_aG_Rowsv (List.map (Value.int IntKind.i64) p0_aG_Rows))] := (Mem.rcons (Mem.nil w0) h0 (by simp))
  refine enter2 Try.func12 rfl rfl rfl fun Q a hQr hQn hQp hS => ?_
  have hS : Sl 35 [(0, (Value.agg #[(Value.int IntKind.i64 p0_aG_Size), p0_aG_Rowsv])), (1, (Value.int IntKind.i64 p1_aV)), (2, (Value.int IntKind.i64 p2_aW))] a := hS
  unfold S_laws_FnExactDistanceOf at hF
  refine wp_seq_k fun K1 hK1 => ?_
  refine wp_region_lit ?_
  obtain ⟨b3, w, hr, hM⟩ := hM.boxE (ρ := a.eval) (dst := some 3) (ty := _) (pos := _) (af := _) (gd := _) (x := .tmp 0) (T := 24) [(Value.int IntKind.i64 p0_aG_Size), p0_aG_Rowsv] (hS.ev rfl) rfl
  refine st_val hS rfl rfl (by decide) hr fun a hS => ?_
  refine st_val hS rfl rfl (by decide) (rv_assign (hS.ev rfl)) fun a hS => ?_
  refine wpList_nil ?_
  refine hK1 _ _ ?_
  refine wp_seq_k fun K4 hK4 => ?_
  refine wp_region_lit ?_
  refine st_val hS rfl rfl (by decide) (rv_assign (hS.ev rfl)) fun a hS => ?_
  refine wpList_nil ?_
  refine hK4 _ _ ?_
  refine wp_seq_k fun K5 hK5 => ?_
  refine wp_region_lit ?_
  refine st_val hS rfl rfl (by decide) (rv_load_agg (hS.ev rfl) ty_ag_24 (hM.get 0 rfl) ty_sz_24) fun a hS => ?_
  refine st_val hS rfl rfl (by decide) (rv_move (hS.ev rfl)) fun a hS => ?_
  obtain ⟨r7, hr, hF⟩ := bind_some hF
  refine st_wp hS rfl (wp_call hS rfl rfl (by decide) fn_ok_15 rfl (c_laws_szGraph F p0_aG_Size p0_aG_Rows 1048576 p0_aG_Rowsv hr _ (hM.get 1 rfl)) fun v w a hK hS => ?_)
  obtain ⟨rfl, hN⟩ := hK
  have hM := hM.fra hN.fr
  refine st_val hS rfl rfl (by decide) (rv_assign (hS.ev rfl)) fun a hS => ?_
  refine wpList_nil ?_
  refine hK5 _ _ ?_
  refine wp_seq_k fun K8 hK8 => ?_
  refine wp_seq_k fun K11 hK11 => ?_
  refine wp_region_lit ?_
  refine st_val hS rfl rfl (by decide) (rv_move (hS.ev rfl)) fun a hS => ?_
  refine st_val hS rfl rfl (by decide) (rv_lss (hS.ev rfl) (hS.ev rfl)) fun a hS => ?_
  refine wpList_nil ?_
  refine hK11 _ _ ?_
  rcases ite_some hF with ⟨hc, hF⟩ | ⟨hc, hF⟩
  · refine cond_t hS rfl hc ?_
    refine wp_seq_k fun K12 hK12 => ?_
    refine wp_region_lit ?_
    refine st_val hS rfl rfl (by decide) (rv_assign (hS.ev rfl)) fun a hS => ?_
    refine wpList_nil ?_
    refine hK12 _ _ ?_
    refine wp_ret ?_
    cases hF
    exact hQr _ _ (r_1 hS rfl rfl ⟨rfl, hM.pick [] (by decide) rfl⟩)
  · refine cond_f hS rfl hc ?_
    refine wp_skip ?_
    refine hK8 _ _ ?_
    refine wp_seq_k fun K13 hK13 => ?_
    refine wp_region_lit ?_
    refine st_val hS rfl rfl (by decide) (rv_load_agg (hS.ev rfl) ty_ag_24 (hM.get 0 rfl) ty_sz_24) fun a hS => ?_
    obtain ⟨r17, hr, hF⟩ := bind_some hF
    refine st_wp hS rfl (wp_call hS rfl rfl (by decide) fn_ok_17 rfl (c_laws_toGraph F p0_aG_Size p0_aG_Rows p0_aG_Rowsv hr _ (hM.get 1 rfl)) fun v w a hK hS => ?_)
    obtain ⟨v18, rfl, hN⟩ := hK
    have hM := hM.add hN rfl
    refine st_val hS rfl rfl (by decide) (rv_move (hS.ev rfl)) fun a hS => ?_
    refine st_val hS rfl rfl (by decide) (rv_move (hS.ev rfl)) fun a hS => ?_
    obtain ⟨r19, hr, hF⟩ := bind_some hF
    refine st_wp hS rfl (wp_call hS rfl rfl (by decide) fn_ok_40 rfl (c_spec_DistanceOf F r17.1 r17.2 p1_aV p2_aW v18 hr _ (rd_of_ow (hM.get 0 rfl))) fun v w a hK hS => ?_)
    obtain ⟨rfl, hN⟩ := hK
    have hM := hM.fra hN.fr
    refine st_val hS rfl rfl (by decide) (rv_assign (hS.ev rfl)) fun a hS => ?_
    refine wpList_nil ?_
    refine hK13 _ _ ?_
    refine wp_seq_k fun K20 hK20 => ?_
    refine wp_region_lit ?_
    refine st_val hS rfl rfl (by decide) (rv_load_agg (hS.ev rfl) ty_ag_24 (hM.get 1 rfl) ty_sz_24) fun a hS => ?_
    obtain ⟨r24, hr, hF⟩ := bind_some hF
    refine st_wp hS rfl (wp_call hS rfl rfl (by decide) fn_ok_17 rfl (c_laws_toGraph F p0_aG_Size p0_aG_Rows p0_aG_Rowsv hr _ (hM.get 2 rfl)) fun v w a hK hS => ?_)
    obtain ⟨v25, rfl, hN⟩ := hK
    have hM := hM.add hN rfl
    obtain ⟨b26, w, hr, hM⟩ := hM.allocE (ρ := a.eval) (dst := some 9) (ty := _) (pos := _) (af := _) (gd := _) (T := 27) (P := Try.prog) [(Value.int IntKind.i64 0), (Value.slice none 0 0)] ty_zr_27 rfl
    refine st_val hS rfl rfl (by decide) hr fun a hS => ?_
    have hM := hM.addNil 3
    have hM := hM.pick [1, 0, 2, 3, 4, 5] (by decide) rfl
    obtain ⟨w, hr, hM⟩ := hM.st_agg (us := [(Value.int IntKind.i64 r24.1), v25]) (ρ := a.eval) (dst := none) (ty := _) (pos := _) (af := _) (gd := _) (x := .tmp 9) (y := .tmp 22) (hS.ev rfl) (hS.ev rfl) ty_sz_27 (all1_cons rfl (all1_cons (rd_one (rd_of_ow (hM.get 2 rfl))) all1_nil)) rfl
    refine st_unit hS rfl rfl hr ?_
    refine wpList_nil ?_
    refine hK20 _ _ ?_
    refine wp_seq_k fun K27 hK27 => ?_
    refine wp_region_lit ?_
    refine st_val hS rfl rfl (by decide) (rv_load_agg (hS.ev rfl) ty_ag_27 (hM.get 0 rfl) ty_sz_27) fun a hS => ?_
    refine st_val hS rfl rfl (by decide) (rv_move (hS.ev rfl)) fun a hS => ?_
    refine st_val hS rfl rfl (by decide) (rv_move (hS.ev rfl)) fun a hS => ?_
    obtain ⟨r29, hr, hF⟩ := bind_some hF
    refine st_wp hS rfl (wp_call hS rfl rfl (by decide) fn_ok_41 rfl (c_impl_DistanceOf F r24.1 r24.2 p1_aV p2_aW v25 hr _ (rd_of_ow (hM.get 2 rfl))) fun v w a hK hS => ?_)
    obtain ⟨rfl, hN⟩ := hK
    have hM := hM.fra hN.fr
    refine st_val hS rfl rfl (by decide) (rv_assign (hS.ev rfl)) fun a hS => ?_
    refine wpList_nil ?_
    refine hK27 _ _ ?_
    refine wp_seq_k fun K30 hK30 => ?_
    refine wp_seq_k fun K33 hK33 => ?_
    refine wp_region_lit ?_
    refine st_val hS rfl rfl (by decide) (rv_move (hS.ev rfl)) fun a hS => ?_
    refine st_val hS rfl rfl (by decide) (rv_move (hS.ev rfl)) fun a hS => ?_
    refine st_val hS rfl rfl (by decide) (rv_neq (hS.ev rfl) (hS.ev rfl)) fun a hS => ?_
    refine wpList_nil ?_
    refine hK33 _ _ ?_
    rcases ite_some hF with ⟨hc, hF⟩ | ⟨hc, hF⟩
    · refine cond_t hS rfl hc ?_
      refine wp_seq_k fun K34 hK34 => ?_
      refine wp_region_lit ?_
      refine st_val hS rfl rfl (by decide) (rv_assign (hS.ev rfl)) fun a hS => ?_
      refine wpList_nil ?_
      refine hK34 _ _ ?_
      refine wp_ret ?_
      cases hF
      exact hQr _ _ (r_1 hS rfl rfl ⟨rfl, hM.pick [] (by decide) rfl⟩)
    · refine cond_f hS rfl hc ?_
      refine wp_skip ?_
      refine hK30 _ _ ?_
      refine wp_seq_k fun K35 hK35 => ?_
      refine wp_seq_k fun K44 hK44 => ?_
      refine an_start Nob ty_mixed fun w hf => ?_
      have hM := hM.fra hf
      have hB := hM
      have hM := hB.reg0
      refine an_take hS (i := 0) rfl (by kernel_rfl) (by kernel_rfl) (by kernel_rfl) rfl (by decide) (fun c a a' w hd h => hQp c a a' w hd h) rfl (fun w' hC' => (rv_load_agg (hS.ev rfl) ty_ag_27 ((hB.fra hC').get 0 rfl) ty_sz_27)) hM.fr fun a hS => ?_
      refine an_take hS (i := 1) rfl (by kernel_rfl) (by kernel_rfl) (by kernel_rfl) rfl (by decide) (fun c a a' w hd h => hQp c a a' w hd h) rfl (fun w' hC' => (rv_load_agg (hS.ev rfl) ty_ag_24 ((hB.fra hC').get 4 rfl) ty_sz_24)) hM.fr fun a hS => ?_
      obtain ⟨r48, hr, hF⟩ := bind_some hF
      refine an_one hS (i := 2) rfl (by kernel_rfl) rfl ?_
      refine wp_call hS rfl rfl (by decide) fn_ok_17 rfl (c_laws_toGraph F p0_aG_Size p0_aG_Rows p0_aG_Rowsv hr _ (hM.get 5 rfl)) fun v w a hK hS => ?_
      obtain ⟨v49, rfl, hN⟩ := hK
      have hM := hM.add hN rfl
      refine ⟨hM.fr, ?_⟩
      obtain ⟨r50, hr, hF⟩ := bind_some hF
      refine an_one hS (i := 3) rfl (by kernel_rfl) rfl ?_
      refine wp_call hS rfl rfl (by decide) fn_ok_19 rfl (c_laws_eqGraph F r24.1 r24.2 r48.1 r48.2 v25 v49 hr _ (rd_of_ow (hM.get 3 rfl)) (rd_of_ow (hM.get 0 rfl))) fun v w a hK hS => ?_
      obtain ⟨rfl, hN⟩ := hK
      have hM := hM.fra hN.fr
      refine ⟨hM.fr, ?_⟩
      refine an_take hS (i := 4) rfl (by kernel_rfl) (by kernel_rfl) (by kernel_rfl) rfl (by decide) (fun c a a' w hd h => hQp c a a' w hd h) rfl (fun w' hC' => (rv_not (hS.ev rfl))) hM.fr fun a hS => ?_
      refine an_done (by kernel_rfl) ?_
      have hN := hM.pick [0] (by decide) rfl
      have hM := Mem.callo (A := []) (B := [(true, bx b26 27 [(Value.int IntKind.i64 r24.1), v25]), (true, ow 3 (Value.slice none 0 0) (List.map (Value.int IntKind.i64) ([] : List (Int)))), (true, ow 3 v25 (List.map (Value.int IntKind.i64) r24.2)), (true, ow 3 v18 (List.map (Value.int IntKind.i64) r17.2)), (true, bx b3 24 [(Value.int IntKind.i64 p0_aG_Size), p0_aG_Rowsv]), (false, rd p0_aG_Rowsv (List.map (Value.int IntKind.i64) p0_aG_Rows))]) hB rfl (hN.memS fun _ h => h.elim) rfl
      refine hK44 _ _ ?_
      rcases ite_some hF with ⟨hc, hF⟩ | ⟨hc, hF⟩
      · refine cond_t hS rfl hc ?_
        refine wp_seq_k fun K51 hK51 => ?_
        refine wp_region_lit ?_
        refine st_val hS rfl rfl (by decide) (rv_assign (hS.ev rfl)) fun a hS => ?_
        refine wpList_nil ?_
        refine hK51 _ _ ?_
        refine wp_ret ?_
        cases hF
        exact hQr _ _ (r_1 hS rfl rfl ⟨rfl, hM.pick [] (by decide) rfl⟩)
      · refine cond_f hS rfl hc ?_
        refine wp_skip ?_
        refine hK35 _ _ ?_
        refine wp_seq_k fun K52 hK52 => ?_
        refine wp_region_lit ?_
        refine st_val hS rfl rfl (by decide) (rv_assign (hS.ev rfl)) fun a hS => ?_
        refine wpList_nil ?_
        refine hK52 _ _ ?_
        refine wp_ret ?_
        cases hF
        exact hQr _ _ (r_1 hS rfl rfl ⟨rfl, hM.pick [] (by decide) rfl⟩)


theorem c_spec_EdgesOf (F : Nat) (p0_g_Size : Int) (p0_g_Rows : List Int) (p0_g_Rowsv : Value) {r : (List (List Int))} (hF : S_spec_EdgesOf F p0_g_Size p0_g_Rows = some r) (w0 : World) (h0 : RdRow w0 p0_g_Rowsv (List.map (Value.int IntKind.i64) p0_g_Rows)) :
    Calls Try.prog 42 [(Value.agg #[(Value.int IntKind.i64 p0_g_Size), p0_g_Rowsv])].toArray w0 (retPost fun v w' => ∃ v418 hs419, v = v418 ∧ Mem Nob w0 w' [(true, mx 22 3 v418 hs419 (List.map (List.map (Value.int IntKind.i64)) r))]) := by
  have hM : Mem Nob w0 w0 [(false, rd p0_g_Rowsv (List.map (Value.int IntKind.i64) p0_g_Rows))] := (Mem.rcons (Mem.nil w0) h0 (by simp))
  refine enter2 Try.func42 rfl rfl rfl fun Q a hQr hQn hQp hS => ?_
  have hS : Sl 36 [(0, (Value.agg #[(Value.int IntKind.i64 p0_g_Size), p0_g_Rowsv]))] a := hS
  unfold S_spec_EdgesOf at hF
  refine wp_seq_k fun K1 hK1 => ?_
  refine wp_region_lit ?_
  obtain ⟨b3, w, hr, hM⟩ := hM.boxE (ρ := a.eval) (dst := some 1) (ty := _) (pos := _) (af := _) (gd := _) (x := .tmp 0) (T := 27) [(Value.int IntKind.i64 p0_g_Size), p0_g_Rowsv] (hS.ev rfl) rfl
  refine st_val hS rfl rfl (by decide) hr fun a hS => ?_
  refine st_val hS rfl rfl (by decide) (rv_assign (hS.ev rfl)) fun a hS => ?_
  refine wpList_nil ?_
  refine hK1 _ _ ?_
  refine wp_seq_k fun K4 hK4 => ?_
  refine wp_region_lit ?_
  obtain ⟨v6, w, hr, hM⟩ := Mem.mxLit0 (e2 := 3) (dst := some 6) (ty := _) (pos := _) (af := _) (gd := _) hM hS Try.underlying43 ty_el_22 rfl
  refine st_val hS rfl rfl (by decide) hr fun a hS => ?_
  refine st_val hS rfl rfl (by decide) (rv_assign (hS.ev rfl)) fun a hS => ?_
  refine wpList_nil ?_
  refine hK4 _ _ ?_
  refine wp_seq_k fun K7 hK7 => ?_
  have hJ1 : ∀ (l213 : List (List Int)) (v211 : Value) (hs212 : List Value) (a : Act) (w : World), Sl 36 [(3, v211)] a → Mem Nob w0 w [(true, mx 22 3 v211 hs212 (List.map (List.map (Value.int IntKind.i64)) l213))] → S_spec_EdgesOf_j1 F l213 = some r → K7 a w := by
    intro l213 v211 hs212 a w hS hM hF
    unfold S_spec_EdgesOf_j1 at hF
    refine hK7 _ _ ?_
    refine wp_seq_k fun K214 hK214 => ?_
    refine wp_region_lit ?_
    refine st_val hS rfl rfl (by decide) (rv_move (hS.ev rfl)) fun a hS => ?_
    refine st_val hS rfl rfl (by decide) (rv_assign (hS.ev rfl)) fun a hS => ?_
    refine wpList_nil ?_
    refine hK214 _ _ ?_
    refine wp_ret ?_
    cases hF
    exact hQr _ _ (r_1 hS rfl rfl ⟨v211, hs212, rfl, hM.pick [0] (by decide) rfl⟩)
  refine wp_seq_k fun K215 hK215 => ?_
  refine wp_region_lit ?_
  refine st_val hS rfl rfl (by decide) (rv_assign (hS.ev rfl)) fun a hS => ?_
  refine wpList_nil ?_
  refine hK215 _ _ ?_
  refine wp_block ?_
  obtain ⟨lb2, hl2, hF2⟩ := bind_some hF
  refine wp_loop_sh (fun s => S_spec_EdgesOf_l2 F p0_g_Size p0_g_Rows s.1 s.2) (fun s a w => ∃ (v216 : Value) (hs217 : List Value), Sl 36 [(1, (fdp b3 0)), (3, v216), (4, (Value.int IntKind.i64 s.2))] a ∧ Mem Nob w0 w [(true, bx b3 27 [(Value.int IntKind.i64 p0_g_Size), p0_g_Rowsv]), (false, rd p0_g_Rowsv (List.map (Value.int IntKind.i64) p0_g_Rows)), (true, mx 22 3 v216 hs217 (List.map (List.map (Value.int IntKind.i64)) s.1))]) hl2 ⟨v6, [], (hS.sub (sub_cons rfl (sub_cons rfl (sub_cons rfl sub_nil)))), (hM.pick [1, 2, 0] (by decide) rfl)⟩ ?_
  rintro K2 ⟨l218, x219⟩ a w res2 ⟨v216, hs217, hS, hM⟩ hF hN2 hX2
  have hF : S_spec_EdgesOf_l2 F p0_g_Size p0_g_Rows l218 x219 = some res2 := hF
  have hS : Sl 36 [(1, (fdp b3 0)), (3, v216), (4, (Value.int IntKind.i64 x219))] a := hS
  have hM : Mem Nob w0 w [(true, bx b3 27 [(Value.int IntKind.i64 p0_g_Size), p0_g_Rowsv]), (false, rd p0_g_Rowsv (List.map (Value.int IntKind.i64) p0_g_Rows)), (true, mx 22 3 v216 hs217 (List.map (List.map (Value.int IntKind.i64)) l218))] := hM
  unfold S_spec_EdgesOf_l2 at hF
  refine wp_seq_k fun K319 hK319 => ?_
  refine wp_seq_k fun K324 hK324 => ?_
  have hJ3 : ∀ (p326 : Bool) (a : Act) (w : World), Sl 36 [(1, (fdp b3 0)), (3, v216), (4, (Value.int IntKind.i64 x219)), (14, (Value.bool p326))] a → Mem Nob w0 w [(true, bx b3 27 [(Value.int IntKind.i64 p0_g_Size), p0_g_Rowsv]), (false, rd p0_g_Rowsv (List.map (Value.int IntKind.i64) p0_g_Rows)), (true, mx 22 3 v216 hs217 (List.map (List.map (Value.int IntKind.i64)) l218))] → S_spec_EdgesOf_j3 F p0_g_Size p0_g_Rows l218 x219 p326 = some res2 → K324 a w := by
    intro p326 a w hS hM hF
    unfold S_spec_EdgesOf_j3 at hF
    refine hK324 _ _ ?_
    rcases ite_some hF with ⟨hc, hF⟩ | ⟨hc, hF⟩
    · refine cond_t hS rfl hc ?_
      refine wp_skip ?_
      refine hK319 _ _ ?_
      refine wp_seq_k fun K327 hK327 => ?_
      have hJ4 : ∀ (l373 : List (List Int)) (v371 : Value) (hs372 : List Value) (a : Act) (w : World), Sl 36 [(1, (fdp b3 0)), (3, v371), (4, (Value.int IntKind.i64 x219))] a → Mem Nob w0 w [(true, bx b3 27 [(Value.int IntKind.i64 p0_g_Size), p0_g_Rowsv]), (false, rd p0_g_Rowsv (List.map (Value.int IntKind.i64) p0_g_Rows)), (true, mx 22 3 v371 hs372 (List.map (List.map (Value.int IntKind.i64)) l373))] → S_spec_EdgesOf_j4 F x219 l373 = some res2 → K327 a w := by
        intro l373 v371 hs372 a w hS hM hF
        unfold S_spec_EdgesOf_j4 at hF
        refine hK327 _ _ ?_
        refine wp_region_lit ?_
        refine st_val hS rfl rfl (by decide) (rv_move (hS.ev rfl)) fun a hS => ?_
        refine st_val hS rfl rfl (by decide) (rv_add (hS.ev rfl) (hS.ev rfl)) fun a hS => ?_
        refine st_val hS rfl rfl (by decide) (rv_assign (hS.ev rfl)) fun a hS => ?_
        refine wpList_nil ?_
        cases hF
        exact hN2 _ _ _ rfl ⟨v371, hs372, (hS.sub (sub_cons rfl (sub_cons rfl (sub_cons rfl sub_nil)))), (hM.pick [0, 1, 2] (by decide) rfl)⟩
      refine wp_block ?_
      refine wp_seq_k fun K374 hK374 => ?_
      refine wp_region_lit ?_
      refine st_val hS rfl rfl (by decide) (rv_move (hS.ev rfl)) fun a hS => ?_
      refine st_val hS rfl rfl (by decide) (rv_add (hS.ev rfl) (hS.ev rfl)) fun a hS => ?_
      refine st_val hS rfl rfl (by decide) (rv_assign (hS.ev rfl)) fun a hS => ?_
      refine wpList_nil ?_
      refine hK374 _ _ ?_
      refine wp_block ?_
      obtain ⟨lb5, hl5, hF5⟩ := bind_some hF
      refine wp_loop_sh (fun s => S_spec_EdgesOf_l5 F p0_g_Size p0_g_Rows x219 s.1 s.2) (fun s a w => ∃ (v375 : Value) (hs376 : List Value), Sl 36 [(1, (fdp b3 0)), (3, v375), (4, (Value.int IntKind.i64 x219)), (5, (Value.int IntKind.i64 s.2))] a ∧ Mem Nob w0 w [(true, bx b3 27 [(Value.int IntKind.i64 p0_g_Size), p0_g_Rowsv]), (false, rd p0_g_Rowsv (List.map (Value.int IntKind.i64) p0_g_Rows)), (true, mx 22 3 v375 hs376 (List.map (List.map (Value.int IntKind.i64)) s.1))]) hl5 ⟨v216, hs217, (hS.sub (sub_cons rfl (sub_cons rfl (sub_cons rfl (sub_cons rfl sub_nil))))), (hM.pick [0, 1, 2] (by decide) rfl)⟩ ?_
      rintro K5 ⟨l377, x378⟩ a w res5 ⟨v375, hs376, hS, hM⟩ hF hN5 hX5
      have hF : S_spec_EdgesOf_l5 F p0_g_Size p0_g_Rows x219 l377 x378 = some res5 := hF
      have hS : Sl 36 [(1, (fdp b3 0)), (3, v375), (4, (Value.int IntKind.i64 x219)), (5, (Value.int IntKind.i64 x378))] a := hS
      have hM : Mem Nob w0 w [(true, bx b3 27 [(Value.int IntKind.i64 p0_g_Size), p0_g_Rowsv]), (false, rd p0_g_Rowsv (List.map (Value.int IntKind.i64) p0_g_Rows)), (true, mx 22 3 v375 hs376 (List.map (List.map (Value.int IntKind.i64)) l377))] := hM
      unfold S_spec_EdgesOf_l5 at hF
      refine wp_seq_k fun K398 hK398 => ?_
      refine wp_seq_k fun K400 hK400 => ?_
      refine wp_region_lit ?_
      refine st_val hS rfl rfl (by decide) (rv_move (hS.ev rfl)) fun a hS => ?_
      refine st_val hS rfl rfl (by decide) (rv_fieldAddr ty_fd_27_0 (hS.ev rfl)) fun a hS => ?_
      refine st_val hS rfl rfl (by decide) (rv_load_bx (hS.ev rfl) ty_ag_3 (hM.get 0 rfl) rfl) fun a hS => ?_
      refine st_val hS rfl rfl (by decide) (rv_lss (hS.ev rfl) (hS.ev rfl)) fun a hS => ?_
      refine wpList_nil ?_
      refine hK400 _ _ ?_
      rcases ite_some hF with ⟨hc, hF⟩ | ⟨hc, hF⟩
      · refine cond_t hS rfl hc ?_
        refine wp_skip ?_
        refine hK398 _ _ ?_
        refine wp_seq_k fun K401 hK401 => ?_
        have hJ6 : ∀ (l410 : List (List Int)) (v408 : Value) (hs409 : List Value) (a : Act) (w : World), Sl 36 [(1, (fdp b3 0)), (3, v408), (4, (Value.int IntKind.i64 x219)), (5, (Value.int IntKind.i64 x378))] a → Mem Nob w0 w [(true, bx b3 27 [(Value.int IntKind.i64 p0_g_Size), p0_g_Rowsv]), (false, rd p0_g_Rowsv (List.map (Value.int IntKind.i64) p0_g_Rows)), (true, mx 22 3 v408 hs409 (List.map (List.map (Value.int IntKind.i64)) l410))] → S_spec_EdgesOf_j6 F x378 l410 = some res5 → K401 a w := by
          intro l410 v408 hs409 a w hS hM hF
          unfold S_spec_EdgesOf_j6 at hF
          refine hK401 _ _ ?_
          refine wp_region_lit ?_
          refine st_val hS rfl rfl (by decide) (rv_move (hS.ev rfl)) fun a hS => ?_
          refine st_val hS rfl rfl (by decide) (rv_add (hS.ev rfl) (hS.ev rfl)) fun a hS => ?_
          refine st_val hS rfl rfl (by decide) (rv_assign (hS.ev rfl)) fun a hS => ?_
          refine wpList_nil ?_
          cases hF
          exact hN5 _ _ _ rfl ⟨v408, hs409, (hS.sub (sub_cons rfl (sub_cons rfl (sub_cons rfl (sub_cons rfl sub_nil))))), (hM.pick [0, 1, 2] (by decide) rfl)⟩
        refine wp_block ?_
        refine wp_seq_k fun K411 hK411 => ?_
        refine wp_region_lit ?_
        refine st_val hS rfl rfl (by decide) (rv_load_agg (hS.ev rfl) ty_ag_27 (hM.get 0 rfl) ty_sz_27) fun a hS => ?_
        refine st_val hS rfl rfl (by decide) (rv_move (hS.ev rfl)) fun a hS => ?_
        refine st_val hS rfl rfl (by decide) (rv_move (hS.ev rfl)) fun a hS => ?_
        obtain ⟨r413, hr, hF⟩ := bind_some hF
        refine st_wp hS rfl (wp_call hS rfl rfl (by decide) fn_ok_60 rfl (c_spec_l2Edge F p0_g_Size p0_g_Rows x219 x378 p0_g_Rowsv hr _ (hM.get 1 rfl)) fun v w a hK hS => ?_)
        obtain ⟨rfl, hN⟩ := hK
        have hM := hM.fra hN.fr
        refine wpList_nil ?_
        refine hK411 _ _ ?_
        rcases ite_some hF with ⟨hc, hF⟩ | ⟨hc, hF⟩
        · refine cond_t hS rfl hc ?_
          refine wp_region_lit ?_
          refine st_val hS rfl rfl (by decide) (rv_move (hS.ev rfl)) fun a hS => ?_
          refine st_val hS rfl rfl (by decide) (rv_move (hS.ev rfl)) fun a hS => ?_
          refine st_val hS rfl rfl (by decide) (rv_move (hS.ev rfl)) fun a hS => ?_
          obtain ⟨v414, w, hr, hM⟩ := Mem.litE (f := (Value.int IntKind.i64)) (dst := some 32) (ty := _) (pos := _) (af := _) (gd := _) (ps := [(0, .tmp 30), (1, .tmp 31)]) ([x219, x378] : List (Int)) i64_one hM hS Try.underlying22 ty_el_3 rfl rfl rfl rfl
          refine st_val hS rfl rfl (by decide) hr fun a hS => ?_
          obtain ⟨v415, w, hr, hM⟩ := Mem.mxLit1 (dst := some 33) (ty := _) (pos := _) (af := _) (gd := _) (x := .tmp 32) hM hS Try.underlying43 ty_el_22 rfl rfl
          refine st_val hS rfl rfl (by decide) hr fun a hS => ?_
          obtain ⟨_, hx, hF⟩ := bind_some hF
          have hM := hM.pick [3, 0, 1, 2] (by decide) rfl
          obtain ⟨v416, w, hr, hM⟩ := Mem.mxApp (ρ := a.eval) (dst := some 34) (ty := _) (pos := _) (af := _) (gd := _) (x := .tmp 29) (y := .tmp 33) hM Try.underlying43 ty_el_22 rfl (by decide) (hS.ev rfl) (hS.ev rfl) (by simpa using catO_some hx)
          have hM : Mem Nob w0 w [(true, mx 22 3 v416 (hs376 ++ [v414]) (List.map (List.map (Value.int IntKind.i64)) (l377 ++ ([([x219, x378] : List (Int))] : List (List Int))))), (true, bx b3 27 [(Value.int IntKind.i64 p0_g_Size), p0_g_Rowsv]), (false, rd p0_g_Rowsv (List.map (Value.int IntKind.i64) p0_g_Rows))] := by rw [List.map_append]; exact hM
          refine st_val hS rfl rfl (by decide) hr fun a hS => ?_
          refine st_val hS rfl rfl (by decide) (rv_assign (hS.ev rfl)) fun a hS => ?_
          refine wpList_nil ?_
          exact hJ6 (l377 ++ ([([x219, x378] : List (Int))] : List (List Int))) v416 (hs376 ++ [v414]) _ _ (hS.sub (sub_cons rfl (sub_cons rfl (sub_cons rfl (sub_cons rfl sub_nil))))) (hM.pick [1, 2, 0] (by decide) rfl) hF
        · refine cond_f hS rfl hc ?_
          refine wp_skip ?_
          exact hJ6 l377 v375 hs376 _ _ (hS.sub (sub_cons rfl (sub_cons rfl (sub_cons rfl (sub_cons rfl sub_nil))))) (hM.pick [0, 1, 2] (by decide) rfl) hF
      · refine cond_f hS rfl hc ?_
        refine wp_exit ?_
        cases hF
        exact hJ4 l377 v375 hs376 _ _ (hS.sub (sub_cons rfl (sub_cons rfl (sub_cons rfl sub_nil)))) (hM.pick [0, 1, 2] (by decide) rfl) (by have e := hX5 _ rfl; subst e; exact hF5)
    · refine cond_f hS rfl hc ?_
      refine wp_exit ?_
      cases hF
      exact hJ1 l218 v216 hs217 _ _ (hS.sub (sub_cons rfl sub_nil)) (hM.pick [2] (by decide) rfl) (by have e := hX2 _ rfl; subst e; exact hF2)
  refine wp_region_lit ?_
  refine st_val hS rfl rfl (by decide) (rv_move (hS.ev rfl)) fun a hS => ?_
  refine st_val hS rfl rfl (by decide) (rv_fieldAddr ty_fd_27_0 (hS.ev rfl)) fun a hS => ?_
  refine st_val hS rfl rfl (by decide) (rv_load_bx (hS.ev rfl) ty_ag_3 (hM.get 0 rfl) rfl) fun a hS => ?_
  refine st_val hS rfl rfl (by decide) (rv_lss (hS.ev rfl) (hS.ev rfl)) fun a hS => ?_
  refine st_val hS rfl rfl (by decide) (rv_move (hS.ev rfl)) fun a hS => ?_
  rcases ite_some hF with ⟨hc, hF⟩ | ⟨hc, hF⟩
  · have hS := hS.setb (t := 11) rfl hc
    refine st_val hS rfl rfl (by decide) (rv_load_agg (hS.ev rfl) ty_ag_27 (hM.get 0 rfl) ty_sz_27) fun a hS => ?_
    obtain ⟨r417, hr, hF⟩ := bind_some hF
    refine st_wp hS rfl (wp_call hS rfl rfl (by decide) fn_ok_53 rfl (c_spec_IsGraph F p0_g_Size p0_g_Rows p0_g_Rowsv hr _ (hM.get 1 rfl)) fun v w a hK hS => ?_)
    obtain ⟨rfl, hN⟩ := hK
    have hM := hM.fra hN.fr
    refine st_val hS rfl rfl (by decide) (rv_pick_t (hS.ev rfl) (hS.ev rfl)) fun a hS => ?_
    refine wpList_nil ?_
    exact hJ3 r417 _ _ (hS.sub (sub_cons rfl (sub_cons rfl (sub_cons rfl (sub_cons rfl sub_nil))))) (hM.pick [0, 1, 2] (by decide) rfl) hF
  · have hS := hS.setb (t := 11) rfl hc
    refine st_skip hS rfl rfl (by decide) fun a hS => ?_
    refine st_skip hS rfl rfl (by decide) fun a hS => ?_
    refine st_val hS rfl rfl (by decide) (rv_pick_f (hS.ev rfl) (hS.ev rfl)) fun a hS => ?_
    refine wpList_nil ?_
    exact hJ3 false _ _ (hS.sub (sub_cons rfl (sub_cons rfl (sub_cons rfl (sub_cons rfl sub_nil))))) (hM.pick [0, 1, 2] (by decide) rfl) hF


theorem c_impl_EdgesOf (F : Nat) (p0_g_Size : Int) (p0_g_Rows : List Int) (p0_g_Rowsv : Value) {r : (List (List Int))} (hF : S_impl_EdgesOf F p0_g_Size p0_g_Rows = some r) (w0 : World) (h0 : RdRow w0 p0_g_Rowsv (List.map (Value.int IntKind.i64) p0_g_Rows)) :
    Calls Try.prog 43 [(Value.agg #[(Value.int IntKind.i64 p0_g_Size), p0_g_Rowsv])].toArray w0 (retPost fun v w' => ∃ v423 hs424, v = v423 ∧ Mem Nob w0 w' [(true, mx 22 3 v423 hs424 (List.map (List.map (Value.int IntKind.i64)) r))]) := by
  have hM : Mem Nob w0 w0 [(false, rd p0_g_Rowsv (List.map (Value.int IntKind.i64) p0_g_Rows))] := (Mem.rcons (Mem.nil w0) h0 (by simp))
  refine enter2 Try.func43 rfl rfl rfl fun Q a hQr hQn hQp hS => ?_
  have hS : Sl 39 [(0, (Value.agg #[(Value.int IntKind.i64 p0_g_Size), p0_g_Rowsv]))] a := hS
  unfold S_impl_EdgesOf at hF
  refine wp_seq_k fun K1 hK1 => ?_
  refine wp_region_lit ?_
  obtain ⟨b3, w, hr, hM⟩ := hM.boxE (ρ := a.eval) (dst := some 1) (ty := _) (pos := _) (af := _) (gd := _) (x := .tmp 0) (T := 27) [(Value.int IntKind.i64 p0_g_Size), p0_g_Rowsv] (hS.ev rfl) rfl
  refine st_val hS rfl rfl (by decide) hr fun a hS => ?_
  refine st_val hS rfl rfl (by decide) (rv_assign (hS.ev rfl)) fun a hS => ?_
  refine wpList_nil ?_
  refine hK1 _ _ ?_
  refine wp_seq_k fun K4 hK4 => ?_
  refine wp_region_lit ?_
  obtain ⟨v6, w, hr, hM⟩ := Mem.mxLit0 (e2 := 3) (dst := some 7) (ty := _) (pos := _) (af := _) (gd := _) hM hS Try.underlying43 ty_el_22 rfl
  refine st_val hS rfl rfl (by decide) hr fun a hS => ?_
  refine st_val hS rfl rfl (by decide) (rv_assign (hS.ev rfl)) fun a hS => ?_
  refine wpList_nil ?_
  refine hK4 _ _ ?_
  refine wp_seq_k fun K7 hK7 => ?_
  refine wp_seq_k fun K12 hK12 => ?_
  refine wp_region_lit ?_
  refine st_val hS rfl rfl (by decide) (rv_load_agg (hS.ev rfl) ty_ag_27 (hM.get 1 rfl) ty_sz_27) fun a hS => ?_
  obtain ⟨r14, hr, hF⟩ := bind_some hF
  refine st_wp hS rfl (wp_call hS rfl rfl (by decide) fn_ok_54 rfl (c_impl_IsGraph F p0_g_Size p0_g_Rows p0_g_Rowsv hr _ (hM.get 2 rfl)) fun v w a hK hS => ?_)
  obtain ⟨rfl, hN⟩ := hK
  have hM := hM.fra hN.fr
  refine st_val hS rfl rfl (by decide) (rv_not (hS.ev rfl)) fun a hS => ?_
  refine wpList_nil ?_
  refine hK12 _ _ ?_
  rcases ite_some hF with ⟨hc, hF⟩ | ⟨hc, hF⟩
  · refine cond_t hS rfl hc ?_
    refine wp_seq_k fun K15 hK15 => ?_
    refine wp_region_lit ?_
    refine st_val hS rfl rfl (by decide) (rv_move (hS.ev rfl)) fun a hS => ?_
    refine st_val hS rfl rfl (by decide) (rv_assign (hS.ev rfl)) fun a hS => ?_
    refine wpList_nil ?_
    refine hK15 _ _ ?_
    refine wp_ret ?_
    cases hF
    exact hQr _ _ (r_1 hS rfl rfl ⟨v6, [], rfl, hM.pick [0] (by decide) rfl⟩)
  · refine cond_f hS rfl hc ?_
    refine wp_skip ?_
    refine hK7 _ _ ?_
    refine wp_seq_k fun K16 hK16 => ?_
    have hJ1 : ∀ (l220 : List (List Int)) (v218 : Value) (hs219 : List Value) (a : Act) (w : World), Sl 39 [(3, v218)] a → Mem Nob w0 w [(true, mx 22 3 v218 hs219 (List.map (List.map (Value.int IntKind.i64)) l220))] → S_impl_EdgesOf_j1 F l220 = some r → K16 a w := by
      intro l220 v218 hs219 a w hS hM hF
      unfold S_impl_EdgesOf_j1 at hF
      refine hK16 _ _ ?_
      refine wp_seq_k fun K221 hK221 => ?_
      refine wp_region_lit ?_
      refine st_val hS rfl rfl (by decide) (rv_move (hS.ev rfl)) fun a hS => ?_
      refine st_val hS rfl rfl (by decide) (rv_assign (hS.ev rfl)) fun a hS => ?_
      refine wpList_nil ?_
      refine hK221 _ _ ?_
      refine wp_ret ?_
      cases hF
      exact hQr _ _ (r_1 hS rfl rfl ⟨v218, hs219, rfl, hM.pick [0] (by decide) rfl⟩)
    refine wp_seq_k fun K222 hK222 => ?_
    refine wp_region_lit ?_
    refine st_val hS rfl rfl (by decide) (rv_fieldAddr ty_fd_27_1 (hS.ev rfl)) fun a hS => ?_
    refine st_val hS rfl rfl (by decide) (rv_load_bx (hS.ev rfl) ty_ag_22 (hM.get 1 rfl) rfl) fun a hS => ?_
    refine st_val hS rfl rfl (by decide) (rv_len_rowM Try.underlying22 (hS.ev rfl) (hM.get 2 rfl)) fun a hS => ?_
    refine st_val hS rfl rfl (by decide) (rv_move (hS.ev rfl)) fun a hS => ?_
    refine wpList_nil ?_
    refine hK222 _ _ ?_
    refine wp_block ?_
    obtain ⟨lb2, hl2, hF2⟩ := bind_some hF
    refine wp_loop_sh (fun s => S_impl_EdgesOf_l2 F p0_g_Size p0_g_Rows s.1 s.2) (fun s a w => ∃ (v223 : Value) (hs224 : List Value), Sl 39 [(1, (fdp b3 0)), (3, v223), (13, p0_g_Rowsv), (14, (Value.int IntKind.i64 (p0_g_Rows.length : Int))), (15, (Value.int IntKind.i64 s.2))] a ∧ Mem Nob w0 w [(true, bx b3 27 [(Value.int IntKind.i64 p0_g_Size), p0_g_Rowsv]), (false, rd p0_g_Rowsv (List.map (Value.int IntKind.i64) p0_g_Rows)), (true, mx 22 3 v223 hs224 (List.map (List.map (Value.int IntKind.i64)) s.1))]) hl2 ⟨v6, [], (hS.sub (sub_cons rfl (sub_cons rfl (sub_cons rfl (sub_cons rfl (sub_cons rfl sub_nil)))))), (hM.pick [1, 2, 0] (by decide) rfl)⟩ ?_
    rintro K2 ⟨l225, x226⟩ a w res2 ⟨v223, hs224, hS, hM⟩ hF hN2 hX2
    have hF : S_impl_EdgesOf_l2 F p0_g_Size p0_g_Rows l225 x226 = some res2 := hF
    have hS : Sl 39 [(1, (fdp b3 0)), (3, v223), (13, p0_g_Rowsv), (14, (Value.int IntKind.i64 (p0_g_Rows.length : Int))), (15, (Value.int IntKind.i64 x226))] a := hS
    have hM : Mem Nob w0 w [(true, bx b3 27 [(Value.int IntKind.i64 p0_g_Size), p0_g_Rowsv]), (false, rd p0_g_Rowsv (List.map (Value.int IntKind.i64) p0_g_Rows)), (true, mx 22 3 v223 hs224 (List.map (List.map (Value.int IntKind.i64)) l225))] := hM
    unfold S_impl_EdgesOf_l2 at hF
    refine wp_seq_k fun K325 hK325 => ?_
    refine wp_region_lit ?_
    refine st_val hS rfl rfl (by decide) (rv_lss (hS.ev rfl) (hS.ev rfl)) fun a hS => ?_
    refine wpList_nil ?_
    refine hK325 _ _ ?_
    refine wp_seq_k fun K326 hK326 => ?_
    rcases ite_some hF with ⟨hc, hF⟩ | ⟨hc, hF⟩
    · refine cond_t hS rfl hc ?_
      refine wp_skip ?_
      refine hK326 _ _ ?_
      refine wp_seq_k fun K327 hK327 => ?_
      have hJ3 : ∀ (l376 : List (List Int)) (v374 : Value) (hs375 : List Value) (a : Act) (w : World), Sl 39 [(1, (fdp b3 0)), (3, v374), (13, p0_g_Rowsv), (14, (Value.int IntKind.i64 (p0_g_Rows.length : Int))), (15, (Value.int IntKind.i64 x226))] a → Mem Nob w0 w [(true, bx b3 27 [(Value.int IntKind.i64 p0_g_Size), p0_g_Rowsv]), (false, rd p0_g_Rowsv (List.map (Value.int IntKind.i64) p0_g_Rows)), (true, mx 22 3 v374 hs375 (List.map (List.map (Value.int IntKind.i64)) l376))] → S_impl_EdgesOf_j3 F x226 l376 = some res2 → K327 a w := by
        intro l376 v374 hs375 a w hS hM hF
        unfold S_impl_EdgesOf_j3 at hF
        refine hK327 _ _ ?_
        refine wp_region_lit ?_
        refine st_val hS rfl rfl (by decide) (rv_add (hS.ev rfl) (hS.ev rfl)) fun a hS => ?_
        refine st_val hS rfl rfl (by decide) (rv_move (hS.ev rfl)) fun a hS => ?_
        refine wpList_nil ?_
        cases hF
        exact hN2 _ _ _ rfl ⟨v374, hs375, (hS.sub (sub_cons rfl (sub_cons rfl (sub_cons rfl (sub_cons rfl (sub_cons rfl sub_nil)))))), (hM.pick [0, 1, 2] (by decide) rfl)⟩
      refine wp_block ?_
      refine wp_seq_k fun K377 hK377 => ?_
      refine wp_region_lit ?_
      refine st_val hS rfl rfl (by decide) (rv_move (hS.ev rfl)) fun a hS => ?_
      obtain ⟨x379, hx, hF⟩ := bind_some hF
      obtain ⟨hi0, hi1, hex379⟩ := idxL_some hx
      refine st_val hS rfl rfl (by decide) (rv_indexAddr Try.underlying22 ty_el_3 (hS.ev rfl) (hS.ev rfl) (hM.get 1 rfl) hi0 (map_len hi1)) fun a hS => ?_
      refine st_val hS rfl rfl (by decide) (rv_load_el (hS.ev rfl) ty_ag_3 (hM.get 1 rfl) (mget hex379)) fun a hS => ?_
      refine st_val hS rfl rfl (by decide) (rv_assign (hS.ev rfl)) fun a hS => ?_
      refine st_val hS rfl rfl (by decide) (rv_assign (hS.ev rfl)) fun a hS => ?_
      refine wpList_nil ?_
      refine hK377 _ _ ?_
      refine wp_seq_k fun K380 hK380 => ?_
      refine wp_region_lit ?_
      refine st_val hS rfl rfl (by decide) (rv_move (hS.ev rfl)) fun a hS => ?_
      refine st_val hS rfl rfl (by decide) (rv_add (hS.ev rfl) (hS.ev rfl)) fun a hS => ?_
      refine st_val hS rfl rfl (by decide) (rv_assign (hS.ev rfl)) fun a hS => ?_
      refine wpList_nil ?_
      refine hK380 _ _ ?_
      refine wp_block ?_
      obtain ⟨lb4, hl4, hF4⟩ := bind_some hF
      refine wp_loop_sh (fun s => S_impl_EdgesOf_l4 F p0_g_Size x226 x379 s.1 s.2) (fun s a w => ∃ (v381 : Value) (hs382 : List Value), Sl 39 [(1, (fdp b3 0)), (3, v381), (4, (Value.int IntKind.i64 x226)), (5, (Value.int IntKind.i64 x379)), (6, (Value.int IntKind.i64 s.2)), (13, p0_g_Rowsv), (14, (Value.int IntKind.i64 (p0_g_Rows.length : Int))), (15, (Value.int IntKind.i64 x226))] a ∧ Mem Nob w0 w [(true, bx b3 27 [(Value.int IntKind.i64 p0_g_Size), p0_g_Rowsv]), (false, rd p0_g_Rowsv (List.map (Value.int IntKind.i64) p0_g_Rows)), (true, mx 22 3 v381 hs382 (List.map (List.map (Value.int IntKind.i64)) s.1))]) hl4 ⟨v223, hs224, (hS.sub (sub_cons rfl (sub_cons rfl (sub_cons rfl (sub_cons rfl (sub_cons rfl (sub_cons rfl (sub_cons rfl (sub_cons rfl sub_nil))))))))), (hM.pick [0, 1, 2] (by decide) rfl)⟩ ?_
      rintro K4 ⟨l383, x384⟩ a w res4 ⟨v381, hs382, hS, hM⟩ hF hN4 hX4
      have hF : S_impl_EdgesOf_l4 F p0_g_Size x226 x379 l383 x384 = some res4 := hF
      have hS : Sl 39 [(1, (fdp b3 0)), (3, v381), (4, (Value.int IntKind.i64 x226)), (5, (Value.int IntKind.i64 x379)), (6, (Value.int IntKind.i64 x384)), (13, p0_g_Rowsv), (14, (Value.int IntKind.i64 (p0_g_Rows.length : Int))), (15, (Value.int IntKind.i64 x226))] a := hS
      have hM : Mem Nob w0 w [(true, bx b3 27 [(Value.int IntKind.i64 p0_g_Size), p0_g_Rowsv]), (false, rd p0_g_Rowsv (List.map (Value.int IntKind.i64) p0_g_Rows)), (true, mx 22 3 v381 hs382 (List.map (List.map (Value.int IntKind.i64)) l383))] := hM
      unfold S_impl_EdgesOf_l4 at hF
      refine wp_seq_k fun K404 hK404 => ?_
      refine wp_seq_k fun K406 hK406 => ?_
      refine wp_region_lit ?_
      refine st_val hS rfl rfl (by decide) (rv_move (hS.ev rfl)) fun a hS => ?_
      refine st_val hS rfl rfl (by decide) (rv_fieldAddr ty_fd_27_0 (hS.ev rfl)) fun a hS => ?_
      refine st_val hS rfl rfl (by decide) (rv_load_bx (hS.ev rfl) ty_ag_3 (hM.get 0 rfl) rfl) fun a hS => ?_
      refine st_val hS rfl rfl (by decide) (rv_lss (hS.ev rfl) (hS.ev rfl)) fun a hS => ?_
      refine wpList_nil ?_
      refine hK406 _ _ ?_
      rcases ite_some hF with ⟨hc, hF⟩ | ⟨hc, hF⟩
      · refine cond_t hS rfl hc ?_
        refine wp_skip ?_
        refine hK404 _ _ ?_
        refine wp_seq_k fun K407 hK407 => ?_
        have hJ5 : ∀ (l416 : List (List Int)) (v414 : Value) (hs415 : List Value) (a : Act) (w : World), Sl 39 [(1, (fdp b3 0)), (3, v414), (4, (Value.int IntKind.i64 x226)), (5, (Value.int IntKind.i64 x379)), (6, (Value.int IntKind.i64 x384)), (13, p0_g_Rowsv), (14, (Value.int IntKind.i64 (p0_g_Rows.length : Int))), (15, (Value.int IntKind.i64 x226))] a → Mem Nob w0 w [(true, bx b3 27 [(Value.int IntKind.i64 p0_g_Size), p0_g_Rowsv]), (false, rd p0_g_Rowsv (List.map (Value.int IntKind.i64) p0_g_Rows)), (true, mx 22 3 v414 hs415 (List.map (List.map (Value.int IntKind.i64)) l416))] → S_impl_EdgesOf_j5 F x384 l416 = some res4 → K407 a w := by
          intro l416 v414 hs415 a w hS hM hF
          unfold S_impl_EdgesOf_j5 at hF
          refine hK407 _ _ ?_
          refine wp_region_lit ?_
          refine st_val hS rfl rfl (by decide) (rv_move (hS.ev rfl)) fun a hS => ?_
          refine st_val hS rfl rfl (by decide) (rv_add (hS.ev rfl) (hS.ev rfl)) fun a hS => ?_
          refine st_val hS rfl rfl (by decide) (rv_assign (hS.ev rfl)) fun a hS => ?_
          refine wpList_nil ?_
          cases hF
          exact hN4 _ _ _ rfl ⟨v414, hs415, (hS.sub (sub_cons rfl (sub_cons rfl (sub_cons rfl (sub_cons rfl (sub_cons rfl (sub_cons rfl (sub_cons rfl (sub_cons rfl sub_nil))))))))), (hM.pick [0, 1, 2] (by decide) rfl)⟩
        refine wp_block ?_
        refine wp_seq_k fun K417 hK417 => ?_
        refine wp_region_lit ?_
        refine st_val hS rfl rfl (by decide) (rv_move (hS.ev rfl)) fun a hS => ?_
        refine st_val hS rfl rfl (by decide) (rv_move (hS.ev rfl)) fun a hS => ?_
        obtain ⟨r419, hr, hF⟩ := bind_some hF
        refine st_wp hS rfl (wp_call hS rfl rfl (by decide) fn_ok_74 rfl (c_impl_has F x379 x384 hr _) fun v w a hK hS => ?_)
        obtain ⟨rfl, hN⟩ := hK
        have hM := hM.fra hN.fr
        refine wpList_nil ?_
        refine hK417 _ _ ?_
        rcases ite_some hF with ⟨hc, hF⟩ | ⟨hc, hF⟩
        · refine cond_t hS rfl hc ?_
          refine wp_region_lit ?_
          refine st_val hS rfl rfl (by decide) (rv_move (hS.ev rfl)) fun a hS => ?_
          refine st_val hS rfl rfl (by decide) (rv_move (hS.ev rfl)) fun a hS => ?_
          refine st_val hS rfl rfl (by decide) (rv_move (hS.ev rfl)) fun a hS => ?_
          obtain ⟨v420, w, hr, hM⟩ := Mem.litE (f := (Value.int IntKind.i64)) (dst := some 34) (ty := _) (pos := _) (af := _) (gd := _) (ps := [(0, .tmp 32), (1, .tmp 33)]) ([x226, x384] : List (Int)) i64_one hM hS Try.underlying22 ty_el_3 rfl rfl rfl rfl
          refine st_val hS rfl rfl (by decide) hr fun a hS => ?_
          obtain ⟨v421, w, hr, hM⟩ := Mem.mxLit1 (dst := some 35) (ty := _) (pos := _) (af := _) (gd := _) (x := .tmp 34) hM hS Try.underlying43 ty_el_22 rfl rfl
          refine st_val hS rfl rfl (by decide) hr fun a hS => ?_
          obtain ⟨_, hx, hF⟩ := bind_some hF
          have hM := hM.pick [3, 0, 1, 2] (by decide) rfl
          obtain ⟨v422, w, hr, hM⟩ := Mem.mxApp (ρ := a.eval) (dst := some 36) (ty := _) (pos := _) (af := _) (gd := _) (x := .tmp 31) (y := .tmp 35) hM Try.underlying43 ty_el_22 rfl (by decide) (hS.ev rfl) (hS.ev rfl) (by simpa using catO_some hx)
          have hM : Mem Nob w0 w [(true, mx 22 3 v422 (hs382 ++ [v420]) (List.map (List.map (Value.int IntKind.i64)) (l383 ++ ([([x226, x384] : List (Int))] : List (List Int))))), (true, bx b3 27 [(Value.int IntKind.i64 p0_g_Size), p0_g_Rowsv]), (false, rd p0_g_Rowsv (List.map (Value.int IntKind.i64) p0_g_Rows))] := by rw [List.map_append]; exact hM
          refine st_val hS rfl rfl (by decide) hr fun a hS => ?_
          refine st_val hS rfl rfl (by decide) (rv_assign (hS.ev rfl)) fun a hS => ?_
          refine wpList_nil ?_
          exact hJ5 (l383 ++ ([([x226, x384] : List (Int))] : List (List Int))) v422 (hs382 ++ [v420]) _ _ (hS.sub (sub_cons rfl (sub_cons rfl (sub_cons rfl (sub_cons rfl (sub_cons rfl (sub_cons rfl (sub_cons rfl (sub_cons rfl sub_nil))))))))) (hM.pick [1, 2, 0] (by decide) rfl) hF
        · refine cond_f hS rfl hc ?_
          refine wp_skip ?_
          exact hJ5 l383 v381 hs382 _ _ (hS.sub (sub_cons rfl (sub_cons rfl (sub_cons rfl (sub_cons rfl (sub_cons rfl (sub_cons rfl (sub_cons rfl (sub_cons rfl sub_nil))))))))) (hM.pick [0, 1, 2] (by decide) rfl) hF
      · refine cond_f hS rfl hc ?_
        refine wp_exit ?_
        cases hF
        exact hJ3 l383 v381 hs382 _ _ (hS.sub (sub_cons rfl (sub_cons rfl (sub_cons rfl (sub_cons rfl (sub_cons rfl sub_nil)))))) (hM.pick [0, 1, 2] (by decide) rfl) (by have e := hX4 _ rfl; subst e; exact hF4)
    · refine cond_f hS rfl hc ?_
      refine wp_exit ?_
      cases hF
      exact hJ1 l225 v223 hs224 _ _ (hS.sub (sub_cons rfl sub_nil)) (hM.pick [2] (by decide) rfl) (by have e := hX2 _ rfl; subst e; exact hF2)


theorem c_laws_eqIntSS (F : Nat) (p0_a : List (List Int)) (p1_b : List (List Int)) (p0_av : Value) (p0_ah : List Value) (p1_bv : Value) (p1_bh : List Value) {r : Bool} (hF : S_laws_eqIntSS F p0_a p1_b = some r) (w0 : World) (h0 : (mx 22 3 p0_av p0_ah (List.map (List.map (Value.int IntKind.i64)) p0_a)).P w0) (h1 : (mx 22 3 p1_bv p1_bh (List.map (List.map (Value.int IntKind.i64)) p1_b)).P w0) :
    Calls Try.prog 44 [p0_av, p1_bv].toArray w0 (retPost fun v w' => v = (Value.bool r) ∧ Mem Nob w0 w' []) := by
  have hM : Mem Nob w0 w0 [(false, mx 22 3 p0_av p0_ah (List.map (List.map (Value.int IntKind.i64)) p0_a)), (false, mx 22 3 p1_bv p1_bh (List.map (List.map (Value.int IntKind.i64)) p1_b))] := (Mem.gcons (Mem.gcons (Mem.nil w0) h1 (by simp)) h0 (by simp))
  refine enter2 Try.func44 rfl rfl rfl fun Q a hQr hQn hQp hS => ?_
  have hS : Sl 27 [(0, p0_av), (1, p1_bv)] a := hS
  unfold S_laws_eqIntSS at hF
  refine wp_seq_k fun K1 hK1 => ?_
  refine wp_region_lit ?_
  refine st_val hS rfl rfl (by decide) (rv_assign (hS.ev rfl)) fun a hS => ?_
  refine wpList_nil ?_
  refine hK1 _ _ ?_
  refine wp_seq_k fun K2 hK2 => ?_
  refine wp_seq_k fun K5 hK5 => ?_
  refine wp_region_lit ?_
  refine st_val hS rfl rfl (by decide) (rv_move (hS.ev rfl)) fun a hS => ?_
  refine st_val hS rfl rfl (by decide) (rv_len_mxM Try.underlying43 (hS.ev rfl) (hM.get 0 rfl)) fun a hS => ?_
  refine st_val hS rfl rfl (by decide) (rv_move (hS.ev rfl)) fun a hS => ?_
  refine st_val hS rfl rfl (by decide) (rv_len_mxM Try.underlying43 (hS.ev rfl) (hM.get 1 rfl)) fun a hS => ?_
  refine st_val hS rfl rfl (by decide) (rv_neq (hS.ev rfl) (hS.ev rfl)) fun a hS => ?_
  refine wpList_nil ?_
  refine hK5 _ _ ?_
  rcases ite_some hF with ⟨hc, hF⟩ | ⟨hc, hF⟩
  · refine cond_t hS rfl hc ?_
    refine wp_seq_k fun K6 hK6 => ?_
    refine wp_region_lit ?_
    refine st_val hS rfl rfl (by decide) (rv_assign (hS.ev rfl)) fun a hS => ?_
    refine wpList_nil ?_
    refine hK6 _ _ ?_
    refine wp_ret ?_
    cases hF
    exact hQr _ _ (r_1 hS rfl rfl ⟨rfl, hM.pick [] (by decide) rfl⟩)
  · refine cond_f hS rfl hc ?_
    refine wp_skip ?_
    refine hK2 _ _ ?_
    refine wp_seq_k fun K7 hK7 => ?_
    have hJ1 : ∀ (a : Act) (w : World), Sl 27 [] a → Mem Nob w0 w [] → S_laws_eqIntSS_j1 F = some r → K7 a w := by
      intro a w hS hM hF
      unfold S_laws_eqIntSS_j1 at hF
      refine hK7 _ _ ?_
      refine wp_seq_k fun K66 hK66 => ?_
      refine wp_region_lit ?_
      refine st_val hS rfl rfl (by decide) (rv_assign (hS.ev rfl)) fun a hS => ?_
      refine wpList_nil ?_
      refine hK66 _ _ ?_
      refine wp_ret ?_
      cases hF
      exact hQr _ _ (r_1 hS rfl rfl ⟨rfl, hM.pick [] (by decide) rfl⟩)
    refine wp_seq_k fun K67 hK67 => ?_
    refine wp_region_lit ?_
    refine st_val hS rfl rfl (by decide) (rv_assign (hS.ev rfl)) fun a hS => ?_
    refine wpList_nil ?_
    refine hK67 _ _ ?_
    refine wp_block ?_
    obtain ⟨lb2, hl2, hF2⟩ := bind_some hF
    refine wp_loop_sh (fun s => S_laws_eqIntSS_l2 F p0_a p1_b s) (fun s a w => Sl 27 [(0, p0_av), (1, p1_bv), (5, (Value.int IntKind.i64 s))] a ∧ Mem Nob w0 w [(false, mx 22 3 p0_av p0_ah (List.map (List.map (Value.int IntKind.i64)) p0_a)), (false, mx 22 3 p1_bv p1_bh (List.map (List.map (Value.int IntKind.i64)) p1_b))]) hl2 ⟨(hS.sub (sub_cons rfl (sub_cons rfl (sub_cons rfl sub_nil)))), (hM.pick [0, 1] (by decide) rfl)⟩ ?_
    rintro K2 x68 a w res2 ⟨hS, hM⟩ hF hN2 hX2
    have hF : S_laws_eqIntSS_l2 F p0_a p1_b x68 = some res2 := hF
    have hS : Sl 27 [(0, p0_av), (1, p1_bv), (5, (Value.int IntKind.i64 x68))] a := hS
    have hM : Mem Nob w0 w [(false, mx 22 3 p0_av p0_ah (List.map (List.map (Value.int IntKind.i64)) p0_a)), (false, mx 22 3 p1_bv p1_bh (List.map (List.map (Value.int IntKind.i64)) p1_b))] := hM
    unfold S_laws_eqIntSS_l2 at hF
    refine wp_seq_k fun K97 hK97 => ?_
    refine wp_seq_k fun K99 hK99 => ?_
    refine wp_region_lit ?_
    refine st_val hS rfl rfl (by decide) (rv_move (hS.ev rfl)) fun a hS => ?_
    refine st_val hS rfl rfl (by decide) (rv_move (hS.ev rfl)) fun a hS => ?_
    refine st_val hS rfl rfl (by decide) (rv_len_mxM Try.underlying43 (hS.ev rfl) (hM.get 0 rfl)) fun a hS => ?_
    refine st_val hS rfl rfl (by decide) (rv_lss (hS.ev rfl) (hS.ev rfl)) fun a hS => ?_
    refine wpList_nil ?_
    refine hK99 _ _ ?_
    rcases ite_some hF with ⟨hc, hF⟩ | ⟨hc, hF⟩
    · refine cond_t hS rfl hc ?_
      refine wp_skip ?_
      refine hK97 _ _ ?_
      refine wp_seq_k fun K100 hK100 => ?_
      refine wp_block ?_
      refine wp_seq_k fun K113 hK113 => ?_
      refine an_start Nob ty_mixed fun w hf => ?_
      have hM := hM.fra hf
      have hB := hM
      have hM := hB.reg0
      refine an_take hS (i := 0) rfl (by kernel_rfl) (by kernel_rfl) (by kernel_rfl) rfl (by decide) (fun c a a' w hd h => hQp c a a' w hd h) rfl (fun w' hC' => (rv_move (hS.ev rfl))) hM.fr fun a hS => ?_
      refine an_take hS (i := 1) rfl (by kernel_rfl) (by kernel_rfl) (by kernel_rfl) rfl (by decide) (fun c a a' w hd h => hQp c a a' w hd h) rfl (fun w' hC' => (rv_move (hS.ev rfl))) hM.fr fun a hS => ?_
      obtain ⟨x119, hx, hF⟩ := bind_some hF
      obtain ⟨hi0, hi1, hex119⟩ := idxL_some hx
      refine an_take hS (i := 2) rfl (by kernel_rfl) (by kernel_rfl) (by kernel_rfl) rfl (by decide) (fun c a a' w hd h => hQp c a a' w hd h) rfl (fun w' hC' => (rv_indexAddr Try.underlying43 ty_el_22 (hS.ev rfl) (hS.ev rfl) (mx_rd (hM.get 0 rfl)) hi0 (mx_lt (hM.get 0 rfl) hi1))) hM.fr fun a hS => ?_
      obtain ⟨v120, hgx119⟩ := mx_get (hM.get 0 rfl) (mget hex119)
      refine an_take hS (i := 3) rfl (by kernel_rfl) (by kernel_rfl) (by kernel_rfl) rfl (by decide) (fun c a a' w hd h => hQp c a a' w hd h) rfl (fun w' hC' => (rv_load_el (hS.ev rfl) ty_ag_22 (mx_rd ((hB.fra hC').get 0 rfl)) hgx119)) hM.fr fun a hS => ?_
      refine an_take hS (i := 4) rfl (by kernel_rfl) (by kernel_rfl) (by kernel_rfl) rfl (by decide) (fun c a a' w hd h => hQp c a a' w hd h) rfl (fun w' hC' => (rv_move (hS.ev rfl))) hM.fr fun a hS => ?_
      refine an_take hS (i := 5) rfl (by kernel_rfl) (by kernel_rfl) (by kernel_rfl) rfl (by decide) (fun c a a' w hd h => hQp c a a' w hd h) rfl (fun w' hC' => (rv_move (hS.ev rfl))) hM.fr fun a hS => ?_
      obtain ⟨x121, hx, hF⟩ := bind_some hF
      obtain ⟨hi0, hi1, hex121⟩ := idxL_some hx
      refine an_take hS (i := 6) rfl (by kernel_rfl) (by kernel_rfl) (by kernel_rfl) rfl (by decide) (fun c a a' w hd h => hQp c a a' w hd h) rfl (fun w' hC' => (rv_indexAddr Try.underlying43 ty_el_22 (hS.ev rfl) (hS.ev rfl) (mx_rd (hM.get 1 rfl)) hi0 (mx_lt (hM.get 1 rfl) hi1))) hM.fr fun a hS => ?_
      obtain ⟨v122, hgx121⟩ := mx_get (hM.get 1 rfl) (mget hex121)
      refine an_take hS (i := 7) rfl (by kernel_rfl) (by kernel_rfl) (by kernel_rfl) rfl (by decide) (fun c a a' w hd h => hQp c a a' w hd h) rfl (fun w' hC' => (rv_load_el (hS.ev rfl) ty_ag_22 (mx_rd ((hB.fra hC').get 1 rfl)) hgx121)) hM.fr fun a hS => ?_
      obtain ⟨r123, hr, hF⟩ := bind_some hF
      refine an_one hS (i := 8) rfl (by kernel_rfl) rfl ?_
      refine wp_call hS rfl rfl (by decide) fn_ok_27 rfl (c_laws_eqIntS F x119 x121 v120 v122 hr _ (mx_row (hM.get 0 rfl) hgx119 (mget hex119)) (mx_row (hM.get 1 rfl) hgx121 (mget hex121))) fun v w a hK hS => ?_
      obtain ⟨rfl, hN⟩ := hK
      have hM := hM.fra hN.fr
      refine ⟨hM.fr, ?_⟩
      refine an_take hS (i := 9) rfl (by kernel_rfl) (by kernel_rfl) (by kernel_rfl) rfl (by decide) (fun c a a' w hd h => hQp c a a' w hd h) rfl (fun w' hC' => (rv_not (hS.ev rfl))) hM.fr fun a hS => ?_
      refine an_done (by kernel_rfl) ?_
      have hN := hM.pick [] (by decide) rfl
      have hM := Mem.callo (A := []) (B := [(false, mx 22 3 p0_av p0_ah (List.map (List.map (Value.int IntKind.i64)) p0_a)), (false, mx 22 3 p1_bv p1_bh (List.map (List.map (Value.int IntKind.i64)) p1_b))]) hB rfl (hN.memS fun _ h => h.elim) rfl
      refine hK113 _ _ ?_
      rcases ite_some hF with ⟨hc, hF⟩ | ⟨hc, hF⟩
      · refine cond_t hS rfl hc ?_
        refine wp_seq_k fun K124 hK124 => ?_
        refine wp_region_lit ?_
        refine st_val hS rfl rfl (by decide) (rv_assign (hS.ev rfl)) fun a hS => ?_
        refine wpList_nil ?_
        refine hK124 _ _ ?_
        refine wp_ret ?_
        cases hF
        have e := hX2 _ rfl
        subst e
        have hF := hF2
        cases hF
        exact hQr _ _ (r_1 hS rfl rfl ⟨rfl, hM.pick [] (by decide) rfl⟩)
      · refine cond_f hS rfl hc ?_
        refine wp_skip ?_
        refine hK100 _ _ ?_
        refine wp_region_lit ?_
        refine st_val hS rfl rfl (by decide) (rv_move (hS.ev rfl)) fun a hS => ?_
        refine st_val hS rfl rfl (by decide) (rv_add (hS.ev rfl) (hS.ev rfl)) fun a hS => ?_
        refine st_val hS rfl rfl (by decide) (rv_assign (hS.ev rfl)) fun a hS => ?_
        refine wpList_nil ?_
        cases hF
        exact hN2 _ _ _ rfl ⟨(hS.sub (sub_cons rfl (sub_cons rfl (sub_cons rfl sub_nil)))), (hM.pick [0, 1] (by decide) rfl)⟩
    · refine cond_f hS rfl hc ?_
      refine wp_exit ?_
      cases hF
      exact hJ1 _ _ (hS.sub sub_nil) (hM.pick [] (by decide) rfl) (by have e := hX2 _ rfl; subst e; exact hF2)


theorem c_laws_markIntSS (F : Nat) (p0_a : List (List Int)) (p1_k : Int) (p0_av : Value) (p0_ah : List Value) {r : Int × (List (List Int))} (hF : S_laws_markIntSS F p0_a p1_k = some r) (w0 : World) (hM : Mem (feet [(true, mx 22 3 p0_av p0_ah (List.map (List.map (Value.int IntKind.i64)) p0_a))]) w0 w0 [(true, mx 22 3 p0_av p0_ah (List.map (List.map (Value.int IntKind.i64)) p0_a))]) :
    Calls Try.prog 45 [p0_av, (Value.int IntKind.i64 p1_k)].toArray w0 (retPost fun v w' => v = (Value.int IntKind.i64 r.1) ∧ Mem (feet [(true, mx 22 3 p0_av p0_ah (List.map (List.map (Value.int IntKind.i64)) p0_a))]) w0 w' [(true, mx 22 3 p0_av p0_ah (List.map (List.map (Value.int IntKind.i64)) r.2))]) := by
  refine enter2 Try.func45 rfl rfl rfl fun Q a hQr hQn hQp hS => ?_
  have hS : Sl 19 [(0, p0_av), (1, (Value.int IntKind.i64 p1_k))] a := hS
  unfold S_laws_markIntSS at hF
  refine wp_seq_k fun K1 hK1 => ?_
  refine wp_region_lit ?_
  refine st_val hS rfl rfl (by decide) (rv_assign (hS.ev rfl)) fun a hS => ?_
  refine wpList_nil ?_
  refine hK1 _ _ ?_
  refine wp_seq_k fun K2 hK2 => ?_
  have hJ1 : ∀ (x39 : Int) (l40 : List (List Int)) (a : Act) (w : World), Sl 19 [(1, (Value.int IntKind.i64 x39))] a → Mem (feet [(true, mx 22 3 p0_av p0_ah (List.map (List.map (Value.int IntKind.i64)) p0_a))]) w0 w [(true, mx 22 3 p0_av p0_ah (List.map (List.map (Value.int IntKind.i64)) l40))] → S_laws_markIntSS_j1 F x39 l40 = some r → K2 a w := by
    intro x39 l40 a w hS hM hF
    unfold S_laws_markIntSS_j1 at hF
    refine hK2 _ _ ?_
    refine wp_seq_k fun K41 hK41 => ?_
    refine wp_region_lit ?_
    refine st_val hS rfl rfl (by decide) (rv_move (hS.ev rfl)) fun a hS => ?_
    refine st_val hS rfl rfl (by decide) (rv_assign (hS.ev rfl)) fun a hS => ?_
    refine wpList_nil ?_
    refine hK41 _ _ ?_
    refine wp_ret ?_
    cases hF
    exact hQr _ _ (r_1 hS rfl rfl ⟨rfl, hM.pick [0] (by decide) rfl⟩)
  refine wp_seq_k fun K42 hK42 => ?_
  refine wp_region_lit ?_
  refine st_val hS rfl rfl (by decide) (rv_assign (hS.ev rfl)) fun a hS => ?_
  refine wpList_nil ?_
  refine hK42 _ _ ?_
  refine wp_block ?_
  obtain ⟨lb2, hl2, hF2⟩ := bind_some hF
  refine wp_loop_sh (fun s => S_laws_markIntSS_l2 F s.1 s.2.1 s.2.2) (fun s a w => Sl 19 [(0, p0_av), (1, (Value.int IntKind.i64 s.2.1)), (5, (Value.int IntKind.i64 s.2.2))] a ∧ Mem (feet [(true, mx 22 3 p0_av p0_ah (List.map (List.map (Value.int IntKind.i64)) p0_a))]) w0 w [(true, mx 22 3 p0_av p0_ah (List.map (List.map (Value.int IntKind.i64)) s.1))]) hl2 ⟨(hS.sub (sub_cons rfl (sub_cons rfl (sub_cons rfl sub_nil)))), (hM.pick [0] (by decide) rfl)⟩ ?_
  rintro K2 ⟨l55, x56, x57⟩ a w res2 ⟨hS, hM⟩ hF hN2 hX2
  have hF : S_laws_markIntSS_l2 F l55 x56 x57 = some res2 := hF
  have hS : Sl 19 [(0, p0_av), (1, (Value.int IntKind.i64 x56)), (5, (Value.int IntKind.i64 x57))] a := hS
  have hM : Mem (feet [(true, mx 22 3 p0_av p0_ah (List.map (List.map (Value.int IntKind.i64)) p0_a))]) w0 w [(true, mx 22 3 p0_av p0_ah (List.map (List.map (Value.int IntKind.i64)) l55))] := hM
  unfold S_laws_markIntSS_l2 at hF
  refine wp_seq_k fun K68 hK68 => ?_
  refine wp_seq_k fun K70 hK70 => ?_
  refine wp_region_lit ?_
  refine st_val hS rfl rfl (by decide) (rv_move (hS.ev rfl)) fun a hS => ?_
  refine st_val hS rfl rfl (by decide) (rv_move (hS.ev rfl)) fun a hS => ?_
  refine st_val hS rfl rfl (by decide) (rv_len_mxM Try.underlying43 (hS.ev rfl) (hM.get 0 rfl)) fun a hS => ?_
  refine st_val hS rfl rfl (by decide) (rv_lss (hS.ev rfl) (hS.ev rfl)) fun a hS => ?_
  refine wpList_nil ?_
  refine hK70 _ _ ?_
  rcases ite_some hF with ⟨hc, hF⟩ | ⟨hc, hF⟩
  · refine cond_t hS rfl hc ?_
    refine wp_skip ?_
    refine hK68 _ _ ?_
    refine wp_seq_k fun K71 hK71 => ?_
    refine wp_block ?_
    refine wp_region_lit ?_
    refine st_val hS rfl rfl (by decide) (rv_move (hS.ev rfl)) fun a hS => ?_
    refine st_val hS rfl rfl (by decide) (rv_move (hS.ev rfl)) fun a hS => ?_
    obtain ⟨x75, hx, hF⟩ := bind_some hF
    obtain ⟨hi0, hi1, hex75⟩ := idxL_some hx
    refine st_val hS rfl rfl (by decide) (rv_indexAddr Try.underlying43 ty_el_22 (hS.ev rfl) (hS.ev rfl) (mx_rd (hM.get 0 rfl)) hi0 (mx_lt (hM.get 0 rfl) hi1)) fun a hS => ?_
    obtain ⟨v76, hgx75⟩ := mx_get (hM.get 0 rfl) (mget hex75)
    refine st_val hS rfl rfl (by decide) (rv_load_el (hS.ev rfl) ty_ag_22 (mx_rd (hM.get 0 rfl)) hgx75) fun a hS => ?_
    refine st_val hS rfl rfl (by decide) (rv_move (hS.ev rfl)) fun a hS => ?_
    obtain ⟨r77, hr, hF⟩ := bind_some hF
    have hM := hM.mxSplit.swap.famOut hgx75 (mget hex75)
    have hP := Mem.pre (A := [(true, ow 3 v76 (List.map (Value.int IntKind.i64) x75))]) (C := []) (B := ((true, fam 3 (p0_ah.eraseIdx x57.toNat) ((List.map (List.map (Value.int IntKind.i64)) l55).eraseIdx x57.toNat)) :: (true, ow 22 p0_av p0_ah) :: [])) hM rfl weaks_nil
    refine st_wp hS rfl (wp_call hS rfl rfl (by decide) fn_ok_57 rfl (c_laws_markIntS F x75 x56 v76 hr _ hP) fun v w a hK hS => ?_)
    obtain ⟨rfl, hN⟩ := hK
    have hM := Mem.callo (A := [(true, ow 3 v76 (List.map (Value.int IntKind.i64) x75))]) (B := ((true, fam 3 (p0_ah.eraseIdx x57.toNat) ((List.map (List.map (Value.int IntKind.i64)) l55).eraseIdx x57.toNat)) :: (true, ow 22 p0_av p0_ah) :: [])) hM rfl hN rfl
    have hM := (Mem.famIn hM hgx75 (mget hex75)).swap.mxJoin
    have hM : Mem (feet [(true, mx 22 3 p0_av p0_ah (List.map (List.map (Value.int IntKind.i64)) p0_a))]) w0 w [(true, mx 22 3 p0_av p0_ah (List.map (List.map (Value.int IntKind.i64)) (l55.set (x57.toNat) r77.2)))] := by simpa only [List.map_set] using hM
    refine st_val hS rfl rfl (by decide) (rv_assign (hS.ev rfl)) fun a hS => ?_
    refine wpList_nil ?_
    refine hK71 _ _ ?_
    refine wp_region_lit ?_
    refine st_val hS rfl rfl (by decide) (rv_move (hS.ev rfl)) fun a hS => ?_
    refine st_val hS rfl rfl (by decide) (rv_add (hS.ev rfl) (hS.ev rfl)) fun a hS => ?_
    refine st_val hS rfl rfl (by decide) (rv_assign (hS.ev rfl)) fun a hS => ?_
    refine wpList_nil ?_
    cases hF
    exact hN2 _ _ _ rfl ⟨(hS.sub (sub_cons rfl (sub_cons rfl (sub_cons rfl sub_nil)))), (hM.pick [0] (by decide) rfl)⟩
  · refine cond_f hS rfl hc ?_
    refine wp_exit ?_
    cases hF
    exact hJ1 x56 l55 _ _ (hS.sub (sub_cons rfl sub_nil)) (hM.pick [0] (by decide) rfl) (by have e := hX2 _ rfl; subst e; exact hF2)


theorem c_laws_heldIntSS (F : Nat) (p0_a : List (List Int)) (p1_k : Int) (p0_av : Value) (p0_ah : List Value) {r : Int} (hF : S_laws_heldIntSS F p0_a p1_k = some r) (w0 : World) (h0 : (mx 22 3 p0_av p0_ah (List.map (List.map (Value.int IntKind.i64)) p0_a)).P w0) :
    Calls Try.prog 46 [p0_av, (Value.int IntKind.i64 p1_k)].toArray w0 (retPost fun v w' => v = (Value.int IntKind.i64 r) ∧ Mem Nob w0 w' []) := by
  have hM : Mem Nob w0 w0 [(false, mx 22 3 p0_av p0_ah (List.map (List.map (Value.int IntKind.i64)) p0_a))] := (Mem.gcons (Mem.nil w0) h0 (by simp))
  refine enter2 Try.func46 rfl rfl rfl fun Q a hQr hQn hQp hS => ?_
  have hS : Sl 21 [(0, p0_av), (1, (Value.int IntKind.i64 p1_k))] a := hS
  unfold S_laws_heldIntSS at hF
  refine wp_seq_k fun K1 hK1 => ?_
  refine wp_region_lit ?_
  refine st_val hS rfl rfl (by decide) (rv_assign (hS.ev rfl)) fun a hS => ?_
  refine wpList_nil ?_
  refine hK1 _ _ ?_
  refine wp_seq_k fun K2 hK2 => ?_
  have hJ1 : ∀ (x50 : Int) (a : Act) (w : World), Sl 21 [(1, (Value.int IntKind.i64 x50))] a → Mem Nob w0 w [] → S_laws_heldIntSS_j1 F x50 = some r → K2 a w := by
    intro x50 a w hS hM hF
    unfold S_laws_heldIntSS_j1 at hF
    refine hK2 _ _ ?_
    refine wp_seq_k fun K51 hK51 => ?_
    refine wp_region_lit ?_
    refine st_val hS rfl rfl (by decide) (rv_move (hS.ev rfl)) fun a hS => ?_
    refine st_val hS rfl rfl (by decide) (rv_assign (hS.ev rfl)) fun a hS => ?_
    refine wpList_nil ?_
    refine hK51 _ _ ?_
    refine wp_ret ?_
    cases hF
    exact hQr _ _ (r_1 hS rfl rfl ⟨rfl, hM.pick [] (by decide) rfl⟩)
  refine wp_seq_k fun K52 hK52 => ?_
  refine wp_region_lit ?_
  refine st_val hS rfl rfl (by decide) (rv_assign (hS.ev rfl)) fun a hS => ?_
  refine wpList_nil ?_
  refine hK52 _ _ ?_
  refine wp_block ?_
  obtain ⟨lb2, hl2, hF2⟩ := bind_some hF
  refine wp_loop_sh (fun s => S_laws_heldIntSS_l2 F p0_a s.1 s.2) (fun s a w => Sl 21 [(0, p0_av), (1, (Value.int IntKind.i64 s.1)), (5, (Value.int IntKind.i64 s.2))] a ∧ Mem Nob w0 w [(false, mx 22 3 p0_av p0_ah (List.map (List.map (Value.int IntKind.i64)) p0_a))]) hl2 ⟨(hS.sub (sub_cons rfl (sub_cons rfl (sub_cons rfl sub_nil)))), (hM.pick [0] (by decide) rfl)⟩ ?_
  rintro K2 ⟨x53, x54⟩ a w res2 ⟨hS, hM⟩ hF hN2 hX2
  have hF : S_laws_heldIntSS_l2 F p0_a x53 x54 = some res2 := hF
  have hS : Sl 21 [(0, p0_av), (1, (Value.int IntKind.i64 x53)), (5, (Value.int IntKind.i64 x54))] a := hS
  have hM : Mem Nob w0 w [(false, mx 22 3 p0_av p0_ah (List.map (List.map (Value.int IntKind.i64)) p0_a))] := hM
  unfold S_laws_heldIntSS_l2 at hF
  refine wp_seq_k fun K77 hK77 => ?_
  refine wp_seq_k fun K79 hK79 => ?_
  refine wp_region_lit ?_
  refine st_val hS rfl rfl (by decide) (rv_move (hS.ev rfl)) fun a hS => ?_
  refine st_val hS rfl rfl (by decide) (rv_move (hS.ev rfl)) fun a hS => ?_
  refine st_val hS rfl rfl (by decide) (rv_len_mxM Try.underlying43 (hS.ev rfl) (hM.get 0 rfl)) fun a hS => ?_
  refine st_val hS rfl rfl (by decide) (rv_lss (hS.ev rfl) (hS.ev rfl)) fun a hS => ?_
  refine wpList_nil ?_
  refine hK79 _ _ ?_
  rcases ite_some hF with ⟨hc, hF⟩ | ⟨hc, hF⟩
  · refine cond_t hS rfl hc ?_
    refine wp_skip ?_
    refine hK77 _ _ ?_
    refine wp_seq_k fun K80 hK80 => ?_
    refine wp_block ?_
    refine wp_seq_k fun K90 hK90 => ?_
    refine wp_region_lit ?_
    refine st_val hS rfl rfl (by decide) (rv_move (hS.ev rfl)) fun a hS => ?_
    refine st_val hS rfl rfl (by decide) (rv_move (hS.ev rfl)) fun a hS => ?_
    obtain ⟨x94, hx, hF⟩ := bind_some hF
    obtain ⟨hi0, hi1, hex94⟩ := idxL_some hx
    refine st_val hS rfl rfl (by decide) (rv_indexAddr Try.underlying43 ty_el_22 (hS.ev rfl) (hS.ev rfl) (mx_rd (hM.get 0 rfl)) hi0 (mx_lt (hM.get 0 rfl) hi1)) fun a hS => ?_
    obtain ⟨v95, hgx94⟩ := mx_get (hM.get 0 rfl) (mget hex94)
    refine st_val hS rfl rfl (by decide) (rv_load_el (hS.ev rfl) ty_ag_22 (mx_rd (hM.get 0 rfl)) hgx94) fun a hS => ?_
    refine st_val hS rfl rfl (by decide) (rv_move (hS.ev rfl)) fun a hS => ?_
    obtain ⟨r96, hr, hF⟩ := bind_some hF
    refine st_wp hS rfl (wp_call hS rfl rfl (by decide) fn_ok_58 rfl (c_laws_heldIntS F x94 x53 v95 hr _ (mx_row (hM.get 0 rfl) hgx94 (mget hex94))) fun v w a hK hS => ?_)
    obtain ⟨rfl, hN⟩ := hK
    have hM := hM.fra hN.fr
    refine st_val hS rfl rfl (by decide) (rv_assign (hS.ev rfl)) fun a hS => ?_
    refine wpList_nil ?_
    refine hK90 _ _ ?_
    refine wp_seq_k fun K97 hK97 => ?_
    refine wp_region_lit ?_
    refine st_val hS rfl rfl (by decide) (rv_move (hS.ev rfl)) fun a hS => ?_
    refine st_val hS rfl rfl (by decide) (rv_lss (hS.ev rfl) (hS.ev rfl)) fun a hS => ?_
    refine wpList_nil ?_
    refine hK97 _ _ ?_
    rcases ite_some hF with ⟨hc, hF⟩ | ⟨hc, hF⟩
    · refine cond_t hS rfl hc ?_
      refine wp_seq_k fun K98 hK98 => ?_
      refine wp_region_lit ?_
      refine st_val hS rfl rfl (by decide) (rv_assign (hS.ev rfl)) fun a hS => ?_
      refine wpList_nil ?_
      refine hK98 _ _ ?_
      refine wp_ret ?_
      cases hF
      have e := hX2 _ rfl
      subst e
      have hF := hF2
      cases hF
      exact hQr _ _ (r_1 hS rfl rfl ⟨rfl, hM.pick [] (by decide) rfl⟩)
    · refine cond_f hS rfl hc ?_
      refine wp_skip ?_
      refine hK80 _ _ ?_
      refine wp_region_lit ?_
      refine st_val hS rfl rfl (by decide) (rv_move (hS.ev rfl)) fun a hS => ?_
      refine st_val hS rfl rfl (by decide) (rv_add (hS.ev rfl) (hS.ev rfl)) fun a hS => ?_
      refine st_val hS rfl rfl (by decide) (rv_assign (hS.ev rfl)) fun a hS => ?_
      refine wpList_nil ?_
      cases hF
      exact hN2 _ _ _ rfl ⟨(hS.sub (sub_cons rfl (sub_cons rfl (sub_cons rfl sub_nil)))), (hM.pick [0] (by decide) rfl)⟩
  · refine cond_f hS rfl hc ?_
    refine wp_exit ?_
    cases hF
    exact hJ1 x53 _ _ (hS.sub (sub_cons rfl sub_nil)) (hM.pick [] (by decide) rfl) (by have e := hX2 _ rfl; subst e; exact hF2)


theorem c_laws_FnExactEdgesOf (F : Nat) (p0_aG_Size : Int) (p0_aG_Rows : List Int) (p0_aG_Rowsv : Value) {r : Bool} (hF : S_laws_FnExactEdgesOf F p0_aG_Size p0_aG_Rows = some r) (w0 : World) (h0 : RdRow w0 p0_aG_Rowsv (List.map (Value.int IntKind.i64) p0_aG_Rows)) :
    Calls Try.prog 13 [(Value.agg #[(Value.int IntKind.i64 p0_aG_Size), p0_aG_Rowsv])].toArray w0 (retPost fun v w' => v = (Value.bool r) ∧ Mem Nob w0 w' []) := by
  have hM : Mem Nob w0 w0 [(false, rd p0_aG_Rowsv (List.map (Value.int IntKind.i64) p0_aG_Rows))] := (Mem.rcons (Mem.nil w0) h0 (by simp))
  refine enter2 Try.func13 rfl rfl rfl fun Q a hQr hQn hQp hS => ?_
  have hS : Sl 69 [(0, (Value.agg #[(Value.int IntKind.i64 p0_aG_Size), p0_aG_Rowsv]))] a := hS
  unfold S_laws_FnExactEdgesOf at hF
  refine wp_seq_k fun K1 hK1 => ?_
  refine wp_region_lit ?_
  obtain ⟨b3, w, hr, hM⟩ := hM.boxE (ρ := a.eval) (dst := some 1) (ty := _) (pos := _) (af := _) (gd := _) (x := .tmp 0) (T := 24) [(Value.int IntKind.i64 p0_aG_Size), p0_aG_Rowsv] (hS.ev rfl) rfl
  refine st_val hS rfl rfl (by decide) hr fun a hS => ?_
  refine st_val hS rfl rfl (by decide) (rv_assign (hS.ev rfl)) fun a hS => ?_
  refine wpList_nil ?_
  refine hK1 _ _ ?_
  refine wp_seq_k fun K4 hK4 => ?_
  refine wp_region_lit ?_
  refine st_val hS rfl rfl (by decide) (rv_assign (hS.ev rfl)) fun a hS => ?_
  refine wpList_nil ?_
  refine hK4 _ _ ?_
  refine wp_seq_k fun K5 hK5 => ?_
  refine wp_region_lit ?_
  refine st_val hS rfl rfl (by decide) (rv_load_agg (hS.ev rfl) ty_ag_24 (hM.get 0 rfl) ty_sz_24) fun a hS => ?_
  refine st_val hS rfl rfl (by decide) (rv_move (hS.ev rfl)) fun a hS => ?_
  obtain ⟨r7, hr, hF⟩ := bind_some hF
  refine st_wp hS rfl (wp_call hS rfl rfl (by decide) fn_ok_15 rfl (c_laws_szGraph F p0_aG_Size p0_aG_Rows 1048576 p0_aG_Rowsv hr _ (hM.get 1 rfl)) fun v w a hK hS => ?_)
  obtain ⟨rfl, hN⟩ := hK
  have hM := hM.fra hN.fr
  refine st_val hS rfl rfl (by decide) (rv_assign (hS.ev rfl)) fun a hS => ?_
  refine wpList_nil ?_
  refine hK5 _ _ ?_
  refine wp_seq_k fun K8 hK8 => ?_
  refine wp_seq_k fun K11 hK11 => ?_
  refine wp_region_lit ?_
  refine st_val hS rfl rfl (by decide) (rv_move (hS.ev rfl)) fun a hS => ?_
  refine st_val hS rfl rfl (by decide) (rv_lss (hS.ev rfl) (hS.ev rfl)) fun a hS => ?_
  refine wpList_nil ?_
  refine hK11 _ _ ?_
  rcases ite_some hF with ⟨hc, hF⟩ | ⟨hc, hF⟩
  · refine cond_t hS rfl hc ?_
    refine wp_seq_k fun K12 hK12 => ?_
    refine wp_region_lit ?_
    refine st_val hS rfl rfl (by decide) (rv_assign (hS.ev rfl)) fun a hS => ?_
    refine wpList_nil ?_
    refine hK12 _ _ ?_
    refine wp_ret ?_
    cases hF
    exact hQr _ _ (r_1 hS rfl rfl ⟨rfl, hM.pick [] (by decide) rfl⟩)
  · refine cond_f hS rfl hc ?_
    refine wp_skip ?_
    refine hK8 _ _ ?_
    refine wp_seq_k fun K13 hK13 => ?_
    refine wp_region_lit ?_
    refine st_val hS rfl rfl (by decide) (rv_load_agg (hS.ev rfl) ty_ag_24 (hM.get 0 rfl) ty_sz_24) fun a hS => ?_
    obtain ⟨r19, hr, hF⟩ := bind_some hF
    refine st_wp hS rfl (wp_call hS rfl rfl (by decide) fn_ok_17 rfl (c_laws_toGraph F p0_aG_Size p0_aG_Rows p0_aG_Rowsv hr _ (hM.get 1 rfl)) fun v w a hK hS => ?_)
    obtain ⟨v20, rfl, hN⟩ := hK
    have hM := hM.add hN rfl
    obtain ⟨r21, hr, hF⟩ := bind_some hF
    refine st_wp hS rfl (wp_call hS rfl rfl (by decide) fn_ok_42 rfl (c_spec_EdgesOf F r19.1 r19.2 v20 hr _ (rd_of_ow (hM.get 0 rfl))) fun v w a hK hS => ?_)
    obtain ⟨v22, hs23, hv0, hN⟩ := hK
    subst v
    have hM := hM.add hN rfl
    refine st_val hS rfl rfl (by decide) (rv_assign (hS.ev rfl)) fun a hS => ?_
    refine wpList_nil ?_
    refine hK13 _ _ ?_
    refine wp_seq_k fun K24 hK24 => ?_
    refine wp_region_lit ?_
    refine st_val hS rfl rfl (by decide) (rv_load_agg (hS.ev rfl) ty_ag_24 (hM.get 2 rfl) ty_sz_24) fun a hS => ?_
    obtain ⟨r28, hr, hF⟩ := bind_some hF
    refine st_wp hS rfl (wp_call hS rfl rfl (by decide) fn_ok_17 rfl (c_laws_toGraph F p0_aG_Size p0_aG_Rows p0_aG_Rowsv hr _ (hM.get 3 rfl)) fun v w a hK hS => ?_)
    obtain ⟨v29, rfl, hN⟩ := hK
    have hM := hM.add hN rfl
    obtain ⟨b30, w, hr, hM⟩ := hM.allocE (ρ := a.eval) (dst := some 5) (ty := _) (pos := _) (af := _) (gd := _) (T := 27) (P := Try.prog) [(Value.int IntKind.i64 0), (Value.slice none 0 0)] ty_zr_27 rfl
    refine st_val hS rfl rfl (by decide) hr fun a hS => ?_
    have hM := hM.addNil 3
    have hM := hM.pick [1, 0, 2, 3, 4, 5, 6] (by decide) rfl
    obtain ⟨w, hr, hM⟩ := hM.st_agg (us := [(Value.int IntKind.i64 r28.1), v29]) (ρ := a.eval) (dst := none) (ty := _) (pos := _) (af := _) (gd := _) (x := .tmp 5) (y := .tmp 20) (hS.ev rfl) (hS.ev rfl) ty_sz_27 (all1_cons rfl (all1_cons (rd_one (rd_of_ow (hM.get 2 rfl))) all1_nil)) rfl
    refine st_unit hS rfl rfl hr ?_
    refine wpList_nil ?_
    refine hK24 _ _ ?_
    refine wp_seq_k fun K31 hK31 => ?_
    refine wp_region_lit ?_
    refine st_val hS rfl rfl (by decide) (rv_load_agg (hS.ev rfl) ty_ag_27 (hM.get 0 rfl) ty_sz_27) fun a hS => ?_
    obtain ⟨r35, hr, hF⟩ := bind_some hF
    refine st_wp hS rfl (wp_call hS rfl rfl (by decide) fn_ok_43 rfl (c_impl_EdgesOf F r28.1 r28.2 v29 hr _ (rd_of_ow (hM.get 2 rfl))) fun v w a hK hS => ?_)
    obtain ⟨v36, hs37, hv0, hN⟩ := hK
    subst v
    have hM := hM.add hN rfl
    refine st_val hS rfl rfl (by decide) (rv_assign (hS.ev rfl)) fun a hS => ?_
    refine wpList_nil ?_
    refine hK31 _ _ ?_
    refine wp_seq_k fun K38 hK38 => ?_
    refine wp_seq_k fun K43 hK43 => ?_
    refine wp_region_lit ?_
    refine st_val hS rfl rfl (by decide) (rv_move (hS.ev rfl)) fun a hS => ?_
    refine st_val hS rfl rfl (by decide) (rv_move (hS.ev rfl)) fun a hS => ?_
    obtain ⟨r45, hr, hF⟩ := bind_some hF
    refine st_wp hS rfl (wp_call hS rfl rfl (by decide) fn_ok_44 rfl (c_laws_eqIntSS F r35 r21 v36 hs37 v22 hs23 hr _ (hM.get 0 rfl) (hM.get 4 rfl)) fun v w a hK hS => ?_)
    obtain ⟨rfl, hN⟩ := hK
    have hM := hM.fra hN.fr
    refine st_val hS rfl rfl (by decide) (rv_not (hS.ev rfl)) fun a hS => ?_
    refine wpList_nil ?_
    refine hK43 _ _ ?_
    rcases ite_some hF with ⟨hc, hF⟩ | ⟨hc, hF⟩
    · refine cond_t hS rfl hc ?_
      refine wp_seq_k fun K46 hK46 => ?_
      refine wp_region_lit ?_
      refine st_val hS rfl rfl (by decide) (rv_assign (hS.ev rfl)) fun a hS => ?_
      refine wpList_nil ?_
      refine hK46 _ _ ?_
      refine wp_ret ?_
      cases hF
      exact hQr _ _ (r_1 hS rfl rfl ⟨rfl, hM.pick [] (by decide) rfl⟩)
    · refine cond_f hS rfl hc ?_
      refine wp_skip ?_
      refine hK38 _ _ ?_
      refine wp_seq_k fun K47 hK47 => ?_
      refine wp_seq_k fun K56 hK56 => ?_
      refine an_start Nob ty_mixed fun w hf => ?_
      have hM := hM.fra hf
      have hB := hM
      have hM := hB.reg0
      refine an_take hS (i := 0) rfl (by kernel_rfl) (by kernel_rfl) (by kernel_rfl) rfl (by decide) (fun c a a' w hd h => hQp c a a' w hd h) rfl (fun w' hC' => (rv_load_agg (hS.ev rfl) ty_ag_27 ((hB.fra hC').get 1 rfl) ty_sz_27)) hM.fr fun a hS => ?_
      refine an_take hS (i := 1) rfl (by kernel_rfl) (by kernel_rfl) (by kernel_rfl) rfl (by decide) (fun c a a' w hd h => hQp c a a' w hd h) rfl (fun w' hC' => (rv_load_agg (hS.ev rfl) ty_ag_24 ((hB.fra hC').get 6 rfl) ty_sz_24)) hM.fr fun a hS => ?_
      obtain ⟨r60, hr, hF⟩ := bind_some hF
      refine an_one hS (i := 2) rfl (by kernel_rfl) rfl ?_
      refine wp_call hS rfl rfl (by decide) fn_ok_17 rfl (c_laws_toGraph F p0_aG_Size p0_aG_Rows p0_aG_Rowsv hr _ (hM.get 7 rfl)) fun v w a hK hS => ?_
      obtain ⟨v61, rfl, hN⟩ := hK
      have hM := hM.add hN rfl
      refine ⟨hM.fr, ?_⟩
      obtain ⟨r62, hr, hF⟩ := bind_some hF
      refine an_one hS (i := 3) rfl (by kernel_rfl) rfl ?_
      refine wp_call hS rfl rfl (by decide) fn_ok_19 rfl (c_laws_eqGraph F r28.1 r28.2 r60.1 r60.2 v29 v61 hr _ (rd_of_ow (hM.get 4 rfl)) (rd_of_ow (hM.get 0 rfl))) fun v w a hK hS => ?_
      obtain ⟨rfl, hN⟩ := hK
      have hM := hM.fra hN.fr
      refine ⟨hM.fr, ?_⟩
      refine an_take hS (i := 4) rfl (by kernel_rfl) (by kernel_rfl) (by kernel_rfl) rfl (by decide) (fun c a a' w hd h => hQp c a a' w hd h) rfl (fun w' hC' => (rv_not (hS.ev rfl))) hM.fr fun a hS => ?_
      refine an_done (by kernel_rfl) ?_
      have hN := hM.pick [0] (by decide) rfl
      have hM := Mem.callo (A := []) (B := [(true, mx 22 3 v36 hs37 (List.map (List.map (Value.int IntKind.i64)) r35)), (true, bx b30 27 [(Value.int IntKind.i64 r28.1), v29]), (true, ow 3 (Value.slice none 0 0) (List.map (Value.int IntKind.i64) ([] : List (Int)))), (true, ow 3 v29 (List.map (Value.int IntKind.i64) r28.2)), (true, mx 22 3 v22 hs23 (List.map (List.map (Value.int IntKind.i64)) r21)), (true, ow 3 v20 (List.map (Value.int IntKind.i64) r19.2)), (true, bx b3 24 [(Value.int IntKind.i64 p0_aG_Size), p0_aG_Rowsv]), (false, rd p0_aG_Rowsv (List.map (Value.int IntKind.i64) p0_aG_Rows))]) hB rfl (hN.memS fun _ h => h.elim) rfl
      refine hK56 _ _ ?_
      rcases ite_some hF with ⟨hc, hF⟩ | ⟨hc, hF⟩
      · refine cond_t hS rfl hc ?_
        refine wp_seq_k fun K63 hK63 => ?_
        refine wp_region_lit ?_
        refine st_val hS rfl rfl (by decide) (rv_assign (hS.ev rfl)) fun a hS => ?_
        refine wpList_nil ?_
        refine hK63 _ _ ?_
        refine wp_ret ?_
        cases hF
        exact hQr _ _ (r_1 hS rfl rfl ⟨rfl, hM.pick [] (by decide) rfl⟩)
      · refine cond_f hS rfl hc ?_
        refine wp_skip ?_
        refine hK47 _ _ ?_
        refine wp_seq_k fun K64 hK64 => ?_
        refine wp_region_lit ?_
        refine st_val hS rfl rfl (by decide) (rv_assign (hS.ev rfl)) fun a hS => ?_
        refine wpList_nil ?_
        refine hK64 _ _ ?_
        refine wp_seq_k fun K65 hK65 => ?_
        refine wp_region_lit ?_
        refine st_val hS rfl rfl (by decide) (rv_load_agg (hS.ev rfl) ty_ag_27 (hM.get 2 rfl) ty_sz_27) fun a hS => ?_
        refine st_val hS rfl rfl (by decide) (rv_move (hS.ev rfl)) fun a hS => ?_
        obtain ⟨r67, hr, hF⟩ := bind_some hF
        have hM := hM.pick [4, 0, 1, 2, 3, 5, 6, 7, 8] (by decide) rfl
        have hP := Mem.pre (A := [(true, ow 3 v29 (List.map (Value.int IntKind.i64) r28.2))]) (C := []) (B := [(true, ow 3 v61 (List.map (Value.int IntKind.i64) r60.2)), (true, mx 22 3 v36 hs37 (List.map (List.map (Value.int IntKind.i64)) r35)), (true, bx b30 27 [(Value.int IntKind.i64 r28.1), v29]), (true, ow 3 (Value.slice none 0 0) (List.map (Value.int IntKind.i64) ([] : List (Int)))), (true, mx 22 3 v22 hs23 (List.map (List.map (Value.int IntKind.i64)) r21)), (true, ow 3 v20 (List.map (Value.int IntKind.i64) r19.2)), (true, bx b3 24 [(Value.int IntKind.i64 p0_aG_Size), p0_aG_Rowsv]), (false, rd p0_aG_Rowsv (List.map (Value.int IntKind.i64) p0_aG_Rows))]) hM rfl weaks_nil
        refine st_wp hS rfl (wp_call hS rfl rfl (by decide) fn_ok_22 rfl (c_laws_markGraph F r28.1 r28.2 1 v29 hr _ hP) fun v w a hK hS => ?_)
        obtain ⟨rfl, hN⟩ := hK
        have hM := Mem.callo (A := [(true, ow 3 v29 (List.map (Value.int IntKind.i64) r28.2))]) (B := [(true, ow 3 v61 (List.map (Value.int IntKind.i64) r60.2)), (true, mx 22 3 v36 hs37 (List.map (List.map (Value.int IntKind.i64)) r35)), (true, bx b30 27 [(Value.int IntKind.i64 r28.1), v29]), (true, ow 3 (Value.slice none 0 0) (List.map (Value.int IntKind.i64) ([] : List (Int)))), (true, mx 22 3 v22 hs23 (List.map (List.map (Value.int IntKind.i64)) r21)), (true, ow 3 v20 (List.map (Value.int IntKind.i64) r19.2)), (true, bx b3 24 [(Value.int IntKind.i64 p0_aG_Size), p0_aG_Rowsv]), (false, rd p0_aG_Rowsv (List.map (Value.int IntKind.i64) p0_aG_Rows))]) hM rfl hN rfl
        refine st_val hS rfl rfl (by decide) (rv_assign (hS.ev rfl)) fun a hS => ?_
        refine wpList_nil ?_
        refine hK65 _ _ ?_
        refine wp_seq_k fun K68 hK68 => ?_
        refine wp_seq_k fun K74 hK74 => ?_
        have hJ1 : ∀ (p76 : Bool) (a : Act) (w : World), Sl 69 [(1, (fdp b3 0)), (4, v22), (6, v36), (42, (Value.bool p76))] a → Mem Nob w0 w [(true, bx b3 24 [(Value.int IntKind.i64 p0_aG_Size), p0_aG_Rowsv]), (false, rd p0_aG_Rowsv (List.map (Value.int IntKind.i64) p0_aG_Rows)), (true, mx 22 3 v22 hs23 (List.map (List.map (Value.int IntKind.i64)) r21)), (true, mx 22 3 v36 hs37 (List.map (List.map (Value.int IntKind.i64)) r35))] → S_laws_FnExactEdgesOf_j1 F p0_aG_Size p0_aG_Rows r21 r35 p76 = some r → K74 a w := by
          intro p76 a w hS hM hF
          unfold S_laws_FnExactEdgesOf_j1 at hF
          refine hK74 _ _ ?_
          rcases ite_some hF with ⟨hc, hF⟩ | ⟨hc, hF⟩
          · refine cond_t hS rfl hc ?_
            refine wp_seq_k fun K77 hK77 => ?_
            refine wp_region_lit ?_
            refine st_val hS rfl rfl (by decide) (rv_assign (hS.ev rfl)) fun a hS => ?_
            refine wpList_nil ?_
            refine hK77 _ _ ?_
            refine wp_ret ?_
            cases hF
            exact hQr _ _ (r_1 hS rfl rfl ⟨rfl, hM.pick [] (by decide) rfl⟩)
          · refine cond_f hS rfl hc ?_
            refine wp_skip ?_
            refine hK68 _ _ ?_
            refine wp_seq_k fun K78 hK78 => ?_
            refine wp_region_lit ?_
            refine st_val hS rfl rfl (by decide) (rv_assign (hS.ev rfl)) fun a hS => ?_
            refine wpList_nil ?_
            refine hK78 _ _ ?_
            refine wp_seq_k fun K79 hK79 => ?_
            refine wp_region_lit ?_
            refine st_val hS rfl rfl (by decide) (rv_move (hS.ev rfl)) fun a hS => ?_
            refine st_val hS rfl rfl (by decide) (rv_move (hS.ev rfl)) fun a hS => ?_
            obtain ⟨r81, hr, hF⟩ := bind_some hF
            have hM := hM.pick [3, 0, 1, 2] (by decide) rfl
            have hP := Mem.pre (A := [(true, mx 22 3 v36 hs37 (List.map (List.map (Value.int IntKind.i64)) r35))]) (C := []) (B := [(true, bx b3 24 [(Value.int IntKind.i64 p0_aG_Size), p0_aG_Rowsv]), (false, rd p0_aG_Rowsv (List.map (Value.int IntKind.i64) p0_aG_Rows)), (true, mx 22 3 v22 hs23 (List.map (List.map (Value.int IntKind.i64)) r21))]) hM rfl weaks_nil
            refine st_wp hS rfl (wp_call hS rfl rfl (by decide) fn_ok_45 rfl (c_laws_markIntSS F r35 1 v36 hs37 hr _ hP) fun v w a hK hS => ?_)
            obtain ⟨rfl, hN⟩ := hK
            have hM := Mem.callo (A := [(true, mx 22 3 v36 hs37 (List.map (List.map (Value.int IntKind.i64)) r35))]) (B := [(true, bx b3 24 [(Value.int IntKind.i64 p0_aG_Size), p0_aG_Rowsv]), (false, rd p0_aG_Rowsv (List.map (Value.int IntKind.i64) p0_aG_Rows)), (true, mx 22 3 v22 hs23 (List.map (List.map (Value.int IntKind.i64)) r21))]) hM rfl hN rfl
            refine st_val hS rfl rfl (by decide) (rv_assign (hS.ev rfl)) fun a hS => ?_
            refine wpList_nil ?_
            refine hK79 _ _ ?_
            refine wp_seq_k fun K82 hK82 => ?_
            refine wp_region_lit ?_
            refine st_val hS rfl rfl (by decide) (rv_assign (hS.ev rfl)) fun a hS => ?_
            refine wpList_nil ?_
            refine hK82 _ _ ?_
            refine wp_seq_k fun K83 hK83 => ?_
            refine wp_region_lit ?_
            refine st_val hS rfl rfl (by decide) (rv_move (hS.ev rfl)) fun a hS => ?_
            refine st_val hS rfl rfl (by decide) (rv_move (hS.ev rfl)) fun a hS => ?_
            obtain ⟨r85, hr, hF⟩ := bind_some hF
            refine st_wp hS rfl (wp_call hS rfl rfl (by decide) fn_ok_46 rfl (c_laws_heldIntSS F r81.2 1 v36 hs37 hr _ (hM.get 0 rfl)) fun v w a hK hS => ?_)
            obtain ⟨rfl, hN⟩ := hK
            have hM := hM.fra hN.fr
            refine st_val hS rfl rfl (by decide) (rv_assign (hS.ev rfl)) fun a hS => ?_
            refine wpList_nil ?_
            refine hK83 _ _ ?_
            refine wp_seq_k fun K86 hK86 => ?_
            refine wp_seq_k fun K89 hK89 => ?_
            refine wp_region_lit ?_
            refine st_val hS rfl rfl (by decide) (rv_move (hS.ev rfl)) fun a hS => ?_
            refine st_val hS rfl rfl (by decide) (rv_lss (hS.ev rfl) (hS.ev rfl)) fun a hS => ?_
            refine wpList_nil ?_
            refine hK89 _ _ ?_
            rcases ite_some hF with ⟨hc, hF⟩ | ⟨hc, hF⟩
            · refine cond_t hS rfl hc ?_
              refine wp_seq_k fun K90 hK90 => ?_
              refine wp_region_lit ?_
              refine st_val hS rfl rfl (by decide) (rv_assign (hS.ev rfl)) fun a hS => ?_
              refine wpList_nil ?_
              refine hK90 _ _ ?_
              refine wp_ret ?_
              cases hF
              exact hQr _ _ (r_1 hS rfl rfl ⟨rfl, hM.pick [] (by decide) rfl⟩)
            · refine cond_f hS rfl hc ?_
              refine wp_skip ?_
              refine hK86 _ _ ?_
              refine wp_seq_k fun K91 hK91 => ?_
              refine wp_seq_k fun K94 hK94 => ?_
              refine wp_region_lit ?_
              refine st_val hS rfl rfl (by decide) (rv_move (hS.ev rfl)) fun a hS => ?_
              refine st_val hS rfl rfl (by decide) (rv_move (hS.ev rfl)) fun a hS => ?_
              refine st_val hS rfl rfl (by decide) (rv_neq (hS.ev rfl) (hS.ev rfl)) fun a hS => ?_
              refine wpList_nil ?_
              refine hK94 _ _ ?_
              rcases ite_some hF with ⟨hc, hF⟩ | ⟨hc, hF⟩
              · refine cond_t hS rfl hc ?_
                refine wp_seq_k fun K95 hK95 => ?_
                refine wp_region_lit ?_
                refine st_val hS rfl rfl (by decide) (rv_assign (hS.ev rfl)) fun a hS => ?_
                refine wpList_nil ?_
                refine hK95 _ _ ?_
                refine wp_ret ?_
                cases hF
                exact hQr _ _ (r_1 hS rfl rfl ⟨rfl, hM.pick [] (by decide) rfl⟩)
              · refine cond_f hS rfl hc ?_
                refine wp_skip ?_
                refine hK91 _ _ ?_
                refine wp_seq_k fun K96 hK96 => ?_
                refine wp_region_lit ?_
                refine st_val hS rfl rfl (by decide) (rv_load_agg (hS.ev rfl) ty_ag_24 (hM.get 1 rfl) ty_sz_24) fun a hS => ?_
                obtain ⟨r102, hr, hF⟩ := bind_some hF
                refine st_wp hS rfl (wp_call hS rfl rfl (by decide) fn_ok_17 rfl (c_laws_toGraph F p0_aG_Size p0_aG_Rows p0_aG_Rowsv hr _ (hM.get 2 rfl)) fun v w a hK hS => ?_)
                obtain ⟨v103, rfl, hN⟩ := hK
                have hM := hM.add hN rfl
                obtain ⟨r104, hr, hF⟩ := bind_some hF
                refine st_wp hS rfl (wp_call hS rfl rfl (by decide) fn_ok_43 rfl (c_impl_EdgesOf F r102.1 r102.2 v103 hr _ (rd_of_ow (hM.get 0 rfl))) fun v w a hK hS => ?_)
                obtain ⟨v105, hs106, hv0, hN⟩ := hK
                subst v
                have hM := hM.add hN rfl
                refine st_val hS rfl rfl (by decide) (rv_assign (hS.ev rfl)) fun a hS => ?_
                refine wpList_nil ?_
                refine hK96 _ _ ?_
                refine wp_seq_k fun K107 hK107 => ?_
                refine wp_seq_k fun K112 hK112 => ?_
                refine wp_region_lit ?_
                refine st_val hS rfl rfl (by decide) (rv_move (hS.ev rfl)) fun a hS => ?_
                refine st_val hS rfl rfl (by decide) (rv_move (hS.ev rfl)) fun a hS => ?_
                obtain ⟨r114, hr, hF⟩ := bind_some hF
                refine st_wp hS rfl (wp_call hS rfl rfl (by decide) fn_ok_44 rfl (c_laws_eqIntSS F r104 r21 v105 hs106 v22 hs23 hr _ (hM.get 0 rfl) (hM.get 5 rfl)) fun v w a hK hS => ?_)
                obtain ⟨rfl, hN⟩ := hK
                have hM := hM.fra hN.fr
                refine st_val hS rfl rfl (by decide) (rv_not (hS.ev rfl)) fun a hS => ?_
                refine wpList_nil ?_
                refine hK112 _ _ ?_
                rcases ite_some hF with ⟨hc, hF⟩ | ⟨hc, hF⟩
                · refine cond_t hS rfl hc ?_
                  refine wp_seq_k fun K115 hK115 => ?_
                  refine wp_region_lit ?_
                  refine st_val hS rfl rfl (by decide) (rv_assign (hS.ev rfl)) fun a hS => ?_
                  refine wpList_nil ?_
                  refine hK115 _ _ ?_
                  refine wp_ret ?_
                  cases hF
                  exact hQr _ _ (r_1 hS rfl rfl ⟨rfl, hM.pick [] (by decide) rfl⟩)
                · refine cond_f hS rfl hc ?_
                  refine wp_skip ?_
                  refine hK107 _ _ ?_
                  refine wp_seq_k fun K116 hK116 => ?_
                  refine wp_region_lit ?_
                  refine st_val hS rfl rfl (by decide) (rv_assign (hS.ev rfl)) fun a hS => ?_
                  refine wpList_nil ?_
                  refine hK116 _ _ ?_
                  refine wp_seq_k fun K117 hK117 => ?_
                  refine wp_region_lit ?_
                  refine st_val hS rfl rfl (by decide) (rv_move (hS.ev rfl)) fun a hS => ?_
                  refine st_val hS rfl rfl (by decide) (rv_move (hS.ev rfl)) fun a hS => ?_
                  obtain ⟨r119, hr, hF⟩ := bind_some hF
                  refine st_wp hS rfl (wp_call hS rfl rfl (by decide) fn_ok_46 rfl (c_laws_heldIntSS F r81.2 1 v36 hs37 hr _ (hM.get 2 rfl)) fun v w a hK hS => ?_)
                  obtain ⟨rfl, hN⟩ := hK
                  have hM := hM.fra hN.fr
                  refine st_val hS rfl rfl (by decide) (rv_assign (hS.ev rfl)) fun a hS => ?_
                  refine wpList_nil ?_
                  refine hK117 _ _ ?_
                  refine wp_seq_k fun K120 hK120 => ?_
                  refine wp_seq_k fun K123 hK123 => ?_
                  refine wp_region_lit ?_
                  refine st_val hS rfl rfl (by decide) (rv_move (hS.ev rfl)) fun a hS => ?_
                  refine st_val hS rfl rfl (by decide) (rv_lss (hS.ev rfl) (hS.ev rfl)) fun a hS => ?_
                  refine wpList_nil ?_
                  refine hK123 _ _ ?_
                  rcases ite_some hF with ⟨hc, hF⟩ | ⟨hc, hF⟩
                  · refine cond_t hS rfl hc ?_
                    refine wp_seq_k fun K124 hK124 => ?_
                    refine wp_region_lit ?_
                    refine st_val hS rfl rfl (by decide) (rv_assign (hS.ev rfl)) fun a hS => ?_
                    refine wpList_nil ?_
                    refine hK124 _ _ ?_
                    refine wp_ret ?_
                    cases hF
                    exact hQr _ _ (r_1 hS rfl rfl ⟨rfl, hM.pick [] (by decide) rfl⟩)
                  · refine cond_f hS rfl hc ?_
                    refine wp_skip ?_
                    refine hK120 _ _ ?_
                    refine wp_seq_k fun K125 hK125 => ?_
                    refine wp_seq_k fun K128 hK128 => ?_
                    refine wp_region_lit ?_
                    refine st_val hS rfl rfl (by decide) (rv_move (hS.ev rfl)) fun a hS => ?_
                    refine st_val hS rfl rfl (by decide) (rv_move (hS.ev rfl)) fun a hS => ?_
                    refine st_val hS rfl rfl (by decide) (rv_neq (hS.ev rfl) (hS.ev rfl)) fun a hS => ?_
                    refine wpList_nil ?_
                    refine hK128 _ _ ?_
                    rcases ite_some hF with ⟨hc, hF⟩ | ⟨hc, hF⟩
                    · refine cond_t hS rfl hc ?_
                      refine wp_seq_k fun K129 hK129 => ?_
                      refine wp_region_lit ?_
                      refine st_val hS rfl rfl (by decide) (rv_assign (hS.ev rfl)) fun a hS => ?_
                      refine wpList_nil ?_
                      refine hK129 _ _ ?_
                      refine wp_ret ?_
                      cases hF
                      exact hQr _ _ (r_1 hS rfl rfl ⟨rfl, hM.pick [] (by decide) rfl⟩)
                    · refine cond_f hS rfl hc ?_
                      refine wp_skip ?_
                      refine hK125 _ _ ?_
                      refine wp_seq_k fun K130 hK130 => ?_
                      refine wp_region_lit ?_
                      refine st_val hS rfl rfl (by decide) (rv_assign (hS.ev rfl)) fun a hS => ?_
                      refine wpList_nil ?_
                      refine hK130 _ _ ?_
                      refine wp_ret ?_
                      cases hF
                      exact hQr _ _ (r_1 hS rfl rfl ⟨rfl, hM.pick [] (by decide) rfl⟩)
        refine wp_region_lit ?_
        refine st_val hS rfl rfl (by decide) (rv_move (hS.ev rfl)) fun a hS => ?_
        refine st_val hS rfl rfl (by decide) (rv_lss (hS.ev rfl) (hS.ev rfl)) fun a hS => ?_
        refine st_val hS rfl rfl (by decide) (rv_move (hS.ev rfl)) fun a hS => ?_
        rcases ite_some hF with ⟨hc, hF⟩ | ⟨hc, hF⟩
        · have hS := hS.setb (t := 37) rfl hc
          refine st_skip hS rfl rfl (by decide) fun a hS => ?_
          refine st_skip hS rfl rfl (by decide) fun a hS => ?_
          refine st_skip hS rfl rfl (by decide) fun a hS => ?_
          refine st_skip hS rfl rfl (by decide) fun a hS => ?_
          refine st_val hS rfl rfl (by decide) (rv_pick_t (hS.ev rfl) (hS.ev rfl)) fun a hS => ?_
          refine wpList_nil ?_
          exact hJ1 true _ _ (hS.sub (sub_cons rfl (sub_cons rfl (sub_cons rfl (sub_cons rfl sub_nil))))) (hM.pick [7, 8, 5, 2] (by decide) rfl) hF
        · have hS := hS.setb (t := 37) rfl hc
          refine st_val hS rfl rfl (by decide) (rv_move (hS.ev rfl)) fun a hS => ?_
          refine st_val hS rfl rfl (by decide) (rv_move (hS.ev rfl)) fun a hS => ?_
          obtain ⟨r131, hr, hF⟩ := bind_some hF
          refine st_wp hS rfl (wp_call hS rfl rfl (by decide) fn_ok_44 rfl (c_laws_eqIntSS F r35 r21 v36 hs37 v22 hs23 hr _ (hM.get 2 rfl) (hM.get 5 rfl)) fun v w a hK hS => ?_)
          obtain ⟨rfl, hN⟩ := hK
          have hM := hM.fra hN.fr
          refine st_val hS rfl rfl (by decide) (rv_not (hS.ev rfl)) fun a hS => ?_
          refine st_val hS rfl rfl (by decide) (rv_pick_f (hS.ev rfl) (hS.ev rfl)) fun a hS => ?_
          refine wpList_nil ?_
          exact hJ1 (!r131) _ _ (hS.sub (sub_cons rfl (sub_cons rfl (sub_cons rfl (sub_cons rfl sub_nil))))) (hM.pick [7, 8, 5, 2] (by decide) rfl) hF


end Go.Proofs.Ytfhjmoikggiblaa
