/- Proved here: that each Go function does what its shallow function says -/
import Derived.Test.YtdalcpadcggklaaDoorSh
import Derived.Test.YtdalcpadcggklaaDoorTy
import Derived.Test.YtdalcpadcggklaaDoorK13
import Derived.Test.YtdalcpadcggklaaDoorKS
import Derived.Test.YtdalcpadcggklaaDoorW0
import Derived.Test.YtdalcpadcggklaaDoorW1
namespace Go.Proofs.YtdalcpadcggklaaDoor
open Go Go.RowKit
set_option linter.unusedVariables false
set_option linter.unusedSimpArgs false
set_option maxRecDepth 100000
set_option maxHeartbeats 40000000

open Go.IntKind (i64)
open Go.Value (int)
theorem c_spec_l2Random (F : Nat) (p0_c_b : List Int) (p0_c_i : Int) (p0_c_h : Int) (p1_n : Int) (p2_odd : Int) (p0_c_bv : Value) (p0_cb : Nat) {r : Int × (List (Int)) × Int × Int} (hF : S_spec_l2Random F p0_c_b p0_c_i p0_c_h p1_n p2_odd = some r) (w0 : World) (hM : Mem (feet [(true, bx p0_cb 84 [p0_c_bv, (int i64 p0_c_i), (int i64 p0_c_h)])]) w0 w0 [(true, bx p0_cb 84 [p0_c_bv, (int i64 p0_c_i), (int i64 p0_c_h)]), (false, rd p0_c_bv (List.map (int IntKind.u8) p0_c_b))]) :
    Calls Tryd.prog 97 [(fdp p0_cb 0), (int i64 p1_n), (int i64 p2_odd)].toArray w0 (retPost fun v w' => ∃ v866, v = (Value.agg #[(int i64 r.1), v866]) ∧ Mem (feet [(true, bx p0_cb 84 [p0_c_bv, (int i64 p0_c_i), (int i64 p0_c_h)])]) w0 w' [(true, bx p0_cb 84 [p0_c_bv, (int i64 r.2.2.1), (int i64 r.2.2.2)]), (true, ow 3 v866 (List.map (int i64) r.2.1))]) := by
 have hM := hM.pick [1, 0] (by decide) rfl
 refine enter2 Tryd.func97 rfl rfl rfl fun Q a hQr hQn hQp hS => ?_
 have hS : Sl 38 [(0, (fdp p0_cb 0)), (1, (int i64 p1_n)), (2, (int i64 p2_odd))] a := hS
 unfold S_spec_l2Random at hF
 refine wp_seq_k fun K1 hK1 => ?_
 refine wp_region_lit ?_
 obtain ⟨b3, w, hr, hM⟩ := hM.allocE (ρ := a.eval) (dst := some 6) (ty := _) (pos := _) (af := _) (gd := _) (T := 26) (P := Tryd.prog) [(int i64 0), (Value.slice none 0 0)] ty_zr_26 rfl
 refine st_val hS rfl rfl (by decide) hr fun a hS => ?_
 have hM := hM.addNil 3
 refine wpList_nil ?_
 refine hK1 _ _ ?_
 refine wp_seq_k fun K4 hK4 => ?_
 refine wp_region_lit ?_
 refine st_val hS rfl rfl (by decide) (rv_move (hS.ev rfl)) fun a hS => ?_
 refine st_val hS rfl rfl (by decide) (rv_move (hS.ev rfl)) fun a hS => ?_
 obtain ⟨_, hx, hF⟩ := bind_some hF
 obtain ⟨v7, w, hr, hM⟩ := hM.makeE (f := (int i64)) (c := (0 : Int)) (ρ := a.eval) (dst := some 12) (ty := _) (pos := _) (af := _) (gd := _) (x := .tmp 11) (y := .tmp 11) Tryd.underlying24 ty_el_3 i64_one (by decide) (hS.ev rfl) (hS.ev rfl) (mkO_some hx)
 refine st_val hS rfl rfl (by decide) hr fun a hS => ?_
 refine st_val hS rfl rfl (by decide) (rv_build hS ty_st_26 rfl (by simp) (ones_cons (by rw [hS.ev (v := (int i64 p1_n)) rfl]; rfl) (ones_cons (by rw [hS.ev (v := v7) rfl]; exact rd_one (rd_of_ow (hM.get 0 rfl))) ones_nil))) fun a hS => ?_
 obtain ⟨b8, w, hr, hM⟩ := hM.allocE (ρ := a.eval) (dst := some 7) (ty := _) (pos := _) (af := _) (gd := _) (T := 26) (P := Tryd.prog) [(int i64 0), (Value.slice none 0 0)] ty_zr_26 rfl
 refine st_val hS rfl rfl (by decide) hr fun a hS => ?_
 have hM := hM.addNil 3
 have hM := hM.pick [1, 0, 2, 3, 4, 5, 6] (by decide) rfl
 obtain ⟨w, hr, hM⟩ := hM.st_agg (us := [(int i64 p1_n), v7]) (ρ := a.eval) (dst := none) (ty := _) (pos := _) (af := _) (gd := _) (x := .tmp 7) (y := .tmp 13) (hS.ev rfl) (hS.ev rfl) ty_sz_26 (all1_cons rfl (all1_cons (rd_one (rd_of_ow (hM.get 2 rfl))) all1_nil)) rfl
 refine st_unit hS rfl rfl hr ?_
 refine wpList_nil ?_
 refine hK4 _ _ ?_
 refine wp_seq_k fun K9 hK9 => ?_
 have hJ1 : ∀ (x435 : Int) (l437 : List Int) (x438 : Int) (x439 : Int) (v436 : Value) (a : Act) (w : World), Sl 38 [(6, (fdp b3 0)), (7, (fdp b8 0))] a → Mem (feet [(true, bx p0_cb 84 [p0_c_bv, (int i64 p0_c_i), (int i64 p0_c_h)])]) w0 w [(true, bx b3 26 [(int i64 0), (Value.slice none 0 0)]), (true, ow 3 (Value.slice none 0 0) (List.map (int i64) ([] : List (Int)))), (true, bx b8 26 [(int i64 x435), v436]), (true, ow 3 v436 (List.map (int i64) l437)), (true, bx p0_cb 84 [p0_c_bv, (int i64 x438), (int i64 x439)]), (false, rd p0_c_bv (List.map (int IntKind.u8) p0_c_b))] → S_spec_l2Random_j1 F x435 l437 x438 x439 = some r → K9 a w := by
  intro x435 l437 x438 x439 v436 a w hS hM hF
  unfold S_spec_l2Random_j1 at hF
  refine hK9 _ _ ?_
  refine wp_seq_k fun K440 hK440 => ?_
  refine wp_region_lit ?_
  refine st_val hS rfl rfl (by decide) (rv_load_agg (hS.ev rfl) ty_ag_26 (hM.get 2 rfl) ty_sz_26) fun a hS => ?_
  obtain ⟨w, hr, hM⟩ := hM.st_agg (us := [(int i64 x435), v436]) (ρ := a.eval) (dst := none) (ty := _) (pos := _) (af := _) (gd := _) (x := .tmp 6) (y := .tmp 37) (hS.ev rfl) (hS.ev rfl) ty_sz_26 (all1_cons rfl (all1_cons (rd_one (rd_of_ow (hM.get 3 rfl))) all1_nil)) rfl
  refine st_unit hS rfl rfl hr ?_
  refine wpList_nil ?_
  refine hK440 _ _ ?_
  refine wp_ret ?_
  cases hF
  exact hQr _ _ (r_c hS rfl ⟨_, rfl, run_loadAgg ty_ag_26 (hM.get 0 rfl) ty_sz_26⟩ ⟨v436, rfl, hM.pick [4, 3] (by decide) rfl⟩)
 refine wp_seq_k fun K441 hK441 => ?_
 refine wp_region_lit ?_
 refine st_val hS rfl rfl (by decide) (rv_assign (hS.ev rfl)) fun a hS => ?_
 refine wpList_nil ?_
 refine hK441 _ _ ?_
 refine wp_block ?_
 obtain ⟨lb2, hl2, hF2⟩ := bind_some hF
 refine wp_loop_sh (fun s => S_spec_l2Random_l2 F p0_c_b p1_n p2_odd s.1 s.2.1 s.2.2.1 s.2.2.2.1 s.2.2.2.2) (fun s a w => ∃ (v585 : Value), Sl 38 [(0, (fdp p0_cb 0)), (1, (int i64 p1_n)), (2, (int i64 p2_odd)), (6, (fdp b3 0)), (7, (fdp b8 0)), (8, (int i64 s.2.2.2.2))] a ∧ Mem (feet [(true, bx p0_cb 84 [p0_c_bv, (int i64 p0_c_i), (int i64 p0_c_h)])]) w0 w [(true, bx p0_cb 84 [p0_c_bv, (int i64 s.1), (int i64 s.2.1)]), (false, rd p0_c_bv (List.map (int IntKind.u8) p0_c_b)), (true, bx b3 26 [(int i64 0), (Value.slice none 0 0)]), (true, ow 3 (Value.slice none 0 0) (List.map (int i64) ([] : List (Int)))), (true, bx b8 26 [(int i64 s.2.2.1), v585]), (true, ow 3 v585 (List.map (int i64) s.2.2.2.1))]) hl2 ⟨v7, (hS.sub (sub_cons rfl (sub_cons rfl (sub_cons rfl (sub_cons rfl (sub_cons rfl (sub_cons rfl sub_nil))))))), (hM.pick [6, 5, 4, 3, 0, 2] (by decide) rfl)⟩ ?_
 rintro K2 ⟨x582, x583, x584, l586, x587⟩ a w res2 ⟨v585, hS, hM⟩ hF hN2 hX2
 have hF : S_spec_l2Random_l2 F p0_c_b p1_n p2_odd x582 x583 x584 l586 x587 = some res2 := hF
 have hS : Sl 38 [(0, (fdp p0_cb 0)), (1, (int i64 p1_n)), (2, (int i64 p2_odd)), (6, (fdp b3 0)), (7, (fdp b8 0)), (8, (int i64 x587))] a := hS
 have hM : Mem (feet [(true, bx p0_cb 84 [p0_c_bv, (int i64 p0_c_i), (int i64 p0_c_h)])]) w0 w [(true, bx p0_cb 84 [p0_c_bv, (int i64 x582), (int i64 x583)]), (false, rd p0_c_bv (List.map (int IntKind.u8) p0_c_b)), (true, bx b3 26 [(int i64 0), (Value.slice none 0 0)]), (true, ow 3 (Value.slice none 0 0) (List.map (int i64) ([] : List (Int)))), (true, bx b8 26 [(int i64 x584), v585]), (true, ow 3 v585 (List.map (int i64) l586))] := hM
 unfold S_spec_l2Random_l2 at hF
 refine wp_seq_k fun K727 hK727 => ?_
 refine wp_seq_k fun K729 hK729 => ?_
 refine wp_region_lit ?_
 refine st_val hS rfl rfl (by decide) (rv_move (hS.ev rfl)) fun a hS => ?_
 refine st_val hS rfl rfl (by decide) (rv_move (hS.ev rfl)) fun a hS => ?_
 refine st_val hS rfl rfl (by decide) (rv_lss (hS.ev rfl) (hS.ev rfl)) fun a hS => ?_
 refine wpList_nil ?_
 refine hK729 _ _ ?_
 rcases ite_some hF with ⟨hc, hF⟩ | ⟨hc, hF⟩
 ·refine cond_t hS rfl hc ?_
  refine wp_skip ?_
  refine hK727 _ _ ?_
  refine wp_seq_k fun K730 hK730 => ?_
  have hJ3 : ∀ (x796 : Int) (x797 : Int) (x798 : Int) (l800 : List Int) (v799 : Value) (a : Act) (w : World), Sl 38 [(0, (fdp p0_cb 0)), (1, (int i64 p1_n)), (2, (int i64 p2_odd)), (6, (fdp b3 0)), (7, (fdp b8 0)), (8, (int i64 x587))] a → Mem (feet [(true, bx p0_cb 84 [p0_c_bv, (int i64 p0_c_i), (int i64 p0_c_h)])]) w0 w [(true, bx p0_cb 84 [p0_c_bv, (int i64 x796), (int i64 x797)]), (false, rd p0_c_bv (List.map (int IntKind.u8) p0_c_b)), (true, bx b3 26 [(int i64 0), (Value.slice none 0 0)]), (true, ow 3 (Value.slice none 0 0) (List.map (int i64) ([] : List (Int)))), (true, bx b8 26 [(int i64 x798), v799]), (true, ow 3 v799 (List.map (int i64) l800))] → S_spec_l2Random_j3 F x587 x796 x797 x798 l800 = some res2 → K730 a w := by
   intro x796 x797 x798 l800 v799 a w hS hM hF
   unfold S_spec_l2Random_j3 at hF
   refine hK730 _ _ ?_
   refine wp_region_lit ?_
   refine st_val hS rfl rfl (by decide) (rv_move (hS.ev rfl)) fun a hS => ?_
   refine st_val hS rfl rfl (by decide) (rv_add (hS.ev rfl) (hS.ev rfl)) fun a hS => ?_
   refine st_val hS rfl rfl (by decide) (rv_assign (hS.ev rfl)) fun a hS => ?_
   refine wpList_nil ?_
   cases hF
   exact hN2 _ _ _ rfl ⟨v799, (hS.sub (sub_cons rfl (sub_cons rfl (sub_cons rfl (sub_cons rfl (sub_cons rfl (sub_cons rfl sub_nil))))))), (hM.pick [0, 1, 2, 3, 4, 5] (by decide) rfl)⟩
  refine wp_block ?_
  refine wp_seq_k fun K801 hK801 => ?_
  refine wp_region_lit ?_
  refine st_val hS rfl rfl (by decide) (rv_move (hS.ev rfl)) fun a hS => ?_
  refine st_val hS rfl rfl (by decide) (rv_add (hS.ev rfl) (hS.ev rfl)) fun a hS => ?_
  refine st_val hS rfl rfl (by decide) (rv_assign (hS.ev rfl)) fun a hS => ?_
  refine wpList_nil ?_
  refine hK801 _ _ ?_
  refine wp_block ?_
  obtain ⟨lb4, hl4, hF4⟩ := bind_some hF
  refine wp_loop_sh (fun s => S_spec_l2Random_l4 F p0_c_b p1_n p2_odd x587 s.1 s.2.1 s.2.2.1 s.2.2.2.1 s.2.2.2.2) (fun s a w => ∃ (v825 : Value), Sl 38 [(0, (fdp p0_cb 0)), (1, (int i64 p1_n)), (2, (int i64 p2_odd)), (6, (fdp b3 0)), (7, (fdp b8 0)), (8, (int i64 x587)), (9, (int i64 s.2.2.2.2))] a ∧ Mem (feet [(true, bx p0_cb 84 [p0_c_bv, (int i64 p0_c_i), (int i64 p0_c_h)])]) w0 w [(true, bx p0_cb 84 [p0_c_bv, (int i64 s.1), (int i64 s.2.1)]), (false, rd p0_c_bv (List.map (int IntKind.u8) p0_c_b)), (true, bx b3 26 [(int i64 0), (Value.slice none 0 0)]), (true, ow 3 (Value.slice none 0 0) (List.map (int i64) ([] : List (Int)))), (true, bx b8 26 [(int i64 s.2.2.1), v825]), (true, ow 3 v825 (List.map (int i64) s.2.2.2.1))]) hl4 ⟨v585, (hS.sub (sub_cons rfl (sub_cons rfl (sub_cons rfl (sub_cons rfl (sub_cons rfl (sub_cons rfl (sub_cons rfl sub_nil)))))))), (hM.pick [0, 1, 2, 3, 4, 5] (by decide) rfl)⟩ ?_
  rintro K4 ⟨x822, x823, x824, l826, x827⟩ a w res4 ⟨v825, hS, hM⟩ hF hN4 hX4
  have hF : S_spec_l2Random_l4 F p0_c_b p1_n p2_odd x587 x822 x823 x824 l826 x827 = some res4 := hF
  have hS : Sl 38 [(0, (fdp p0_cb 0)), (1, (int i64 p1_n)), (2, (int i64 p2_odd)), (6, (fdp b3 0)), (7, (fdp b8 0)), (8, (int i64 x587)), (9, (int i64 x827))] a := hS
  have hM : Mem (feet [(true, bx p0_cb 84 [p0_c_bv, (int i64 p0_c_i), (int i64 p0_c_h)])]) w0 w [(true, bx p0_cb 84 [p0_c_bv, (int i64 x822), (int i64 x823)]), (false, rd p0_c_bv (List.map (int IntKind.u8) p0_c_b)), (true, bx b3 26 [(int i64 0), (Value.slice none 0 0)]), (true, ow 3 (Value.slice none 0 0) (List.map (int i64) ([] : List (Int)))), (true, bx b8 26 [(int i64 x824), v825]), (true, ow 3 v825 (List.map (int i64) l826))] := hM
  unfold S_spec_l2Random_l4 at hF
  refine wp_seq_k fun K847 hK847 => ?_
  refine wp_seq_k fun K849 hK849 => ?_
  refine wp_region_lit ?_
  refine st_val hS rfl rfl (by decide) (rv_move (hS.ev rfl)) fun a hS => ?_
  refine st_val hS rfl rfl (by decide) (rv_move (hS.ev rfl)) fun a hS => ?_
  refine st_val hS rfl rfl (by decide) (rv_lss (hS.ev rfl) (hS.ev rfl)) fun a hS => ?_
  refine wpList_nil ?_
  refine hK849 _ _ ?_
  rcases ite_some hF with ⟨hc, hF⟩ | ⟨hc, hF⟩
  ·refine cond_t hS rfl hc ?_
   refine wp_skip ?_
   refine hK847 _ _ ?_
   refine wp_seq_k fun K850 hK850 => ?_
   have hJ5 : ∀ (x856 : Int) (x857 : Int) (x858 : Int) (l860 : List Int) (v859 : Value) (a : Act) (w : World), Sl 38 [(0, (fdp p0_cb 0)), (1, (int i64 p1_n)), (2, (int i64 p2_odd)), (6, (fdp b3 0)), (7, (fdp b8 0)), (8, (int i64 x587)), (9, (int i64 x827))] a → Mem (feet [(true, bx p0_cb 84 [p0_c_bv, (int i64 p0_c_i), (int i64 p0_c_h)])]) w0 w [(true, bx p0_cb 84 [p0_c_bv, (int i64 x856), (int i64 x857)]), (false, rd p0_c_bv (List.map (int IntKind.u8) p0_c_b)), (true, bx b3 26 [(int i64 0), (Value.slice none 0 0)]), (true, ow 3 (Value.slice none 0 0) (List.map (int i64) ([] : List (Int)))), (true, bx b8 26 [(int i64 x858), v859]), (true, ow 3 v859 (List.map (int i64) l860))] → S_spec_l2Random_j5 F x827 x856 x857 x858 l860 = some res4 → K850 a w := by
    intro x856 x857 x858 l860 v859 a w hS hM hF
    unfold S_spec_l2Random_j5 at hF
    refine hK850 _ _ ?_
    refine wp_region_lit ?_
    refine st_val hS rfl rfl (by decide) (rv_move (hS.ev rfl)) fun a hS => ?_
    refine st_val hS rfl rfl (by decide) (rv_add (hS.ev rfl) (hS.ev rfl)) fun a hS => ?_
    refine st_val hS rfl rfl (by decide) (rv_assign (hS.ev rfl)) fun a hS => ?_
    refine wpList_nil ?_
    cases hF
    exact hN4 _ _ _ rfl ⟨v859, (hS.sub (sub_cons rfl (sub_cons rfl (sub_cons rfl (sub_cons rfl (sub_cons rfl (sub_cons rfl (sub_cons rfl sub_nil)))))))), (hM.pick [0, 1, 2, 3, 4, 5] (by decide) rfl)⟩
   refine wp_block ?_
   refine wp_seq_k fun K861 hK861 => ?_
   refine wp_region_lit ?_
   refine st_val hS rfl rfl (by decide) (rv_move (hS.ev rfl)) fun a hS => ?_
   obtain ⟨r863, hr, hF⟩ := bind_some hF
   have hM := hM.pick [0, 1, 2, 3, 4, 5] (by decide) rfl
   have hP := Mem.pre (A := [(true, bx p0_cb 84 [p0_c_bv, (int i64 x822), (int i64 x823)])]) (C := [(false, rd p0_c_bv (List.map (int IntKind.u8) p0_c_b))]) (B := [(true, bx b3 26 [(int i64 0), (Value.slice none 0 0)]), (true, ow 3 (Value.slice none 0 0) (List.map (int i64) ([] : List (Int)))), (true, bx b8 26 [(int i64 x824), v825]), (true, ow 3 v825 (List.map (int i64) l826))]) hM rfl (weaks_cons (weak_self _ _) weaks_nil)
   refine st_wp hS rfl (wp_call hS rfl rfl (by decide) fn_ok_72 rfl (c_spec_l1Below F p0_c_b x822 x823 10 p0_c_bv p0_cb hr _ hP) fun v w a hK hS => ?_)
   obtain ⟨rfl, hN⟩ := hK
   have hM := Mem.callo (A := [(true, bx p0_cb 84 [p0_c_bv, (int i64 x822), (int i64 x823)])]) (B := [(false, rd p0_c_bv (List.map (int IntKind.u8) p0_c_b)), (true, bx b3 26 [(int i64 0), (Value.slice none 0 0)]), (true, ow 3 (Value.slice none 0 0) (List.map (int i64) ([] : List (Int)))), (true, bx b8 26 [(int i64 x824), v825]), (true, ow 3 v825 (List.map (int i64) l826))]) hM rfl hN rfl
   refine st_val hS rfl rfl (by decide) (rv_move (hS.ev rfl)) fun a hS => ?_
   refine st_val hS rfl rfl (by decide) (rv_lss (hS.ev rfl) (hS.ev rfl)) fun a hS => ?_
   refine wpList_nil ?_
   refine hK861 _ _ ?_
   rcases ite_some hF with ⟨hc, hF⟩ | ⟨hc, hF⟩
   ·refine cond_t hS rfl hc ?_
    refine wp_region_lit ?_
    refine st_val hS rfl rfl (by decide) (rv_load_agg (hS.ev rfl) ty_ag_26 (hM.get 4 rfl) ty_sz_26) fun a hS => ?_
    refine st_val hS rfl rfl (by decide) (rv_move (hS.ev rfl)) fun a hS => ?_
    refine st_val hS rfl rfl (by decide) (rv_move (hS.ev rfl)) fun a hS => ?_
    obtain ⟨r864, hr, hF⟩ := bind_some hF
    refine st_wp hS rfl (wp_call hS rfl rfl (by decide) fn_ok_44 rfl (c_spec_AddEdge F x824 l826 x587 x827 v825 hr _ (rd_of_ow (hM.get 5 rfl))) fun v w a hK hS => ?_)
    obtain ⟨v865, rfl, hN⟩ := hK
    have hM := hM.add hN rfl
    refine st_val hS rfl rfl (by decide) (rv_move (hS.ev rfl)) fun a hS => ?_
    refine st_val hS rfl rfl (by decide) (rv_extract (hS.ev rfl) rfl) fun a hS => ?_
    refine st_val hS rfl rfl (by decide) (rv_extract (hS.ev rfl) rfl) fun a hS => ?_
    have hM := hM.pick [5, 0, 1, 2, 3, 4, 6] (by decide) rfl
    obtain ⟨w, hr, hM⟩ := hM.st_agg (us := [(int i64 r864.1), v865]) (ρ := a.eval) (dst := none) (ty := _) (pos := _) (af := _) (gd := _) (x := .tmp 7) (y := .tmp 35) (hS.ev rfl) (hS.ev rfl) ty_sz_26 (all1_cons rfl (all1_cons (rd_one (rd_of_ow (hM.get 1 rfl))) all1_nil)) rfl
    refine st_unit hS rfl rfl hr ?_
    refine wpList_nil ?_
    exact hJ5 r863.2.1 r863.2.2 r864.1 r864.2.1 v865 _ _ (hS.sub (sub_cons rfl (sub_cons rfl (sub_cons rfl (sub_cons rfl (sub_cons rfl (sub_cons rfl (sub_cons rfl sub_nil)))))))) (hM.pick [2, 3, 4, 5, 0, 1] (by decide) rfl) hF
   ·refine cond_f hS rfl hc ?_
    refine wp_skip ?_
    exact hJ5 r863.2.1 r863.2.2 x824 l826 v825 _ _ (hS.sub (sub_cons rfl (sub_cons rfl (sub_cons rfl (sub_cons rfl (sub_cons rfl (sub_cons rfl (sub_cons rfl sub_nil)))))))) (hM.pick [0, 1, 2, 3, 4, 5] (by decide) rfl) hF
  ·refine cond_f hS rfl hc ?_
   refine wp_exit ?_
   cases hF
   exact hJ3 x822 x823 x824 l826 v825 _ _ (hS.sub (sub_cons rfl (sub_cons rfl (sub_cons rfl (sub_cons rfl (sub_cons rfl (sub_cons rfl sub_nil))))))) (hM.pick [0, 1, 2, 3, 4, 5] (by decide) rfl) (by have e := hX4 _ rfl; subst e; exact hF4)
 ·refine cond_f hS rfl hc ?_
  refine wp_exit ?_
  cases hF
  exact hJ1 x584 l586 x582 x583 v585 _ _ (hS.sub (sub_cons rfl (sub_cons rfl sub_nil))) (hM.pick [2, 3, 4, 5, 0, 1] (by decide) rfl) (by have e := hX2 _ rfl; subst e; exact hF2)


theorem c_spec_l2Draw (F : Nat) (p0_c_b : List Int) (p0_c_i : Int) (p0_c_h : Int) (p0_c_bv : Value) (p0_cb : Nat) {r : Int × (List (Int)) × Int × Int} (hF : S_spec_l2Draw F p0_c_b p0_c_i p0_c_h = some r) (w0 : World) (hM : Mem (feet [(true, bx p0_cb 84 [p0_c_bv, (int i64 p0_c_i), (int i64 p0_c_h)])]) w0 w0 [(true, bx p0_cb 84 [p0_c_bv, (int i64 p0_c_i), (int i64 p0_c_h)]), (false, rd p0_c_bv (List.map (int IntKind.u8) p0_c_b))]) :
    Calls Tryd.prog 93 [(fdp p0_cb 0)].toArray w0 (retPost fun v w' => ∃ v101, v = (Value.agg #[(int i64 r.1), v101]) ∧ Mem (feet [(true, bx p0_cb 84 [p0_c_bv, (int i64 p0_c_i), (int i64 p0_c_h)])]) w0 w' [(true, bx p0_cb 84 [p0_c_bv, (int i64 r.2.2.1), (int i64 r.2.2.2)]), (true, ow 3 v101 (List.map (int i64) r.2.1))]) := by
 have hM := hM.pick [1, 0] (by decide) rfl
 refine enter2 Tryd.func93 rfl rfl rfl fun Q a hQr hQn hQp hS => ?_
 have hS : Sl 47 [(0, (fdp p0_cb 0))] a := hS
 unfold S_spec_l2Draw at hF
 refine wp_seq_k fun K1 hK1 => ?_
 refine wp_region_lit ?_
 obtain ⟨b3, w, hr, hM⟩ := hM.allocE (ρ := a.eval) (dst := some 2) (ty := _) (pos := _) (af := _) (gd := _) (T := 26) (P := Tryd.prog) [(int i64 0), (Value.slice none 0 0)] ty_zr_26 rfl
 refine st_val hS rfl rfl (by decide) hr fun a hS => ?_
 have hM := hM.addNil 3
 refine wpList_nil ?_
 refine hK1 _ _ ?_
 refine wp_seq_k fun K4 hK4 => ?_
 refine wp_region_lit ?_
 refine st_val hS rfl rfl (by decide) (rv_move (hS.ev rfl)) fun a hS => ?_
 obtain ⟨r6, hr, hF⟩ := bind_some hF
 have hM := hM.pick [3, 2, 0, 1] (by decide) rfl
 have hP := Mem.pre (A := [(true, bx p0_cb 84 [p0_c_bv, (int i64 p0_c_i), (int i64 p0_c_h)])]) (C := [(false, rd p0_c_bv (List.map (int IntKind.u8) p0_c_b))]) (B := [(true, ow 3 (Value.slice none 0 0) (List.map (int i64) ([] : List (Int)))), (true, bx b3 26 [(int i64 0), (Value.slice none 0 0)])]) hM rfl (weaks_cons (weak_self _ _) weaks_nil)
 refine st_wp hS rfl (wp_call hS rfl rfl (by decide) fn_ok_72 rfl (c_spec_l1Below F p0_c_b p0_c_i p0_c_h 6 p0_c_bv p0_cb hr _ hP) fun v w a hK hS => ?_)
 obtain ⟨rfl, hN⟩ := hK
 have hM := Mem.callo (A := [(true, bx p0_cb 84 [p0_c_bv, (int i64 p0_c_i), (int i64 p0_c_h)])]) (B := [(false, rd p0_c_bv (List.map (int IntKind.u8) p0_c_b)), (true, ow 3 (Value.slice none 0 0) (List.map (int i64) ([] : List (Int)))), (true, bx b3 26 [(int i64 0), (Value.slice none 0 0)])]) hM rfl hN rfl
 refine st_val hS rfl rfl (by decide) (rv_add (hS.ev rfl) (hS.ev rfl)) fun a hS => ?_
 refine st_val hS rfl rfl (by decide) (rv_assign (hS.ev rfl)) fun a hS => ?_
 refine wpList_nil ?_
 refine hK4 _ _ ?_
 refine wp_seq_k fun K7 hK7 => ?_
 refine wp_seq_k fun K52 hK52 => ?_
 refine wp_region_lit ?_
 refine st_val hS rfl rfl (by decide) (rv_move (hS.ev rfl)) fun a hS => ?_
 obtain ⟨r54, hr, hF⟩ := bind_some hF
 have hM := hM.pick [0, 1, 2, 3] (by decide) rfl
 have hP := Mem.pre (A := [(true, bx p0_cb 84 [p0_c_bv, (int i64 r6.2.1), (int i64 r6.2.2)])]) (C := [(false, rd p0_c_bv (List.map (int IntKind.u8) p0_c_b))]) (B := [(true, ow 3 (Value.slice none 0 0) (List.map (int i64) ([] : List (Int)))), (true, bx b3 26 [(int i64 0), (Value.slice none 0 0)])]) hM rfl (weaks_cons (weak_self _ _) weaks_nil)
 refine st_wp hS rfl (wp_call hS rfl rfl (by decide) fn_ok_72 rfl (c_spec_l1Below F p0_c_b r6.2.1 r6.2.2 4 p0_c_bv p0_cb hr _ hP) fun v w a hK hS => ?_)
 obtain ⟨rfl, hN⟩ := hK
 have hM := Mem.callo (A := [(true, bx p0_cb 84 [p0_c_bv, (int i64 r6.2.1), (int i64 r6.2.2)])]) (B := [(false, rd p0_c_bv (List.map (int IntKind.u8) p0_c_b)), (true, ow 3 (Value.slice none 0 0) (List.map (int i64) ([] : List (Int)))), (true, bx b3 26 [(int i64 0), (Value.slice none 0 0)])]) hM rfl hN rfl
 refine wpList_nil ?_
 refine hK52 _ _ ?_
 refine wp_block ?_
 refine wp_seq_k fun K55 hK55 => ?_
 refine wp_region_lit ?_
 refine st_val hS rfl rfl (by decide) (rv_eql (hS.ev rfl) (hS.ev rfl)) fun a hS => ?_
 refine st_val hS rfl rfl (by decide) (rv_assign (hS.ev rfl)) fun a hS => ?_
 refine wpList_nil ?_
 refine hK55 _ _ ?_
 rcases ite_some hF with ⟨hc, hF⟩ | ⟨hc, hF⟩
 ·refine cond_t hS rfl hc ?_
  refine wp_seq_k fun K56 hK56 => ?_
  refine wp_region_lit ?_
  refine st_val hS rfl rfl (by decide) (rv_move (hS.ev rfl)) fun a hS => ?_
  obtain ⟨v62, w, hr, hM⟩ := Mem.litE (f := (fun s => Value.string (bs s))) (dst := some 17) (ty := _) (pos := _) (af := _) (gd := _) (ps := [(0, .const (Value.string (bs ([112, 97, 116, 104] : List UInt8)))), (1, .const (Value.string (bs ([99, 121, 99, 108, 101] : List UInt8)))), (2, .const (Value.string (bs ([99, 111, 109, 112, 108, 101, 116, 101] : List UInt8)))), (3, .const (Value.string (bs ([115, 116, 97, 114] : List UInt8)))), (4, .const (Value.string (bs ([119, 104, 101, 101, 108] : List UInt8))))]) ([([112, 97, 116, 104] : List UInt8), ([99, 121, 99, 108, 101] : List UInt8), ([99, 111, 109, 112, 108, 101, 116, 101] : List UInt8), ([115, 116, 97, 114] : List UInt8), ([119, 104, 101, 101, 108] : List UInt8)] : List (List UInt8)) str_one hM hS Tryd.underlying75 ty_el_9 rfl rfl rfl rfl
  refine st_val hS rfl rfl (by decide) hr fun a hS => ?_
  obtain ⟨r63, hr, hF⟩ := bind_some hF
  have hM := hM.pick [1, 2, 0, 3, 4] (by decide) rfl
  have hP := Mem.pre (A := [(true, bx p0_cb 84 [p0_c_bv, (int i64 r54.2.1), (int i64 r54.2.2)])]) (C := [(false, rd p0_c_bv (List.map (int IntKind.u8) p0_c_b)), (true, ow 9 v62 (List.map (fun s => Value.string (bs s)) ([([112, 97, 116, 104] : List UInt8), ([99, 121, 99, 108, 101] : List UInt8), ([99, 111, 109, 112, 108, 101, 116, 101] : List UInt8), ([115, 116, 97, 114] : List UInt8), ([119, 104, 101, 101, 108] : List UInt8)] : List (List UInt8))))]) (B := [(true, ow 3 (Value.slice none 0 0) (List.map (int i64) ([] : List (Int)))), (true, bx b3 26 [(int i64 0), (Value.slice none 0 0)])]) hM rfl (weaks_cons (weak_self _ _) (weaks_cons (weak_ow _ _ _ _) weaks_nil))
  refine st_wp hS rfl (wp_call hS rfl rfl (by decide) fn_ok_79 rfl (c_spec_l1Pick F p0_c_b r54.2.1 r54.2.2 ([([112, 97, 116, 104] : List UInt8), ([99, 121, 99, 108, 101] : List UInt8), ([99, 111, 109, 112, 108, 101, 116, 101] : List UInt8), ([115, 116, 97, 114] : List UInt8), ([119, 104, 101, 101, 108] : List UInt8)] : List (List UInt8)) p0_c_bv p0_cb v62 hr _ hP) fun v w a hK hS => ?_)
  obtain ⟨rfl, hN⟩ := hK
  have hM := Mem.callo (A := [(true, bx p0_cb 84 [p0_c_bv, (int i64 r54.2.1), (int i64 r54.2.2)])]) (B := [(false, rd p0_c_bv (List.map (int IntKind.u8) p0_c_b)), (true, ow 9 v62 (List.map (fun s => Value.string (bs s)) ([([112, 97, 116, 104] : List UInt8), ([99, 121, 99, 108, 101] : List UInt8), ([99, 111, 109, 112, 108, 101, 116, 101] : List UInt8), ([115, 116, 97, 114] : List UInt8), ([119, 104, 101, 101, 108] : List UInt8)] : List (List UInt8)))), (true, ow 3 (Value.slice none 0 0) (List.map (int i64) ([] : List (Int)))), (true, bx b3 26 [(int i64 0), (Value.slice none 0 0)])]) hM rfl hN rfl
  refine st_val hS rfl rfl (by decide) (rv_move (hS.ev rfl)) fun a hS => ?_
  obtain ⟨r64, hr, hF⟩ := bind_some hF
  refine st_wp hS rfl (wp_call hS rfl rfl (by decide) fn_ok_52 rfl (c_spec_NamedGraph F r63.1 (i64.wrap (1 + r6.1)) hr _) fun v w a hK hS => ?_)
  obtain ⟨v65, rfl, hN⟩ := hK
  have hM := hM.add hN rfl
  refine st_val hS rfl rfl (by decide) (rv_move (hS.ev rfl)) fun a hS => ?_
  refine st_val hS rfl rfl (by decide) (rv_extract (hS.ev rfl) rfl) fun a hS => ?_
  refine st_val hS rfl rfl (by decide) (rv_extract (hS.ev rfl) rfl) fun a hS => ?_
  obtain ⟨b66, w, hr, hM⟩ := hM.allocE (ρ := a.eval) (dst := some 4) (ty := _) (pos := _) (af := _) (gd := _) (T := 26) (P := Tryd.prog) [(int i64 0), (Value.slice none 0 0)] ty_zr_26 rfl
  refine st_val hS rfl rfl (by decide) hr fun a hS => ?_
  have hM := hM.addNil 3
  have hM := hM.pick [1, 0, 2, 3, 4, 5, 6, 7] (by decide) rfl
  obtain ⟨w, hr, hM⟩ := hM.st_agg (us := [(int i64 r64.1), v65]) (ρ := a.eval) (dst := none) (ty := _) (pos := _) (af := _) (gd := _) (x := .tmp 4) (y := .tmp 21) (hS.ev rfl) (hS.ev rfl) ty_sz_26 (all1_cons rfl (all1_cons (rd_one (rd_of_ow (hM.get 2 rfl))) all1_nil)) rfl
  refine st_unit hS rfl rfl hr ?_
  refine st_val hS rfl rfl (by decide) (rv_assign (hS.ev rfl)) fun a hS => ?_
  refine wpList_nil ?_
  refine hK56 _ _ ?_
  have hS : Sl 47 [(0, (fdp p0_cb 0)), (2, (fdp b3 0)), (3, (int i64 (i64.wrap (1 + r6.1)))), (4, (fdp b66 0))] a := hS.sub (sub_cons rfl (sub_cons rfl (sub_cons rfl (sub_cons rfl sub_nil))))
  have hM := hM.pick [0, 2, 3, 4, 6, 7] (by decide) rfl
  refine wp_seq_k fun K67 hK67 => ?_
  refine wp_region_lit ?_
  refine st_val hS rfl rfl (by decide) (rv_move (hS.ev rfl)) fun a hS => ?_
  refine st_val hS rfl rfl (by decide) (rv_move (hS.ev rfl)) fun a hS => ?_
  obtain ⟨r69, hr, hF⟩ := bind_some hF
  have hM := hM.pick [2, 3, 0, 1, 4, 5] (by decide) rfl
  have hP := Mem.pre (A := [(true, bx p0_cb 84 [p0_c_bv, (int i64 r63.2.1), (int i64 r63.2.2)])]) (C := [(false, rd p0_c_bv (List.map (int IntKind.u8) p0_c_b))]) (B := [(true, bx b66 26 [(int i64 r64.1), v65]), (true, ow 3 v65 (List.map (int i64) r64.2.1)), (true, ow 3 (Value.slice none 0 0) (List.map (int i64) ([] : List (Int)))), (true, bx b3 26 [(int i64 0), (Value.slice none 0 0)])]) hM rfl (weaks_cons (weak_self _ _) weaks_nil)
  refine st_wp hS rfl (wp_call hS rfl rfl (by decide) fn_ok_72 rfl (c_spec_l1Below F p0_c_b r63.2.1 r63.2.2 (i64.wrap (1 + r6.1)) p0_c_bv p0_cb hr _ hP) fun v w a hK hS => ?_)
  obtain ⟨rfl, hN⟩ := hK
  have hM := Mem.callo (A := [(true, bx p0_cb 84 [p0_c_bv, (int i64 r63.2.1), (int i64 r63.2.2)])]) (B := [(false, rd p0_c_bv (List.map (int IntKind.u8) p0_c_b)), (true, bx b66 26 [(int i64 r64.1), v65]), (true, ow 3 v65 (List.map (int i64) r64.2.1)), (true, ow 3 (Value.slice none 0 0) (List.map (int i64) ([] : List (Int)))), (true, bx b3 26 [(int i64 0), (Value.slice none 0 0)])]) hM rfl hN rfl
  refine st_val hS rfl rfl (by decide) (rv_assign (hS.ev rfl)) fun a hS => ?_
  refine wpList_nil ?_
  refine hK67 _ _ ?_
  refine wp_seq_k fun K70 hK70 => ?_
  refine wp_region_lit ?_
  refine st_val hS rfl rfl (by decide) (rv_move (hS.ev rfl)) fun a hS => ?_
  refine st_val hS rfl rfl (by decide) (rv_move (hS.ev rfl)) fun a hS => ?_
  obtain ⟨r72, hr, hF⟩ := bind_some hF
  have hM := hM.pick [0, 1, 2, 3, 4, 5] (by decide) rfl
  have hP := Mem.pre (A := [(true, bx p0_cb 84 [p0_c_bv, (int i64 r69.2.1), (int i64 r69.2.2)])]) (C := [(false, rd p0_c_bv (List.map (int IntKind.u8) p0_c_b))]) (B := [(true, bx b66 26 [(int i64 r64.1), v65]), (true, ow 3 v65 (List.map (int i64) r64.2.1)), (true, ow 3 (Value.slice none 0 0) (List.map (int i64) ([] : List (Int)))), (true, bx b3 26 [(int i64 0), (Value.slice none 0 0)])]) hM rfl (weaks_cons (weak_self _ _) weaks_nil)
  refine st_wp hS rfl (wp_call hS rfl rfl (by decide) fn_ok_72 rfl (c_spec_l1Below F p0_c_b r69.2.1 r69.2.2 (i64.wrap (1 + r6.1)) p0_c_bv p0_cb hr _ hP) fun v w a hK hS => ?_)
  obtain ⟨rfl, hN⟩ := hK
  have hM := Mem.callo (A := [(true, bx p0_cb 84 [p0_c_bv, (int i64 r69.2.1), (int i64 r69.2.2)])]) (B := [(false, rd p0_c_bv (List.map (int IntKind.u8) p0_c_b)), (true, bx b66 26 [(int i64 r64.1), v65]), (true, ow 3 v65 (List.map (int i64) r64.2.1)), (true, ow 3 (Value.slice none 0 0) (List.map (int i64) ([] : List (Int)))), (true, bx b3 26 [(int i64 0), (Value.slice none 0 0)])]) hM rfl hN rfl
  refine st_val hS rfl rfl (by decide) (rv_assign (hS.ev rfl)) fun a hS => ?_
  refine wpList_nil ?_
  refine hK70 _ _ ?_
  refine wp_seq_k fun K73 hK73 => ?_
  have hJ1 : ∀ (x79 : Int) (l81 : List Int) (x82 : Int) (x83 : Int) (v80 : Value) (a : Act) (w : World), Sl 47 [(2, (fdp b3 0)), (4, (fdp b66 0))] a → Mem (feet [(true, bx p0_cb 84 [p0_c_bv, (int i64 p0_c_i), (int i64 p0_c_h)])]) w0 w [(true, bx b3 26 [(int i64 0), (Value.slice none 0 0)]), (true, ow 3 (Value.slice none 0 0) (List.map (int i64) ([] : List (Int)))), (true, bx b66 26 [(int i64 x79), v80]), (true, ow 3 v80 (List.map (int i64) l81)), (true, bx p0_cb 84 [p0_c_bv, (int i64 x82), (int i64 x83)]), (false, rd p0_c_bv (List.map (int IntKind.u8) p0_c_b))] → S_spec_l2Draw_j1 F x79 l81 x82 x83 = some r → K73 a w := by
   intro x79 l81 x82 x83 v80 a w hS hM hF
   unfold S_spec_l2Draw_j1 at hF
   refine hK73 _ _ ?_
   refine wp_seq_k fun K84 hK84 => ?_
   refine wp_region_lit ?_
   refine st_val hS rfl rfl (by decide) (rv_load_agg (hS.ev rfl) ty_ag_26 (hM.get 2 rfl) ty_sz_26) fun a hS => ?_
   obtain ⟨w, hr, hM⟩ := hM.st_agg (us := [(int i64 x79), v80]) (ρ := a.eval) (dst := none) (ty := _) (pos := _) (af := _) (gd := _) (x := .tmp 2) (y := .tmp 38) (hS.ev rfl) (hS.ev rfl) ty_sz_26 (all1_cons rfl (all1_cons (rd_one (rd_of_ow (hM.get 3 rfl))) all1_nil)) rfl
   refine st_unit hS rfl rfl hr ?_
   refine wpList_nil ?_
   refine hK84 _ _ ?_
   refine wp_ret ?_
   cases hF
   exact hQr _ _ (r_c hS rfl ⟨_, rfl, run_loadAgg ty_ag_26 (hM.get 0 rfl) ty_sz_26⟩ ⟨v80, rfl, hM.pick [4, 3] (by decide) rfl⟩)
  refine wp_seq_k fun K85 hK85 => ?_
  refine wp_region_lit ?_
  refine st_val hS rfl rfl (by decide) (rv_move (hS.ev rfl)) fun a hS => ?_
  obtain ⟨r87, hr, hF⟩ := bind_some hF
  have hM := hM.pick [0, 1, 2, 3, 4, 5] (by decide) rfl
  have hP := Mem.pre (A := [(true, bx p0_cb 84 [p0_c_bv, (int i64 r72.2.1), (int i64 r72.2.2)])]) (C := [(false, rd p0_c_bv (List.map (int IntKind.u8) p0_c_b))]) (B := [(true, bx b66 26 [(int i64 r64.1), v65]), (true, ow 3 v65 (List.map (int i64) r64.2.1)), (true, ow 3 (Value.slice none 0 0) (List.map (int i64) ([] : List (Int)))), (true, bx b3 26 [(int i64 0), (Value.slice none 0 0)])]) hM rfl (weaks_cons (weak_self _ _) weaks_nil)
  refine st_wp hS rfl (wp_call hS rfl rfl (by decide) fn_ok_73 rfl (c_spec_l1Once F p0_c_b r72.2.1 r72.2.2 2 p0_c_bv p0_cb hr _ hP) fun v w a hK hS => ?_)
  obtain ⟨rfl, hN⟩ := hK
  have hM := Mem.callo (A := [(true, bx p0_cb 84 [p0_c_bv, (int i64 r72.2.1), (int i64 r72.2.2)])]) (B := [(false, rd p0_c_bv (List.map (int IntKind.u8) p0_c_b)), (true, bx b66 26 [(int i64 r64.1), v65]), (true, ow 3 v65 (List.map (int i64) r64.2.1)), (true, ow 3 (Value.slice none 0 0) (List.map (int i64) ([] : List (Int)))), (true, bx b3 26 [(int i64 0), (Value.slice none 0 0)])]) hM rfl hN rfl
  refine wpList_nil ?_
  refine hK85 _ _ ?_
  have hS : Sl 47 [(2, (fdp b3 0)), (4, (fdp b66 0)), (6, (int i64 r69.1)), (7, (int i64 r72.1)), (30, (Value.bool r87.1))] a := hS.sub (sub_cons rfl (sub_cons rfl (sub_cons rfl (sub_cons rfl (sub_cons rfl sub_nil)))))
  rcases ite_some hF with ⟨hc, hF⟩ | ⟨hc, hF⟩
  ·refine cond_t hS rfl hc ?_
   refine wp_region_lit ?_
   refine st_val hS rfl rfl (by decide) (rv_load_agg (hS.ev rfl) ty_ag_26 (hM.get 2 rfl) ty_sz_26) fun a hS => ?_
   refine st_val hS rfl rfl (by decide) (rv_move (hS.ev rfl)) fun a hS => ?_
   refine st_val hS rfl rfl (by decide) (rv_move (hS.ev rfl)) fun a hS => ?_
   obtain ⟨r88, hr, hF⟩ := bind_some hF
   refine st_wp hS rfl (wp_call hS rfl rfl (by decide) fn_ok_44 rfl (c_spec_AddEdge F r64.1 r64.2.1 r69.1 r72.1 v65 hr _ (rd_of_ow (hM.get 3 rfl))) fun v w a hK hS => ?_)
   obtain ⟨v89, rfl, hN⟩ := hK
   have hM := hM.add hN rfl
   refine st_val hS rfl rfl (by decide) (rv_move (hS.ev rfl)) fun a hS => ?_
   refine st_val hS rfl rfl (by decide) (rv_extract (hS.ev rfl) rfl) fun a hS => ?_
   refine st_val hS rfl rfl (by decide) (rv_extract (hS.ev rfl) rfl) fun a hS => ?_
   have hM := hM.pick [3, 0, 1, 2, 4, 5, 6] (by decide) rfl
   obtain ⟨w, hr, hM⟩ := hM.st_agg (us := [(int i64 r88.1), v89]) (ρ := a.eval) (dst := none) (ty := _) (pos := _) (af := _) (gd := _) (x := .tmp 4) (y := .tmp 36) (hS.ev rfl) (hS.ev rfl) ty_sz_26 (all1_cons rfl (all1_cons (rd_one (rd_of_ow (hM.get 1 rfl))) all1_nil)) rfl
   refine st_unit hS rfl rfl hr ?_
   refine wpList_nil ?_
   exact hJ1 r88.1 r88.2.1 r87.2.1 r87.2.2 v89 _ _ (hS.sub (sub_cons rfl (sub_cons rfl sub_nil))) (hM.pick [6, 5, 0, 1, 2, 3] (by decide) rfl) hF
  ·refine cond_f hS rfl hc ?_
   refine wp_skip ?_
   exact hJ1 r64.1 r64.2.1 r87.2.1 r87.2.2 v65 _ _ (hS.sub (sub_cons rfl (sub_cons rfl sub_nil))) (hM.pick [5, 4, 2, 3, 0, 1] (by decide) rfl) hF
 ·refine cond_f hS rfl hc ?_
  refine wp_seq_k fun K90 hK90 => ?_
  refine wp_region_lit ?_
  refine st_val hS rfl rfl (by decide) (rv_eql (hS.ev rfl) (hS.ev rfl)) fun a hS => ?_
  refine st_val hS rfl rfl (by decide) (rv_assign (hS.ev rfl)) fun a hS => ?_
  refine wpList_nil ?_
  refine hK90 _ _ ?_
  have hS : Sl 47 [(0, (fdp p0_cb 0)), (2, (fdp b3 0)), (3, (int i64 (i64.wrap (1 + r6.1)))), (39, (Value.bool (r54.1 == 1)))] a := hS.sub (sub_cons rfl (sub_cons rfl (sub_cons rfl (sub_cons rfl sub_nil))))
  rcases ite_some hF with ⟨hc, hF⟩ | ⟨hc, hF⟩
  ·refine cond_t hS rfl hc ?_
   refine wp_seq_k fun K91 hK91 => ?_
   refine wp_region_lit ?_
   refine st_val hS rfl rfl (by decide) (rv_move (hS.ev rfl)) fun a hS => ?_
   refine st_val hS rfl rfl (by decide) (rv_move (hS.ev rfl)) fun a hS => ?_
   obtain ⟨r94, hr, hF⟩ := bind_some hF
   have hM := hM.pick [0, 1, 2, 3] (by decide) rfl
   have hP := Mem.pre (A := [(true, bx p0_cb 84 [p0_c_bv, (int i64 r54.2.1), (int i64 r54.2.2)])]) (C := [(false, rd p0_c_bv (List.map (int IntKind.u8) p0_c_b))]) (B := [(true, ow 3 (Value.slice none 0 0) (List.map (int i64) ([] : List (Int)))), (true, bx b3 26 [(int i64 0), (Value.slice none 0 0)])]) hM rfl (weaks_cons (weak_self _ _) weaks_nil)
   refine st_wp hS rfl (wp_call hS rfl rfl (by decide) fn_ok_97 rfl (c_spec_l2Random F p0_c_b r54.2.1 r54.2.2 (i64.wrap (1 + r6.1)) 7 p0_c_bv p0_cb hr _ hP) fun v w a hK hS => ?_)
   obtain ⟨v95, rfl, hN⟩ := hK
   have hM := Mem.callo (A := [(true, bx p0_cb 84 [p0_c_bv, (int i64 r54.2.1), (int i64 r54.2.2)])]) (B := [(false, rd p0_c_bv (List.map (int IntKind.u8) p0_c_b)), (true, ow 3 (Value.slice none 0 0) (List.map (int i64) ([] : List (Int)))), (true, bx b3 26 [(int i64 0), (Value.slice none 0 0)])]) hM rfl hN rfl
   have hM := hM.pick [4, 0, 1, 2, 3] (by decide) rfl
   obtain ⟨w, hr, hM⟩ := hM.st_agg (us := [(int i64 r94.1), v95]) (ρ := a.eval) (dst := none) (ty := _) (pos := _) (af := _) (gd := _) (x := .tmp 2) (y := .tmp 43) (hS.ev rfl) (hS.ev rfl) ty_sz_26 (all1_cons rfl (all1_cons (rd_one (rd_of_ow (hM.get 2 rfl))) all1_nil)) rfl
   refine st_unit hS rfl rfl hr ?_
   refine wpList_nil ?_
   refine hK91 _ _ ?_
   refine wp_ret ?_
   cases hF
   exact hQr _ _ (r_c hS rfl ⟨_, rfl, run_loadAgg ty_ag_26 (hM.get 0 rfl) ty_sz_26⟩ ⟨v95, rfl, hM.pick [1, 2] (by decide) rfl⟩)
  ·refine cond_f hS rfl hc ?_
   refine wp_skip ?_
   refine hK7 _ _ ?_
   refine wp_seq_k fun K96 hK96 => ?_
   refine wp_region_lit ?_
   refine st_val hS rfl rfl (by decide) (rv_move (hS.ev rfl)) fun a hS => ?_
   refine st_val hS rfl rfl (by decide) (rv_move (hS.ev rfl)) fun a hS => ?_
   obtain ⟨r99, hr, hF⟩ := bind_some hF
   have hM := hM.pick [0, 1, 2, 3] (by decide) rfl
   have hP := Mem.pre (A := [(true, bx p0_cb 84 [p0_c_bv, (int i64 r54.2.1), (int i64 r54.2.2)])]) (C := [(false, rd p0_c_bv (List.map (int IntKind.u8) p0_c_b))]) (B := [(true, ow 3 (Value.slice none 0 0) (List.map (int i64) ([] : List (Int)))), (true, bx b3 26 [(int i64 0), (Value.slice none 0 0)])]) hM rfl (weaks_cons (weak_self _ _) weaks_nil)
   refine st_wp hS rfl (wp_call hS rfl rfl (by decide) fn_ok_97 rfl (c_spec_l2Random F p0_c_b r54.2.1 r54.2.2 (i64.wrap (1 + r6.1)) 4 p0_c_bv p0_cb hr _ hP) fun v w a hK hS => ?_)
   obtain ⟨v100, rfl, hN⟩ := hK
   have hM := Mem.callo (A := [(true, bx p0_cb 84 [p0_c_bv, (int i64 r54.2.1), (int i64 r54.2.2)])]) (B := [(false, rd p0_c_bv (List.map (int IntKind.u8) p0_c_b)), (true, ow 3 (Value.slice none 0 0) (List.map (int i64) ([] : List (Int)))), (true, bx b3 26 [(int i64 0), (Value.slice none 0 0)])]) hM rfl hN rfl
   have hM := hM.pick [4, 0, 1, 2, 3] (by decide) rfl
   obtain ⟨w, hr, hM⟩ := hM.st_agg (us := [(int i64 r99.1), v100]) (ρ := a.eval) (dst := none) (ty := _) (pos := _) (af := _) (gd := _) (x := .tmp 2) (y := .tmp 46) (hS.ev rfl) (hS.ev rfl) ty_sz_26 (all1_cons rfl (all1_cons (rd_one (rd_of_ow (hM.get 2 rfl))) all1_nil)) rfl
   refine st_unit hS rfl rfl hr ?_
   refine wpList_nil ?_
   refine hK96 _ _ ?_
   refine wp_ret ?_
   cases hF
   exact hQr _ _ (r_c hS rfl ⟨_, rfl, run_loadAgg ty_ag_26 (hM.get 0 rfl) ty_sz_26⟩ ⟨v100, rfl, hM.pick [1, 2] (by decide) rfl⟩)


theorem c_spec_l2Any (F : Nat) (p0_c_b : List Int) (p0_c_i : Int) (p0_c_h : Int) (p0_c_bv : Value) (p0_cb : Nat) {r : Int × (List (Int)) × Int × Int} (hF : S_spec_l2Any F p0_c_b p0_c_i p0_c_h = some r) (w0 : World) (hM : Mem (feet [(true, bx p0_cb 84 [p0_c_bv, (int i64 p0_c_i), (int i64 p0_c_h)])]) w0 w0 [(true, bx p0_cb 84 [p0_c_bv, (int i64 p0_c_i), (int i64 p0_c_h)]), (false, rd p0_c_bv (List.map (int IntKind.u8) p0_c_b))]) :
    Calls Tryd.prog 76 [(fdp p0_cb 0)].toArray w0 (retPost fun v w' => ∃ v37, v = (Value.agg #[(int i64 r.1), v37]) ∧ Mem (feet [(true, bx p0_cb 84 [p0_c_bv, (int i64 p0_c_i), (int i64 p0_c_h)])]) w0 w' [(true, bx p0_cb 84 [p0_c_bv, (int i64 r.2.2.1), (int i64 r.2.2.2)]), (true, ow 3 v37 (List.map (int i64) r.2.1))]) := by
 have hM := hM.pick [1, 0] (by decide) rfl
 refine enter2 Tryd.func76 rfl rfl rfl fun Q a hQr hQn hQp hS => ?_
 have hS : Sl 23 [(0, (fdp p0_cb 0))] a := hS
 unfold S_spec_l2Any at hF
 refine wp_seq_k fun K1 hK1 => ?_
 refine wp_region_lit ?_
 obtain ⟨b3, w, hr, hM⟩ := hM.allocE (ρ := a.eval) (dst := some 2) (ty := _) (pos := _) (af := _) (gd := _) (T := 26) (P := Tryd.prog) [(int i64 0), (Value.slice none 0 0)] ty_zr_26 rfl
 refine st_val hS rfl rfl (by decide) hr fun a hS => ?_
 have hM := hM.addNil 3
 refine wpList_nil ?_
 refine hK1 _ _ ?_
 refine wp_seq_k fun K4 hK4 => ?_
 refine wp_region_lit ?_
 refine st_val hS rfl rfl (by decide) (rv_move (hS.ev rfl)) fun a hS => ?_
 obtain ⟨r8, hr, hF⟩ := bind_some hF
 have hM := hM.pick [3, 2, 0, 1] (by decide) rfl
 have hP := Mem.pre (A := [(true, bx p0_cb 84 [p0_c_bv, (int i64 p0_c_i), (int i64 p0_c_h)])]) (C := [(false, rd p0_c_bv (List.map (int IntKind.u8) p0_c_b))]) (B := [(true, ow 3 (Value.slice none 0 0) (List.map (int i64) ([] : List (Int)))), (true, bx b3 26 [(int i64 0), (Value.slice none 0 0)])]) hM rfl (weaks_cons (weak_self _ _) weaks_nil)
 refine st_wp hS rfl (wp_call hS rfl rfl (by decide) fn_ok_93 rfl (c_spec_l2Draw F p0_c_b p0_c_i p0_c_h p0_c_bv p0_cb hr _ hP) fun v w a hK hS => ?_)
 obtain ⟨v9, rfl, hN⟩ := hK
 have hM := Mem.callo (A := [(true, bx p0_cb 84 [p0_c_bv, (int i64 p0_c_i), (int i64 p0_c_h)])]) (B := [(false, rd p0_c_bv (List.map (int IntKind.u8) p0_c_b)), (true, ow 3 (Value.slice none 0 0) (List.map (int i64) ([] : List (Int)))), (true, bx b3 26 [(int i64 0), (Value.slice none 0 0)])]) hM rfl hN rfl
 obtain ⟨b10, w, hr, hM⟩ := hM.allocE (ρ := a.eval) (dst := some 3) (ty := _) (pos := _) (af := _) (gd := _) (T := 26) (P := Tryd.prog) [(int i64 0), (Value.slice none 0 0)] ty_zr_26 rfl
 refine st_val hS rfl rfl (by decide) hr fun a hS => ?_
 have hM := hM.addNil 3
 have hM := hM.pick [1, 0, 2, 3, 4, 5, 6] (by decide) rfl
 obtain ⟨w, hr, hM⟩ := hM.st_agg (us := [(int i64 r8.1), v9]) (ρ := a.eval) (dst := none) (ty := _) (pos := _) (af := _) (gd := _) (x := .tmp 3) (y := .tmp 5) (hS.ev rfl) (hS.ev rfl) ty_sz_26 (all1_cons rfl (all1_cons (rd_one (rd_of_ow (hM.get 3 rfl))) all1_nil)) rfl
 refine st_unit hS rfl rfl hr ?_
 refine wpList_nil ?_
 refine hK4 _ _ ?_
 refine wp_seq_k fun K11 hK11 => ?_
 have hJ1 : ∀ (x22 : Int) (l23 : List Int) (x24 : Int) (x25 : Int) (a : Act) (w : World), Sl 23 [(2, (fdp b3 0)), (3, (fdp b10 0))] a → Mem (feet [(true, bx p0_cb 84 [p0_c_bv, (int i64 p0_c_i), (int i64 p0_c_h)])]) w0 w [(true, bx b3 26 [(int i64 0), (Value.slice none 0 0)]), (true, ow 3 (Value.slice none 0 0) (List.map (int i64) ([] : List (Int)))), (true, bx b10 26 [(int i64 x22), v9]), (true, ow 3 v9 (List.map (int i64) l23)), (true, bx p0_cb 84 [p0_c_bv, (int i64 x24), (int i64 x25)]), (false, rd p0_c_bv (List.map (int IntKind.u8) p0_c_b))] → S_spec_l2Any_j1 F x22 l23 x24 x25 = some r → K11 a w := by
  intro x22 l23 x24 x25 a w hS hM hF
  unfold S_spec_l2Any_j1 at hF
  refine hK11 _ _ ?_
  refine wp_seq_k fun K26 hK26 => ?_
  refine wp_region_lit ?_
  refine st_val hS rfl rfl (by decide) (rv_load_agg (hS.ev rfl) ty_ag_26 (hM.get 2 rfl) ty_sz_26) fun a hS => ?_
  obtain ⟨w, hr, hM⟩ := hM.st_agg (us := [(int i64 x22), v9]) (ρ := a.eval) (dst := none) (ty := _) (pos := _) (af := _) (gd := _) (x := .tmp 2) (y := .tmp 22) (hS.ev rfl) (hS.ev rfl) ty_sz_26 (all1_cons rfl (all1_cons (rd_one (rd_of_ow (hM.get 3 rfl))) all1_nil)) rfl
  refine st_unit hS rfl rfl hr ?_
  refine wpList_nil ?_
  refine hK26 _ _ ?_
  refine wp_ret ?_
  cases hF
  exact hQr _ _ (r_c hS rfl ⟨_, rfl, run_loadAgg ty_ag_26 (hM.get 0 rfl) ty_sz_26⟩ ⟨v9, rfl, hM.pick [4, 3] (by decide) rfl⟩)
 refine wp_seq_k fun K27 hK27 => ?_
 refine wp_region_lit ?_
 refine st_val hS rfl rfl (by decide) (rv_move (hS.ev rfl)) fun a hS => ?_
 obtain ⟨r29, hr, hF⟩ := bind_some hF
 have hM := hM.pick [2, 4, 0, 1, 3, 5, 6] (by decide) rfl
 have hP := Mem.pre (A := [(true, bx p0_cb 84 [p0_c_bv, (int i64 r8.2.2.1), (int i64 r8.2.2.2)])]) (C := [(false, rd p0_c_bv (List.map (int IntKind.u8) p0_c_b))]) (B := [(true, bx b10 26 [(int i64 r8.1), v9]), (true, ow 3 (Value.slice none 0 0) (List.map (int i64) ([] : List (Int)))), (true, ow 3 v9 (List.map (int i64) r8.2.1)), (true, ow 3 (Value.slice none 0 0) (List.map (int i64) ([] : List (Int)))), (true, bx b3 26 [(int i64 0), (Value.slice none 0 0)])]) hM rfl (weaks_cons (weak_self _ _) weaks_nil)
 refine st_wp hS rfl (wp_call hS rfl rfl (by decide) fn_ok_72 rfl (c_spec_l1Below F p0_c_b r8.2.2.1 r8.2.2.2 18 p0_c_bv p0_cb hr _ hP) fun v w a hK hS => ?_)
 obtain ⟨rfl, hN⟩ := hK
 have hM := Mem.callo (A := [(true, bx p0_cb 84 [p0_c_bv, (int i64 r8.2.2.1), (int i64 r8.2.2.2)])]) (B := [(false, rd p0_c_bv (List.map (int IntKind.u8) p0_c_b)), (true, bx b10 26 [(int i64 r8.1), v9]), (true, ow 3 (Value.slice none 0 0) (List.map (int i64) ([] : List (Int)))), (true, ow 3 v9 (List.map (int i64) r8.2.1)), (true, ow 3 (Value.slice none 0 0) (List.map (int i64) ([] : List (Int)))), (true, bx b3 26 [(int i64 0), (Value.slice none 0 0)])]) hM rfl hN rfl
 refine wpList_nil ?_
 refine hK27 _ _ ?_
 refine wp_block ?_
 refine wp_seq_k fun K30 hK30 => ?_
 refine wp_region_lit ?_
 refine st_val hS rfl rfl (by decide) (rv_eql (hS.ev rfl) (hS.ev rfl)) fun a hS => ?_
 refine st_val hS rfl rfl (by decide) (rv_assign (hS.ev rfl)) fun a hS => ?_
 refine wpList_nil ?_
 refine hK30 _ _ ?_
 rcases ite_some hF with ⟨hc, hF⟩ | ⟨hc, hF⟩
 ·refine cond_t hS rfl hc ?_
  refine wp_region_lit ?_
  refine st_val hS rfl rfl (by decide) (rv_move (hS.ev rfl)) fun a hS => ?_
  obtain ⟨v31, w, hr, hM⟩ := Mem.litE (f := (int i64)) (dst := some 11) (ty := _) (pos := _) (af := _) (gd := _) (ps := [(0, .const (int i64 0)), (1, .const (int i64 (-1))), (2, .const (int i64 8)), (3, .const (int i64 3))]) ([0, (-1), 8, 3] : List (Int)) i64_one hM hS Tryd.underlying24 ty_el_3 rfl rfl rfl rfl
  refine st_val hS rfl rfl (by decide) hr fun a hS => ?_
  obtain ⟨r32, hr, hF⟩ := bind_some hF
  have hM := hM.pick [1, 2, 0, 3, 4, 5, 6, 7] (by decide) rfl
  have hP := Mem.pre (A := [(true, bx p0_cb 84 [p0_c_bv, (int i64 r29.2.1), (int i64 r29.2.2)])]) (C := [(false, rd p0_c_bv (List.map (int IntKind.u8) p0_c_b)), (true, ow 3 v31 (List.map (int i64) ([0, (-1), 8, 3] : List (Int))))]) (B := [(true, bx b10 26 [(int i64 r8.1), v9]), (true, ow 3 (Value.slice none 0 0) (List.map (int i64) ([] : List (Int)))), (true, ow 3 v9 (List.map (int i64) r8.2.1)), (true, ow 3 (Value.slice none 0 0) (List.map (int i64) ([] : List (Int)))), (true, bx b3 26 [(int i64 0), (Value.slice none 0 0)])]) hM rfl (weaks_cons (weak_self _ _) (weaks_cons (weak_ow _ _ _ _) weaks_nil))
  refine st_wp hS rfl (wp_call hS rfl rfl (by decide) fn_ok_74 rfl (c_spec_l1PickInt F p0_c_b r29.2.1 r29.2.2 ([0, (-1), 8, 3] : List (Int)) p0_c_bv p0_cb v31 hr _ hP) fun v w a hK hS => ?_)
  obtain ⟨rfl, hN⟩ := hK
  have hM := Mem.callo (A := [(true, bx p0_cb 84 [p0_c_bv, (int i64 r29.2.1), (int i64 r29.2.2)])]) (B := [(false, rd p0_c_bv (List.map (int IntKind.u8) p0_c_b)), (true, ow 3 v31 (List.map (int i64) ([0, (-1), 8, 3] : List (Int)))), (true, bx b10 26 [(int i64 r8.1), v9]), (true, ow 3 (Value.slice none 0 0) (List.map (int i64) ([] : List (Int)))), (true, ow 3 v9 (List.map (int i64) r8.2.1)), (true, ow 3 (Value.slice none 0 0) (List.map (int i64) ([] : List (Int)))), (true, bx b3 26 [(int i64 0), (Value.slice none 0 0)])]) hM rfl hN rfl
  refine st_val hS rfl rfl (by decide) (rv_fieldAddr ty_fd_26_0 (hS.ev rfl)) fun a hS => ?_
  have hM := hM.pick [3, 0, 1, 2, 4, 5, 6, 7] (by decide) rfl
  obtain ⟨w, hr, hM⟩ := hM.st_bx1 (n := 0) (cs' := [(int i64 r32.1), v9]) (ρ := a.eval) (dst := none) (ty := _) (pos := _) (af := _) (gd := _) (x := .tmp 13) (y := .tmp 12) (hS.ev rfl) (hS.ev rfl) ty_sz_3 rfl rfl rfl
  refine st_unit hS rfl rfl hr ?_
  refine wpList_nil ?_
  exact hJ1 r32.1 r8.2.1 r32.2.1 r32.2.2 _ _ (hS.sub (sub_cons rfl (sub_cons rfl sub_nil))) (hM.pick [7, 6, 0, 5, 1, 2] (by decide) rfl) hF
 ·refine cond_f hS rfl hc ?_
  refine wp_seq_k fun K33 hK33 => ?_
  refine wp_region_lit ?_
  refine st_val hS rfl rfl (by decide) (rv_eql (hS.ev rfl) (hS.ev rfl)) fun a hS => ?_
  refine st_val hS rfl rfl (by decide) (rv_assign (hS.ev rfl)) fun a hS => ?_
  refine wpList_nil ?_
  refine hK33 _ _ ?_
  rcases ite_some hF with ⟨hc, hF⟩ | ⟨hc, hF⟩
  ·refine cond_t hS rfl hc ?_
   have hM := hM.pick [0, 4, 1, 2, 3, 5, 6] (by decide) rfl
   refine an_startB 7 (feet [(true, bx p0_cb 84 [p0_c_bv, (int i64 r29.2.1), (int i64 r29.2.2)]), (true, ow 3 v9 (List.map (int i64) r8.2.1))]) ty_mixed (by kernel_rfl) fun w hf => ?_
   have hM := hM.fra hf
   have hB := hM
   have hM := Mem.regA (A := [(true, bx p0_cb 84 [p0_c_bv, (int i64 r29.2.1), (int i64 r29.2.2)]), (true, ow 3 v9 (List.map (int i64) r8.2.1))]) (R := [(false, rd p0_c_bv (List.map (int IntKind.u8) p0_c_b)), (true, bx b10 26 [(int i64 r8.1), v9]), (true, ow 3 (Value.slice none 0 0) (List.map (int i64) ([] : List (Int)))), (true, ow 3 (Value.slice none 0 0) (List.map (int i64) ([] : List (Int)))), (true, bx b3 26 [(int i64 0), (Value.slice none 0 0)])]) hB rfl
   refine tkB hS 0 1 (by kernel_rfl) rfl rfl rfl hQp rfl (fun w' hC' => (rv_fieldAddr ty_fd_26_1 (hS.ev rfl))) hM.fr fun a hS => ?_
   refine tkB hS 1 3 (by kernel_rfl) rfl rfl rfl hQp rfl (fun w' hC' => (rv_load_bx (hS.ev rfl) ty_ag_24 (Mem.getFA (A := [(true, bx p0_cb 84 [p0_c_bv, (int i64 r29.2.1), (int i64 r29.2.2)]), (true, ow 3 v9 (List.map (int i64) r8.2.1))]) (R := [(false, rd p0_c_bv (List.map (int IntKind.u8) p0_c_b)), (true, bx b10 26 [(int i64 r8.1), v9]), (true, ow 3 (Value.slice none 0 0) (List.map (int i64) ([] : List (Int)))), (true, ow 3 (Value.slice none 0 0) (List.map (int i64) ([] : List (Int)))), (true, bx b3 26 [(int i64 0), (Value.slice none 0 0)])]) hB rfl 1 rfl hC') rfl)) hM.fr fun a hS => ?_
   refine tkB hS 2 7 (by kernel_rfl) rfl rfl rfl hQp rfl (fun w' hC' => (rv_move (hS.ev rfl))) hM.fr fun a hS => ?_
   obtain ⟨v34, w, hr, hM⟩ := Mem.litE (f := (int i64)) (dst := some 19) (ty := _) (pos := _) (af := _) (gd := _) (ps := [(0, .const (int i64 (-1))), (1, .const (int i64 1)), (2, .const (int i64 2)), (3, .const (int i64 128)), (4, .const (int i64 9223372036854775807))]) ([(-1), 1, 2, 128, 9223372036854775807] : List (Int)) i64_one hM hS Tryd.underlying24 ty_el_3 rfl rfl rfl rfl
   refine an_oneB hS (i := 3) 15 (by kernel_rfl) rfl (by kernel_rfl) rfl ?_
   refine wp_val hS rfl (by decide) hr fun a hS => ⟨hM.fr, ?_⟩
   obtain ⟨r35, hr, hF⟩ := bind_some hF
   have hM := hM.pick [1, 3, 0, 2, 4, 5, 6, 7] (by decide) rfl
   have hP := Mem.pre (A := [(true, bx p0_cb 84 [p0_c_bv, (int i64 r29.2.1), (int i64 r29.2.2)])]) (C := [(false, rd p0_c_bv (List.map (int IntKind.u8) p0_c_b)), (true, ow 3 v34 (List.map (int i64) ([(-1), 1, 2, 128, 9223372036854775807] : List (Int))))]) (B := [(true, ow 3 v9 (List.map (int i64) r8.2.1)), (false, bx b10 26 [(int i64 r8.1), v9]), (false, ow 3 (Value.slice none 0 0) (List.map (int i64) ([] : List (Int)))), (false, ow 3 (Value.slice none 0 0) (List.map (int i64) ([] : List (Int)))), (false, bx b3 26 [(int i64 0), (Value.slice none 0 0)])]) hM rfl (weaks_cons (weak_self _ _) (weaks_cons (weak_ow _ _ _ _) weaks_nil))
   refine an_oneB hS (i := 4) 31 (by kernel_rfl) rfl (by kernel_rfl) rfl ?_
   refine wp_call hS rfl rfl (by decide) fn_ok_74 rfl (c_spec_l1PickInt F p0_c_b r29.2.1 r29.2.2 ([(-1), 1, 2, 128, 9223372036854775807] : List (Int)) p0_c_bv p0_cb v34 hr _ hP) fun v w a hK hS => ?_
   obtain ⟨rfl, hN⟩ := hK
   have hM := Mem.callo (A := [(true, bx p0_cb 84 [p0_c_bv, (int i64 r29.2.1), (int i64 r29.2.2)])]) (B := [(false, rd p0_c_bv (List.map (int IntKind.u8) p0_c_b)), (true, ow 3 v34 (List.map (int i64) ([(-1), 1, 2, 128, 9223372036854775807] : List (Int)))), (true, ow 3 v9 (List.map (int i64) r8.2.1)), (false, bx b10 26 [(int i64 r8.1), v9]), (false, ow 3 (Value.slice none 0 0) (List.map (int i64) ([] : List (Int)))), (false, ow 3 (Value.slice none 0 0) (List.map (int i64) ([] : List (Int)))), (false, bx b3 26 [(int i64 0), (Value.slice none 0 0)])]) hM rfl hN rfl
   refine ⟨hM.fr, ?_⟩
   obtain ⟨x36, hx, hF⟩ := bind_some hF
   obtain ⟨hi0, hi1, hex36⟩ := idxL_some hx
   refine tkB hS 5 63 (by kernel_rfl) rfl rfl rfl hQp rfl (fun w' hC' => (rv_indexAddr Tryd.underlying24 ty_el_3 (hS.ev rfl) (hS.ev rfl) (rd_of_ow (hM.get 3 rfl)) hi0 (map_len hi1))) hM.fr fun a hS => ?_
   have hM := hM.pick [3, 0, 1, 2, 4, 5, 6, 7] (by decide) rfl
   obtain ⟨w, hr, hM⟩ := hM.st_el (f := (int i64)) (n := (0 : Int).toNat) (c := r35.1) (ρ := a.eval) (dst := none) (ty := _) (pos := _) (af := _) (gd := _) (x := .tmp 21) (y := .tmp 20) i64_one (hS.ev rfl) (hS.ev rfl) ty_sz_3 (List.getElem?_eq_some_iff.1 hex36).1
   refine an_oneB hS (i := 6) 127 (by kernel_rfl) rfl (by kernel_rfl) rfl ?_
   refine wp_unit hS rfl hr ⟨hM.fr, ?_⟩
   refine an_done (by kernel_rfl) ?_
   have hN := hM.pick [0, 1, 3] (by decide) rfl
   have hM := Mem.callo (A := [(true, bx p0_cb 84 [p0_c_bv, (int i64 r29.2.1), (int i64 r29.2.2)]), (true, ow 3 v9 (List.map (int i64) r8.2.1))]) (B := [(false, rd p0_c_bv (List.map (int IntKind.u8) p0_c_b)), (true, bx b10 26 [(int i64 r8.1), v9]), (true, ow 3 (Value.slice none 0 0) (List.map (int i64) ([] : List (Int)))), (true, ow 3 (Value.slice none 0 0) (List.map (int i64) ([] : List (Int)))), (true, bx b3 26 [(int i64 0), (Value.slice none 0 0)])]) hB rfl (hN.memS fun _ h => h) rfl
   exact hJ1 r8.1 (r8.2.1.set ((0 : Int).toNat) r35.1) r35.2.1 r35.2.2 _ _ (hS.sub (sub_cons rfl (sub_cons rfl sub_nil))) (hM.pick [7, 6, 4, 0, 1, 3] (by decide) rfl) hF
  ·refine cond_f hS rfl hc ?_
   refine wp_skip ?_
   exact hJ1 r8.1 r8.2.1 r29.2.1 r29.2.2 _ _ (hS.sub (sub_cons rfl (sub_cons rfl sub_nil))) (hM.pick [6, 5, 2, 4, 0, 1] (by decide) rfl) hF


theorem c_spec_l3Set (F : Nat) (p0_c_b : List Int) (p0_c_i : Int) (p0_c_h : Int) (p1_g_Size : Int) (p1_g_Rows : List Int) (p0_c_bv : Value) (p0_cb : Nat) (p1_g_Rowsv : Value) {r : Int × Int × Int} (hF : S_spec_l3Set F p0_c_b p0_c_i p0_c_h p1_g_Size p1_g_Rows = some r) (w0 : World) (hM : Mem (feet [(true, bx p0_cb 84 [p0_c_bv, (int i64 p0_c_i), (int i64 p0_c_h)])]) w0 w0 [(true, bx p0_cb 84 [p0_c_bv, (int i64 p0_c_i), (int i64 p0_c_h)]), (false, rd p0_c_bv (List.map (int IntKind.u8) p0_c_b)), (false, rd p1_g_Rowsv (List.map (int i64) p1_g_Rows))]) :
    Calls Tryd.prog 90 [(fdp p0_cb 0), (Value.agg #[(int i64 p1_g_Size), p1_g_Rowsv])].toArray w0 (retPost fun v w' => v = (int i64 r.1) ∧ Mem (feet [(true, bx p0_cb 84 [p0_c_bv, (int i64 p0_c_i), (int i64 p0_c_h)])]) w0 w' [(true, bx p0_cb 84 [p0_c_bv, (int i64 r.2.1), (int i64 r.2.2)])]) := by
 have hM := hM.pick [1, 0, 2] (by decide) rfl
 refine enter2 Tryd.func90 rfl rfl rfl fun Q a hQr hQn hQp hS => ?_
 have hS : Sl 17 [(0, (fdp p0_cb 0)), (1, (Value.agg #[(int i64 p1_g_Size), p1_g_Rowsv]))] a := hS
 unfold S_spec_l3Set at hF
 refine wp_seq_k fun K1 hK1 => ?_
 refine wp_region_lit ?_
 obtain ⟨b3, w, hr, hM⟩ := hM.boxE (ρ := a.eval) (dst := some 3) (ty := _) (pos := _) (af := _) (gd := _) (x := .tmp 1) (T := 26) [(int i64 p1_g_Size), p1_g_Rowsv] (hS.ev rfl) rfl
 refine st_val hS rfl rfl (by decide) hr fun a hS => ?_
 refine st_val hS rfl rfl (by decide) (rv_assign (hS.ev rfl)) fun a hS => ?_
 refine wpList_nil ?_
 refine hK1 _ _ ?_
 refine wp_seq_k fun K4 hK4 => ?_
 refine wp_seq_k fun K13 hK13 => ?_
 refine wp_region_lit ?_
 refine st_val hS rfl rfl (by decide) (rv_move (hS.ev rfl)) fun a hS => ?_
 obtain ⟨r15, hr, hF⟩ := bind_some hF
 have hM := hM.pick [2, 1, 0, 3] (by decide) rfl
 have hP := Mem.pre (A := [(true, bx p0_cb 84 [p0_c_bv, (int i64 p0_c_i), (int i64 p0_c_h)])]) (C := [(false, rd p0_c_bv (List.map (int IntKind.u8) p0_c_b))]) (B := [(true, bx b3 26 [(int i64 p1_g_Size), p1_g_Rowsv]), (false, rd p1_g_Rowsv (List.map (int i64) p1_g_Rows))]) hM rfl (weaks_cons (weak_self _ _) weaks_nil)
 refine st_wp hS rfl (wp_call hS rfl rfl (by decide) fn_ok_73 rfl (c_spec_l1Once F p0_c_b p0_c_i p0_c_h 16 p0_c_bv p0_cb hr _ hP) fun v w a hK hS => ?_)
 obtain ⟨rfl, hN⟩ := hK
 have hM := Mem.callo (A := [(true, bx p0_cb 84 [p0_c_bv, (int i64 p0_c_i), (int i64 p0_c_h)])]) (B := [(false, rd p0_c_bv (List.map (int IntKind.u8) p0_c_b)), (true, bx b3 26 [(int i64 p1_g_Size), p1_g_Rowsv]), (false, rd p1_g_Rowsv (List.map (int i64) p1_g_Rows))]) hM rfl hN rfl
 refine wpList_nil ?_
 refine hK13 _ _ ?_
 rcases ite_some hF with ⟨hc, hF⟩ | ⟨hc, hF⟩
 ·refine cond_t hS rfl hc ?_
  refine wp_seq_k fun K16 hK16 => ?_
  refine wp_region_lit ?_
  refine st_val hS rfl rfl (by decide) (rv_move (hS.ev rfl)) fun a hS => ?_
  obtain ⟨v19, w, hr, hM⟩ := Mem.litE (f := (int i64)) (dst := some 8) (ty := _) (pos := _) (af := _) (gd := _) (ps := [(0, .const (int i64 (-1))), (1, .const (int i64 64)), (2, .const (int i64 127)), (3, .const (int i64 128)), (4, .const (int i64 9223372036854775807))]) ([(-1), 64, 127, 128, 9223372036854775807] : List (Int)) i64_one hM hS Tryd.underlying24 ty_el_3 rfl rfl rfl rfl
  refine st_val hS rfl rfl (by decide) hr fun a hS => ?_
  obtain ⟨r20, hr, hF⟩ := bind_some hF
  have hM := hM.pick [1, 2, 0, 3, 4] (by decide) rfl
  have hP := Mem.pre (A := [(true, bx p0_cb 84 [p0_c_bv, (int i64 r15.2.1), (int i64 r15.2.2)])]) (C := [(false, rd p0_c_bv (List.map (int IntKind.u8) p0_c_b)), (true, ow 3 v19 (List.map (int i64) ([(-1), 64, 127, 128, 9223372036854775807] : List (Int))))]) (B := [(true, bx b3 26 [(int i64 p1_g_Size), p1_g_Rowsv]), (false, rd p1_g_Rowsv (List.map (int i64) p1_g_Rows))]) hM rfl (weaks_cons (weak_self _ _) (weaks_cons (weak_ow _ _ _ _) weaks_nil))
  refine st_wp hS rfl (wp_call hS rfl rfl (by decide) fn_ok_74 rfl (c_spec_l1PickInt F p0_c_b r15.2.1 r15.2.2 ([(-1), 64, 127, 128, 9223372036854775807] : List (Int)) p0_c_bv p0_cb v19 hr _ hP) fun v w a hK hS => ?_)
  obtain ⟨rfl, hN⟩ := hK
  have hM := Mem.callo (A := [(true, bx p0_cb 84 [p0_c_bv, (int i64 r15.2.1), (int i64 r15.2.2)])]) (B := [(false, rd p0_c_bv (List.map (int IntKind.u8) p0_c_b)), (true, ow 3 v19 (List.map (int i64) ([(-1), 64, 127, 128, 9223372036854775807] : List (Int)))), (true, bx b3 26 [(int i64 p1_g_Size), p1_g_Rowsv]), (false, rd p1_g_Rowsv (List.map (int i64) p1_g_Rows))]) hM rfl hN rfl
  refine st_val hS rfl rfl (by decide) (rv_assign (hS.ev rfl)) fun a hS => ?_
  refine wpList_nil ?_
  refine hK16 _ _ ?_
  have hS : Sl 17 [(4, (int i64 r20.1))] a := hS.sub (sub_cons rfl sub_nil)
  have hM := hM.pick [0, 1] (by decide) rfl
  refine wp_ret ?_
  cases hF
  exact hQr _ _ (r_1 hS rfl rfl ⟨rfl, hM.pick [0] (by decide) rfl⟩)
 ·refine cond_f hS rfl hc ?_
  refine wp_skip ?_
  refine hK4 _ _ ?_
  refine wp_seq_k fun K21 hK21 => ?_
  refine wp_region_lit ?_
  refine st_val hS rfl rfl (by decide) (rv_move (hS.ev rfl)) fun a hS => ?_
  refine st_val hS rfl rfl (by decide) (rv_fieldAddr ty_fd_26_0 (hS.ev rfl)) fun a hS => ?_
  refine st_val hS rfl rfl (by decide) (rv_load_bx (hS.ev rfl) ty_ag_3 (hM.get 2 rfl) rfl) fun a hS => ?_
  refine st_val hS rfl rfl (by decide) (rv_min2 (hS.ev rfl) (hS.ev rfl)) fun a hS => ?_
  refine st_val hS rfl rfl (by decide) (rv_max2 (hS.ev rfl) (hS.ev rfl)) fun a hS => ?_
  obtain ⟨_, hx, hF⟩ := bind_some hF
  have hi0 := nnO_some hx
  refine st_val hS rfl rfl (by decide) (rv_shl (hS.ev rfl) (hS.ev rfl) hi0) fun a hS => ?_
  obtain ⟨r23, hr, hF⟩ := bind_some hF
  have hM := hM.pick [0, 1, 2, 3] (by decide) rfl
  have hP := Mem.pre (A := [(true, bx p0_cb 84 [p0_c_bv, (int i64 r15.2.1), (int i64 r15.2.2)])]) (C := [(false, rd p0_c_bv (List.map (int IntKind.u8) p0_c_b))]) (B := [(true, bx b3 26 [(int i64 p1_g_Size), p1_g_Rowsv]), (false, rd p1_g_Rowsv (List.map (int i64) p1_g_Rows))]) hM rfl (weaks_cons (weak_self _ _) weaks_nil)
  refine st_wp hS rfl (wp_call hS rfl rfl (by decide) fn_ok_72 rfl (c_spec_l1Below F p0_c_b r15.2.1 r15.2.2 (shL 1 (if (if p1_g_Size < 7 then p1_g_Size else 7) > 0 then (if p1_g_Size < 7 then p1_g_Size else 7) else 0)) p0_c_bv p0_cb hr _ hP) fun v w a hK hS => ?_)
  obtain ⟨rfl, hN⟩ := hK
  have hM := Mem.callo (A := [(true, bx p0_cb 84 [p0_c_bv, (int i64 r15.2.1), (int i64 r15.2.2)])]) (B := [(false, rd p0_c_bv (List.map (int IntKind.u8) p0_c_b)), (true, bx b3 26 [(int i64 p1_g_Size), p1_g_Rowsv]), (false, rd p1_g_Rowsv (List.map (int i64) p1_g_Rows))]) hM rfl hN rfl
  refine st_val hS rfl rfl (by decide) (rv_assign (hS.ev rfl)) fun a hS => ?_
  refine wpList_nil ?_
  refine hK21 _ _ ?_
  have hS : Sl 17 [(4, (int i64 r23.1))] a := hS.sub (sub_cons rfl sub_nil)
  have hM := hM.pick [0, 1] (by decide) rfl
  refine wp_ret ?_
  cases hF
  exact hQr _ _ (r_1 hS rfl rfl ⟨rfl, hM.pick [0] (by decide) rfl⟩)


theorem c_spec_l3Both (F : Nat) (p0_code : List Int) (p0_codev : Value) {r : Int × (List (Int)) × Int} (hF : S_spec_l3Both F p0_code = some r) (w0 : World) (h0 : RdRow w0 p0_codev (List.map (int IntKind.u8) p0_code)) :
    Calls Tryd.prog 58 [p0_codev].toArray w0 (retPost fun v w' => ∃ v19, v = (Value.tuple #[(Value.agg #[(int i64 r.1), v19]), (int i64 r.2.2)]) ∧ Mem Nob w0 w' [(true, ow 3 v19 (List.map (int i64) r.2.1))]) := by
 have hM : Mem Nob w0 w0 [(false, rd p0_codev (List.map (int IntKind.u8) p0_code))] := (Mem.rcons (Mem.nil w0) h0 (by simp))
 refine enter2 Tryd.func58 rfl rfl rfl fun Q a hQr hQn hQp hS => ?_
 have hS : Sl 14 [(0, p0_codev)] a := hS
 unfold S_spec_l3Both at hF
 refine wp_seq_k fun K1 hK1 => ?_
 refine wp_region_lit ?_
 obtain ⟨b3, w, hr, hM⟩ := hM.allocE (ρ := a.eval) (dst := some 2) (ty := _) (pos := _) (af := _) (gd := _) (T := 26) (P := Tryd.prog) [(int i64 0), (Value.slice none 0 0)] ty_zr_26 rfl
 refine st_val hS rfl rfl (by decide) hr fun a hS => ?_
 have hM := hM.addNil 3
 refine st_val hS rfl rfl (by decide) (rv_assign (hS.ev rfl)) fun a hS => ?_
 refine wpList_nil ?_
 refine hK1 _ _ ?_
 refine wp_seq_k fun K4 hK4 => ?_
 refine wp_region_lit ?_
 refine st_val hS rfl rfl (by decide) (rv_move (hS.ev rfl)) fun a hS => ?_
 obtain ⟨r7, hr, hF⟩ := bind_some hF
 refine st_wp hS rfl (wp_call hS rfl rfl (by decide) fn_ok_71 rfl (c_spec_l1New F p0_code p0_codev hr _ (hM.get 2 rfl)) fun v w a hK hS => ?_)
 obtain ⟨b8, rfl, hN⟩ := hK
 have hM := hM.add hN rfl
 refine st_val hS rfl rfl (by decide) (rv_assign (hS.ev rfl)) fun a hS => ?_
 refine wpList_nil ?_
 refine hK4 _ _ ?_
 refine wp_seq_k fun K9 hK9 => ?_
 refine wp_region_lit ?_
 refine st_val hS rfl rfl (by decide) (rv_move (hS.ev rfl)) fun a hS => ?_
 obtain ⟨r13, hr, hF⟩ := bind_some hF
 have hM := hM.pick [0, 3, 1, 2] (by decide) rfl
 have hP := Mem.pre (A := [(true, bx b8 84 [p0_codev, (int i64 r7.1), (int i64 r7.2)])]) (C := [(false, rd p0_codev (List.map (int IntKind.u8) p0_code))]) (B := [(true, ow 3 (Value.slice none 0 0) (List.map (int i64) ([] : List (Int)))), (true, bx b3 26 [(int i64 0), (Value.slice none 0 0)])]) hM rfl (weaks_cons (weak_self _ _) weaks_nil)
 refine st_wp hS rfl (wp_call hS rfl rfl (by decide) fn_ok_76 rfl (c_spec_l2Any F p0_code r7.1 r7.2 p0_codev b8 hr _ hP) fun v w a hK hS => ?_)
 obtain ⟨v14, rfl, hN⟩ := hK
 have hM := Mem.callo (A := [(true, bx b8 84 [p0_codev, (int i64 r7.1), (int i64 r7.2)])]) (B := [(false, rd p0_codev (List.map (int IntKind.u8) p0_code)), (true, ow 3 (Value.slice none 0 0) (List.map (int i64) ([] : List (Int)))), (true, bx b3 26 [(int i64 0), (Value.slice none 0 0)])]) hM rfl hN rfl
 obtain ⟨b15, w, hr, hM⟩ := hM.allocE (ρ := a.eval) (dst := some 5) (ty := _) (pos := _) (af := _) (gd := _) (T := 26) (P := Tryd.prog) [(int i64 0), (Value.slice none 0 0)] ty_zr_26 rfl
 refine st_val hS rfl rfl (by decide) hr fun a hS => ?_
 have hM := hM.addNil 3
 have hM := hM.pick [1, 0, 2, 3, 4, 5, 6] (by decide) rfl
 obtain ⟨w, hr, hM⟩ := hM.st_agg (us := [(int i64 r13.1), v14]) (ρ := a.eval) (dst := none) (ty := _) (pos := _) (af := _) (gd := _) (x := .tmp 5) (y := .tmp 9) (hS.ev rfl) (hS.ev rfl) ty_sz_26 (all1_cons rfl (all1_cons (rd_one (rd_of_ow (hM.get 3 rfl))) all1_nil)) rfl
 refine st_unit hS rfl rfl hr ?_
 refine wpList_nil ?_
 refine hK9 _ _ ?_
 refine wp_seq_k fun K16 hK16 => ?_
 have hM := hM.pick [2, 6, 0, 1, 3, 4, 5] (by decide) rfl
 refine an_startB 6 (feet [(true, bx b8 84 [p0_codev, (int i64 r13.2.2.1), (int i64 r13.2.2.2)]), (true, bx b3 26 [(int i64 0), (Value.slice none 0 0)])]) ty_mixed (by kernel_rfl) fun w hf => ?_
 have hM := hM.fra hf
 have hB := hM
 have hM := Mem.regA (A := [(true, bx b8 84 [p0_codev, (int i64 r13.2.2.1), (int i64 r13.2.2.2)]), (true, bx b3 26 [(int i64 0), (Value.slice none 0 0)])]) (R := [(true, bx b15 26 [(int i64 r13.1), v14]), (true, ow 3 (Value.slice none 0 0) (List.map (int i64) ([] : List (Int)))), (true, ow 3 v14 (List.map (int i64) r13.2.1)), (false, rd p0_codev (List.map (int IntKind.u8) p0_code)), (true, ow 3 (Value.slice none 0 0) (List.map (int i64) ([] : List (Int))))]) hB rfl
 refine tkB hS 0 1 (by kernel_rfl) rfl rfl rfl hQp rfl (fun w' hC' => (rv_load_agg (hS.ev rfl) ty_ag_26 (Mem.getFA (A := [(true, bx b8 84 [p0_codev, (int i64 r13.2.2.1), (int i64 r13.2.2.2)]), (true, bx b3 26 [(int i64 0), (Value.slice none 0 0)])]) (R := [(true, bx b15 26 [(int i64 r13.1), v14]), (true, ow 3 (Value.slice none 0 0) (List.map (int i64) ([] : List (Int)))), (true, ow 3 v14 (List.map (int i64) r13.2.1)), (false, rd p0_codev (List.map (int IntKind.u8) p0_code)), (true, ow 3 (Value.slice none 0 0) (List.map (int i64) ([] : List (Int))))]) hB rfl 0 rfl hC') ty_sz_26)) hM.fr fun a hS => ?_
 refine tkB hS 1 3 (by kernel_rfl) rfl rfl rfl hQp rfl (fun w' hC' => (rv_move (hS.ev rfl))) hM.fr fun a hS => ?_
 refine tkB hS 2 7 (by kernel_rfl) rfl rfl rfl hQp rfl (fun w' hC' => (rv_load_agg (hS.ev rfl) ty_ag_26 (Mem.getFA (A := [(true, bx b8 84 [p0_codev, (int i64 r13.2.2.1), (int i64 r13.2.2.2)]), (true, bx b3 26 [(int i64 0), (Value.slice none 0 0)])]) (R := [(true, bx b15 26 [(int i64 r13.1), v14]), (true, ow 3 (Value.slice none 0 0) (List.map (int i64) ([] : List (Int)))), (true, ow 3 v14 (List.map (int i64) r13.2.1)), (false, rd p0_codev (List.map (int IntKind.u8) p0_code)), (true, ow 3 (Value.slice none 0 0) (List.map (int i64) ([] : List (Int))))]) hB rfl 0 rfl hC') ty_sz_26)) hM.fr fun a hS => ?_
 obtain ⟨r18, hr, hF⟩ := bind_some hF
 have hM := hM.pick [0, 5, 4, 1, 2, 3, 6] (by decide) rfl
 have hP := Mem.pre (A := [(true, bx b8 84 [p0_codev, (int i64 r13.2.2.1), (int i64 r13.2.2.2)])]) (C := [(false, rd p0_codev (List.map (int IntKind.u8) p0_code)), (false, ow 3 v14 (List.map (int i64) r13.2.1))]) (B := [(true, bx b3 26 [(int i64 0), (Value.slice none 0 0)]), (false, bx b15 26 [(int i64 r13.1), v14]), (false, ow 3 (Value.slice none 0 0) (List.map (int i64) ([] : List (Int)))), (false, ow 3 (Value.slice none 0 0) (List.map (int i64) ([] : List (Int))))]) hM rfl (weaks_cons (weak_self _ _) (weaks_cons (weak_ow _ _ _ _) weaks_nil))
 refine an_oneB hS (i := 3) 15 (by kernel_rfl) rfl (by kernel_rfl) rfl ?_
 refine wp_call hS rfl rfl (by decide) fn_ok_90 rfl (c_spec_l3Set F p0_code r13.2.2.1 r13.2.2.2 r13.1 r13.2.1 p0_codev b8 v14 hr _ hP) fun v w a hK hS => ?_
 obtain ⟨rfl, hN⟩ := hK
 have hM := Mem.callo (A := [(true, bx b8 84 [p0_codev, (int i64 r13.2.2.1), (int i64 r13.2.2.2)])]) (B := [(false, rd p0_codev (List.map (int IntKind.u8) p0_code)), (false, ow 3 v14 (List.map (int i64) r13.2.1)), (true, bx b3 26 [(int i64 0), (Value.slice none 0 0)]), (false, bx b15 26 [(int i64 r13.1), v14]), (false, ow 3 (Value.slice none 0 0) (List.map (int i64) ([] : List (Int)))), (false, ow 3 (Value.slice none 0 0) (List.map (int i64) ([] : List (Int))))]) hM rfl hN rfl
 refine ⟨hM.fr, ?_⟩
 have hM := hM.pick [3, 0, 1, 2, 4, 5, 6] (by decide) rfl
 obtain ⟨w, hr, hM⟩ := hM.st_agg (us := [(int i64 r13.1), v14]) (ρ := a.eval) (dst := none) (ty := _) (pos := _) (af := _) (gd := _) (x := .tmp 2) (y := .tmp 10) (hS.ev rfl) (hS.ev rfl) ty_sz_26 (all1_cons rfl (all1_cons (rd_one (rd_of_ow (hM.get 3 rfl))) all1_nil)) rfl
 refine an_oneB hS (i := 4) 31 (by kernel_rfl) rfl (by kernel_rfl) rfl ?_
 refine wp_unit hS rfl hr ⟨hM.fr, ?_⟩
 refine tkB hS 5 63 (by kernel_rfl) rfl rfl rfl hQp rfl (fun w' hC' => (rv_assign (hS.ev rfl))) hM.fr fun a hS => ?_
 refine an_done (by kernel_rfl) ?_
 have hN := hM.pick [0, 1] (by decide) rfl
 have hM := Mem.callo (A := [(true, bx b8 84 [p0_codev, (int i64 r13.2.2.1), (int i64 r13.2.2.2)]), (true, bx b3 26 [(int i64 0), (Value.slice none 0 0)])]) (B := [(true, bx b15 26 [(int i64 r13.1), v14]), (true, ow 3 (Value.slice none 0 0) (List.map (int i64) ([] : List (Int)))), (true, ow 3 v14 (List.map (int i64) r13.2.1)), (false, rd p0_codev (List.map (int IntKind.u8) p0_code)), (true, ow 3 (Value.slice none 0 0) (List.map (int i64) ([] : List (Int))))]) hB rfl (hN.memS fun _ h => h) rfl
 refine hK16 _ _ ?_
 have hS : Sl 14 [(2, (fdp b3 0)), (3, (int i64 r18.1))] a := hS.sub (sub_cons rfl (sub_cons rfl sub_nil))
 have hM := hM.pick [0, 4] (by decide) rfl
 refine wp_ret ?_
 cases hF
 exact hQr _ _ (r_cc hS rfl ⟨_, rfl, run_loadAgg ty_ag_26 (hM.get 0 rfl) ty_sz_26⟩ rfl ⟨v14, rfl, hM.pick [1] (by decide) rfl⟩)


theorem c_spec_DrawIsClique (F : Nat) (p0_code : List Int) (p0_codev : Value) {r : Int × (List (Int)) × Int} (hF : S_spec_DrawIsClique F p0_code = some r) (w0 : World) (h0 : RdRow w0 p0_codev (List.map (int IntKind.u8) p0_code)) :
    Calls Tryd.prog 20 [p0_codev].toArray w0 (retPost fun v w' => ∃ v12, v = (Value.tuple #[(Value.agg #[(int i64 r.1), v12]), (int i64 r.2.2)]) ∧ Mem Nob w0 w' [(true, ow 3 v12 (List.map (int i64) r.2.1))]) := by
 have hM : Mem Nob w0 w0 [(false, rd p0_codev (List.map (int IntKind.u8) p0_code))] := (Mem.rcons (Mem.nil w0) h0 (by simp))
 refine enter2 Tryd.func20 rfl rfl rfl fun Q a hQr hQn hQp hS => ?_
 have hS : Sl 13 [(0, p0_codev)] a := hS
 unfold S_spec_DrawIsClique at hF
 refine wp_seq_k fun K1 hK1 => ?_
 refine wp_region_lit ?_
 obtain ⟨b3, w, hr, hM⟩ := hM.allocE (ρ := a.eval) (dst := some 2) (ty := _) (pos := _) (af := _) (gd := _) (T := 26) (P := Tryd.prog) [(int i64 0), (Value.slice none 0 0)] ty_zr_26 rfl
 refine st_val hS rfl rfl (by decide) hr fun a hS => ?_
 have hM := hM.addNil 3
 refine st_val hS rfl rfl (by decide) (rv_assign (hS.ev rfl)) fun a hS => ?_
 refine wpList_nil ?_
 refine hK1 _ _ ?_
 refine wp_seq_k fun K4 hK4 => ?_
 refine wp_region_lit ?_
 refine st_val hS rfl rfl (by decide) (rv_move (hS.ev rfl)) fun a hS => ?_
 obtain ⟨r8, hr, hF⟩ := bind_some hF
 refine st_wp hS rfl (wp_call hS rfl rfl (by decide) fn_ok_58 rfl (c_spec_l3Both F p0_code p0_codev hr _ (hM.get 2 rfl)) fun v w a hK hS => ?_)
 obtain ⟨v9, rfl, hN⟩ := hK
 have hM := hM.add hN rfl
 refine st_val hS rfl rfl (by decide) (rv_move (hS.ev rfl)) fun a hS => ?_
 refine st_val hS rfl rfl (by decide) (rv_extract (hS.ev rfl) rfl) fun a hS => ?_
 refine st_val hS rfl rfl (by decide) (rv_extract (hS.ev rfl) rfl) fun a hS => ?_
 obtain ⟨b10, w, hr, hM⟩ := hM.allocE (ρ := a.eval) (dst := some 4) (ty := _) (pos := _) (af := _) (gd := _) (T := 26) (P := Tryd.prog) [(int i64 0), (Value.slice none 0 0)] ty_zr_26 rfl
 refine st_val hS rfl rfl (by decide) hr fun a hS => ?_
 have hM := hM.addNil 3
 have hM := hM.pick [1, 0, 2, 3, 4, 5] (by decide) rfl
 obtain ⟨w, hr, hM⟩ := hM.st_agg (us := [(int i64 r8.1), v9]) (ρ := a.eval) (dst := none) (ty := _) (pos := _) (af := _) (gd := _) (x := .tmp 4) (y := .tmp 9) (hS.ev rfl) (hS.ev rfl) ty_sz_26 (all1_cons rfl (all1_cons (rd_one (rd_of_ow (hM.get 2 rfl))) all1_nil)) rfl
 refine st_unit hS rfl rfl hr ?_
 refine st_val hS rfl rfl (by decide) (rv_assign (hS.ev rfl)) fun a hS => ?_
 refine wpList_nil ?_
 refine hK4 _ _ ?_
 refine wp_seq_k fun K11 hK11 => ?_
 refine wp_region_lit ?_
 refine st_val hS rfl rfl (by decide) (rv_load_agg (hS.ev rfl) ty_ag_26 (hM.get 0 rfl) ty_sz_26) fun a hS => ?_
 refine st_val hS rfl rfl (by decide) (rv_move (hS.ev rfl)) fun a hS => ?_
 have hM := hM.pick [4, 0, 1, 2, 3, 5] (by decide) rfl
 obtain ⟨w, hr, hM⟩ := hM.st_agg (us := [(int i64 r8.1), v9]) (ρ := a.eval) (dst := none) (ty := _) (pos := _) (af := _) (gd := _) (x := .tmp 2) (y := .tmp 11) (hS.ev rfl) (hS.ev rfl) ty_sz_26 (all1_cons rfl (all1_cons (rd_one (rd_of_ow (hM.get 3 rfl))) all1_nil)) rfl
 refine st_unit hS rfl rfl hr ?_
 refine st_val hS rfl rfl (by decide) (rv_assign (hS.ev rfl)) fun a hS => ?_
 refine wpList_nil ?_
 refine hK11 _ _ ?_
 have hS : Sl 13 [(2, (fdp b3 0)), (3, (int i64 r8.2.2))] a := hS.sub (sub_cons rfl (sub_cons rfl sub_nil))
 have hM := hM.pick [0, 3] (by decide) rfl
 refine wp_ret ?_
 cases hF
 exact hQr _ _ (r_cc hS rfl ⟨_, rfl, run_loadAgg ty_ag_26 (hM.get 0 rfl) ty_sz_26⟩ rfl ⟨v9, rfl, hM.pick [1] (by decide) rfl⟩)


theorem c_spec_ComplementOf (F : Nat) (p0_g_Size : Int) (p0_g_Rows : List Int) (p0_g_Rowsv : Value) {r : Int × (List (Int)) × Bool} (hF : S_spec_ComplementOf F p0_g_Size p0_g_Rows = some r) (w0 : World) (h0 : RdRow w0 p0_g_Rowsv (List.map (int i64) p0_g_Rows)) :
    Calls Tryd.prog 21 [(Value.agg #[(int i64 p0_g_Size), p0_g_Rowsv])].toArray w0 (retPost fun v w' => ∃ v104, v = (Value.tuple #[(Value.agg #[(int i64 r.1), v104]), (Value.bool r.2.2)]) ∧ Mem Nob w0 w' [(true, ow 3 v104 (List.map (int i64) r.2.1))]) := by
 have hM : Mem Nob w0 w0 [(false, rd p0_g_Rowsv (List.map (int i64) p0_g_Rows))] := (Mem.rcons (Mem.nil w0) h0 (by simp))
 refine enter2 Tryd.func21 rfl rfl rfl fun Q a hQr hQn hQp hS => ?_
 have hS : Sl 38 [(0, (Value.agg #[(int i64 p0_g_Size), p0_g_Rowsv]))] a := hS
 unfold S_spec_ComplementOf at hF
 refine wp_seq_k fun K1 hK1 => ?_
 refine wp_region_lit ?_
 obtain ⟨b4, w, hr, hM⟩ := hM.boxE (ρ := a.eval) (dst := some 1) (ty := _) (pos := _) (af := _) (gd := _) (x := .tmp 0) (T := 26) [(int i64 p0_g_Size), p0_g_Rowsv] (hS.ev rfl) rfl
 refine st_val hS rfl rfl (by decide) hr fun a hS => ?_
 obtain ⟨b5, w, hr, hM⟩ := hM.allocE (ρ := a.eval) (dst := some 2) (ty := _) (pos := _) (af := _) (gd := _) (T := 26) (P := Tryd.prog) [(int i64 0), (Value.slice none 0 0)] ty_zr_26 rfl
 refine st_val hS rfl rfl (by decide) hr fun a hS => ?_
 have hM := hM.addNil 3
 refine st_val hS rfl rfl (by decide) (rv_assign (hS.ev rfl)) fun a hS => ?_
 refine wpList_nil ?_
 refine hK1 _ _ ?_
 refine wp_seq_k fun K6 hK6 => ?_
 refine wp_seq_k fun K11 hK11 => ?_
 refine wp_region_lit ?_
 refine st_val hS rfl rfl (by decide) (rv_load_agg (hS.ev rfl) ty_ag_26 (hM.get 2 rfl) ty_sz_26) fun a hS => ?_
 obtain ⟨r13, hr, hF⟩ := bind_some hF
 refine st_wp hS rfl (wp_call hS rfl rfl (by decide) fn_ok_39 rfl (c_spec_IsGraph F p0_g_Size p0_g_Rows p0_g_Rowsv hr _ (hM.get 3 rfl)) fun v w a hK hS => ?_)
 obtain ⟨rfl, hN⟩ := hK
 have hM := hM.fra hN.fr
 refine st_val hS rfl rfl (by decide) (rv_not (hS.ev rfl)) fun a hS => ?_
 refine wpList_nil ?_
 refine hK11 _ _ ?_
 rcases ite_some hF with ⟨hc, hF⟩ | ⟨hc, hF⟩
 ·refine cond_t hS rfl hc ?_
  refine wp_seq_k fun K14 hK14 => ?_
  refine wp_region_lit ?_
  refine st_val hS rfl rfl (by decide) (rv_build hS ty_st_26 rfl (by simp) ones_nil) fun a hS => ?_
  have hM := hM.pick [1, 0, 2, 3] (by decide) rfl
  obtain ⟨w, hr, hM⟩ := hM.st_agg (us := [(int i64 0), (Value.slice none 0 0)]) (ρ := a.eval) (dst := none) (ty := _) (pos := _) (af := _) (gd := _) (x := .tmp 2) (y := .tmp 9) (hS.ev rfl) (hS.ev rfl) ty_sz_26 (all1_cons rfl (all1_cons rfl all1_nil)) rfl
  refine st_unit hS rfl rfl hr ?_
  have hM := hM.addNil 3
  refine st_val hS rfl rfl (by decide) (rv_assign (hS.ev rfl)) fun a hS => ?_
  refine wpList_nil ?_
  refine hK14 _ _ ?_
  have hS : Sl 38 [(2, (fdp b5 0)), (3, (Value.bool false))] a := hS.sub (sub_cons rfl (sub_cons rfl sub_nil))
  have hM := hM.pick [0, 1] (by decide) rfl
  refine wp_ret ?_
  cases hF
  exact hQr _ _ (r_cc hS rfl ⟨_, rfl, run_loadAgg ty_ag_26 (hM.get 1 rfl) ty_sz_26⟩ rfl ⟨(Value.slice none 0 0), rfl, hM.pick [0] (by decide) rfl⟩)
 ·refine cond_f hS rfl hc ?_
  refine wp_skip ?_
  refine hK6 _ _ ?_
  refine wp_seq_k fun K15 hK15 => ?_
  refine wp_region_lit ?_
  refine st_val hS rfl rfl (by decide) (rv_fieldAddr ty_fd_26_0 (hS.ev rfl)) fun a hS => ?_
  refine st_val hS rfl rfl (by decide) (rv_load_bx (hS.ev rfl) ty_ag_3 (hM.get 2 rfl) rfl) fun a hS => ?_
  refine st_val hS rfl rfl (by decide) (rv_build hS ty_st_26 rfl (by simp) (ones_cons (by rw [hS.ev (v := (int i64 p0_g_Size)) rfl]; rfl) ones_nil)) fun a hS => ?_
  obtain ⟨b17, w, hr, hM⟩ := hM.allocE (ρ := a.eval) (dst := some 4) (ty := _) (pos := _) (af := _) (gd := _) (T := 26) (P := Tryd.prog) [(int i64 0), (Value.slice none 0 0)] ty_zr_26 rfl
  refine st_val hS rfl rfl (by decide) hr fun a hS => ?_
  have hM := hM.addNil 3
  have hM := hM.pick [1, 0, 2, 3, 4, 5] (by decide) rfl
  obtain ⟨w, hr, hM⟩ := hM.st_agg (us := [(int i64 p0_g_Size), (Value.slice none 0 0)]) (ρ := a.eval) (dst := none) (ty := _) (pos := _) (af := _) (gd := _) (x := .tmp 4) (y := .tmp 12) (hS.ev rfl) (hS.ev rfl) ty_sz_26 (all1_cons rfl (all1_cons rfl all1_nil)) rfl
  refine st_unit hS rfl rfl hr ?_
  have hM := hM.addNil 3
  refine wpList_nil ?_
  refine hK15 _ _ ?_
  have hS : Sl 38 [(1, (fdp b4 0)), (2, (fdp b5 0)), (4, (fdp b17 0))] a := hS.sub (sub_cons rfl (sub_cons rfl (sub_cons rfl sub_nil)))
  have hM := hM.pick [0, 1, 3, 4, 5, 6] (by decide) rfl
  refine wp_seq_k fun K18 hK18 => ?_
  have hJ1 : ∀ (l61 : List Int) (v60 : Value) (a : Act) (w : World), Sl 38 [(2, (fdp b5 0)), (4, (fdp b17 0))] a → Mem Nob w0 w [(true, bx b5 26 [(int i64 0), (Value.slice none 0 0)]), (true, ow 3 (Value.slice none 0 0) (List.map (int i64) ([] : List (Int)))), (true, bx b17 26 [(int i64 p0_g_Size), v60]), (true, ow 3 v60 (List.map (int i64) l61))] → S_spec_ComplementOf_j1 F p0_g_Size l61 = some r → K18 a w := by
   intro l61 v60 a w hS hM hF
   unfold S_spec_ComplementOf_j1 at hF
   refine hK18 _ _ ?_
   refine wp_seq_k fun K62 hK62 => ?_
   refine wp_region_lit ?_
   refine st_val hS rfl rfl (by decide) (rv_load_agg (hS.ev rfl) ty_ag_26 (hM.get 2 rfl) ty_sz_26) fun a hS => ?_
   obtain ⟨w, hr, hM⟩ := hM.st_agg (us := [(int i64 p0_g_Size), v60]) (ρ := a.eval) (dst := none) (ty := _) (pos := _) (af := _) (gd := _) (x := .tmp 2) (y := .tmp 37) (hS.ev rfl) (hS.ev rfl) ty_sz_26 (all1_cons rfl (all1_cons (rd_one (rd_of_ow (hM.get 3 rfl))) all1_nil)) rfl
   refine st_unit hS rfl rfl hr ?_
   refine st_val hS rfl rfl (by decide) (rv_assign (hS.ev rfl)) fun a hS => ?_
   refine wpList_nil ?_
   refine hK62 _ _ ?_
   refine wp_ret ?_
   cases hF
   exact hQr _ _ (r_cc hS rfl ⟨_, rfl, run_loadAgg ty_ag_26 (hM.get 0 rfl) ty_sz_26⟩ rfl ⟨v60, rfl, hM.pick [3] (by decide) rfl⟩)
  refine wp_seq_k fun K63 hK63 => ?_
  refine wp_region_lit ?_
  refine st_val hS rfl rfl (by decide) (rv_assign (hS.ev rfl)) fun a hS => ?_
  refine wpList_nil ?_
  refine hK63 _ _ ?_
  refine wp_block ?_
  obtain ⟨lb2, hl2, hF2⟩ := bind_some hF
  refine wp_loop_sh (fun s => S_spec_ComplementOf_l2 F p0_g_Size p0_g_Rows s.1 s.2) (fun s a w => ∃ (v77 : Value), Sl 38 [(1, (fdp b4 0)), (2, (fdp b5 0)), (4, (fdp b17 0)), (5, (int i64 s.2))] a ∧ Mem Nob w0 w [(true, bx b4 26 [(int i64 p0_g_Size), p0_g_Rowsv]), (false, rd p0_g_Rowsv (List.map (int i64) p0_g_Rows)), (true, bx b5 26 [(int i64 0), (Value.slice none 0 0)]), (true, ow 3 (Value.slice none 0 0) (List.map (int i64) ([] : List (Int)))), (true, bx b17 26 [(int i64 p0_g_Size), v77]), (true, ow 3 v77 (List.map (int i64) s.1))]) hl2 ⟨(Value.slice none 0 0), (hS.sub (sub_cons rfl (sub_cons rfl (sub_cons rfl (sub_cons rfl sub_nil))))), (hM.pick [4, 5, 3, 2, 1, 0] (by decide) rfl)⟩ ?_
  rintro K2 ⟨l78, x79⟩ a w res2 ⟨v77, hS, hM⟩ hF hN2 hX2
  have hF : S_spec_ComplementOf_l2 F p0_g_Size p0_g_Rows l78 x79 = some res2 := hF
  have hS : Sl 38 [(1, (fdp b4 0)), (2, (fdp b5 0)), (4, (fdp b17 0)), (5, (int i64 x79))] a := hS
  have hM : Mem Nob w0 w [(true, bx b4 26 [(int i64 p0_g_Size), p0_g_Rowsv]), (false, rd p0_g_Rowsv (List.map (int i64) p0_g_Rows)), (true, bx b5 26 [(int i64 0), (Value.slice none 0 0)]), (true, ow 3 (Value.slice none 0 0) (List.map (int i64) ([] : List (Int)))), (true, bx b17 26 [(int i64 p0_g_Size), v77]), (true, ow 3 v77 (List.map (int i64) l78))] := hM
  unfold S_spec_ComplementOf_l2 at hF
  refine wp_seq_k fun K92 hK92 => ?_
  refine wp_seq_k fun K94 hK94 => ?_
  refine wp_region_lit ?_
  refine st_val hS rfl rfl (by decide) (rv_move (hS.ev rfl)) fun a hS => ?_
  refine st_val hS rfl rfl (by decide) (rv_fieldAddr ty_fd_26_0 (hS.ev rfl)) fun a hS => ?_
  refine st_val hS rfl rfl (by decide) (rv_load_bx (hS.ev rfl) ty_ag_3 (hM.get 0 rfl) rfl) fun a hS => ?_
  refine st_val hS rfl rfl (by decide) (rv_lss (hS.ev rfl) (hS.ev rfl)) fun a hS => ?_
  refine wpList_nil ?_
  refine hK94 _ _ ?_
  rcases ite_some hF with ⟨hc, hF⟩ | ⟨hc, hF⟩
  ·refine cond_t hS rfl hc ?_
   refine wp_skip ?_
   refine hK92 _ _ ?_
   refine wp_seq_k fun K95 hK95 => ?_
   have hJ3 : ∀ (l100 : List Int) (v99 : Value) (a : Act) (w : World), Sl 38 [(1, (fdp b4 0)), (2, (fdp b5 0)), (4, (fdp b17 0)), (5, (int i64 x79))] a → Mem Nob w0 w [(true, bx b4 26 [(int i64 p0_g_Size), p0_g_Rowsv]), (false, rd p0_g_Rowsv (List.map (int i64) p0_g_Rows)), (true, bx b5 26 [(int i64 0), (Value.slice none 0 0)]), (true, ow 3 (Value.slice none 0 0) (List.map (int i64) ([] : List (Int)))), (true, bx b17 26 [(int i64 p0_g_Size), v99]), (true, ow 3 v99 (List.map (int i64) l100))] → S_spec_ComplementOf_j3 F x79 l100 = some res2 → K95 a w := by
    intro l100 v99 a w hS hM hF
    unfold S_spec_ComplementOf_j3 at hF
    refine hK95 _ _ ?_
    refine wp_region_lit ?_
    refine st_val hS rfl rfl (by decide) (rv_move (hS.ev rfl)) fun a hS => ?_
    refine st_val hS rfl rfl (by decide) (rv_add (hS.ev rfl) (hS.ev rfl)) fun a hS => ?_
    refine st_val hS rfl rfl (by decide) (rv_assign (hS.ev rfl)) fun a hS => ?_
    refine wpList_nil ?_
    cases hF
    exact hN2 _ _ _ rfl ⟨v99, (hS.sub (sub_cons rfl (sub_cons rfl (sub_cons rfl (sub_cons rfl sub_nil))))), (hM.pick [0, 1, 2, 3, 4, 5] (by decide) rfl)⟩
   refine wp_block ?_
   have hM := hM.pick [5, 4, 0, 1, 2, 3] (by decide) rfl
   refine an_start (feet [(true, ow 3 v77 (List.map (int i64) l78)), (true, bx b17 26 [(int i64 p0_g_Size), v77])]) ty_mixed fun w hf => ?_
   have hM := hM.fra hf
   have hB := hM
   have hM := Mem.regA (A := [(true, ow 3 v77 (List.map (int i64) l78)), (true, bx b17 26 [(int i64 p0_g_Size), v77])]) (R := [(true, bx b4 26 [(int i64 p0_g_Size), p0_g_Rowsv]), (false, rd p0_g_Rowsv (List.map (int i64) p0_g_Rows)), (true, bx b5 26 [(int i64 0), (Value.slice none 0 0)]), (true, ow 3 (Value.slice none 0 0) (List.map (int i64) ([] : List (Int))))]) hB rfl
   refine an_take hS (i := 0) rfl (by kernel_rfl) (by kernel_rfl) (by kernel_rfl) rfl (by decide) hQp rfl (fun w' hC' => (rv_fieldAddr ty_fd_26_1 (hS.ev rfl))) hM.fr fun a hS => ?_
   refine an_take hS (i := 2) rfl (by kernel_rfl) (by kernel_rfl) (by kernel_rfl) rfl (by decide) hQp rfl (fun w' hC' => (rv_fieldAddr ty_fd_26_0 (hS.ev rfl))) hM.fr fun a hS => ?_
   refine an_take hS (i := 3) rfl (by kernel_rfl) (by kernel_rfl) (by kernel_rfl) rfl (by decide) hQp rfl (fun w' hC' => (rv_load_bx (hS.ev rfl) ty_ag_3 (Mem.getFA (A := [(true, ow 3 v77 (List.map (int i64) l78)), (true, bx b17 26 [(int i64 p0_g_Size), v77])]) (R := [(true, bx b4 26 [(int i64 p0_g_Size), p0_g_Rowsv]), (false, rd p0_g_Rowsv (List.map (int i64) p0_g_Rows)), (true, bx b5 26 [(int i64 0), (Value.slice none 0 0)]), (true, ow 3 (Value.slice none 0 0) (List.map (int i64) ([] : List (Int))))]) hB rfl 0 rfl hC') rfl)) hM.fr fun a hS => ?_
   obtain ⟨_, hx, hF⟩ := bind_some hF
   have hi0 := nnO_some hx
   refine an_take hS (i := 4) rfl (by kernel_rfl) (by kernel_rfl) (by kernel_rfl) rfl (by decide) hQp rfl (fun w' hC' => (rv_shl (hS.ev rfl) (hS.ev rfl) hi0)) hM.fr fun a hS => ?_
   refine an_take hS (i := 5) rfl (by kernel_rfl) (by kernel_rfl) (by kernel_rfl) rfl (by decide) hQp rfl (fun w' hC' => (rv_sub (hS.ev rfl) (hS.ev rfl))) hM.fr fun a hS => ?_
   refine an_take hS (i := 6) rfl (by kernel_rfl) (by kernel_rfl) (by kernel_rfl) rfl (by decide) hQp rfl (fun w' hC' => (rv_fieldAddr ty_fd_26_1 (hS.ev rfl))) hM.fr fun a hS => ?_
   refine an_take hS (i := 7) rfl (by kernel_rfl) (by kernel_rfl) (by kernel_rfl) rfl (by decide) hQp rfl (fun w' hC' => (rv_load_bx (hS.ev rfl) ty_ag_24 (Mem.getFA (A := [(true, ow 3 v77 (List.map (int i64) l78)), (true, bx b17 26 [(int i64 p0_g_Size), v77])]) (R := [(true, bx b4 26 [(int i64 p0_g_Size), p0_g_Rowsv]), (false, rd p0_g_Rowsv (List.map (int i64) p0_g_Rows)), (true, bx b5 26 [(int i64 0), (Value.slice none 0 0)]), (true, ow 3 (Value.slice none 0 0) (List.map (int i64) ([] : List (Int))))]) hB rfl 0 rfl hC') rfl)) hM.fr fun a hS => ?_
   refine an_take hS (i := 8) rfl (by kernel_rfl) (by kernel_rfl) (by kernel_rfl) rfl (by decide) hQp rfl (fun w' hC' => (rv_move (hS.ev rfl))) hM.fr fun a hS => ?_
   obtain ⟨x101, hx, hF⟩ := bind_some hF
   obtain ⟨hi0, hi1, hex101⟩ := idxL_some hx
   refine an_take hS (i := 9) rfl (by kernel_rfl) (by kernel_rfl) (by kernel_rfl) rfl (by decide) hQp rfl (fun w' hC' => (rv_indexAddr Tryd.underlying24 ty_el_3 (hS.ev rfl) (hS.ev rfl) (hM.get 3 rfl) hi0 (map_len hi1))) hM.fr fun a hS => ?_
   refine an_take hS (i := 10) rfl (by kernel_rfl) (by kernel_rfl) (by kernel_rfl) rfl (by decide) hQp rfl (fun w' hC' => (rv_load_el (hS.ev rfl) ty_ag_3 (Mem.getFA (A := [(true, ow 3 v77 (List.map (int i64) l78)), (true, bx b17 26 [(int i64 p0_g_Size), v77])]) (R := [(true, bx b4 26 [(int i64 p0_g_Size), p0_g_Rowsv]), (false, rd p0_g_Rowsv (List.map (int i64) p0_g_Rows)), (true, bx b5 26 [(int i64 0), (Value.slice none 0 0)]), (true, ow 3 (Value.slice none 0 0) (List.map (int i64) ([] : List (Int))))]) hB rfl 1 rfl hC') (mget hex101))) hM.fr fun a hS => ?_
   refine an_take hS (i := 11) rfl (by kernel_rfl) (by kernel_rfl) (by kernel_rfl) rfl (by decide) hQp rfl (fun w' hC' => (rv_sub (hS.ev rfl) (hS.ev rfl))) hM.fr fun a hS => ?_
   refine an_take hS (i := 12) rfl (by kernel_rfl) (by kernel_rfl) (by kernel_rfl) rfl (by decide) hQp rfl (fun w' hC' => (rv_move (hS.ev rfl))) hM.fr fun a hS => ?_
   obtain ⟨_, hx, hF⟩ := bind_some hF
   have hi0 := nnO_some hx
   refine an_take hS (i := 13) rfl (by kernel_rfl) (by kernel_rfl) (by kernel_rfl) rfl (by decide) hQp rfl (fun w' hC' => (rv_shl (hS.ev rfl) (hS.ev rfl) hi0)) hM.fr fun a hS => ?_
   refine an_take hS (i := 14) rfl (by kernel_rfl) (by kernel_rfl) (by kernel_rfl) rfl (by decide) hQp rfl (fun w' hC' => (rv_sub (hS.ev rfl) (hS.ev rfl))) hM.fr fun a hS => ?_
   refine an_two hS (i := 1) (j := 15) rfl rfl (by kernel_rfl) rfl rfl ?_ ?_
   ·refine wp_val hS rfl (by decide) (rv_load_bx (hS.ev rfl) ty_ag_24 (hM.get 1 rfl) rfl) fun a hS => ⟨hM.fr, ?_⟩
    obtain ⟨v102, w, hr, hM⟩ := Mem.litE (f := (int i64)) (dst := some 34) (ty := _) (pos := _) (af := _) (gd := _) (ps := [(0, .tmp 33)]) ([(i64.wrap ((i64.wrap ((i64.wrap ((shL 1 p0_g_Size) - 1)) - x101)) - (shL 1 x79)))] : List (Int)) i64_one hM hS Tryd.underlying24 ty_el_3 rfl rfl rfl rfl
    refine an_one hS (i := 15) rfl (by kernel_rfl) rfl ?_
    refine wp_val hS rfl (by decide) hr fun a hS => ⟨hM.fr, ?_⟩
    obtain ⟨_, hx, hF⟩ := bind_some hF
    have hM := hM.pick [1, 0, 2, 3, 4, 5, 6] (by decide) rfl
    obtain ⟨v103, w, hr, hM⟩ := Mem.appE (f := (int i64)) (S := _) (R := [(true, ow 3 v102 (List.map (int i64) ([(i64.wrap ((i64.wrap ((i64.wrap ((shL 1 p0_g_Size) - 1)) - x101)) - (shL 1 x79)))] : List (Int)))), (true, bx b17 26 [(int i64 p0_g_Size), v77]), (false, bx b4 26 [(int i64 p0_g_Size), p0_g_Rowsv]), (false, rd p0_g_Rowsv (List.map (int i64) p0_g_Rows)), (false, bx b5 26 [(int i64 0), (Value.slice none 0 0)]), (false, ow 3 (Value.slice none 0 0) (List.map (int i64) ([] : List (Int))))]) (ρ := a.eval) (dst := some 35) (ty := _) (pos := _) (af := _) (gd := _) (x := .tmp 20) (y := .tmp 34) i64_one hM Tryd.underlying24 ty_el_3 rfl (by decide) (hS.ev rfl) (hS.ev rfl) (rd_of_ow (hM.get 1 rfl)) (catO_some hx)
    refine an_one hS (i := 16) rfl (by kernel_rfl) rfl ?_
    refine wp_val hS rfl (by decide) hr fun a hS => ⟨hM.fr, ?_⟩
    refine an_take hS (i := 17) rfl (by kernel_rfl) (by kernel_rfl) (by kernel_rfl) rfl (by decide) hQp rfl (fun w' hC' => (rv_fieldAddr ty_fd_26_1 (hS.ev rfl))) hM.fr fun a hS => ?_
    have hM := hM.pick [2, 0, 1, 3, 4, 5, 6] (by decide) rfl
    obtain ⟨w, hr, hM⟩ := hM.st_bx1 (n := 1) (cs' := [(int i64 p0_g_Size), v103]) (ρ := a.eval) (dst := none) (ty := _) (pos := _) (af := _) (gd := _) (x := .tmp 36) (y := .tmp 35) (hS.ev rfl) (hS.ev rfl) ty_sz_24 (rd_one (rd_of_ow (hM.get 1 rfl))) rfl rfl
    refine an_one hS (i := 18) rfl (by kernel_rfl) rfl ?_
    refine wp_unit hS rfl hr ⟨hM.fr, ?_⟩
    refine an_done (by kernel_rfl) ?_
    have hN := hM.pick [0, 1, 2] (by decide) rfl
    have hM := Mem.callo (A := [(true, ow 3 v77 (List.map (int i64) l78)), (true, bx b17 26 [(int i64 p0_g_Size), v77])]) (B := [(true, bx b4 26 [(int i64 p0_g_Size), p0_g_Rowsv]), (false, rd p0_g_Rowsv (List.map (int i64) p0_g_Rows)), (true, bx b5 26 [(int i64 0), (Value.slice none 0 0)]), (true, ow 3 (Value.slice none 0 0) (List.map (int i64) ([] : List (Int))))]) hB rfl (hN.memS fun _ h => h) rfl
    exact hJ3 (l78 ++ ([(i64.wrap ((i64.wrap ((i64.wrap ((shL 1 p0_g_Size) - 1)) - x101)) - (shL 1 x79)))] : List (Int))) v103 _ _ (hS.sub (sub_cons rfl (sub_cons rfl (sub_cons rfl (sub_cons rfl sub_nil))))) (hM.pick [3, 4, 5, 6, 0, 1] (by decide) rfl) hF
   ·obtain ⟨v102, w, hr, hM⟩ := Mem.litE (f := (int i64)) (dst := some 34) (ty := _) (pos := _) (af := _) (gd := _) (ps := [(0, .tmp 33)]) ([(i64.wrap ((i64.wrap ((i64.wrap ((shL 1 p0_g_Size) - 1)) - x101)) - (shL 1 x79)))] : List (Int)) i64_one hM hS Tryd.underlying24 ty_el_3 rfl rfl rfl rfl
    refine wp_val hS rfl (by decide) hr fun a hS => ⟨hM.fr, ?_⟩
    refine an_one hS (i := 1) rfl (by kernel_rfl) rfl ?_
    refine wp_val hS rfl (by decide) (rv_load_bx (hS.ev rfl) ty_ag_24 (hM.get 2 rfl) rfl) fun a hS => ⟨hM.fr, ?_⟩
    obtain ⟨_, hx, hF⟩ := bind_some hF
    have hM := hM.pick [1, 0, 2, 3, 4, 5, 6] (by decide) rfl
    obtain ⟨v103, w, hr, hM⟩ := Mem.appE (f := (int i64)) (S := _) (R := [(true, ow 3 v102 (List.map (int i64) ([(i64.wrap ((i64.wrap ((i64.wrap ((shL 1 p0_g_Size) - 1)) - x101)) - (shL 1 x79)))] : List (Int)))), (true, bx b17 26 [(int i64 p0_g_Size), v77]), (false, bx b4 26 [(int i64 p0_g_Size), p0_g_Rowsv]), (false, rd p0_g_Rowsv (List.map (int i64) p0_g_Rows)), (false, bx b5 26 [(int i64 0), (Value.slice none 0 0)]), (false, ow 3 (Value.slice none 0 0) (List.map (int i64) ([] : List (Int))))]) (ρ := a.eval) (dst := some 35) (ty := _) (pos := _) (af := _) (gd := _) (x := .tmp 20) (y := .tmp 34) i64_one hM Tryd.underlying24 ty_el_3 rfl (by decide) (hS.ev rfl) (hS.ev rfl) (rd_of_ow (hM.get 1 rfl)) (catO_some hx)
    refine an_one hS (i := 16) rfl (by kernel_rfl) rfl ?_
    refine wp_val hS rfl (by decide) hr fun a hS => ⟨hM.fr, ?_⟩
    refine an_take hS (i := 17) rfl (by kernel_rfl) (by kernel_rfl) (by kernel_rfl) rfl (by decide) hQp rfl (fun w' hC' => (rv_fieldAddr ty_fd_26_1 (hS.ev rfl))) hM.fr fun a hS => ?_
    have hM := hM.pick [2, 0, 1, 3, 4, 5, 6] (by decide) rfl
    obtain ⟨w, hr, hM⟩ := hM.st_bx1 (n := 1) (cs' := [(int i64 p0_g_Size), v103]) (ρ := a.eval) (dst := none) (ty := _) (pos := _) (af := _) (gd := _) (x := .tmp 36) (y := .tmp 35) (hS.ev rfl) (hS.ev rfl) ty_sz_24 (rd_one (rd_of_ow (hM.get 1 rfl))) rfl rfl
    refine an_one hS (i := 18) rfl (by kernel_rfl) rfl ?_
    refine wp_unit hS rfl hr ⟨hM.fr, ?_⟩
    refine an_done (by kernel_rfl) ?_
    have hN := hM.pick [0, 1, 2] (by decide) rfl
    have hM := Mem.callo (A := [(true, ow 3 v77 (List.map (int i64) l78)), (true, bx b17 26 [(int i64 p0_g_Size), v77])]) (B := [(true, bx b4 26 [(int i64 p0_g_Size), p0_g_Rowsv]), (false, rd p0_g_Rowsv (List.map (int i64) p0_g_Rows)), (true, bx b5 26 [(int i64 0), (Value.slice none 0 0)]), (true, ow 3 (Value.slice none 0 0) (List.map (int i64) ([] : List (Int))))]) hB rfl (hN.memS fun _ h => h) rfl
    exact hJ3 (l78 ++ ([(i64.wrap ((i64.wrap ((i64.wrap ((shL 1 p0_g_Size) - 1)) - x101)) - (shL 1 x79)))] : List (Int))) v103 _ _ (hS.sub (sub_cons rfl (sub_cons rfl (sub_cons rfl (sub_cons rfl sub_nil))))) (hM.pick [3, 4, 5, 6, 0, 1] (by decide) rfl) hF
  ·refine cond_f hS rfl hc ?_
   refine wp_exit ?_
   cases hF
   exact hJ1 l78 v77 _ _ (hS.sub (sub_cons rfl (sub_cons rfl sub_nil))) (hM.pick [2, 3, 4, 5] (by decide) rfl) (by have e := hX2 _ rfl; subst e; exact hF2)


theorem c_impl_induced (F : Nat) (p0_g_Size : Int) (p0_g_Rows : List Int) (p1_set : Int) (p0_g_Rowsv : Value) {r : Int × (List (Int))} (hF : S_impl_induced F p0_g_Size p0_g_Rows p1_set = some r) (w0 : World) (h0 : RdRow w0 p0_g_Rowsv (List.map (int i64) p0_g_Rows)) :
    Calls Tryd.prog 68 [(Value.agg #[(int i64 p0_g_Size), p0_g_Rowsv]), (int i64 p1_set)].toArray w0 (retPost fun v w' => ∃ v999, v = (Value.agg #[(int i64 r.1), v999]) ∧ Mem Nob w0 w' [(true, ow 3 v999 (List.map (int i64) r.2))]) := by
 have hM : Mem Nob w0 w0 [(false, rd p0_g_Rowsv (List.map (int i64) p0_g_Rows))] := (Mem.rcons (Mem.nil w0) h0 (by simp))
 refine enter2 Tryd.func68 rfl rfl rfl fun Q a hQr hQn hQp hS => ?_
 have hS : Sl 52 [(0, (Value.agg #[(int i64 p0_g_Size), p0_g_Rowsv])), (1, (int i64 p1_set))] a := hS
 unfold S_impl_induced at hF
 refine wp_seq_k fun K1 hK1 => ?_
 refine wp_region_lit ?_
 obtain ⟨b4, w, hr, hM⟩ := hM.boxE (ρ := a.eval) (dst := some 2) (ty := _) (pos := _) (af := _) (gd := _) (x := .tmp 0) (T := 26) [(int i64 p0_g_Size), p0_g_Rowsv] (hS.ev rfl) rfl
 refine st_val hS rfl rfl (by decide) hr fun a hS => ?_
 obtain ⟨b5, w, hr, hM⟩ := hM.allocE (ρ := a.eval) (dst := some 4) (ty := _) (pos := _) (af := _) (gd := _) (T := 26) (P := Tryd.prog) [(int i64 0), (Value.slice none 0 0)] ty_zr_26 rfl
 refine st_val hS rfl rfl (by decide) hr fun a hS => ?_
 have hM := hM.addNil 3
 refine wpList_nil ?_
 refine hK1 _ _ ?_
 refine wp_seq_k fun K6 hK6 => ?_
 refine wp_region_lit ?_
 refine st_val hS rfl rfl (by decide) (rv_move (hS.ev rfl)) fun a hS => ?_
 obtain ⟨r9, hr, hF⟩ := bind_some hF
 refine st_wp hS rfl (wp_call hS rfl rfl (by decide) fn_ok_14 rfl (c_impl_ListOf F p1_set hr _) fun v10 w a hK hS => ?_)
 have hN := hK
 have hM := hM.add hN rfl
 refine st_val hS rfl rfl (by decide) (rv_assign (hS.ev rfl)) fun a hS => ?_
 refine wpList_nil ?_
 refine hK6 _ _ ?_
 refine wp_seq_k fun K11 hK11 => ?_
 refine wp_region_lit ?_
 refine st_val hS rfl rfl (by decide) (rv_move (hS.ev rfl)) fun a hS => ?_
 refine st_val hS rfl rfl (by decide) (rv_len_rowM Tryd.underlying24 (hS.ev rfl) (rd_of_ow (hM.get 0 rfl))) fun a hS => ?_
 refine st_val hS rfl rfl (by decide) (rv_move (hS.ev rfl)) fun a hS => ?_
 refine st_val hS rfl rfl (by decide) (rv_len_rowM Tryd.underlying24 (hS.ev rfl) (rd_of_ow (hM.get 0 rfl))) fun a hS => ?_
 obtain ⟨_, hx, hF⟩ := bind_some hF
 obtain ⟨v14, w, hr, hM⟩ := hM.makeE (f := (int i64)) (c := (0 : Int)) (ρ := a.eval) (dst := some 17) (ty := _) (pos := _) (af := _) (gd := _) (x := .tmp 16) (y := .tmp 16) Tryd.underlying24 ty_el_3 i64_one (by decide) (hS.ev rfl) (hS.ev rfl) (mkO_some hx)
 refine st_val hS rfl rfl (by decide) hr fun a hS => ?_
 refine st_val hS rfl rfl (by decide) (rv_build hS ty_st_26 rfl (by simp) (ones_cons (by rw [hS.ev (v := (int i64 (r9.length : Int))) rfl]; rfl) (ones_cons (by rw [hS.ev (v := v14) rfl]; exact rd_one (rd_of_ow (hM.get 0 rfl))) ones_nil))) fun a hS => ?_
 obtain ⟨b15, w, hr, hM⟩ := hM.allocE (ρ := a.eval) (dst := some 6) (ty := _) (pos := _) (af := _) (gd := _) (T := 26) (P := Tryd.prog) [(int i64 0), (Value.slice none 0 0)] ty_zr_26 rfl
 refine st_val hS rfl rfl (by decide) hr fun a hS => ?_
 have hM := hM.addNil 3
 have hM := hM.pick [1, 0, 2, 3, 4, 5, 6, 7] (by decide) rfl
 obtain ⟨w, hr, hM⟩ := hM.st_agg (us := [(int i64 (r9.length : Int)), v14]) (ρ := a.eval) (dst := none) (ty := _) (pos := _) (af := _) (gd := _) (x := .tmp 6) (y := .tmp 18) (hS.ev rfl) (hS.ev rfl) ty_sz_26 (all1_cons rfl (all1_cons (rd_one (rd_of_ow (hM.get 2 rfl))) all1_nil)) rfl
 refine st_unit hS rfl rfl hr ?_
 refine wpList_nil ?_
 refine hK11 _ _ ?_
 have hS : Sl 52 [(2, (fdp b4 0)), (4, (fdp b5 0)), (5, v10), (6, (fdp b15 0))] a := hS.sub (sub_cons rfl (sub_cons rfl (sub_cons rfl (sub_cons rfl sub_nil))))
 have hM := hM.pick [0, 2, 3, 4, 5, 6, 7] (by decide) rfl
 refine wp_seq_k fun K16 hK16 => ?_
 have hJ1 : ∀ (l507 : List Int) (a : Act) (w : World), Sl 52 [(4, (fdp b5 0)), (6, (fdp b15 0))] a → Mem Nob w0 w [(true, bx b5 26 [(int i64 0), (Value.slice none 0 0)]), (true, ow 3 (Value.slice none 0 0) (List.map (int i64) ([] : List (Int)))), (true, bx b15 26 [(int i64 (r9.length : Int)), v14]), (true, ow 3 v14 (List.map (int i64) l507))] → S_impl_induced_j1 F r9 l507 = some r → K16 a w := by
  intro l507 a w hS hM hF
  unfold S_impl_induced_j1 at hF
  refine hK16 _ _ ?_
  refine wp_seq_k fun K508 hK508 => ?_
  refine wp_region_lit ?_
  refine st_val hS rfl rfl (by decide) (rv_load_agg (hS.ev rfl) ty_ag_26 (hM.get 2 rfl) ty_sz_26) fun a hS => ?_
  obtain ⟨w, hr, hM⟩ := hM.st_agg (us := [(int i64 (r9.length : Int)), v14]) (ρ := a.eval) (dst := none) (ty := _) (pos := _) (af := _) (gd := _) (x := .tmp 4) (y := .tmp 51) (hS.ev rfl) (hS.ev rfl) ty_sz_26 (all1_cons rfl (all1_cons (rd_one (rd_of_ow (hM.get 3 rfl))) all1_nil)) rfl
  refine st_unit hS rfl rfl hr ?_
  refine wpList_nil ?_
  refine hK508 _ _ ?_
  refine wp_ret ?_
  cases hF
  exact hQr _ _ (r_c hS rfl ⟨_, rfl, run_loadAgg ty_ag_26 (hM.get 0 rfl) ty_sz_26⟩ ⟨v14, rfl, hM.pick [3] (by decide) rfl⟩)
 refine wp_seq_k fun K509 hK509 => ?_
 refine wp_region_lit ?_
 refine st_val hS rfl rfl (by decide) (rv_move (hS.ev rfl)) fun a hS => ?_
 refine st_val hS rfl rfl (by decide) (rv_len_rowM Tryd.underlying24 (hS.ev rfl) (rd_of_ow (hM.get 2 rfl))) fun a hS => ?_
 refine st_val hS rfl rfl (by decide) (rv_move (hS.ev rfl)) fun a hS => ?_
 refine wpList_nil ?_
 refine hK509 _ _ ?_
 refine wp_block ?_
 obtain ⟨lb2, hl2, hF2⟩ := bind_some hF
 refine wp_loop_sh (fun s => S_impl_induced_l2 F p0_g_Rows r9 s.1 s.2) (fun s a w => Sl 52 [(2, (fdp b4 0)), (4, (fdp b5 0)), (5, v10), (6, (fdp b15 0)), (19, v10), (20, (int i64 (r9.length : Int))), (21, (int i64 s.2))] a ∧ Mem Nob w0 w [(true, bx b4 26 [(int i64 p0_g_Size), p0_g_Rowsv]), (false, rd p0_g_Rowsv (List.map (int i64) p0_g_Rows)), (true, bx b5 26 [(int i64 0), (Value.slice none 0 0)]), (true, ow 3 (Value.slice none 0 0) (List.map (int i64) ([] : List (Int)))), (true, ow 3 v10 (List.map (int i64) r9)), (true, bx b15 26 [(int i64 (r9.length : Int)), v14]), (true, ow 3 v14 (List.map (int i64) s.1))]) hl2 ⟨(hS.sub (sub_cons rfl (sub_cons rfl (sub_cons rfl (sub_cons rfl (sub_cons rfl (sub_cons rfl (sub_cons rfl sub_nil)))))))), (hM.pick [5, 6, 4, 3, 2, 0, 1] (by decide) rfl)⟩ ?_
 rintro K2 ⟨l673, x674⟩ a w res2 ⟨hS, hM⟩ hF hN2 hX2
 have hF : S_impl_induced_l2 F p0_g_Rows r9 l673 x674 = some res2 := hF
 have hS : Sl 52 [(2, (fdp b4 0)), (4, (fdp b5 0)), (5, v10), (6, (fdp b15 0)), (19, v10), (20, (int i64 (r9.length : Int))), (21, (int i64 x674))] a := hS
 have hM : Mem Nob w0 w [(true, bx b4 26 [(int i64 p0_g_Size), p0_g_Rowsv]), (false, rd p0_g_Rowsv (List.map (int i64) p0_g_Rows)), (true, bx b5 26 [(int i64 0), (Value.slice none 0 0)]), (true, ow 3 (Value.slice none 0 0) (List.map (int i64) ([] : List (Int)))), (true, ow 3 v10 (List.map (int i64) r9)), (true, bx b15 26 [(int i64 (r9.length : Int)), v14]), (true, ow 3 v14 (List.map (int i64) l673))] := hM
 unfold S_impl_induced_l2 at hF
 refine wp_seq_k fun K837 hK837 => ?_
 refine wp_region_lit ?_
 refine st_val hS rfl rfl (by decide) (rv_lss (hS.ev rfl) (hS.ev rfl)) fun a hS => ?_
 refine wpList_nil ?_
 refine hK837 _ _ ?_
 refine wp_seq_k fun K838 hK838 => ?_
 rcases ite_some hF with ⟨hc, hF⟩ | ⟨hc, hF⟩
 ·refine cond_t hS rfl hc ?_
  refine wp_skip ?_
  refine hK838 _ _ ?_
  refine wp_seq_k fun K839 hK839 => ?_
  have hJ3 : ∀ (l919 : List Int) (a : Act) (w : World), Sl 52 [(2, (fdp b4 0)), (4, (fdp b5 0)), (5, v10), (6, (fdp b15 0)), (19, v10), (20, (int i64 (r9.length : Int))), (21, (int i64 x674))] a → Mem Nob w0 w [(true, bx b4 26 [(int i64 p0_g_Size), p0_g_Rowsv]), (false, rd p0_g_Rowsv (List.map (int i64) p0_g_Rows)), (true, bx b5 26 [(int i64 0), (Value.slice none 0 0)]), (true, ow 3 (Value.slice none 0 0) (List.map (int i64) ([] : List (Int)))), (true, ow 3 v10 (List.map (int i64) r9)), (true, bx b15 26 [(int i64 (r9.length : Int)), v14]), (true, ow 3 v14 (List.map (int i64) l919))] → S_impl_induced_j3 F x674 l919 = some res2 → K839 a w := by
   intro l919 a w hS hM hF
   unfold S_impl_induced_j3 at hF
   refine hK839 _ _ ?_
   refine wp_region_lit ?_
   refine st_val hS rfl rfl (by decide) (rv_add (hS.ev rfl) (hS.ev rfl)) fun a hS => ?_
   refine st_val hS rfl rfl (by decide) (rv_move (hS.ev rfl)) fun a hS => ?_
   refine wpList_nil ?_
   cases hF
   exact hN2 _ _ _ rfl ⟨(hS.sub (sub_cons rfl (sub_cons rfl (sub_cons rfl (sub_cons rfl (sub_cons rfl (sub_cons rfl (sub_cons rfl sub_nil)))))))), (hM.pick [0, 1, 2, 3, 4, 5, 6] (by decide) rfl)⟩
  refine wp_block ?_
  refine wp_seq_k fun K920 hK920 => ?_
  refine wp_region_lit ?_
  refine st_val hS rfl rfl (by decide) (rv_move (hS.ev rfl)) fun a hS => ?_
  obtain ⟨x922, hx, hF⟩ := bind_some hF
  obtain ⟨hi0, hi1, hex922⟩ := idxL_some hx
  refine st_val hS rfl rfl (by decide) (rv_indexAddr Tryd.underlying24 ty_el_3 (hS.ev rfl) (hS.ev rfl) (rd_of_ow (hM.get 4 rfl)) hi0 (map_len hi1)) fun a hS => ?_
  refine st_val hS rfl rfl (by decide) (rv_load_el (hS.ev rfl) ty_ag_3 (rd_of_ow (hM.get 4 rfl)) (mget hex922)) fun a hS => ?_
  refine st_val hS rfl rfl (by decide) (rv_assign (hS.ev rfl)) fun a hS => ?_
  refine st_val hS rfl rfl (by decide) (rv_assign (hS.ev rfl)) fun a hS => ?_
  refine wpList_nil ?_
  refine hK920 _ _ ?_
  refine wp_seq_k fun K923 hK923 => ?_
  refine wp_region_lit ?_
  refine st_val hS rfl rfl (by decide) (rv_move (hS.ev rfl)) fun a hS => ?_
  refine st_val hS rfl rfl (by decide) (rv_len_rowM Tryd.underlying24 (hS.ev rfl) (rd_of_ow (hM.get 4 rfl))) fun a hS => ?_
  refine st_val hS rfl rfl (by decide) (rv_move (hS.ev rfl)) fun a hS => ?_
  refine wpList_nil ?_
  refine hK923 _ _ ?_
  refine wp_block ?_
  obtain ⟨lb4, hl4, hF4⟩ := bind_some hF
  refine wp_loop_sh (fun s => S_impl_induced_l4 F p0_g_Rows r9 x674 x922 s.1 s.2) (fun s a w => Sl 52 [(2, (fdp b4 0)), (4, (fdp b5 0)), (5, v10), (6, (fdp b15 0)), (7, (int i64 x674)), (8, (int i64 x922)), (19, v10), (20, (int i64 (r9.length : Int))), (21, (int i64 x674)), (26, v10), (27, (int i64 (r9.length : Int))), (28, (int i64 s.2))] a ∧ Mem Nob w0 w [(true, bx b4 26 [(int i64 p0_g_Size), p0_g_Rowsv]), (false, rd p0_g_Rowsv (List.map (int i64) p0_g_Rows)), (true, bx b5 26 [(int i64 0), (Value.slice none 0 0)]), (true, ow 3 (Value.slice none 0 0) (List.map (int i64) ([] : List (Int)))), (true, ow 3 v10 (List.map (int i64) r9)), (true, bx b15 26 [(int i64 (r9.length : Int)), v14]), (true, ow 3 v14 (List.map (int i64) s.1))]) hl4 ⟨(hS.sub (sub_cons rfl (sub_cons rfl (sub_cons rfl (sub_cons rfl (sub_cons rfl (sub_cons rfl (sub_cons rfl (sub_cons rfl (sub_cons rfl (sub_cons rfl (sub_cons rfl (sub_cons rfl sub_nil))))))))))))), (hM.pick [0, 1, 2, 3, 4, 5, 6] (by decide) rfl)⟩ ?_
  rintro K4 ⟨l949, x950⟩ a w res4 ⟨hS, hM⟩ hF hN4 hX4
  have hF : S_impl_induced_l4 F p0_g_Rows r9 x674 x922 l949 x950 = some res4 := hF
  have hS : Sl 52 [(2, (fdp b4 0)), (4, (fdp b5 0)), (5, v10), (6, (fdp b15 0)), (7, (int i64 x674)), (8, (int i64 x922)), (19, v10), (20, (int i64 (r9.length : Int))), (21, (int i64 x674)), (26, v10), (27, (int i64 (r9.length : Int))), (28, (int i64 x950))] a := hS
  have hM : Mem Nob w0 w [(true, bx b4 26 [(int i64 p0_g_Size), p0_g_Rowsv]), (false, rd p0_g_Rowsv (List.map (int i64) p0_g_Rows)), (true, bx b5 26 [(int i64 0), (Value.slice none 0 0)]), (true, ow 3 (Value.slice none 0 0) (List.map (int i64) ([] : List (Int)))), (true, ow 3 v10 (List.map (int i64) r9)), (true, bx b15 26 [(int i64 (r9.length : Int)), v14]), (true, ow 3 v14 (List.map (int i64) l949))] := hM
  unfold S_impl_induced_l4 at hF
  refine wp_seq_k fun K975 hK975 => ?_
  refine wp_region_lit ?_
  refine st_val hS rfl rfl (by decide) (rv_lss (hS.ev rfl) (hS.ev rfl)) fun a hS => ?_
  refine wpList_nil ?_
  refine hK975 _ _ ?_
  refine wp_seq_k fun K976 hK976 => ?_
  rcases ite_some hF with ⟨hc, hF⟩ | ⟨hc, hF⟩
  ·refine cond_t hS rfl hc ?_
   refine wp_skip ?_
   refine hK976 _ _ ?_
   refine wp_seq_k fun K977 hK977 => ?_
   have hJ5 : ∀ (l988 : List Int) (a : Act) (w : World), Sl 52 [(2, (fdp b4 0)), (4, (fdp b5 0)), (5, v10), (6, (fdp b15 0)), (7, (int i64 x674)), (8, (int i64 x922)), (19, v10), (20, (int i64 (r9.length : Int))), (21, (int i64 x674)), (26, v10), (27, (int i64 (r9.length : Int))), (28, (int i64 x950))] a → Mem Nob w0 w [(true, bx b4 26 [(int i64 p0_g_Size), p0_g_Rowsv]), (false, rd p0_g_Rowsv (List.map (int i64) p0_g_Rows)), (true, bx b5 26 [(int i64 0), (Value.slice none 0 0)]), (true, ow 3 (Value.slice none 0 0) (List.map (int i64) ([] : List (Int)))), (true, ow 3 v10 (List.map (int i64) r9)), (true, bx b15 26 [(int i64 (r9.length : Int)), v14]), (true, ow 3 v14 (List.map (int i64) l988))] → S_impl_induced_j5 F x950 l988 = some res4 → K977 a w := by
    intro l988 a w hS hM hF
    unfold S_impl_induced_j5 at hF
    refine hK977 _ _ ?_
    refine wp_region_lit ?_
    refine st_val hS rfl rfl (by decide) (rv_add (hS.ev rfl) (hS.ev rfl)) fun a hS => ?_
    refine st_val hS rfl rfl (by decide) (rv_move (hS.ev rfl)) fun a hS => ?_
    refine wpList_nil ?_
    cases hF
    exact hN4 _ _ _ rfl ⟨(hS.sub (sub_cons rfl (sub_cons rfl (sub_cons rfl (sub_cons rfl (sub_cons rfl (sub_cons rfl (sub_cons rfl (sub_cons rfl (sub_cons rfl (sub_cons rfl (sub_cons rfl (sub_cons rfl sub_nil))))))))))))), (hM.pick [0, 1, 2, 3, 4, 5, 6] (by decide) rfl)⟩
   refine wp_block ?_
   refine wp_seq_k fun K989 hK989 => ?_
   refine wp_region_lit ?_
   refine st_val hS rfl rfl (by decide) (rv_move (hS.ev rfl)) fun a hS => ?_
   obtain ⟨x991, hx, hF⟩ := bind_some hF
   obtain ⟨hi0, hi1, hex991⟩ := idxL_some hx
   refine st_val hS rfl rfl (by decide) (rv_indexAddr Tryd.underlying24 ty_el_3 (hS.ev rfl) (hS.ev rfl) (rd_of_ow (hM.get 4 rfl)) hi0 (map_len hi1)) fun a hS => ?_
   refine st_val hS rfl rfl (by decide) (rv_load_el (hS.ev rfl) ty_ag_3 (rd_of_ow (hM.get 4 rfl)) (mget hex991)) fun a hS => ?_
   refine st_val hS rfl rfl (by decide) (rv_assign (hS.ev rfl)) fun a hS => ?_
   refine st_val hS rfl rfl (by decide) (rv_assign (hS.ev rfl)) fun a hS => ?_
   refine wpList_nil ?_
   refine hK989 _ _ ?_
   refine wp_seq_k fun K992 hK992 => ?_
   refine wp_region_lit ?_
   refine st_val hS rfl rfl (by decide) (rv_fieldAddr ty_fd_26_1 (hS.ev rfl)) fun a hS => ?_
   refine st_val hS rfl rfl (by decide) (rv_load_bx (hS.ev rfl) ty_ag_24 (hM.get 0 rfl) rfl) fun a hS => ?_
   refine st_val hS rfl rfl (by decide) (rv_move (hS.ev rfl)) fun a hS => ?_
   obtain ⟨x995, hx, hF⟩ := bind_some hF
   obtain ⟨hi0, hi1, hex995⟩ := idxL_some hx
   refine st_val hS rfl rfl (by decide) (rv_indexAddr Tryd.underlying24 ty_el_3 (hS.ev rfl) (hS.ev rfl) (hM.get 1 rfl) hi0 (map_len hi1)) fun a hS => ?_
   refine st_val hS rfl rfl (by decide) (rv_load_el (hS.ev rfl) ty_ag_3 (hM.get 1 rfl) (mget hex995)) fun a hS => ?_
   refine st_val hS rfl rfl (by decide) (rv_move (hS.ev rfl)) fun a hS => ?_
   obtain ⟨r996, hr, hF⟩ := bind_some hF
   refine st_wp hS rfl (wp_call hS rfl rfl (by decide) fn_ok_63 rfl (c_impl_has F x995 x991 hr _) fun v w a hK hS => ?_)
   obtain ⟨rfl, hN⟩ := hK
   have hM := hM.fra hN.fr
   refine wpList_nil ?_
   refine hK992 _ _ ?_
   have hS : Sl 52 [(2, (fdp b4 0)), (4, (fdp b5 0)), (5, v10), (6, (fdp b15 0)), (7, (int i64 x674)), (8, (int i64 x922)), (9, (int i64 x950)), (19, v10), (20, (int i64 (r9.length : Int))), (21, (int i64 x674)), (26, v10), (27, (int i64 (r9.length : Int))), (28, (int i64 x950)), (39, (Value.bool r996))] a := hS.sub (sub_cons rfl (sub_cons rfl (sub_cons rfl (sub_cons rfl (sub_cons rfl (sub_cons rfl (sub_cons rfl (sub_cons rfl (sub_cons rfl (sub_cons rfl (sub_cons rfl (sub_cons rfl (sub_cons rfl (sub_cons rfl sub_nil))))))))))))))
   rcases ite_some hF with ⟨hc, hF⟩ | ⟨hc, hF⟩
   ·refine cond_t hS rfl hc ?_
    have hM := hM.pick [6, 0, 1, 2, 3, 4, 5] (by decide) rfl
    refine an_startB 10 (feet [(true, ow 3 v14 (List.map (int i64) l949))]) ty_mixed (by kernel_rfl) fun w hf => ?_
    have hM := hM.fra hf
    have hB := hM
    have hM := hB.reg1 rfl
    refine tkB hS 0 1 (by kernel_rfl) rfl rfl rfl hQp rfl (fun w' hC' => (rv_fieldAddr ty_fd_26_1 (hS.ev rfl))) hM.fr fun a hS => ?_
    refine tkB hS 1 3 (by kernel_rfl) rfl rfl rfl hQp rfl (fun w' hC' => (rv_load_bx (hS.ev rfl) ty_ag_24 (hB.getF rfl 5 rfl hC') rfl)) hM.fr fun a hS => ?_
    refine tkB hS 2 7 (by kernel_rfl) rfl rfl rfl hQp rfl (fun w' hC' => (rv_move (hS.ev rfl))) hM.fr fun a hS => ?_
    obtain ⟨x997, hx, hF⟩ := bind_some hF
    obtain ⟨hi0, hi1, hex997⟩ := idxL_some hx
    refine tkB hS 3 15 (by kernel_rfl) rfl rfl rfl hQp rfl (fun w' hC' => (rv_indexAddr Tryd.underlying24 ty_el_3 (hS.ev rfl) (hS.ev rfl) (rd_of_ow (hM.get 0 rfl)) hi0 (map_len hi1))) hM.fr fun a hS => ?_
    refine tkB hS 5 47 (by kernel_rfl) rfl rfl rfl hQp rfl (fun w' hC' => (rv_move (hS.ev rfl))) hM.fr fun a hS => ?_
    obtain ⟨_, hx, hF⟩ := bind_some hF
    have hi0 := nnO_some hx
    refine tkB hS 6 111 (by kernel_rfl) rfl rfl rfl hQp rfl (fun w' hC' => (rv_shl (hS.ev rfl) (hS.ev rfl) hi0)) hM.fr fun a hS => ?_
    refine an_oneB hS (i := 4) 127 (by kernel_rfl) rfl (by kernel_rfl) rfl ?_
    refine wp_val hS rfl (by decide) (rv_load_el (hS.ev rfl) ty_ag_3 (rd_of_ow (hM.get 0 rfl)) (mget hex997)) fun a hS => ⟨hM.fr, ?_⟩
    refine tkB hS 7 255 (by kernel_rfl) rfl rfl rfl hQp rfl (fun w' hC' => (rv_or (hS.ev rfl) (hS.ev rfl))) hM.fr fun a hS => ?_
    obtain ⟨x998, hx, hF⟩ := bind_some hF
    obtain ⟨hi0, hi1, hex998⟩ := idxL_some hx
    refine tkB hS 8 511 (by kernel_rfl) rfl rfl rfl hQp rfl (fun w' hC' => (rv_indexAddr Tryd.underlying24 ty_el_3 (hS.ev rfl) (hS.ev rfl) (rd_of_ow (hM.get 0 rfl)) hi0 (map_len hi1))) hM.fr fun a hS => ?_
    obtain ⟨w, hr, hM⟩ := hM.st_el (f := (int i64)) (n := x674.toNat) (c := (bOr x997 (shL 1 x950))) (ρ := a.eval) (dst := none) (ty := _) (pos := _) (af := _) (gd := _) (x := .tmp 48) (y := .tmp 47) i64_one (hS.ev rfl) (hS.ev rfl) ty_sz_3 (List.getElem?_eq_some_iff.1 hex998).1
    refine an_oneB hS (i := 9) 1023 (by kernel_rfl) rfl (by kernel_rfl) rfl ?_
    refine wp_unit hS rfl hr ⟨hM.fr, ?_⟩
    refine an_done (by kernel_rfl) ?_
    have hN := hM.pick [0] (by decide) rfl
    have hM := Mem.callo (A := [(true, ow 3 v14 (List.map (int i64) l949))]) (B := [(true, bx b4 26 [(int i64 p0_g_Size), p0_g_Rowsv]), (false, rd p0_g_Rowsv (List.map (int i64) p0_g_Rows)), (true, bx b5 26 [(int i64 0), (Value.slice none 0 0)]), (true, ow 3 (Value.slice none 0 0) (List.map (int i64) ([] : List (Int)))), (true, ow 3 v10 (List.map (int i64) r9)), (true, bx b15 26 [(int i64 (r9.length : Int)), v14])]) hB rfl (hN.memS fun _ h => h) rfl
    exact hJ5 (l949.set (x674.toNat) (bOr x997 (shL 1 x950))) _ _ (hS.sub (sub_cons rfl (sub_cons rfl (sub_cons rfl (sub_cons rfl (sub_cons rfl (sub_cons rfl (sub_cons rfl (sub_cons rfl (sub_cons rfl (sub_cons rfl (sub_cons rfl (sub_cons rfl sub_nil))))))))))))) (hM.pick [1, 2, 3, 4, 5, 6, 0] (by decide) rfl) hF
   ·refine cond_f hS rfl hc ?_
    refine wp_skip ?_
    exact hJ5 l949 _ _ (hS.sub (sub_cons rfl (sub_cons rfl (sub_cons rfl (sub_cons rfl (sub_cons rfl (sub_cons rfl (sub_cons rfl (sub_cons rfl (sub_cons rfl (sub_cons rfl (sub_cons rfl (sub_cons rfl sub_nil))))))))))))) (hM.pick [0, 1, 2, 3, 4, 5, 6] (by decide) rfl) hF
  ·refine cond_f hS rfl hc ?_
   refine wp_exit ?_
   cases hF
   exact hJ3 l949 _ _ (hS.sub (sub_cons rfl (sub_cons rfl (sub_cons rfl (sub_cons rfl (sub_cons rfl (sub_cons rfl (sub_cons rfl sub_nil)))))))) (hM.pick [0, 1, 2, 3, 4, 5, 6] (by decide) rfl) (by have e := hX4 _ rfl; subst e; exact hF4)
 ·refine cond_f hS rfl hc ?_
  refine wp_exit ?_
  cases hF
  exact hJ1 l673 _ _ (hS.sub (sub_cons rfl (sub_cons rfl sub_nil))) (hM.pick [2, 3, 5, 6] (by decide) rfl) (by have e := hX2 _ rfl; subst e; exact hF2)


theorem c_impl_InducedOn (F : Nat) (p0_g_Size : Int) (p0_g_Rows : List Int) (p1_set : Int) (p0_g_Rowsv : Value) {r : Int × (List (Int)) × Bool} (hF : S_impl_InducedOn F p0_g_Size p0_g_Rows p1_set = some r) (w0 : World) (h0 : RdRow w0 p0_g_Rowsv (List.map (int i64) p0_g_Rows)) :
    Calls Tryd.prog 22 [(Value.agg #[(int i64 p0_g_Size), p0_g_Rowsv]), (int i64 p1_set)].toArray w0 (retPost fun v w' => ∃ v22, v = (Value.tuple #[(Value.agg #[(int i64 r.1), v22]), (Value.bool r.2.2)]) ∧ Mem Nob w0 w' [(true, ow 3 v22 (List.map (int i64) r.2.1))]) := by
 have hM : Mem Nob w0 w0 [(false, rd p0_g_Rowsv (List.map (int i64) p0_g_Rows))] := (Mem.rcons (Mem.nil w0) h0 (by simp))
 refine enter2 Tryd.func22 rfl rfl rfl fun Q a hQr hQn hQp hS => ?_
 have hS : Sl 18 [(0, (Value.agg #[(int i64 p0_g_Size), p0_g_Rowsv])), (1, (int i64 p1_set))] a := hS
 unfold S_impl_InducedOn at hF
 refine wp_seq_k fun K1 hK1 => ?_
 refine wp_region_lit ?_
 obtain ⟨b4, w, hr, hM⟩ := hM.boxE (ρ := a.eval) (dst := some 2) (ty := _) (pos := _) (af := _) (gd := _) (x := .tmp 0) (T := 26) [(int i64 p0_g_Size), p0_g_Rowsv] (hS.ev rfl) rfl
 refine st_val hS rfl rfl (by decide) hr fun a hS => ?_
 obtain ⟨b5, w, hr, hM⟩ := hM.allocE (ρ := a.eval) (dst := some 4) (ty := _) (pos := _) (af := _) (gd := _) (T := 26) (P := Tryd.prog) [(int i64 0), (Value.slice none 0 0)] ty_zr_26 rfl
 refine st_val hS rfl rfl (by decide) hr fun a hS => ?_
 have hM := hM.addNil 3
 refine st_val hS rfl rfl (by decide) (rv_assign (hS.ev rfl)) fun a hS => ?_
 refine wpList_nil ?_
 refine hK1 _ _ ?_
 refine wp_seq_k fun K6 hK6 => ?_
 refine wp_seq_k fun K12 hK12 => ?_
 have hJ1 : ∀ (p14 : Bool) (a : Act) (w : World), Sl 18 [(1, (int i64 p1_set)), (2, (fdp b4 0)), (4, (fdp b5 0)), (13, (Value.bool p14))] a → Mem Nob w0 w [(true, bx b4 26 [(int i64 p0_g_Size), p0_g_Rowsv]), (false, rd p0_g_Rowsv (List.map (int i64) p0_g_Rows)), (true, bx b5 26 [(int i64 0), (Value.slice none 0 0)]), (true, ow 3 (Value.slice none 0 0) (List.map (int i64) ([] : List (Int))))] → S_impl_InducedOn_j1 F p0_g_Size p0_g_Rows p1_set p14 = some r → K12 a w := by
  intro p14 a w hS hM hF
  unfold S_impl_InducedOn_j1 at hF
  refine hK12 _ _ ?_
  rcases ite_some hF with ⟨hc, hF⟩ | ⟨hc, hF⟩
  ·refine cond_t hS rfl hc ?_
   refine wp_seq_k fun K15 hK15 => ?_
   refine wp_region_lit ?_
   refine st_val hS rfl rfl (by decide) (rv_build hS ty_st_26 rfl (by simp) ones_nil) fun a hS => ?_
   have hM := hM.pick [2, 0, 1, 3] (by decide) rfl
   obtain ⟨w, hr, hM⟩ := hM.st_agg (us := [(int i64 0), (Value.slice none 0 0)]) (ρ := a.eval) (dst := none) (ty := _) (pos := _) (af := _) (gd := _) (x := .tmp 4) (y := .tmp 14) (hS.ev rfl) (hS.ev rfl) ty_sz_26 (all1_cons rfl (all1_cons rfl all1_nil)) rfl
   refine st_unit hS rfl rfl hr ?_
   have hM := hM.addNil 3
   refine st_val hS rfl rfl (by decide) (rv_assign (hS.ev rfl)) fun a hS => ?_
   refine wpList_nil ?_
   refine hK15 _ _ ?_
   have hS : Sl 18 [(4, (fdp b5 0)), (5, (Value.bool false))] a := hS.sub (sub_cons rfl (sub_cons rfl sub_nil))
   have hM := hM.pick [0, 1] (by decide) rfl
   refine wp_ret ?_
   cases hF
   exact hQr _ _ (r_cc hS rfl ⟨_, rfl, run_loadAgg ty_ag_26 (hM.get 1 rfl) ty_sz_26⟩ rfl ⟨(Value.slice none 0 0), rfl, hM.pick [0] (by decide) rfl⟩)
  ·refine cond_f hS rfl hc ?_
   refine wp_skip ?_
   refine hK6 _ _ ?_
   refine wp_seq_k fun K16 hK16 => ?_
   refine wp_region_lit ?_
   refine st_val hS rfl rfl (by decide) (rv_load_agg (hS.ev rfl) ty_ag_26 (hM.get 0 rfl) ty_sz_26) fun a hS => ?_
   refine st_val hS rfl rfl (by decide) (rv_move (hS.ev rfl)) fun a hS => ?_
   obtain ⟨r19, hr, hF⟩ := bind_some hF
   refine st_wp hS rfl (wp_call hS rfl rfl (by decide) fn_ok_68 rfl (c_impl_induced F p0_g_Size p0_g_Rows p1_set p0_g_Rowsv hr _ (hM.get 1 rfl)) fun v w a hK hS => ?_)
   obtain ⟨v20, rfl, hN⟩ := hK
   have hM := hM.add hN rfl
   have hM := hM.pick [3, 0, 1, 2, 4] (by decide) rfl
   obtain ⟨w, hr, hM⟩ := hM.st_agg (us := [(int i64 r19.1), v20]) (ρ := a.eval) (dst := none) (ty := _) (pos := _) (af := _) (gd := _) (x := .tmp 4) (y := .tmp 17) (hS.ev rfl) (hS.ev rfl) ty_sz_26 (all1_cons rfl (all1_cons (rd_one (rd_of_ow (hM.get 1 rfl))) all1_nil)) rfl
   refine st_unit hS rfl rfl hr ?_
   refine st_val hS rfl rfl (by decide) (rv_assign (hS.ev rfl)) fun a hS => ?_
   refine wpList_nil ?_
   refine hK16 _ _ ?_
   have hS : Sl 18 [(4, (fdp b5 0)), (5, (Value.bool true))] a := hS.sub (sub_cons rfl (sub_cons rfl sub_nil))
   have hM := hM.pick [0, 1] (by decide) rfl
   refine wp_ret ?_
   cases hF
   exact hQr _ _ (r_cc hS rfl ⟨_, rfl, run_loadAgg ty_ag_26 (hM.get 0 rfl) ty_sz_26⟩ rfl ⟨v20, rfl, hM.pick [1] (by decide) rfl⟩)
 refine wp_region_lit ?_
 refine st_val hS rfl rfl (by decide) (rv_load_agg (hS.ev rfl) ty_ag_26 (hM.get 2 rfl) ty_sz_26) fun a hS => ?_
 refine st_val hS rfl rfl (by decide) (rv_move (hS.ev rfl)) fun a hS => ?_
 obtain ⟨r21, hr, hF⟩ := bind_some hF
 refine st_wp hS rfl (wp_call hS rfl rfl (by decide) fn_ok_10 rfl (c_impl_IsSet F p0_g_Size p0_g_Rows p1_set p0_g_Rowsv hr _ (hM.get 3 rfl)) fun v w a hK hS => ?_)
 obtain ⟨rfl, hN⟩ := hK
 have hM := hM.fra hN.fr
 refine st_val hS rfl rfl (by decide) (rv_not (hS.ev rfl)) fun a hS => ?_
 refine st_val hS rfl rfl (by decide) (rv_move (hS.ev rfl)) fun a hS => ?_
 rcases ite_some hF with ⟨hc, hF⟩ | ⟨hc, hF⟩
 ·have hS := hS.setb (t := 10) rfl hc
  refine st_skip hS rfl rfl (by decide) fun a hS => ?_
  refine st_skip hS rfl rfl (by decide) fun a hS => ?_
  refine st_val hS rfl rfl (by decide) (rv_pick_t (hS.ev rfl) (hS.ev rfl)) fun a hS => ?_
  refine wpList_nil ?_
  exact hJ1 true _ _ (hS.sub (sub_cons rfl (sub_cons rfl (sub_cons rfl (sub_cons rfl sub_nil))))) (hM.pick [2, 3, 1, 0] (by decide) rfl) hF
 ·have hS := hS.setb (t := 10) rfl hc
  refine st_val hS rfl rfl (by decide) (rv_move (hS.ev rfl)) fun a hS => ?_
  refine st_val hS rfl rfl (by decide) (rv_eql (hS.ev rfl) (hS.ev rfl)) fun a hS => ?_
  refine st_val hS rfl rfl (by decide) (rv_pick_f (hS.ev rfl) (hS.ev rfl)) fun a hS => ?_
  refine wpList_nil ?_
  exact hJ1 (p1_set == 0) _ _ (hS.sub (sub_cons rfl (sub_cons rfl (sub_cons rfl (sub_cons rfl sub_nil))))) (hM.pick [2, 3, 1, 0] (by decide) rfl) hF


end Go.Proofs.YtdalcpadcggklaaDoor
